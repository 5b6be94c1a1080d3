/- What the rows' listed variables give a walk: the table of powers of ten, the library's error, its number; and a world that holds them. No condition. -/
import Derived.Test.YtnadldcdckjifaaDoorPrintLib
import Derived.Test.YtnadldcdckjifaaDoorParseLib
import Derived.Test.YtnadldcdckjifaaDoorCards
import Derived.Test.YtnadldcdckjifaaDoorTie
import Derived.Deep.DeepHandedRow
import Derived.Deep.DeepWitnessRowRef
import Derived.LaidMore
import Derived.LaidSub
import Derived.MakeChecks
import Derived.Stop.LaidErr
import Derived.Shelf.Vars
namespace Go.Proofs.YtnadldcdckjifaaDoor
open Go.RowKit
set_option linter.unusedVariables false
set_option linter.unusedSimpArgs false
theorem gPowType : (Tryd.prog.globals[5]?).map (·.type) = some 137 := by kernel_rfl
theorem door_table {W : World} (h : laidMetH Tryd.prog Rows.stampParsesRow.laid W) : Pow10 W := by
  have h2 := laidMetH.filter (fun x => x.1 == "internal/strconv.uint64pow10") h
  exact Lib.tabIs_of_head (rest := []) gPow gPowType Tryd.underlying137 Tryd.underlying110 (by kernel_rfl) (by kernel_rfl) h2
theorem gErr : Tryd.prog.globalNamed "strconv.ErrRange" = some 2 := by kernel_rfl
theorem gErrType : (Tryd.prog.globals[2]?).map (·.type) = some 58 := by kernel_rfl
theorem errStar : "*" ++ "errors.errorString" = "*errors.errorString" := by decide
theorem rowErr (u : TypeId) (h : Tryd.prog.typeName? 3 u = some "*errors.errorString") : u = 128 :=
  typeName_ptr_named (nm := "errors.errorString") (by rw [errStar]; kernel_rfl) (by kernel_rfl) (by decide) u (by rw [errStar]; exact h)
theorem door_err {W : World} (h : laidMetH Tryd.prog Rows.stampParsesRow.laid W) : ErrRangeOk W := by
  have h2 := laidMetH.filter (fun x => x.1 == "strconv.ErrRange") h
  rw [MakeChecks.laidMetH_plain _ _ _ (by kernel_rfl)] at h2
  obtain ⟨a, s, hv, _⟩ := laid_sentinel (r := []) h2 gErr gErrType Tryd.underlying58 rowErr Tryd.underlying128 Tryd.underlying130 rfl rfl Tryd.underlying9 (by kernel_rfl) (by kernel_rfl)
  exact ⟨_, _, by simpa using World.var?_cell gErr hv 0⟩
theorem door_max {W : World} (h : W.ShapedOpen Tryd.prog) : MaxLenOk W :=
  cell_of_shapedOpen_int (g := 0) (t := 3) (zero := #[.int .i64 0]) (k := .i64) h (by decide +kernel) (by kernel_rfl) rfl (by kernel_rfl) (by kernel_rfl) Tryd.underlying3
def cellsOfD : Nat → DataW Unit → List Value
  | 0, _ => []
  | _ + 1, .lit (.int k n) => [.int k n]
  | f + 1, .agg l => l.flatMap (cellsOfD f)
  | _, _ => []
noncomputable def layAll : List (Nat × DataW Unit) → World → World
  | [], w => w
  | (g, d) :: r, w => layAll r { w with heap := w.heap.modify g fun
      | .cells _ t frozen => .cells (cellsOfD 4 d).toArray t frozen
      | o => o }
noncomputable def laidWorld (os : Os) : World := layAll [(3, Rows.laid_unicode_utf8_first)] (World.doorLaid Tryd.prog 4000 os)
end Go.Proofs.YtnadldcdckjifaaDoor
