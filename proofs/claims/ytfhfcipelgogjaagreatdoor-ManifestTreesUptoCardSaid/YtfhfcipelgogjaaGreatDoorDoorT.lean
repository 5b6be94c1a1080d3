/- What the rows' listed variables give a walk: the table of powers of ten, the library's error, its number; and a world that holds them. No condition. -/
import Derived.Test.YtfhfcipelgogjaaGreatDoorShowAll
import Derived.Test.YtfhfcipelgogjaaGreatDoorDecAll
import Derived.Test.YtfhfcipelgogjaaGreatDoorCards
import Derived.Test.YtfhfcipelgogjaaGreatDoorTie
import Derived.Deep.DeepHandedRow
import Derived.Deep.DeepWitnessRowRef
import Derived.LaidMore
import Derived.LaidSub
import Derived.MakeChecks
import Derived.Stop.LaidErr
import Derived.Shelf.Vars
namespace Go.Proofs.YtfhfcipelgogjaaGreatDoor
open Go.RowKit
set_option linter.unusedVariables false
set_option linter.unusedSimpArgs false
theorem gPowType : (Tryz.prog.globals[1]?).map (·.type) = some 344 := by kernel_rfl
theorem door_table {W : World} (h : laidMetH Tryz.prog Rows.manifestTreesUptoRow.laid W) : Pow10 W := by
  have h2 := laidMetH.filter (fun x => x.1 == "internal/strconv.uint64pow10") h
  exact Lib.tabIs_of_head (rest := []) gPow gPowType Tryz.underlying344 Tryz.underlying299 (by kernel_rfl) (by kernel_rfl) h2
theorem gErr : Tryz.prog.globalNamed "strconv.ErrRange" = some 5 := by kernel_rfl
theorem gErrType : (Tryz.prog.globals[5]?).map (·.type) = some 87 := by kernel_rfl
theorem errStar : "*" ++ "errors.errorString" = "*errors.errorString" := by decide
theorem rowErr (u : TypeId) (h : Tryz.prog.typeName? 3 u = some "*errors.errorString") : u = 363 :=
  typeName_ptr_named (nm := "errors.errorString") (by rw [errStar]; kernel_rfl) (by kernel_rfl) (by decide) u (by rw [errStar]; exact h)
theorem door_err {W : World} (h : laidMetH Tryz.prog Rows.manifestTreesUptoRow.laid W) : ErrRangeOk W := by
  have h2 := laidMetH.filter (fun x => x.1 == "strconv.ErrRange") h
  rw [MakeChecks.laidMetH_plain _ _ _ (by kernel_rfl)] at h2
  obtain ⟨a, s, hv, _⟩ := laid_sentinel (r := []) h2 gErr gErrType Tryz.underlying87 rowErr Tryz.underlying363 Tryz.underlying365 rfl rfl Tryz.underlying9 (by kernel_rfl) (by kernel_rfl)
  exact ⟨_, _, by simpa using World.var?_cell gErr hv 0⟩
theorem door_max {W : World} (h : W.ShapedOpen Tryz.prog) : MaxLenOk W :=
  cell_of_shapedOpen_int (g := 0) (t := 3) (zero := #[.int .i64 0]) (k := .i64) h (by decide +kernel) (by kernel_rfl) rfl (by kernel_rfl) (by kernel_rfl) Tryz.underlying3
def cellsOfD : Nat → DataW Unit → List Value
  | 0, _ => []
  | _ + 1, .lit (.int k n) => [.int k n]
  | f + 1, .agg l => l.flatMap (cellsOfD f)
  | _, _ => []
noncomputable def layAll : List (Nat × DataW Unit) → World → World
  | [], w => w
  | (g, d) :: r, w => layAll r { w with heap := w.heap.modify g fun
      | .cells _ t frozen => .cells (cellsOfD 4 d).toArray t frozen
      | o => o }
noncomputable def laidWorld (os : Os) : World := layAll [(2, Rows.laid_unicode_utf8_first)] (World.doorLaid Tryz.prog 4000 os)
theorem own_row {α : Type} {s : Shape α} {e : TypeId} {w : World} {base : Nat} {M : Nat → Prop} {v : Value} {l : List α} (h : Own s e w base M v l) : ∃ A c, v = .slice A l.length c ∧ l.length ≤ c ∧ Row s w (Old w) A l.length l := by
  obtain ⟨A, n, c, rfl, hnc, _, hrow⟩ := h.rd_old
  have := hrow.1
  subst this
  exact ⟨A, c, rfl, hnc, hrow⟩
end Go.Proofs.YtfhfcipelgogjaaGreatDoor
