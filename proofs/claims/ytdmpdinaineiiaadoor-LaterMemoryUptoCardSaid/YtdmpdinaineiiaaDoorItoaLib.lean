/- The library's decimal numeral, where the table of powers of ten is laid. No condition. -/
import Derived.Test.YtdmpdinaineiiaaDoorLayPrint
import Derived.Test.YtdmpdinaineiiaaDoorBase
import Derived.Lib.LaidTab
import Derived.Deep.DeepHandedRow
import Derived.Lib.ItoaLen
namespace Go.Proofs.YtdmpdinaineiiaaDoor
open Go.RowKit
set_option linter.unusedVariables false
set_option linter.unusedSimpArgs false
/-- the table of powers of ten is laid in w -/
def Pow10 (w : World) : Prop := Lib.TabIs Tryd.prog w "internal/strconv.uint64pow10" .u64 Lib.pow10Tab
theorem gPow : Tryd.prog.globalNamed "internal/strconv.uint64pow10" = some 0 := by kernel_rfl
theorem below_grow (w : World) (k : Nat) (os : Array Obj) : Below w.heap.size w (Sort.grow (w.drewN k) os) :=
  ⟨rfl, rfl, rfl, by simp [Sort.grow, World.drewN], fun n hn => by
    simp only [Sort.grow]
    rw [Array.getElem?_append_left (by simpa [World.drewN] using hn)]
    rfl⟩
theorem itoa_calls (n : Int) (h : I64 n) (w : World) (hp : Pow10 w) :
    Calls Tryd.prog 43 #[.int .i64 n] w fun e w' => e = .returned (.string ⟨(Lib.itoa n).toArray⟩) ∧ Below w.heap.size w w' := by
  have := Any.strconv_Itoa Tryd.laysM171 n h.1 h.2 w hp
  change Calls Tryd.prog 43 _ _ _ at this
  refine this.mono ?_
  rintro e w' ⟨rfl, k, os, rfl⟩
  exact ⟨rfl, below_grow w k os⟩
theorem pow_lt {w : World} (h : Pow10 w) : 0 < w.heap.size := by
  unfold Pow10 Lib.TabIs World.var? at h
  rw [gPow] at h
  by_cases hl : 0 < w.heap.size
  · exact hl
  · have hn : w.heap[0]? = none := Array.getElem?_eq_none (by omega)
    simp only [Option.bind_some, hn] at h
    exact absurd h (by simp)
theorem Pow10.keep {w w' : World} (h : Pow10 w) (hb : Below w.heap.size w w') : Pow10 w' := by
  have hl := pow_lt h
  have e : w'.heap[0]? = w.heap[0]? := hb.block _ hl
  unfold Pow10 Lib.TabIs World.var? at *
  rw [gPow] at *
  simp only [Option.bind_some, e] at *
  exact h
end Go.Proofs.YtdmpdinaineiiaaDoor
