/- numeral.Show, and the table of powers of ten kept over calls. No condition but room. -/
import Derived.Test.YtnadldcdckjifaaDoorStampShow
import Derived.Test.YtnadldcdckjifaaDoorPrintLib
namespace Go.Proofs.YtnadldcdckjifaaDoor
open Go.RowKit
set_option linter.unusedVariables false
set_option linter.unusedSimpArgs false

theorem pow_lt {w : World} (h : Pow10 w) : 5 < w.heap.size := by
  unfold Pow10 Lib.TabIs World.var? at h
  rw [gPow] at h
  by_cases hl : 5 < w.heap.size
  · exact hl
  · have hn : w.heap[5]? = none := Array.getElem?_eq_none (by omega)
    simp only [Option.bind_some, hn] at h
    exact absurd h (by simp)
theorem Pow10.keep {w w' : World} (h : Pow10 w) (hb : Below w.heap.size w w') : Pow10 w' := by
  have hl := pow_lt h
  have e : w'.heap[5]? = w.heap[5]? := hb.block _ hl
  unfold Pow10 Lib.TabIs World.var? at *
  rw [gPow] at *
  simp only [Option.bind_some, e] at *
  exact h
theorem numeralShow (n : Int) (h : I64 n) (w : World) (hp : Pow10 w) :
    Calls Tryd.prog 32 #[.int .i64 n] w fun e w' => e = .returned (.string ⟨(Lib.itoa n).toArray⟩) ∧ Below w.heap.size w w' := by
  go_enter Tryd.func32, Tryd.ntmps32
  go_wp2_with (go_at_call 34; refine (itoa_calls n h w hp).mono ?_)
  rintro e w1 ⟨rfl, hb⟩
  have HB := Lib.hid hb
  clear hb
  go_wp2
  go_ret
  exact ⟨rfl, HB.out⟩
end Go.Proofs.YtnadldcdckjifaaDoor
