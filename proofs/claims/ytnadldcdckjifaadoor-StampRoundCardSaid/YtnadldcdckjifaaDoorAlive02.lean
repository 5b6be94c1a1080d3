/- The statements' first line on times: it holds. No condition but what the library's variables hold. -/
import Derived.Test.YtnadldcdckjifaaDoorStParse5
namespace Go.Proofs.YtnadldcdckjifaaDoor
open Go.RowKit
set_option linter.unusedVariables false
set_option linter.unusedSimpArgs false
attribute [local go_sem] cell?_over frozen?_over lt_over le_over
theorem lone_parse (w : World) (hm : MaxLenOk w) (hv : ErrRangeOk w) :
    Calls Tryd.prog 12 #[.string ⟨#[45, 49, 46, 53]⟩] w fun e w' => e = .returned (.tuple #[.agg #[.int .i64 (-2), .int .i64 500000000], .int .i64 0]) ∧ Below w.heap.size w w' := by
  have h := stampParse ⟨#[45, 49, 46, 53]⟩ w (by decide) hm hv
  have e1 : stS (ByteArray.mk #[45, 49, 46, 53]).data.toList = -2 := by decide +kernel
  have e2 : stN (ByteArray.mk #[45, 49, 46, 53]).data.toList = 500000000 := by decide +kernel
  have e3 : stErr (ByteArray.mk #[45, 49, 46, 53]).data.toList = 0 := by decide +kernel
  rw [e1, e2, e3] at h
  exact h
theorem alive02 (w : World) (hm : MaxLenOk w) (hv : ErrRangeOk w) :
    Calls Tryd.prog 11 #[] w fun e w' => e = .returned (.bool true) ∧ Below w.heap.size w w' := by
  go_enter Tryd.func11, Tryd.ntmps11
  go_wp2_with fail
  refine (lone_parse w hm hv).mono ?_
  rintro e w1 ⟨rfl, hb⟩
  have HB := Lib.hid hb
  clear hb
  go_wp2
  go_ret
  exact ⟨rfl, HB.out.alloc HB.out.size _⟩
end Go.Proofs.YtnadldcdckjifaaDoor
