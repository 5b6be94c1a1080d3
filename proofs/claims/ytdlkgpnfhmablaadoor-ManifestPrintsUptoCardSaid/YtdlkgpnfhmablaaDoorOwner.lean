/- manifest.owner. No condition. -/
import Derived.Test.YtdlkgpnfhmablaaDoorStampShow
namespace Go.Proofs.YtdlkgpnfhmablaaDoor
open Go.RowKit
set_option linter.unusedVariables false
set_option linter.unusedSimpArgs false
def ownerOk (n : Int) : Bool := decide (0 ≤ n ∧ n ≤ 2147483647)
set_option maxRecDepth 100000 in
theorem owner (n : Int) (w : World) :
    Calls Tryd.prog 35 #[.int .i64 n] w fun e w' => e = .returned (.bool (ownerOk n)) ∧ w' = w := by
  unfold ownerOk
  by_cases h0 : 0 ≤ n
  · have hd : decide (n ≥ 0) = true := by simpa using h0
    go_enter Tryd.func35, Tryd.ntmps35
    go_wp2
    go_ret
    exact ⟨by simp <;> omega, rfl⟩
  · have hd : decide (n ≥ 0) = false := by simpa using h0
    go_enter Tryd.func35, Tryd.ntmps35
    go_wp2
    go_ret
    exact ⟨by simp <;> omega, rfl⟩
end Go.Proofs.YtdlkgpnfhmablaaDoor
