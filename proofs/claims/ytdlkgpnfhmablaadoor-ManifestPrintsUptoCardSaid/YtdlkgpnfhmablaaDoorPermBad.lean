/- perms.Text and the reference's Text where kind or mode is no good. No condition. -/
import Derived.Test.YtdlkgpnfhmablaaDoorPermText
namespace Go.Proofs.YtdlkgpnfhmablaaDoor
open Go.RowKit
set_option linter.unusedVariables false
set_option linter.unusedSimpArgs false
set_option maxHeartbeats 1000000 in
set_option maxRecDepth 100000 in
theorem permsText_bad (kind mode : Int) (w : World) (hm : I64 mode) (hk : permOk kind mode = false) :
    Calls Tryd.prog 18 #[.int .i64 kind, .int .i64 mode] w fun e w' => e = .returned (.tuple #[.string ⟨#[]⟩, .int .i64 120]) ∧ w' = w := by
  have hx : ¬ (1 ≤ kind ∧ kind ≤ 5 ∧ 0 ≤ mode ∧ mode ≤ 4095) := by simpa [permOk] using hk
  clear hk
  by_cases h1 : kind < 1
  · have d1 : decide (kind < 1) = true := by simpa using h1
    go_enter Tryd.func18, Tryd.ntmps18
    go_wp2
    go_ret2
    exact ⟨rfl, rfl⟩
  have d1 : decide (kind < 1) = false := by simpa using h1
  by_cases h2 : kind > 5
  · have d2 : decide (kind > 5) = true := by simpa using h2
    go_enter Tryd.func18, Tryd.ntmps18
    go_wp2
    go_ret2
    exact ⟨rfl, rfl⟩
  have d2 : decide (kind > 5) = false := by simpa using h2
  have hmask : (bits .andNot .i64 mode 4095 != 0) = true := by
    rw [bne, andNot_mask mode hm.1 hm.2]; simp; omega
  go_enter Tryd.func18, Tryd.ntmps18
  go_wp2
  go_ret2
  exact ⟨rfl, rfl⟩
end Go.Proofs.YtdlkgpnfhmablaaDoor
