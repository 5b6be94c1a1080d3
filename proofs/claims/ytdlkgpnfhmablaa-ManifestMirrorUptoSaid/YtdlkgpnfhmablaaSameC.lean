/- The comparison of lists of changes. No condition but room. -/
import Derived.Test.YtdlkgpnfhmablaaManDiff
import Derived.Test.YtdlkgpnfhmablaaLines
namespace Go.Proofs.Ytdlkgpnfhmablaa
open Go.RowKit
set_option linter.unusedVariables false
set_option linter.unusedSimpArgs false
attribute [local go_sem] cell?_over frozen?_over lt_over le_over

set_option maxHeartbeats 600000 in
set_option maxRecDepth 100000 in
theorem sameChanges_eq {A A' : Option Addr} {n c c' : Nat} {l : List ChangeD} (w : World) (h : Row Shape.ChangeD w (Old w) A n l) (h' : Row Shape.ChangeD w (Old w) A' n l) (hn : n ≤ 140737488355328) :
    Calls Try.prog 13 #[.slice A n c, .slice A' n c'] w fun e w' => e = .returned (.bool true) ∧ ∃ δ, w' = over w δ := by
  have HL := Lib.hid h.1
  go_enter Try.func13, Try.ntmps13
  go_wp2_with fail
  go_loopw [5] (fun i wr => ∃ k : Nat, k ≤ n ∧ i = .int .i64 k ∧ Below w.heap.size w wr) (fun i _ => n - (intOf i).toNat)
  case atStart => exact ⟨0, Nat.zero_le _, rfl, Below.refl _ _⟩
  case round =>
    obtain ⟨k, hk, rfl, hbel⟩ := hrel
    by_cases hlt : k < n
    · obtain ⟨b, off, es, hkl, rfl, hb, hc, hc0, hr⟩ := h.elem (Keeps.old hbel) hlt
      obtain ⟨b', off', es', _, rfl, hb', hc', hc0', hr'⟩ := h'.elem (Keeps.old hbel) hlt
      obtain ⟨rfl, -⟩ := hr
      obtain ⟨rfl, -⟩ := hr'
      have e13 : Shape.ChangeD.size = 2 := rfl
      simp only [e13] at hc hc0 hc' hc0'
      clear e13
      have c1 := hc 1 (by omega)
      have c1' := hc' 1 (by omega)
      simp only [List.getElem?_cons_zero, List.getElem?_cons_succ] at hc0 hc0' c1 c1'
      clear hc hc'
      have hb2 := Nat.lt_of_lt_of_le hb hbel.size
      have hb2' := Nat.lt_of_lt_of_le hb' hbel.size
      have hks : (k : Int) < n := by omega
      go_wp2
      refine wp_region_over (by kernel_rfl) (by kernel_rfl) ?_
      repeat (go_big_quiet_step (fail))
      refine wpQuiet_nil ?_
      rintro _ ⟨δ', rfl⟩
      go_wp2
      go_roundw
      case rel => exact ⟨k + 1, by omega, by go_num, below_trans_over hbel hbel.size _⟩
      case measure => simp [intOf]; omega
    · go_wp2
      go_ret
      exact ⟨rfl, exists_over hbel⟩
end Go.Proofs.Ytdlkgpnfhmablaa
