/- The document's reader of patterns: a byte. No condition but room. -/
import Derived.Test.YtjknjmlpnjifkaaDoorSvJ
namespace Go.Proofs.YtjknjmlpnjifkaaDoor
open Go.RowKit
set_option linter.unusedVariables false
set_option linter.unusedSimpArgs false
attribute [local go_sem] cell?_over frozen?_over lt_over le_over
/-- what item answers: the byte and where it ends, or noughts -/
def itemV (p : List UInt8) (i : Nat) : UInt8 × Nat := (itemB p i).getD (0, 0)
theorem itemV_zero {p : List UInt8} {i : Nat} : (itemV p i).2 = 0 ↔ itemB p i = none := by
  unfold itemV
  cases h : itemB p i with
  | none => simp
  | some x => obtain ⟨c, nx⟩ := x; have := itemB_lt h; simp; omega
theorem ret_bi {a a' b b' : Int} (h1 : a = a') (h2 : b = b') : Ending.returned (.tuple #[.int .u8 a, .int .i64 b]) = .returned (.tuple #[.int .u8 a', .int .i64 b']) := by rw [h1, h2]
set_option maxHeartbeats 400000 in
theorem rfItem (s : ByteArray) (i : Nat) (w : World) (hs : s.size ≤ 140737488355328) (hi : i ≤ s.size + 10) :
    Calls Tryd.prog 72 #[.string s, .int .i64 i] w fun e w' => e = .returned (.tuple #[.int .u8 (itemV s.data.toList i).1.toNat, .int .i64 (itemV s.data.toList i).2]) ∧ w = w' := by
  by_cases hlt : i < s.size
  · by_cases h92 : s[i] = 92
    · by_cases hl2 : i + 1 < s.size
      · have HV : Hid (itemV s.data.toList i = (s[i + 1], i + 2)) := Lib.hid (by unfold itemV; rw [item_esc hlt h92 hl2 rfl]; rfl)
        have t1 : ((s[i].toNat : Int) != 92) = false := by rw [h92]; rfl
        obtain ⟨x, hx⟩ : ∃ x, x = i + 1 := ⟨_, rfl⟩
        have e1 : (i : Int) + 1 = (x : Int) := by omega
        have hx2 : x < s.size := by omega
        have HS : Hid (s[i + 1] = s[x]) := Lib.hid (by subst hx; rfl)
        have HX := Lib.hid hx
        clear hx h92
        go_enter Tryd.func72, Tryd.ntmps72
        go_wp2_with fail
        go_ret2
        refine ⟨?_, rfl⟩
        rw [HV.out, HS.out]
        exact ret_bi rfl (by simp only []; omega)
      · have HV : Hid (itemV s.data.toList i = (0, 0)) := Lib.hid (by unfold itemV; rw [item_esc0 hlt h92 hl2]; rfl)
        have t1 : ((s[i].toNat : Int) != 92) = false := by rw [h92]; rfl
        clear h92
        go_enter Tryd.func72, Tryd.ntmps72
        go_wp2_with fail
        go_ret2
        refine ⟨?_, rfl⟩
        rw [HV.out]
        exact ret_bi rfl rfl
    · have HV : Hid (itemV s.data.toList i = (s[i], i + 1)) := Lib.hid (by unfold itemV; rw [item_at hlt h92 rfl]; rfl)
      have t1 : ((s[i].toNat : Int) != 92) = true := by
        rw [bne_iff_ne]
        intro e
        exact h92 (UInt8.toNat_inj.1 (by have e92 : (92 : UInt8).toNat = 92 := rfl; omega))
      clear h92
      go_enter Tryd.func72, Tryd.ntmps72
      go_wp2_with fail
      go_ret2
      refine ⟨?_, rfl⟩
      rw [HV.out]
      exact ret_bi rfl (by simp only []; omega)
  · have HV : Hid (itemV s.data.toList i = (0, 0)) := Lib.hid (by unfold itemV; rw [item_out hlt]; rfl)
    go_enter Tryd.func72, Tryd.ntmps72
    go_wp2_with fail
    go_ret2
    refine ⟨?_, rfl⟩
    rw [HV.out]
    exact ret_bi rfl rfl
end Go.Proofs.YtjknjmlpnjifkaaDoor
