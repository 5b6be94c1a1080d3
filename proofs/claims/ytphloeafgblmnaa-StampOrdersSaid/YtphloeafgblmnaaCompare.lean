/- The comparison of times: what stamp.Compare and the reference's Compare return. No condition. -/
import Derived.Test.YtphloeafgblmnaaOver
namespace Go.Proofs.Ytphloeafgblmnaa
open Go.RowKit
attribute [local go_sem] cell?_over frozen?_over lt_over le_over

theorem isNaN_int (x : Int) (w : World) : Calls Try.prog 42 #[.int .i64 x] w fun e w' => e = .returned (.bool false) ∧ w = w' := by
  go_enter Try.func42, Try.ntmps42
  go_wp2
  go_ret
  exact ⟨by simp, rfl⟩
def cmpI (a b : Int) : Int := if a < b then -1 else if b < a then 1 else 0
theorem cmpI_lt {a b : Int} (h : a < b) : -1 = cmpI a b := by simp [cmpI, h]
theorem cmpI_gt {a b : Int} (h : b < a) : 1 = cmpI a b := by unfold cmpI; rw [if_neg (by omega), if_pos h]
theorem cmpI_eq {a b : Int} (h : ¬ a < b) (h' : ¬ b < a) : 0 = cmpI a b := by unfold cmpI; rw [if_neg h, if_neg h']
theorem cmp_int (x y : Int) (w : World) : Calls Try.prog 36 #[.int .i64 x, .int .i64 y] w fun e w' => e = .returned (.int .i64 (cmpI x y)) ∧ w = w' := by
  by_cases h1 : x < y
  · go_enter Try.func36, Try.ntmps36
    go_wp2_with (first | (go_at_call 42; refine (isNaN_int _ _).mono ?_; rintro e w' ⟨rfl, rfl⟩))
    go_ret
    exact ⟨ret_int (cmpI_lt h1), rfl⟩
  · by_cases h2 : y < x
    · go_enter Try.func36, Try.ntmps36
      go_wp2_with (first | (go_at_call 42; refine (isNaN_int _ _).mono ?_; rintro e w' ⟨rfl, rfl⟩))
      go_ret
      exact ⟨ret_int (cmpI_gt h2), rfl⟩
    · go_enter Try.func36, Try.ntmps36
      go_wp2_with (first | (go_at_call 42; refine (isNaN_int _ _).mono ?_; rintro e w' ⟨rfl, rfl⟩))
      go_ret
      exact ⟨ret_int (cmpI_eq (by omega) (by omega)), rfl⟩
def orI (x y : Int) : Int := if x = 0 then y else x
theorem or_two (b : Nat) (x y : Int) (w : World) (h0 : w.cell? ⟨b, 0, none⟩ = some (.int .i64 x)) (h1 : w.cell? ⟨b, 1, none⟩ = some (.int .i64 y)) :
    Calls Try.prog 35 #[.slice (some ⟨b, 0, none⟩) 2 2] w fun e w' => e = .returned (.int .i64 (orI x y)) ∧ w = w' := by
  go_enter Try.func35, Try.ntmps35
  go_wp2_with fail
  go_loop [8] (fun i => i = .int .i64 0 ∨ (x = 0 ∧ i = .int .i64 1) ∨ (x = 0 ∧ y = 0 ∧ i = .int .i64 2)) (fun i => 2 - (intOf i).toNat)
  case atStart => exact .inl rfl
  case round =>
    rcases hrel with rfl | ⟨hx, rfl⟩ | ⟨hx, hy, rfl⟩
    · by_cases hx : x = 0
      · have hx0 : (x != 0) = false := by simp [hx]
        have HX := Lib.hid hx; clear hx
        go_wp2
        go_round
        case rel => exact .inr (.inl ⟨HX.out, rfl⟩)
        case measure => simp [intOf]
      · have hx0 : (x != 0) = true := by simp [hx]
        have e : x = orI x y := by simp [orI, hx]
        have E := Lib.hid e; clear e
        clear hx
        go_wp2
        go_ret
        exact ⟨ret_int E.out, rfl⟩
    · by_cases hy : y = 0
      · have hy0 : (y != 0) = false := by simp [hy]
        have HY := Lib.hid hy; have HX := Lib.hid hx; clear hx hy
        go_wp2
        go_round
        case rel => exact .inr (.inr ⟨HX.out, HY.out, rfl⟩)
        case measure => simp [intOf]
      · have hy0 : (y != 0) = true := by simp [hy]
        have e : y = orI x y := by simp [orI, hx]
        have E := Lib.hid e; clear e
        clear hx hy
        go_wp2
        go_ret
        exact ⟨ret_int E.out, rfl⟩
    · have e : 0 = orI x y := by simp [orI, hx, hy]
      have E := Lib.hid e; clear e
      clear hx hy
      go_wp2
      go_ret
      exact ⟨ret_int E.out, rfl⟩

/-- a's order against b: by Sec first -/
def cmpT (a0 a1 b0 b1 : Int) : Int := orI (cmpI a0 b0) (cmpI a1 b1)
theorem cmpT_lt {a0 a1 b0 b1 : Int} (h : a0 < b0 ∨ a0 = b0 ∧ a1 < b1) : cmpT a0 a1 b0 b1 = -1 := by
  unfold cmpT orI cmpI
  rcases h with h | ⟨h, h'⟩
  · rw [if_pos h]; simp
  · subst h; simp [h']
theorem cmpT_gt {a0 a1 b0 b1 : Int} (h : b0 < a0 ∨ a0 = b0 ∧ b1 < a1) : cmpT a0 a1 b0 b1 = 1 := by
  unfold cmpT orI cmpI
  rcases h with h | ⟨h, h'⟩
  · rw [if_neg (by omega : ¬ a0 < b0), if_pos h]; simp
  · subst h; rw [if_neg (by omega : ¬ a0 < a0), if_neg (by omega : ¬ a0 < a0), if_neg (by omega : ¬ a1 < b1), if_pos h']; simp
theorem cmpT_eq {a0 a1 b0 b1 : Int} (h : a0 = b0 ∧ a1 = b1) : cmpT a0 a1 b0 b1 = 0 := by
  obtain ⟨rfl, rfl⟩ := h
  simp [cmpT, orI, cmpI]

theorem stamp_cmp (a0 a1 b0 b1 : Int) (w : World) :
    Calls Try.prog 13 #[.agg #[.int .i64 a0, .int .i64 a1], .agg #[.int .i64 b0, .int .i64 b1]] w fun e w' => e = .returned (.int .i64 (cmpT a0 a1 b0 b1)) ∧ ∃ δ, w' = over w δ := by
  show Calls _ _ _ _ fun e w' => e = .returned (.int .i64 (orI (cmpI a0 b0) (cmpI a1 b1))) ∧ ∃ δ, w' = over w δ
  go_enter Try.func13, Try.ntmps13
  go_wp2_with fail
  go_region_held3 (fun w' => w'.cell? ⟨w.heap.size, 0, none⟩ = some (.int .i64 a0) ∧ w'.cell? ⟨w.heap.size, 1, none⟩ = some (.int .i64 a1) ∧ w'.cell? ⟨w.heap.size+1, 0, none⟩ = some (.int .i64 b0) ∧ w'.cell? ⟨w.heap.size+1, 1, none⟩ = some (.int .i64 b1)) (go_keep)
    (first | (go_at_call 36; refine (cmp_int _ _ _).mono ?_; rintro e w' ⟨rfl, rfl⟩) | (go_at_call 35; refine (or_two _ (cmpI a0 b0) (cmpI a1 b1) _ ?_ ?_).mono ?_; (go_simp); (go_simp);  rintro e w' ⟨rfl, rfl⟩))
  all_goals (go_wp2; go_ret)
  all_goals (refine ⟨rfl, exists_over ?_⟩; go_grown)

theorem ref_cmp (a0 a1 b0 b1 : Int) (w : World) :
    Calls Try.prog 14 #[.agg #[.int .i64 a0, .int .i64 a1], .agg #[.int .i64 b0, .int .i64 b1]] w fun e w' => e = .returned (.int .i64 (cmpT a0 a1 b0 b1)) ∧ ∃ δ, w' = over w δ := by
  by_cases h0 : a0 = b0
  · by_cases h1 : a1 = b1
    · have E := Lib.hid (cmpT_eq ⟨h0, h1⟩)
      subst h0 h1
      go_enter Try.func14, Try.ntmps14
      go_wp2
      go_ret
      refine ⟨ret_int E.out.symm, exists_over ?_⟩
      go_grown
    · by_cases h2 : a1 < b1
      · have E := Lib.hid (cmpT_lt (.inr ⟨h0, h2⟩))
        subst h0
        go_enter Try.func14, Try.ntmps14
        go_wp2
        go_ret
        refine ⟨ret_int E.out.symm, exists_over ?_⟩
        go_grown
      · have E := Lib.hid (cmpT_gt (a0 := a0) (a1 := a1) (b0 := b0) (b1 := b1) (.inr ⟨h0, by omega⟩))
        subst h0
        go_enter Try.func14, Try.ntmps14
        go_wp2
        go_ret
        refine ⟨ret_int E.out.symm, exists_over ?_⟩
        go_grown
  · by_cases h2 : a0 < b0
    · have E := Lib.hid (cmpT_lt (a1 := a1) (b1 := b1) (.inl h2))
      go_enter Try.func14, Try.ntmps14
      go_wp2
      go_ret
      refine ⟨ret_int E.out.symm, exists_over ?_⟩
      go_grown
    · have E := Lib.hid (cmpT_gt (a0 := a0) (a1 := a1) (b0 := b0) (b1 := b1) (.inl (by omega)))
      go_enter Try.func14, Try.ntmps14
      go_wp2
      go_ret
      refine ⟨ret_int E.out.symm, exists_over ?_⟩
      go_grown
end Go.Proofs.Ytphloeafgblmnaa
