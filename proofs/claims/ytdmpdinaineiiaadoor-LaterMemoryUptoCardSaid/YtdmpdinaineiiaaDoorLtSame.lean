/- sameItems, where both lists are one; cut. No condition but room. -/
import Derived.Test.YtdmpdinaineiiaaDoorLtRefPut
namespace Go.Proofs.YtdmpdinaineiiaaDoor
open Go.RowKit
set_option linter.unusedVariables false
set_option linter.unusedSimpArgs false
attribute [local go_sem] cell?_over frozen?_over lt_over le_over
set_option maxHeartbeats 1000000 in
set_option maxRecDepth 100000 in
theorem sameItems {A A' : Option Addr} {n c n' c' : Nat} {r : List ItemD} (w : World) (h : Row Shape.ItemD w (Old w) A n r) (h' : Row Shape.ItemD w (Old w) A' n' r) (hs : SmallI r) (hn : n ≤ 1000000000) :
    Calls Tryd.prog 14 #[.slice A n c, .slice A' n' c'] w fun e w' => e = .returned (.bool true) ∧ Below w.heap.size w w' := by
  have e1 := h.1; have e2 := h'.1
  subst e1 e2
  have hb0 : ((r.length : Int) != r.length) = false := by simp
  go_enter Tryd.func14, Tryd.ntmps14
  go_wp2_with fail
  go_loopw [5] (fun i wr => ∃ k : Nat, k ≤ r.length ∧ i = .int .i64 k ∧ Below w.heap.size w wr) (fun i _ => r.length - (intOf i).toNat)
  case atStart => exact ⟨0, Nat.zero_le _, rfl, Below.refl _ _⟩
  case round =>
    obtain ⟨k, hk, rfl, hbel⟩ := hrel
    by_cases hlt : k < r.length
    · obtain ⟨b, off, es, hkl, rfl, hb, hc, hr⟩ := (h.below hbel).at_ hlt
      obtain ⟨A1, n1, c1, rfl, q1, q2, q3, q4⟩ := hr
      obtain ⟨b', off', es', hkl', rfl, hb', hc', hr'⟩ := (h'.below hbel).at_ hlt
      obtain ⟨A2, n2, c2, rfl, p1, p2, p3, p4⟩ := hr'
      have e13 : Shape.ItemD.size = 2 := rfl
      have x0 := hc 0 (by decide)
      have x1 := hc 1 (by decide)
      have y0 := hc' 0 (by decide)
      have y1 := hc' 1 (by decide)
      simp only [e13, Nat.add_zero, List.getElem?_cons_zero, List.getElem?_cons_succ] at x0 x1 y0 y1
      have hks : (k : Int) < r.length := by omega
      have hsm := hs r[k] (List.getElem_mem hkl)
      have hn1 := small_n q3 hsm
      have hn2 := small_n p3 hsm
      have HS : ∀ δ, Hid (Calls Tryd.prog 20 #[.slice A1 n1 c1, .slice A2 n2 c2] (over wr δ) fun e w' => e = .returned (.bool true) ∧ ∃ δ', w' = over (over wr δ) δ') := fun δ => by
        have := sameTexts (c := c1) (c' := c2) (over wr δ) (q3.below (below_over wr δ)) (p3.below (below_over wr δ)) (by omega) (by omega)
        rw [decide_eq_true rfl] at this
        exact Lib.hid this
      have hbb : b < wr.heap.size := hb
      have hbb' : b' < wr.heap.size := hb'
      have hv0 : (r[k].v != r[k].v) = false := by simp
      have HB := Lib.hid hbel
      generalize r[k].v = vv at *
      clear hc hc' e13 q3 p3 hb hb' hbel
      go_wp2
      refine wp_region_over (by kernel_rfl) (by kernel_rfl) ?_
      repeat (go_big_quiet_step (first | (go_at_call 20; exact calls_over (HS _).out)))
      refine wpQuiet_nil ?_
      rintro _ ⟨δ', rfl⟩
      go_wp2
      go_roundw
      case rel => exact ⟨k + 1, by omega, by go_num, below_old HB.out (below_over wr δ')⟩
      case measure => simp [intOf]; omega
    · go_wp2
      go_ret
      exact ⟨by first | rfl | simp, hbel⟩
theorem cutOps {A : Option Addr} {n c : Nat} {r : List OpD} (w : World) (h : Row Shape.OpD w (Old w) A n r) (hnc : n ≤ c) (hcm : c ≤ maxLen) :
    Calls Tryd.prog 9 #[.slice A n c] w fun e w' => ∃ n' c', e = .returned (.slice A n' c') ∧ n' ≤ 300 ∧ n' ≤ n ∧ n' ≤ c' ∧ c' ≤ maxLen ∧ Row Shape.OpD w (Old w) A n' (r.take n') ∧ w = w' := by
  unfold maxLen at hcm ⊢
  by_cases hgt : 300 < n
  · have h1 : (300 : Int) < n := by omega
    go_enter Tryd.func9, Tryd.ntmps9
    go_wp2_with fail
    go_ret
    exact ⟨300, c, by first | rfl | simp, Nat.le_refl _, by omega, by omega, by omega, h.take (by omega), rfl⟩
  · have h1 : ¬ (300 : Int) < n := by omega
    have hl := h.1
    go_enter Tryd.func9, Tryd.ntmps9
    go_wp2_with fail
    go_ret
    exact ⟨n, c, by first | rfl | simp, by omega, Nat.le_refl _, hnc, by omega, by rw [List.take_of_length_le (by omega)]; exact h, rfl⟩
end Go.Proofs.YtdmpdinaineiiaaDoor
