/- Copies of calls. No condition but room. -/
import Derived.Test.YtphloeafgblmnaaCalls
namespace Go.Proofs.Ytphloeafgblmnaa
open Go.RowKit
attribute [local go_sem] cell?_over frozen?_over lt_over le_over
set_option maxRecDepth 100000 in
set_option maxHeartbeats 1000000 in
theorem copyCalls {A : Option Addr} {n c : Nat} {l : List CallD} (w : World) (h : Row Shape.CallD w (Old w) A n l) (hs : SmallCalls l) (hn : n ≤ 1000000000000) :
    Calls Try.prog 10 #[.slice A n c] w fun e w' => ∃ v δ M, e = .returned v ∧ w' = over w δ ∧ Own Shape.CallD 74 w' w.heap.size M v l ∧ ∀ n, M n → w.heap.size ≤ n := by
  have HL := Lib.hid h.1
  go_enter Try.func10, Try.ntmps10
  go_wp2_with fail
  go_loopw [3, 4] (fun v i wr => ∃ (k : Nat) (M : Nat → Prop), k ≤ n ∧ i = .int .i64 k ∧ Below w.heap.size w wr ∧ Own Shape.CallD 74 wr w.heap.size M v (l.take k) ∧ ∀ n, M n → w.heap.size ≤ n) (fun _ i _ => n - (intOf i).toNat)
  case atStart => exact ⟨0, fun _ => False, Nat.zero_le _, rfl, (Below.refl _ _).alloc (Nat.le_refl _) _, Own.made Shape.CallD _ w _ (Nat.le_refl _), fun _ h => h.elim⟩
  case round =>
    obtain ⟨k, M, hk, rfl, hbel, hown, hM⟩ := hrel
    by_cases hlt : k < n
    · obtain ⟨b, off, es, hkl, rfl, hb, hc, hc0, hr⟩ := h.elem (Keeps.old hbel) hlt
      have hsm := hs _ (List.getElem_mem hkl)
      have hr2 : CallD.rd wr (Old wr) es l[k] := Shape.CallD.more hr fun _ hn => Old.below hbel hn
      have R := Lib.hid hr2; clear hr2
      obtain ⟨_, _, _, rfl, -⟩ := hr
      have e13 : Shape.CallD.size = 13 := rfl
      simp only [e13] at hc hc0
      clear e13
      have hb2 := Nat.lt_of_lt_of_le hb hbel.size
      have hks : (k : Int) < n := by omega
      have hszw := hbel.size
      have O := Lib.hid hown; clear hown
      have HM := Lib.hid hM; clear hM
      have HB := Lib.hid hbel; clear hbel
      go_wp2_with fail
      refine (copyCall _ R.out hsm).mono ?_
      rintro e u ⟨cs', δ, rfl, hu, hrd⟩
      have hbu := below_of hu
      have hszu := hbu.size
      have htk := List.length_take_le k l
      have O2 := O.out.over_ δ
      rw [← hu] at O2
      have hO2 := Lib.hid O2; clear O2 hu
      have R2 := Lib.hid hrd
      obtain ⟨_, _, _, rfl, -⟩ := hrd
      have hlt3 := O.out.lt
      have HL3 := Lib.hid hlt3; clear hlt3
      go_wp2_with (first
        | (at_builtin
           refine wpList_append_list (v := u3) rfl (.tmp 12) (.tmp 18) _ rfl elem_CallD rfl (hO2.out.alloc _) rfl (Src.single (s := Shape.CallD) _ (fun _ h => h.2) R2.out) ?_ ?_ ?_ ?_ ?_
           · intro n hn
             refine ⟨by have := hn.2; simp; omega, fun e => ?_⟩
             have := (HL3.out n e.symm).2
             have := hn.1
             omega
           · simp only [List.length_cons, List.length_nil]; omega
           · simp only [List.length_cons, List.length_nil, maxLen]; omega
           · have := HB.out.size; simp; omega
           intro v' w1 hown' hg hat))
      go_roundw
      case rel =>
        have e : l.take (k + 1) = l.take k ++ [l[k]] := List.take_succ_eq_append_getElem hkl
        refine ⟨k + 1, _, by omega, by go_num, ?_, by rw [e]; exact hown', ?_⟩
        · refine (HB.out.trans (hbu.mono hszw)).alloc (by have := hbu.size; omega) _ |>.grown hg (by have := hbu.size; simp; omega) (fun m hm => (HL3.out m hm).1)
        · rintro n (hn | hn)
          · exact HM.out n hn
          · have := hn.1; omega
      case measure => simp [intOf]; omega
    · go_wp2
      go_ret
      refine ⟨_, _, M, rfl, over_of_below hbel, ?_, hM⟩
      rw [← List.take_of_length_le (l := l) (i := k) (by rw [HL.out]; omega)]
      exact hown
end Go.Proofs.Ytphloeafgblmnaa
