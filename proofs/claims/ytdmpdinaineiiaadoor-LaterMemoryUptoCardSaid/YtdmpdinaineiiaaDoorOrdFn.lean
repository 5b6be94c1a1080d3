/- The comparisons of the library's that later.order calls. No condition but room. -/
import Derived.Test.YtdmpdinaineiiaaDoorTexts2
namespace Go.Proofs.YtdmpdinaineiiaaDoor
open Go.RowKit
set_option linter.unusedVariables false
set_option linter.unusedSimpArgs false
attribute [local go_sem] cell?_over frozen?_over lt_over le_over
theorem isNaN_str (x : ByteArray) (w : World) : Calls Tryd.prog 81 #[.string x] w fun e w' => e = .returned (.bool false) ∧ w = w' := by
  go_enter Tryd.func81, Tryd.ntmps81
  go_wp2
  go_ret
  exact ⟨by simp, rfl⟩
theorem isNaN_int (x : Int) (w : World) : Calls Tryd.prog 64 #[.int .i64 x] w fun e w' => e = .returned (.bool false) ∧ w = w' := by
  go_enter Tryd.func64, Tryd.ntmps64
  go_wp2
  go_ret
  exact ⟨by simp, rfl⟩
theorem cmp_str (x y : ByteArray) (w : World) : Calls Tryd.prog 65 #[.string x, .string y] w fun e w' => e = .returned (.int .i64 (cmpSt x y)) ∧ w = w' := by
  cases h1 : pl x y with
  | true =>
    have k1 : Op.bytesLess x.toList y.toList = true := h1
    have E := Lib.hid (show -1 = cmpSt x y by simp [cmpSt, h1]); clear h1
    go_enter Tryd.func65, Tryd.ntmps65
    go_wp2_with (first | (go_at_call 81; refine (isNaN_str _ _).mono ?_; rintro e w' ⟨rfl, rfl⟩))
    go_ret
    exact ⟨ret_int E.out, rfl⟩
  | false =>
    have k1 : Op.bytesLess x.toList y.toList = false := h1
    cases h2 : pl y x with
    | true =>
      have k2 : Op.bytesLess y.toList x.toList = true := h2
      have kne : (x.toList == y.toList) = false := str_ne (by rintro rfl; rw [pl_irrefl] at h2; cases h2)
      have E := Lib.hid (show 1 = cmpSt x y by simp [cmpSt, h1, h2]); clear h1 h2
      go_enter Tryd.func65, Tryd.ntmps65
      go_wp2_with (first | (go_at_call 81; refine (isNaN_str _ _).mono ?_; rintro e w' ⟨rfl, rfl⟩))
      go_ret
      exact ⟨ret_int E.out, rfl⟩
    | false =>
      have hxy := pl_tri h1 h2
      have kne : (x.toList == y.toList) = true := str_eq' hxy
      have k2 : Op.bytesLess y.toList x.toList = false := h2
      have E := Lib.hid (show 0 = cmpSt x y by simp [cmpSt, h1, h2]); clear h1 h2 hxy
      go_enter Tryd.func65, Tryd.ntmps65
      go_wp2_with (first | (go_at_call 81; refine (isNaN_str _ _).mono ?_; rintro e w' ⟨rfl, rfl⟩))
      go_ret
      exact ⟨ret_int E.out, rfl⟩
def cmpI (x y : Int) : Int := if x < y then -1 else if y < x then 1 else 0
theorem cmp_int (x y : Int) (w : World) : Calls Tryd.prog 49 #[.int .i64 x, .int .i64 y] w fun e w' => e = .returned (.int .i64 (cmpI x y)) ∧ w = w' := by
  by_cases h1 : x < y
  · have E := Lib.hid (show -1 = cmpI x y by simp [cmpI, h1])
    go_enter Tryd.func49, Tryd.ntmps49
    go_wp2_with (first | (go_at_call 64; refine (isNaN_int _ _).mono ?_; rintro e w' ⟨rfl, rfl⟩))
    go_ret
    exact ⟨ret_int E.out, rfl⟩
  · by_cases h2 : y < x
    · have E := Lib.hid (show 1 = cmpI x y by simp [cmpI, h1, h2])
      go_enter Tryd.func49, Tryd.ntmps49
      go_wp2_with (first | (go_at_call 64; refine (isNaN_int _ _).mono ?_; rintro e w' ⟨rfl, rfl⟩))
      go_ret
      exact ⟨ret_int E.out, rfl⟩
    · have E := Lib.hid (show 0 = cmpI x y by simp [cmpI, h1, h2])
      go_enter Tryd.func49, Tryd.ntmps49
      go_wp2_with (first | (go_at_call 64; refine (isNaN_int _ _).mono ?_; rintro e w' ⟨rfl, rfl⟩))
      go_ret
      exact ⟨ret_int E.out, rfl⟩
theorem cmpL_at : ∀ {l l' : List ByteArray} {k : Nat} (h1 : k < l.length) (h2 : k < l'.length), l.take k = l'.take k → cmpSt l[k] l'[k] ≠ 0 → cmpL l l' = cmpSt l[k] l'[k]
  | [], _, _, h1, _, _, _ => by simp at h1
  | _ :: _, [], _, _, h2, _, _ => by simp at h2
  | x :: l, y :: l', 0, _, _, _, hne => by
    unfold cmpL
    simp only [List.getElem_cons_zero] at hne ⊢
    rw [if_neg hne]
  | x :: l, y :: l', k + 1, h1, h2, ht, hne => by
    simp only [List.take_succ_cons, List.cons.injEq] at ht
    unfold cmpL
    rw [ht.1, if_pos (cmpSt_self y)]
    simp only [List.getElem_cons_succ] at hne ⊢
    exact cmpL_at (by simpa using h1) (by simpa using h2) ht.2 hne
theorem cmpL_more : ∀ {l l' : List ByteArray} {k : Nat}, k < l.length → l'.length = k → l.take k = l'.take k → cmpL l l' = 1
  | [], _, _, h1, _, _ => by simp at h1
  | _ :: _, [], _, _, _, _ => rfl
  | x :: l, y :: l', k, h1, h2, ht => by
    cases k with
    | zero => simp at h2
    | succ k =>
      simp only [List.take_succ_cons, List.cons.injEq] at ht
      unfold cmpL
      rw [ht.1, if_pos (cmpSt_self y)]
      exact cmpL_more (by simpa using h1) (by simpa using h2) ht.2
theorem cmpL_less : ∀ {l l' : List ByteArray}, l.length < l'.length → l'.take l.length = l → cmpL l l' = -1
  | [], [], h, _ => by simp at h
  | [], _ :: _, _, _ => rfl
  | _ :: _, [], h, _ => by simp at h
  | x :: l, y :: l', h, ht => by
    simp only [List.length_cons, List.take_succ_cons, List.cons.injEq] at ht
    unfold cmpL
    rw [ht.1, if_pos (cmpSt_self x)]
    exact cmpL_less (by simpa using h) ht.2
theorem cmpL_self : ∀ l, cmpL l l = 0
  | [] => rfl
  | x :: l => by unfold cmpL; rw [if_pos (cmpSt_self x)]; exact cmpL_self l
set_option maxHeartbeats 1000000 in
theorem cmpTexts {A A' : Option Addr} {n c n' c' : Nat} {l l' : List ByteArray} (w : World) (h : Row Shape.str w (Old w) A n l) (h' : Row Shape.str w (Old w) A' n' l') (hn : n ≤ 140737488355328) (hn' : n' ≤ 140737488355328) :
    Calls Tryd.prog 50 #[.slice A n c, .slice A' n' c'] w fun e w' => e = .returned (.int .i64 (cmpL l l')) ∧ w = w' := by
  have HL := Lib.hid h.1; have HL' := Lib.hid h'.1
  go_enter Tryd.func50, Tryd.ntmps50
  go_wp2_with fail
  go_loop [11] (fun i => ∃ k : Nat, k ≤ n ∧ k ≤ n' ∧ i = .int .i64 k ∧ l.take k = l'.take k) (fun i => n - (intOf i).toNat)
  case atStart => exact ⟨0, Nat.zero_le _, Nat.zero_le _, rfl, by simp⟩
  case round =>
    obtain ⟨k, hk, hk', rfl, htake⟩ := hrel
    have HT := Lib.hid htake; clear htake
    by_cases hlt : k < n
    · obtain ⟨b, off, es, hkl, rfl, hb, hc, hr⟩ := h.at_ hlt
      have c0 := hc 0 (by decide)
      obtain ⟨hr, -⟩ := hr
      subst hr
      have e13 : Shape.str.size = 1 := rfl
      simp only [e13, Nat.mul_one, Nat.add_zero, List.getElem?_cons_zero] at c0
      have hb2 : b < w.heap.size := hb
      have hks : (k : Int) < n := by omega
      clear hc
      by_cases hlt' : k < n'
      · obtain ⟨b', off', es', hkl', rfl, hb', hc', hr'⟩ := h'.at_ (i := k) (by omega)
        have c0' := hc' 0 (by decide)
        obtain ⟨hr', -⟩ := hr'
        subst hr'
        simp only [e13, Nat.mul_one, Nat.add_zero, List.getElem?_cons_zero] at c0'
        have hb2' : b' < w.heap.size := hb'
        have hks' : ¬ (n' : Int) ≤ k := by omega
        have hcon := fun W => cmp_str l[k] l'[k] W
        clear hc' e13
        by_cases hz : cmpSt l[k] l'[k] = 0
        · have HE := Lib.hid (cmpSt_0 hz)
          rw [hz] at hcon
          clear hz
          go_wp2_with (first | (go_at_call 65; refine (hcon _).mono ?_; rintro e w' ⟨rfl, rfl⟩))
          go_round
          case rel =>
            refine ⟨k + 1, by omega, by omega, by go_num, ?_⟩
            rw [List.take_succ_eq_append_getElem hkl, List.take_succ_eq_append_getElem hkl', HT.out, HE.out]
          case measure => simp [intOf]; omega
        · have HA := Lib.hid (cmpL_at hkl hkl' HT.out hz)
          generalize cmpSt l[k] l'[k] = r at *
          have hz1 : (r != 0) = true := by simpa using hz
          have hz2 : (r == 0) = false := by simpa using hz
          clear hz
          go_wp2_with (first | (go_at_call 65; refine (hcon _).mono ?_; rintro e w' ⟨rfl, rfl⟩))
          go_ret
          exact ⟨ret_int HA.out.symm, rfl⟩
      · have hkn : k = n' := by omega
        have hks' : (n' : Int) ≤ k := by omega
        have HA := Lib.hid (cmpL_more (l := l) (l' := l') (k := k) hkl (by rw [HL'.out]; omega) HT.out)
        clear e13 hkn
        go_wp2_with fail
        go_ret
        exact ⟨ret_int HA.out.symm, rfl⟩
    · have hkn : k = n := by omega
      subst hkn
      by_cases hnn : k < n'
      · have HA := Lib.hid (cmpL_less (l := l) (l' := l') (by rw [HL.out, HL'.out]; exact hnn) (by rw [HL.out, ← HT.out, List.take_of_length_le (by rw [HL.out]; omega)]))
        have hn1 : (k : Int) < n' := by omega
        go_wp2
        go_ret
        exact ⟨ret_int HA.out.symm, rfl⟩
      · have hkn : k = n' := by omega
        subst hkn
        have HA := Lib.hid (show cmpL l l' = 0 by
          have h1 := HT.out
          rw [List.take_of_length_le (by rw [HL.out]; omega), List.take_of_length_le (by rw [HL'.out]; omega)] at h1
          rw [h1]; exact cmpL_self _)
        go_wp2
        go_ret
        exact ⟨ret_int HA.out.symm, rfl⟩
end Go.Proofs.YtdmpdinaineiiaaDoor
