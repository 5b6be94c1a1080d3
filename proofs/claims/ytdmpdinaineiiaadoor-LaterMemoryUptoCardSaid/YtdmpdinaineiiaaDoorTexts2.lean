/- Lists of texts: cloned, one within another, one ahead of another. No condition but room. -/
import Derived.Test.YtdmpdinaineiiaaDoorTexts
namespace Go.Proofs.YtdmpdinaineiiaaDoor
open Go.RowKit
set_option linter.unusedVariables false
set_option linter.unusedSimpArgs false
attribute [local go_sem] cell?_over frozen?_over lt_over le_over
theorem Row.take {α : Type} {s : Shape α} {w : World} {M : Nat → Prop} {A : Option Addr} {n : Nat} {l : List α} (h : Row s w M A n l) {k : Nat} (hk : k ≤ n) : Row s w M A k (l.take k) := by
  refine ⟨by rw [List.length_take, h.1]; omega, fun h0 => ?_⟩
  obtain ⟨b, off, e, hb, hi⟩ := h.2 (by omega)
  refine ⟨b, off, e, hb, fun i hil => ?_⟩
  have hil' : i < l.length := by rw [List.length_take] at hil; omega
  obtain ⟨es, hc, hr⟩ := hi i hil'
  exact ⟨es, hc, by rw [List.getElem_take]; exact hr⟩
set_option maxRecDepth 100000 in
theorem cloneTexts {A : Option Addr} {n c : Nat} {l : List ByteArray} (w : World) (h : Row Shape.str w (Old w) A n l) (hn : n ≤ 1000000000000) :
    Calls Tryd.prog 33 #[.slice A n c] w fun e w' => ∃ v δ, e = .returned v ∧ w' = over w δ ∧ Own Shape.str 9 w' w.heap.size (fun _ => False) v l := by
  cases A with
  | none =>
    have hn0 : n = 0 := by
      rcases Nat.eq_zero_or_pos n with h0 | h0
      · exact h0
      · obtain ⟨b, off, e, _⟩ := h.2 h0; cases e
    subst hn0
    have hl : l = [] := List.eq_nil_of_length_eq_zero h.1
    subst hl
    have kn := fun w : World => Lib.run_eql_slice_nil (P := Tryd.prog) w 29 9 none 0 c 0 0 Tryd.underlying29
    go_enter Tryd.func33, Tryd.ntmps33
    go_wp2_with fail
    go_ret
    exact ⟨.slice none 0 0, w, by simp, over_of_below (Below.refl _ _), Own.start _ _ _ _⟩
  | some A =>
    have hs := (Row.src (h.keep (Keeps.old_alloc w (.cells #[] 9)))).flat (M' := fun _ => False) flat_str
    have hl := Nat.le_of_eq h.1
    have kn := fun w : World => Lib.run_eql_slice_nil (P := Tryd.prog) w 29 9 (some A) n c 0 0 Tryd.underlying29
    go_enter Tryd.func33, Tryd.ntmps33
    go_wp2_with (first
      | (at_builtin
         refine wpList_append_list (v := .slice (some ⟨w.heap.size, 0, none⟩) 0 0) rfl (.tmp 5) (.tmp 6) _ rfl elem_str rfl (Own.made Shape.str _ w _ (Nat.le_refl _)) rfl hs (fun _ h => h.elim) ?_ ?_ ?_ ?_
         · simp; omega
         · simp [maxLen]; omega
         · simp
         intro v' w1 hown hg hat))
    go_ret
    have hb : Below w.heap.size w w1 := ((Below.refl _ _).alloc (Nat.le_refl _) _).grown hg (by simp) (by simp [Value.ownBlock])
    have e := over_of_below hb
    rw [e] at hown ⊢
    exact ⟨v', _, by simp, rfl, by simpa using hown⟩
theorem routeWithin {A A' : Option Addr} {n c n' c' : Nat} {l l' : List ByteArray} (w : World) (h : Row Shape.str w (Old w) A n l) (h' : Row Shape.str w (Old w) A' n' l') (hc : n' ≤ c') (hcm : c' ≤ maxLen) (hn : n ≤ 140737488355328) (hn' : n' ≤ 140737488355328) :
    Calls Tryd.prog 32 #[.slice A n c, .slice A' n' c'] w fun e w' => e = .returned (.bool (within l l')) ∧ ∃ δ, w' = over w δ := by
  unfold maxLen at hcm
  by_cases hle : n ≤ n'
  · have d1 : decide ((n : Int) ≤ n') = true := by simp; omega
    have hlc : n ≤ c' := by omega
    have HW := Lib.hid (show decide (l = l'.take n) = within l l' by unfold within; rw [h.1, Bool.eq_iff_iff, decide_eq_true_eq, decide_eq_true_eq]; exact eq_comm)
    have R := Lib.hid (h'.take hle)
    have R0 := Lib.hid h
    clear h h'
    go_enter Tryd.func32, Tryd.ntmps32
    go_wp2_with (first
      | (go_at_call 41; refine (equalTexts _ R0.out R.out hn hn).mono ?_; rintro e w' ⟨rfl, δ, rfl⟩; rw [HW.out]))
    go_ret
    exact ⟨by simp, _, rfl⟩
  · have d1 : decide ((n : Int) ≤ n') = false := by simp; omega
    have HW := Lib.hid (show within l l' = false from within_short (by rw [h.1, h'.1]; omega))
    have d2 : decide (n ≤ n') = false := by simpa using hle
    clear h h'
    go_enter Tryd.func32, Tryd.ntmps32
    go_wp2_with fail
    go_ret
    exact ⟨ret_bool HW.out.symm, w, over_of_below (Below.refl _ _)⟩
theorem lexL_at : ∀ {l l' : List ByteArray} {k : Nat} (h1 : k < l.length) (h2 : k < l'.length), l.take k = l'.take k → l[k] ≠ l'[k] → lexL l l' = pl l[k] l'[k]
  | [], _, _, h1, _, _, _ => by simp at h1
  | _ :: _, [], _, _, h2, _, _ => by simp at h2
  | x :: l, y :: l', 0, _, _, _, hne => by
    unfold lexL
    simp only [List.getElem_cons_zero] at hne ⊢
    rw [if_neg hne]
  | x :: l, y :: l', k + 1, h1, h2, ht, hne => by
    simp only [List.take_succ_cons, List.cons.injEq] at ht
    unfold lexL
    rw [if_pos ht.1]
    simp only [List.getElem_cons_succ] at hne ⊢
    exact lexL_at (by simpa using h1) (by simpa using h2) ht.2 hne
theorem aheadL_at {l l' : List ByteArray} {k : Nat} (hl : l.length = l'.length) (h1 : k < l.length) (h2 : k < l'.length) (ht : l.take k = l'.take k) (hne : l[k] ≠ l'[k]) : aheadL l l' = pl l[k] l'[k] := by
  unfold aheadL; rw [if_pos hl]; exact lexL_at h1 h2 ht hne
theorem aheadT {A A' : Option Addr} {n c n' c' : Nat} {l l' : List ByteArray} (w : World) (h : Row Shape.str w (Old w) A n l) (h' : Row Shape.str w (Old w) A' n' l') (hn : n ≤ 140737488355328) (hn' : n' ≤ 140737488355328) :
    Calls Tryd.prog 35 #[.slice A n c, .slice A' n' c'] w fun e w' => e = .returned (.bool (aheadL l l')) ∧ ∃ δ, w' = over w δ := by
  have hl := h.1
  have hl' := h'.1
  by_cases hnn : n = n'
  · subst hnn
    have HL := Lib.hid hl; have HL' := Lib.hid hl'; clear hl hl'
    have hb0 : ((n : Int) != n) = false := by simp
    go_enter Tryd.func35, Tryd.ntmps35
    go_wp2_with fail
    go_loopw [5] (fun i wr => ∃ k : Nat, k ≤ n ∧ i = .int .i64 k ∧ l.take k = l'.take k ∧ Below w.heap.size w wr) (fun i _ => n - (intOf i).toNat)
    case atStart => exact ⟨0, Nat.zero_le _, rfl, by simp, Below.refl _ _⟩
    case round =>
      obtain ⟨k, hk, rfl, htake, hbel⟩ := hrel
      have HT := Lib.hid htake; clear htake
      by_cases hlt : k < n
      · obtain ⟨b, off, es, hkl, rfl, hb, hc, hr⟩ := h.at_ hlt
        obtain ⟨b', off', es', hkl', rfl, hb', hc', hr'⟩ := h'.at_ (i := k) (by omega)
        have c0 := hc 0 (by decide)
        have c0' := hc' 0 (by decide)
        obtain ⟨hr, -⟩ := hr
        obtain ⟨hr', -⟩ := hr'
        subst hr hr'
        have e13 : Shape.str.size = 1 := rfl
        simp only [e13, Nat.mul_one, Nat.add_zero, List.getElem?_cons_zero] at c0 c0'
        clear e13
        rw [← hbel.cell (p := ⟨b, off + k, none⟩) hb] at c0
        rw [← hbel.cell (p := ⟨b', off' + k, none⟩) hb'] at c0'
        have hb2 := Nat.lt_of_lt_of_le hb hbel.size
        have hb2' := Nat.lt_of_lt_of_le hb' hbel.size
        have hks : (k : Int) < n := by omega
        clear hc hc'
        by_cases heq : l[k] = l'[k]
        · have hne := str_eq' heq
          have HE := Lib.hid heq; clear heq
          go_wp2
          refine wp_region_over (by kernel_rfl) (by kernel_rfl) ?_
          repeat (go_big_quiet_step (fail))
          refine wpQuiet_nil ?_
          rintro _ ⟨δ', rfl⟩
          go_wp2
          go_roundw
          case rel =>
            refine ⟨k + 1, by omega, by go_num, ?_, below_trans_over hbel hbel.size _⟩
            rw [List.take_succ_eq_append_getElem hkl, List.take_succ_eq_append_getElem hkl', HT.out, HE.out]
          case measure => simp [intOf]; omega
        · have hne := str_ne heq
          have HE := Lib.hid heq; clear heq
          have HA := Lib.hid (aheadL_at (by rw [HL.out, HL'.out]) hkl hkl' HT.out HE.out)
          go_wp2
          refine wp_region_over (by kernel_rfl) (by kernel_rfl) ?_
          repeat (go_big_quiet_step (fail))
          refine wpQuiet_nil ?_
          rintro _ ⟨δ', rfl⟩
          go_wp2
          refine wp_region_over (by kernel_rfl) (by kernel_rfl) ?_
          repeat (go_big_quiet_step (fail))
          refine wpQuiet_nil ?_
          rintro _ ⟨δ'', rfl⟩
          go_wp2
          go_ret
          refine ⟨?_, exists_over ((below_trans_over hbel hbel.size _).trans ((below_over _ _).mono (Nat.le_trans hbel.size (size_over_le _ _))))⟩
          rw [HA.out]
          simp [pl]
      · go_wp2
        go_ret
        refine ⟨ret_bool ?_, exists_over hbel⟩
        have h1 := HT.out
        have hkn : k = n := by omega
        subst hkn
        rw [List.take_of_length_le (by rw [HL.out]; omega), List.take_of_length_le (by rw [HL'.out]; omega)] at h1
        rw [h1, aheadL_irrefl]
  · have hb0 : ((n : Int) != n') = true := by simp; omega
    have e : aheadL l l' = decide (n' < n) := by unfold aheadL; rw [hl, hl', if_neg hnn]
    have E := Lib.hid e; clear e hl hl' hnn
    go_enter Tryd.func35, Tryd.ntmps35
    go_wp2_with fail
    go_ret
    refine ⟨?_, exists_over (Below.refl _ _)⟩
    rw [E.out]
    simp
end Go.Proofs.YtdmpdinaineiiaaDoor
