/- Lists of texts: copied, compared, one within another. No condition but room. -/
import Derived.Test.YtdmpdinaineiiaaDoorStrOrd
import Derived.Test.YtdmpdinaineiiaaDoorRegG
import Derived.Laws.StructEq
namespace Go.Proofs.YtdmpdinaineiiaaDoor
open Go.RowKit
set_option linter.unusedVariables false
set_option linter.unusedSimpArgs false
attribute [local go_sem] cell?_over frozen?_over lt_over le_over
theorem str_eq' {a b : ByteArray} (h : a = b) : (a.toList == b.toList) = true := by rw [h]; simp
theorem elem_str : Elem Tryd.prog 29 9 Shape.str 16 := ⟨Tryd.underlying29, by kernel_rfl⟩
theorem take_succ_ne {l l' : List ByteArray} {k : Nat} (h1 : k < l.length) (h2 : k < l'.length) (h : l[k] ≠ l'[k]) {m : Nat} (hm : k < m) : l.take m ≠ l'.take m := by
  intro e
  apply h
  have a1 : (l.take m)[k]? = some l[k] := by rw [List.getElem?_take, if_pos hm, List.getElem?_eq_getElem h1]
  have a2 : (l'.take m)[k]? = some l'[k] := by rw [List.getElem?_take, if_pos hm, List.getElem?_eq_getElem h2]
  rw [e, a2] at a1
  injection a1 with a1
  exact a1.symm

theorem sameTexts {A A' : Option Addr} {n c n' c' : Nat} {l l' : List ByteArray} (w : World) (h : Row Shape.str w (Old w) A n l) (h' : Row Shape.str w (Old w) A' n' l') (hn : n ≤ 140737488355328) (hn' : n' ≤ 140737488355328) :
    Calls Tryd.prog 20 #[.slice A n c, .slice A' n' c'] w fun e w' => e = .returned (.bool (decide (l = l'))) ∧ ∃ δ, w' = over w δ := by
  have hl := h.1
  have hl' := h'.1
  by_cases hnn : n = n'
  · subst hnn
    have HL := Lib.hid hl; have HL' := Lib.hid hl'; clear hl hl'
    have hb0 : ((n : Int) != n) = false := by simp
    go_enter Tryd.func20, Tryd.ntmps20
    go_wp2_with fail
    go_loopw [5] (fun i wr => ∃ k : Nat, k ≤ n ∧ i = .int .i64 k ∧ l.take k = l'.take k ∧ Below w.heap.size w wr) (fun i _ => n - (intOf i).toNat)
    case atStart => exact ⟨0, Nat.zero_le _, rfl, by simp, Below.refl _ _⟩
    case round =>
      obtain ⟨k, hk, rfl, htake, hbel⟩ := hrel
      have HT := Lib.hid htake; clear htake
      by_cases hlt : k < n
      · obtain ⟨b, off, es, hkl, rfl, hb, hc, hr⟩ := h.at_ hlt
        obtain ⟨b', off', es', hkl', rfl, hb', hc', hr'⟩ := h'.at_ (i := k) (by omega)
        have c0 := hc 0 (by decide)
        have c0' := hc' 0 (by decide)
        obtain ⟨hr, -⟩ := hr
        obtain ⟨hr', -⟩ := hr'
        subst hr hr'
        have e13 : Shape.str.size = 1 := rfl
        simp only [e13, Nat.mul_one, Nat.add_zero, List.getElem?_cons_zero] at c0 c0'
        clear e13
        rw [← hbel.cell (p := ⟨b, off + k, none⟩) hb] at c0
        rw [← hbel.cell (p := ⟨b', off' + k, none⟩) hb'] at c0'
        have hb2 := Nat.lt_of_lt_of_le hb hbel.size
        have hb2' := Nat.lt_of_lt_of_le hb' hbel.size
        have hks : (k : Int) < n := by omega
        skip
        clear hc hc'
        by_cases heq : l[k] = l'[k]
        · have hne := str_eq' heq
          have HE := Lib.hid heq; clear heq
          go_wp2
          refine wp_region_over (by kernel_rfl) (by kernel_rfl) ?_
          repeat (go_big_quiet_step (fail))
          refine wpQuiet_nil ?_
          rintro _ ⟨δ', rfl⟩
          go_wp2
          go_roundw
          case rel =>
            refine ⟨k + 1, by omega, by go_num, ?_, below_trans_over hbel hbel.size _⟩
            rw [List.take_succ_eq_append_getElem hkl, List.take_succ_eq_append_getElem hkl', HT.out, HE.out]
          case measure => simp [intOf]; omega
        · have hne := str_ne heq
          have HE := Lib.hid heq; clear heq
          go_wp2
          refine wp_region_over (by kernel_rfl) (by kernel_rfl) ?_
          repeat (go_big_quiet_step (fail))
          refine wpQuiet_nil ?_
          rintro _ ⟨δ', rfl⟩
          go_wp2
          go_ret
          refine ⟨ret_bool ?_, exists_over (below_trans_over hbel hbel.size _)⟩
          rw [eq_comm, decide_eq_false_iff_not]
          intro e
          apply HE.out
          simp only [e]
      · go_wp2
        go_ret
        refine ⟨ret_bool ?_, exists_over hbel⟩
        rw [eq_comm, decide_eq_true_iff]
        have h1 := HT.out
        have hkn : k = n := by omega
        subst hkn
        rw [List.take_of_length_le (by rw [HL.out]; omega), List.take_of_length_le (by rw [HL'.out]; omega)] at h1
        exact h1
  · have hb0 : ((n : Int) != n') = true := by simp; omega
    have e : (decide (l = l')) = false := by rw [decide_eq_false_iff_not]; rintro rfl; omega
    have E := Lib.hid e; clear e hl hl' hnn
    go_enter Tryd.func20, Tryd.ntmps20
    go_wp2_with fail
    go_ret
    exact ⟨ret_bool E.out.symm, exists_over (Below.refl _ _)⟩

theorem equalTexts {A A' : Option Addr} {n c n' c' : Nat} {l l' : List ByteArray} (w : World) (h : Row Shape.str w (Old w) A n l) (h' : Row Shape.str w (Old w) A' n' l') (hn : n ≤ 140737488355328) (hn' : n' ≤ 140737488355328) :
    Calls Tryd.prog 41 #[.slice A n c, .slice A' n' c'] w fun e w' => e = .returned (.bool (decide (l = l'))) ∧ ∃ δ, w' = over w δ := by
  have hl := h.1
  have hl' := h'.1
  by_cases hnn : n = n'
  · subst hnn
    have HL := Lib.hid hl; have HL' := Lib.hid hl'; clear hl hl'
    have hb0 : ((n : Int) != n) = false := by simp
    go_enter Tryd.func41, Tryd.ntmps41
    go_wp2_with fail
    go_loopw [5, 13] (fun t i wr => ∃ k : Nat, k ≤ n ∧ i = .int .i64 k ∧ l.take k = l'.take k ∧ Below w.heap.size w wr) (fun t i _ => n - (intOf i).toNat)
    case atStart => exact ⟨0, Nat.zero_le _, rfl, by simp, Below.refl _ _⟩
    case round =>
      obtain ⟨k, hk, rfl, htake, hbel⟩ := hrel
      have HT := Lib.hid htake; clear htake
      by_cases hlt : k < n
      · obtain ⟨b, off, es, hkl, rfl, hb, hc, hr⟩ := h.at_ hlt
        obtain ⟨b', off', es', hkl', rfl, hb', hc', hr'⟩ := h'.at_ (i := k) (by omega)
        have c0 := hc 0 (by decide)
        have c0' := hc' 0 (by decide)
        obtain ⟨hr, -⟩ := hr
        obtain ⟨hr', -⟩ := hr'
        subst hr hr'
        have e13 : Shape.str.size = 1 := rfl
        simp only [e13, Nat.mul_one, Nat.add_zero, List.getElem?_cons_zero] at c0 c0'
        clear e13
        rw [← hbel.cell (p := ⟨b, off + k, none⟩) hb] at c0
        rw [← hbel.cell (p := ⟨b', off' + k, none⟩) hb'] at c0'
        have hb2 := Nat.lt_of_lt_of_le hb hbel.size
        have hb2' := Nat.lt_of_lt_of_le hb' hbel.size
        have hks : (k : Int) < n := by omega
        skip
        clear hc hc'
        by_cases heq : l[k] = l'[k]
        · have hne := str_eq' heq
          have HE := Lib.hid heq; clear heq
          go_wp2
          refine wp_region_over (by kernel_rfl) (by kernel_rfl) ?_
          repeat (go_big_quiet_step (fail))
          refine wpQuiet_nil ?_
          rintro _ ⟨δ', rfl⟩
          go_wp2
          go_roundw
          case rel =>
            refine ⟨k + 1, by omega, by go_num, ?_, below_trans_over hbel hbel.size _⟩
            rw [List.take_succ_eq_append_getElem hkl, List.take_succ_eq_append_getElem hkl', HT.out, HE.out]
          case measure => simp [intOf]; omega
        · have hne := str_ne heq
          have HE := Lib.hid heq; clear heq
          go_wp2
          refine wp_region_over (by kernel_rfl) (by kernel_rfl) ?_
          repeat (go_big_quiet_step (fail))
          refine wpQuiet_nil ?_
          rintro _ ⟨δ', rfl⟩
          go_wp2
          go_ret
          refine ⟨ret_bool ?_, exists_over (below_trans_over hbel hbel.size _)⟩
          rw [eq_comm, decide_eq_false_iff_not]
          intro e
          apply HE.out
          simp only [e]
      · go_wp2
        go_ret
        refine ⟨ret_bool ?_, exists_over hbel⟩
        rw [eq_comm, decide_eq_true_iff]
        have h1 := HT.out
        have hkn : k = n := by omega
        subst hkn
        rw [List.take_of_length_le (by rw [HL.out]; omega), List.take_of_length_le (by rw [HL'.out]; omega)] at h1
        exact h1
  · have hb0 : ((n : Int) != n') = true := by simp; omega
    have e : (decide (l = l')) = false := by rw [decide_eq_false_iff_not]; rintro rfl; omega
    have E := Lib.hid e; clear e hl hl' hnn
    go_enter Tryd.func41, Tryd.ntmps41
    go_wp2_with fail
    go_ret
    exact ⟨ret_bool E.out.symm, exists_over (Below.refl _ _)⟩

theorem refWithin {A A' : Option Addr} {n c n' c' : Nat} {l l' : List ByteArray} (w : World) (h : Row Shape.str w (Old w) A n l) (h' : Row Shape.str w (Old w) A' n' l') (hn : n ≤ 140737488355328) (hn' : n' ≤ 140737488355328) :
    Calls Tryd.prog 38 #[.slice A n c, .slice A' n' c'] w fun e w' => e = .returned (.bool (within l l')) ∧ ∃ δ, w' = over w δ := by
  have hl := h.1
  have hl' := h'.1
  by_cases hnn : n ≤ n'
  · skip
    have HL := Lib.hid hl; have HL' := Lib.hid hl'; clear hl hl'
    have hb0 : ¬ ((n : Int) > n') := by omega
    go_enter Tryd.func38, Tryd.ntmps38
    go_wp2_with fail
    go_loopw [5] (fun i wr => ∃ k : Nat, k ≤ n ∧ i = .int .i64 k ∧ l.take k = l'.take k ∧ Below w.heap.size w wr) (fun i _ => n - (intOf i).toNat)
    case atStart => exact ⟨0, Nat.zero_le _, rfl, by simp, Below.refl _ _⟩
    case round =>
      obtain ⟨k, hk, rfl, htake, hbel⟩ := hrel
      have HT := Lib.hid htake; clear htake
      by_cases hlt : k < n
      · obtain ⟨b, off, es, hkl, rfl, hb, hc, hr⟩ := h.at_ hlt
        obtain ⟨b', off', es', hkl', rfl, hb', hc', hr'⟩ := h'.at_ (i := k) (by omega)
        have c0 := hc 0 (by decide)
        have c0' := hc' 0 (by decide)
        obtain ⟨hr, -⟩ := hr
        obtain ⟨hr', -⟩ := hr'
        subst hr hr'
        have e13 : Shape.str.size = 1 := rfl
        simp only [e13, Nat.mul_one, Nat.add_zero, List.getElem?_cons_zero] at c0 c0'
        clear e13
        rw [← hbel.cell (p := ⟨b, off + k, none⟩) hb] at c0
        rw [← hbel.cell (p := ⟨b', off' + k, none⟩) hb'] at c0'
        have hb2 := Nat.lt_of_lt_of_le hb hbel.size
        have hb2' := Nat.lt_of_lt_of_le hb' hbel.size
        have hks : (k : Int) < n := by omega
        have hks' : (k : Int) < n' := by omega
        clear hc hc'
        by_cases heq : l[k] = l'[k]
        · have hne := str_eq' heq
          have HE := Lib.hid heq; clear heq
          go_wp2
          refine wp_region_over (by kernel_rfl) (by kernel_rfl) ?_
          repeat (go_big_quiet_step (fail))
          refine wpQuiet_nil ?_
          rintro _ ⟨δ', rfl⟩
          go_wp2
          go_roundw
          case rel =>
            refine ⟨k + 1, by omega, by go_num, ?_, below_trans_over hbel hbel.size _⟩
            rw [List.take_succ_eq_append_getElem hkl, List.take_succ_eq_append_getElem hkl', HT.out, HE.out]
          case measure => simp [intOf]; omega
        · have hne := str_ne heq
          have HE := Lib.hid heq; clear heq
          go_wp2
          refine wp_region_over (by kernel_rfl) (by kernel_rfl) ?_
          repeat (go_big_quiet_step (fail))
          refine wpQuiet_nil ?_
          rintro _ ⟨δ', rfl⟩
          go_wp2
          go_ret
          refine ⟨ret_bool ?_, exists_over (below_trans_over hbel hbel.size _)⟩
          unfold within; rw [eq_comm, decide_eq_false_iff_not]
          intro e
          exact take_succ_ne hkl' hkl (fun e => HE.out e.symm) (show k < n by omega) (by rw [HL.out] at e; rw [e, List.take_of_length_le (by rw [HL.out]; omega)])
      · go_wp2
        go_ret
        refine ⟨ret_bool ?_, exists_over hbel⟩
        unfold within; rw [eq_comm, decide_eq_true_iff]
        have h1 := HT.out
        have hkn : k = n := by omega
        subst hkn
        rw [List.take_of_length_le (by rw [HL.out]; omega)] at h1
        rw [HL.out]
        exact h1.symm
  · have hb0 : ((n : Int) > n') := by omega
    have e : (within l l') = false := by exact within_short (by omega)
    have E := Lib.hid e; clear e hl hl' hnn
    go_enter Tryd.func38, Tryd.ntmps38
    go_wp2_with fail
    go_ret
    exact ⟨ret_bool E.out.symm, exists_over (Below.refl _ _)⟩

theorem copyTexts {A : Option Addr} {n c : Nat} {l : List ByteArray} (w : World) (h : Row Shape.str w (Old w) A n l) (hn : n ≤ 1000000000000) :
    Calls Tryd.prog 11 #[.slice A n c] w fun e w' => ∃ v δ, e = .returned v ∧ w' = over w δ ∧ Own Shape.str 9 w' w.heap.size (fun _ => False) v l := by
  have hs := (Row.src (h.keep (Keeps.old_alloc w (.cells #[] 9)))).flat (M' := fun _ => False) flat_str
  have hl := Nat.le_of_eq h.1
  go_enter Tryd.func11, Tryd.ntmps11
  go_wp2_with (first
    | (at_builtin
       refine wpList_append_list (v := .slice (some ⟨w.heap.size, 0, none⟩) 0 0) rfl (.tmp 5) (.tmp 6) _ rfl elem_str rfl (Own.made Shape.str _ w _ (Nat.le_refl _)) rfl hs (fun _ h => h.elim) ?_ ?_ ?_ ?_
       · simp; omega
       · simp [maxLen]; omega
       · simp
       intro v' w1 hown hg hat))
  go_ret
  have hb : Below w.heap.size w w1 := ((Below.refl _ _).alloc (Nat.le_refl _) _).grown hg (by simp) (by simp [Value.ownBlock])
  have e := over_of_below hb
  rw [e] at hown ⊢
  exact ⟨v', _, rfl, rfl, by simpa using hown⟩

end Go.Proofs.YtdmpdinaineiiaaDoor
