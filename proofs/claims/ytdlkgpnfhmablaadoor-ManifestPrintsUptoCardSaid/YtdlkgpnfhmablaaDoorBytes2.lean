/- Copies and comparisons of byte lists. No condition but room. -/
import Derived.Test.YtdlkgpnfhmablaaDoorDataL
import Derived.Test.YtdlkgpnfhmablaaDoorRefEsc
namespace Go.Proofs.YtdlkgpnfhmablaaDoor
open Go.RowKit
set_option linter.unusedVariables false
set_option linter.unusedSimpArgs false
attribute [local go_sem] cell?_over frozen?_over lt_over le_over

/-- so many bytes in each datum at the most -/
def SmallL (l : List LineD) : Prop := ∀ d ∈ l, d.data.length ≤ 140737488355328
theorem below_old {w wr w' : World} (h : Below w.heap.size w wr) (k : Below wr.heap.size wr w') : Below w.heap.size w w' := h.trans (k.mono h.size)
theorem str_ne {a b : ByteArray} (h : ¬ a = b) : (a.toList == b.toList) = false := by
  rw [beq_eq_false_iff_ne, ByteArray.toList_eq, ByteArray.toList_eq]
  intro e
  apply h
  cases a; cases b
  simp only [ByteArray.mk.injEq] at *
  exact Array.toList_inj.1 e
theorem line_ext {d d' : LineD} (e0 : d.path = d'.path) (e1 : d.kind = d'.kind) (e2 : d.mode = d'.mode) (e3 : d.uid = d'.uid) (e4 : d.gid = d'.gid) (e5 : d.mtime.sec = d'.mtime.sec) (e6 : d.mtime.nano = d'.mtime.nano)
    (e7 : d.target = d'.target) (e8 : d.peer = d'.peer) (e9 : d.data = d'.data) : d = d' := by
  obtain ⟨a0, a1, a2, a3, a4, ⟨a5, a6⟩, a7, a8, a9⟩ := d
  obtain ⟨b0, b1, b2, b3, b4, ⟨b5, b6⟩, b7, b8, b9⟩ := d'
  simp only at *
  subst e0 e1 e2 e3 e4 e5 e6 e7 e8 e9
  rfl
theorem copyBytes {A : Option Addr} {n c : Nat} {l : List UInt8} (w : World) (h : Row Shape.byte w (Old w) A n l) (hn : n ≤ 140737488355328) :
    Calls Tryd.prog 17 #[.slice A n c] w fun e w' => ∃ v δ, e = .returned v ∧ w' = over w δ ∧ Own Shape.byte 5 w' w.heap.size (fun _ => False) v l := by
  have hs := (Row.src (h.keep (Keeps.old_alloc w (.cells #[] 5)))).flat (M' := fun _ => False) flat_byte
  have hl := Nat.le_of_eq h.1
  go_enter Tryd.func17, Tryd.ntmps17
  go_wp2_with (first
    | (at_builtin
       refine wpList_append_list (v := .slice (some ⟨w.heap.size, 0, none⟩) 0 0) rfl (.tmp 5) (.tmp 6) _ rfl elem_byte rfl (Own.made Shape.byte _ w _ (Nat.le_refl _)) rfl hs (fun _ h => h.elim) ?_ ?_ ?_ ?_
       · simp; omega
       · simp [maxLen]; omega
       · simp
       intro v' w1 hown hg hat))
  go_ret
  have hb : Below w.heap.size w w1 := ((Below.refl _ _).alloc (Nat.le_refl _) _).grown hg (by simp) (by simp [Value.ownBlock])
  have e := over_of_below hb
  rw [e] at hown ⊢
  exact ⟨v', _, rfl, rfl, by simpa using hown⟩

/-- a loop's comparison of two byte lists, element by element -/
theorem sameBytes {A A' : Option Addr} {n c n' c' : Nat} {l l' : List UInt8} (w : World) (h : Row Shape.byte w (Old w) A n l) (h' : Row Shape.byte w (Old w) A' n' l') (hn : n ≤ 140737488355328) (hn' : n' ≤ 140737488355328) :
    Calls Tryd.prog 31 #[.slice A n c, .slice A' n' c'] w fun e w' => e = .returned (.bool (decide (l = l'))) ∧ ∃ δ, w' = over w δ := by
  have hl := h.1
  have hl' := h'.1
  by_cases hnn : n = n'
  · subst hnn
    have HL := Lib.hid hl; have HL' := Lib.hid hl'; clear hl hl'
    have hb0 : ((n : Int) != n) = false := by simp
    go_enter Tryd.func31, Tryd.ntmps31
    go_wp2_with fail
    go_loopw [5] (fun i wr => ∃ k : Nat, k ≤ n ∧ i = .int .i64 k ∧ l.take k = l'.take k ∧ Below w.heap.size w wr) (fun i _ => n - (intOf i).toNat)
    case atStart => exact ⟨0, Nat.zero_le _, rfl, by simp, Below.refl _ _⟩
    case round =>
      obtain ⟨k, hk, rfl, htake, hbel⟩ := hrel
      have HT := Lib.hid htake; clear htake
      by_cases hlt : k < n
      · obtain ⟨b, off, es, hkl, rfl, hb, hc, hr⟩ := h.at_ hlt
        obtain ⟨b', off', es', hkl', rfl, hb', hc', hr'⟩ := h'.at_ hlt
        have c0 := hc 0 (by decide)
        have c0' := hc' 0 (by decide)
        simp only [Shape.byte] at hr hr' c0 c0'
        subst hr hr'
        simp only [Nat.mul_one, Nat.add_zero, List.getElem?_cons_zero] at c0 c0'
        rw [← hbel.cell (p := ⟨b, off + k, none⟩) hb] at c0
        rw [← hbel.cell (p := ⟨b', off' + k, none⟩) hb'] at c0'
        have hb2 := Nat.lt_of_lt_of_le hb hbel.size
        have hb2' := Nat.lt_of_lt_of_le hb' hbel.size
        have hks : (k : Int) < n := by omega
        clear hc hc'
        by_cases heq : l[k] = l'[k]
        · have hne : ((l[k].toNat : Int) != (l'[k].toNat : Int)) = false := by rw [heq]; simp
          have HE := Lib.hid heq; clear heq
          go_wp2
          refine wp_region_over (by kernel_rfl) (by kernel_rfl) ?_
          repeat (go_big_quiet_step (fail))
          refine wpQuiet_nil ?_
          rintro _ ⟨δ', rfl⟩
          go_wp2
          go_roundw
          case rel =>
            refine ⟨k + 1, by omega, by go_num, ?_, below_trans_over hbel hbel.size _⟩
            rw [List.take_succ_eq_append_getElem hkl, List.take_succ_eq_append_getElem hkl', HT.out, HE.out]
          case measure => simp [intOf]; omega
        · have hne : ((l[k].toNat : Int) != (l'[k].toNat : Int)) = true := by
            simp only [bne_iff_ne, ne_eq, Int.natCast_inj]
            exact fun e => heq (UInt8.toNat_inj.1 e)
          have HE := Lib.hid heq; clear heq
          go_wp2
          refine wp_region_over (by kernel_rfl) (by kernel_rfl) ?_
          repeat (go_big_quiet_step (fail))
          refine wpQuiet_nil ?_
          rintro _ ⟨δ', rfl⟩
          go_wp2
          go_ret
          refine ⟨ret_bool ?_, exists_over (below_trans_over hbel hbel.size _)⟩
          rw [eq_comm, decide_eq_false_iff_not]
          intro e
          apply HE.out
          simp only [e]
      · go_wp2
        go_ret
        refine ⟨ret_bool ?_, exists_over hbel⟩
        rw [eq_comm, decide_eq_true_iff]
        have h1 := HT.out
        rw [List.take_of_length_le (by rw [HL.out]; omega), List.take_of_length_le (by rw [HL'.out]; omega)] at h1
        exact h1
  · have hb0 : ((n : Int) != n') = true := by simp; omega
    have e : decide (l = l') = false := by
      rw [decide_eq_false_iff_not]
      rintro rfl
      omega
    have E := Lib.hid e; clear e hl hl' hnn
    go_enter Tryd.func31, Tryd.ntmps31
    go_wp2_with fail
    go_ret
    exact ⟨ret_bool E.out.symm, exists_over (Below.refl _ _)⟩

end Go.Proofs.YtdlkgpnfhmablaaDoor
