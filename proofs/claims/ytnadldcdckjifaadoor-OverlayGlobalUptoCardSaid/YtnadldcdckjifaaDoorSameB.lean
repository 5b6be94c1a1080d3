/- The reference's comparison of two byte lists. No condition but room. -/
import Derived.Test.YtnadldcdckjifaaDoorBase
import Derived.Test.YtnadldcdckjifaaDoorElemB
namespace Go.Proofs.YtnadldcdckjifaaDoor
open Go.RowKit
set_option linter.unusedVariables false
set_option linter.unusedSimpArgs false
attribute [local go_sem] cell?_over frozen?_over lt_over le_over
/-- a loop's comparison of two byte lists, element by element -/
theorem sameBytes {A A' : Option Addr} {n c n' c' : Nat} {l l' : List UInt8} (w : World) (h : Row Shape.byte w (Old w) A n l) (h' : Row Shape.byte w (Old w) A' n' l') (hn : n ≤ 140737488355328) (hn' : n' ≤ 140737488355328) :
    Calls Tryd.prog 46 #[.slice A n c, .slice A' n' c'] w fun e w' => e = .returned (.bool (decide (l = l'))) ∧ ∃ δ, w' = over w δ := by
  have hl := h.1
  have hl' := h'.1
  by_cases hnn : n = n'
  · subst hnn
    have HL := Lib.hid hl; have HL' := Lib.hid hl'; clear hl hl'
    have hb0 : ((n : Int) != n) = false := by simp
    go_enter Tryd.func46, Tryd.ntmps46
    go_wp2_with fail
    go_loopw [5] (fun i wr => ∃ k : Nat, k ≤ n ∧ i = .int .i64 k ∧ l.take k = l'.take k ∧ Below w.heap.size w wr) (fun i _ => n - (intOf i).toNat)
    case atStart => exact ⟨0, Nat.zero_le _, rfl, by simp, Below.refl _ _⟩
    case round =>
      obtain ⟨k, hk, rfl, htake, hbel⟩ := hrel
      have HT := Lib.hid htake; clear htake
      by_cases hlt : k < n
      · obtain ⟨b, off, es, hkl, rfl, hb, hc, hr⟩ := h.at_ hlt
        obtain ⟨b', off', es', hkl', rfl, hb', hc', hr'⟩ := h'.at_ hlt
        have c0 := hc 0 (by decide)
        have c0' := hc' 0 (by decide)
        simp only [Shape.byte] at hr hr' c0 c0'
        subst hr hr'
        simp only [Nat.mul_one, Nat.add_zero, List.getElem?_cons_zero] at c0 c0'
        rw [← hbel.cell (p := ⟨b, off + k, none⟩) hb] at c0
        rw [← hbel.cell (p := ⟨b', off' + k, none⟩) hb'] at c0'
        have hb2 := Nat.lt_of_lt_of_le hb hbel.size
        have hb2' := Nat.lt_of_lt_of_le hb' hbel.size
        have hks : (k : Int) < n := by omega
        clear hc hc'
        by_cases heq : l[k] = l'[k]
        · have hne : ((l[k].toNat : Int) != (l'[k].toNat : Int)) = false := by rw [heq]; simp
          have HE := Lib.hid heq; clear heq
          go_wp2
          refine wp_region_over (by kernel_rfl) (by kernel_rfl) ?_
          repeat (go_big_quiet_step (fail))
          refine wpQuiet_nil ?_
          rintro _ ⟨δ', rfl⟩
          go_wp2
          go_roundw
          case rel =>
            refine ⟨k + 1, by omega, by go_num, ?_, below_trans_over hbel hbel.size _⟩
            rw [List.take_succ_eq_append_getElem hkl, List.take_succ_eq_append_getElem hkl', HT.out, HE.out]
          case measure => simp [intOf]; omega
        · have hne : ((l[k].toNat : Int) != (l'[k].toNat : Int)) = true := by
            simp only [bne_iff_ne, ne_eq, Int.natCast_inj]
            exact fun e => heq (UInt8.toNat_inj.1 e)
          have HE := Lib.hid heq; clear heq
          go_wp2
          refine wp_region_over (by kernel_rfl) (by kernel_rfl) ?_
          repeat (go_big_quiet_step (fail))
          refine wpQuiet_nil ?_
          rintro _ ⟨δ', rfl⟩
          go_wp2
          go_ret
          refine ⟨ret_bool ?_, exists_over (below_trans_over hbel hbel.size _)⟩
          rw [eq_comm, decide_eq_false_iff_not]
          intro e
          apply HE.out
          simp only [e]
      · go_wp2
        go_ret
        refine ⟨ret_bool ?_, exists_over hbel⟩
        rw [eq_comm, decide_eq_true_iff]
        have h1 := HT.out
        rw [List.take_of_length_le (by rw [HL.out]; omega), List.take_of_length_le (by rw [HL'.out]; omega)] at h1
        exact h1
  · have hb0 : ((n : Int) != n') = true := by simp; omega
    have e : decide (l = l') = false := by
      rw [decide_eq_false_iff_not]
      rintro rfl
      omega
    have E := Lib.hid e; clear e hl hl' hnn
    go_enter Tryd.func46, Tryd.ntmps46
    go_wp2_with fail
    go_ret
    exact ⟨ret_bool E.out.symm, exists_over (Below.refl _ _)⟩

end Go.Proofs.YtnadldcdckjifaaDoor
