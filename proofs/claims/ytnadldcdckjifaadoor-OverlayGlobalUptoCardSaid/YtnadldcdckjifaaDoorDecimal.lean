/- numeral.Decimal: what it answers. No condition but room and what the library's variables hold. -/
import Derived.Test.YtnadldcdckjifaaDoorParseLib
namespace Go.Proofs.YtnadldcdckjifaaDoor
open Go.RowKit
set_option linter.unusedVariables false
set_option linter.unusedSimpArgs false
set_option maxHeartbeats 1000000 in
set_option maxRecDepth 100000 in
theorem decimal (s : ByteArray) (w : World) (hs : s.size ≤ 140737488355328) (hv : ErrRangeOk w) :
    Calls Tryd.prog 27 #[.string s] w fun e w' => e = .returned (.tuple #[.int .i64 (decV s.data.toList), .int .i64 (decErr s.data.toList)]) ∧ Below w.heap.size w w' := by
  have HL := Lib.hid (len_data s)
  by_cases h0 : s.data.toList = []
  · have HB := Lib.hid (dec_bad (l := s.data.toList) (by rw [h0]; rfl))
    have he : s.toList.isEmpty = true := by rw [empty_data, h0]; rfl
    clear h0
    go_enter Tryd.func27, Tryd.ntmps27
    go_wp2_with fail
    go_ret2
    refine ⟨?_, Below.refl _ _⟩; rw [HB.out.1, HB.out.2]; rfl
  have he : s.toList.isEmpty = false := by rw [empty_data]; cases hx : s.data.toList with | nil => exact absurd hx h0 | cons => rfl
  have hpos : 0 < s.size := by rw [← HL.out]; exact List.length_pos_iff.2 h0
  have hpos2 : (0 : Int) < s.size := by omega
  have hh0 : s.data.toList.head? = some s[0] := by
    rw [List.head?_eq_getElem?, List.getElem?_eq_getElem (by rw [HL.out]; exact hpos)]; rfl
  by_cases hb2 : 1 < s.data.toList.length ∧ s.data.toList.head? = some 48
  · have h1 : s[0] = 48 := by have := hb2.2; rw [hh0] at this; injection this
    have h2 : 1 < s.size := by rw [← HL.out]; exact hb2.1
    have HB := Lib.hid (dec_bad (l := s.data.toList) (by unfold decBad; rw [hh0, HL.out, h1]; simp [h2]))
    have e1 : ((s[0].toNat : Int) == 48) = true := by rw [h1]; rfl
    have e2 : decide ((s.size : Int) > 1) = true := by simp; omega
    clear h0 hh0 h1 hb2
    go_enter Tryd.func27, Tryd.ntmps27
    go_wp2_with fail
    go_ret2
    refine ⟨?_, Below.refl _ _⟩; rw [HB.out.1, HB.out.2]; rfl
  have hcase : (¬ 1 < s.size) ∨ (1 < s.size ∧ ((s[0].toNat : Int) == 48) = false) := by
    by_cases h2 : 1 < s.size
    · refine .inr ⟨h2, ?_⟩
      have h1 : s[0] ≠ 48 := fun h => hb2 ⟨by rw [HL.out]; exact h2, by rw [hh0, h]⟩
      have : s[0].toNat ≠ 48 := fun h => h1 (by apply UInt8.toNat_inj.1; exact h)
      rw [beq_eq_false_iff_ne]; omega
    · exact .inl h2
  have HNB : Hid (s.data.toList.all isDig = true → decBad s.data.toList = false) := Lib.hid (bad_not h0 hb2)
  have HNE := Lib.hid h0
  clear h0 hh0 hb2
  rcases hcase with e1 | ⟨e1, e2⟩
  all_goals
    go_enter Tryd.func27, Tryd.ntmps27
    go_wp2_with fail
    go_loopw [21] (fun i wr => ∃ k : Nat, k ≤ s.size ∧ i = .int .i64 k ∧ (s.data.toList.take k).all isDig = true ∧ wr = w) (fun i _ => s.size - (intOf i).toNat)
    case atStart => exact ⟨0, Nat.zero_le _, rfl, rfl, rfl⟩
    case round =>
      obtain ⟨k, hk, rfl, hd, rfl⟩ := hrel
      have HD := Lib.hid hd; clear hd
      by_cases hlt : k < s.size
      · have hlt2 : (k : Int) < s.size := by omega
        have hkl : k < s.data.toList.length := by rw [HL.out]; exact hlt
        by_cases hdg : isDig s[k] = true
        · have h2 := isDig_iff.1 hdg
          have h3 : ¬ (s[k].toNat : Int) < 48 := by omega
          have h4 : ¬ (57 : Int) < s[k].toNat := by omega
          have HT := Lib.hid (dig_take hkl HD.out hdg)
          clear hdg h2
          go_wp2_with fail
          go_roundw
          case rel => exact ⟨k + 1, by omega, by go_num, HT.out, trivial⟩
          case measure => simp [intOf]; omega
        · rw [Bool.not_eq_true] at hdg
          have HB := Lib.hid (dec_bad (bad_dig (not_dig hkl hdg)))
          by_cases h3 : (s[k].toNat : Int) < 48
          · clear hdg
            go_wp2_with fail
            go_ret2
            refine ⟨?_, Below.refl _ _⟩; rw [HB.out.1, HB.out.2]; rfl
          · have h4 : (57 : Int) < s[k].toNat := by
              have : ¬ (48 ≤ s[k].toNat ∧ s[k].toNat ≤ 57) := fun h => by rw [isDig_iff.2 h] at hdg; cases hdg
              omega
            clear hdg
            go_wp2_with fail
            go_ret2
            refine ⟨?_, Below.refl _ _⟩; rw [HB.out.1, HB.out.2]; rfl
      · have hks : ¬ (k : Int) < s.size := by omega
        have hd2 : s.data.toList.all isDig = true := by
          have := HD.out
          rwa [List.take_of_length_le (by rw [HL.out]; omega)] at this
        have HBN := Lib.hid (HNB.out hd2)
        have HPI := Lib.hid (parseInt_dig HNE.out hd2)
        clear hd2
        by_cases hbig : dval s.data.toList ≤ 9223372036854775807
        · have HB := Lib.hid (dec_ok HBN.out hbig)
          have HPC := Lib.hid (parseInt_ok s wr hs (dval s.data.toList) (by rw [HPI.out, if_pos hbig]))
          go_wp2_with (first | (go_at_call 49; refine HPC.out.mono ?_; rintro e w2 ⟨rfl, hb⟩; have HW := Lib.hid hb; clear hb))
          go_ret2
          refine ⟨?_, HW.out⟩; rw [HB.out.1, HB.out.2]; rfl
        · have HB := Lib.hid (dec_big HBN.out hbig)
          have HPC := Lib.hid (parseInt_range s wr hs (by rw [HPI.out, if_neg hbig]) hv)
          go_wp2_with (first | (go_at_call 49; refine HPC.out.mono ?_; rintro e w2 ⟨n, t, v, rfl, hb⟩; have HW := Lib.hid hb; clear hb))
          go_ret2
          refine ⟨?_, HW.out⟩; rw [HB.out.1, HB.out.2]; rfl
end Go.Proofs.YtnadldcdckjifaaDoor
