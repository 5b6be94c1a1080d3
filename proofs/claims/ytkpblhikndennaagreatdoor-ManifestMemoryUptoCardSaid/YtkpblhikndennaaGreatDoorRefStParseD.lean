/- The reference's Parse of a time, not below nought, without a dot: what it answers. No condition but room. -/
import Derived.Test.YtkpblhikndennaaGreatDoorRefPP
namespace Go.Proofs.YtkpblhikndennaaGreatDoor
open Go.RowKit
set_option linter.unusedVariables false
set_option linter.unusedSimpArgs false
attribute [local go_sem] cell?_over frozen?_over lt_over le_over
set_option maxHeartbeats 4000000 in
set_option maxRecDepth 100000 in
theorem refParse_pos_nodot (s : ByteArray) (w : World) (hs : s.size ≤ 64) (hpos : 0 < s.size) (hneg : stNeg s.data.toList = false) (hsd : stDot s.data.toList = false) :
    Calls Tryz.prog 57 #[.string s] w fun e w' => e = .returned (.tuple #[.agg #[.int .i64 (stS s.data.toList), .int .i64 (stN s.data.toList)], .int .i64 (stErr s.data.toList)]) ∧ Below w.heap.size w w' := by
  have hs64 : ¬ (64 : Int) < s.size := by omega
  have hpos2 : (0 : Int) < s.size := by omega
  have h45 : ((s[0].toNat : Int) == 45) = false := by rw [← neg_first hpos]; exact hneg
  have HB : Hid (s.data.toList = stBody s.data.toList) := Lib.hid (by unfold stBody; rw [hneg]; rfl)
  have HN := Lib.hid hneg
  have HSD := Lib.hid hsd
  clear hneg hsd
  have HDB : Hid (stDot s.data.toList = decide (dotAt (stBody s.data.toList) < (stBody s.data.toList).length)) := Lib.hid rfl
  go_enter Tryz.func57, Tryz.ntmps57
  go_wp2_with fail
  have hBl : s.data.toList.length = s.size := len_data s
  have hBs : s.size ≤ 64 := by omega
  have hbl2 : (stBody s.data.toList).length = s.size := (congrArg List.length HB.out).symm.trans hBl
  have HD := Lib.hid (show dotAt (stBody s.data.toList) ≤ s.size by have := dotAt_le (stBody s.data.toList); omega)
  have HL2 := Lib.hid hbl2
  clear hbl2
  have HBd := Lib.hid (congrArg dotAt HB.out)
  have HWh : Hid (s.extract 0 (dotAt (stBody s.data.toList)) = ⟨(stWhole s.data.toList).toArray⟩) := Lib.hid (take_str HB.out _)
  have HPt : Hid (s.extract (dotAt (stBody s.data.toList) + 1) s.size = ⟨(stPart s.data.toList).toArray⟩) := Lib.hid (drop_str HB.out _)
  have HBL : Hid (s.data.toList.length = s.size) := Lib.hid hBl
  have HA := Lib.hid (below_alloc' w (.cells #[.int .i64 0, .int .i64 0] 43))
  have HBk := Lib.hid (Blk.new w 43 #[.int .i64 0, .int .i64 0])
  clear hBl
  generalize w.alloc (.cells #[.int .i64 0, .int .i64 0] 43) = wa at *
  go_loopw [5] (fun i wr => ∃ k : Nat, k ≤ dotAt (stBody s.data.toList) ∧ i = .int .i64 k ∧ wr = wa) (fun i _ => dotAt (stBody s.data.toList) - (intOf i).toNat)
  case atStart => exact ⟨0, Nat.zero_le _, rfl, rfl⟩
  case round =>
    obtain ⟨k, hk, rfl, rfl⟩ := hrel
    by_cases hlt : k < dotAt (stBody s.data.toList)
    · have hkB : k < s.size := Nat.lt_of_lt_of_le hlt HD.out
      have hkB2 : (k : Int) < s.size := by omega
      have hne : (((s[k].toNat : Nat) : Int) != 46) = true := by
        have h1 : s.data.toList[k]'(by rw [HBL.out]; exact hkB) ≠ 46 := by
          have : k < dotAt s.data.toList := by rw [HBd.out]; exact hlt
          exact dot_lt _ this
        have h2 : s[k] ≠ 46 := h1
        have h3 : s[k].toNat ≠ 46 := fun h => h2 (by apply UInt8.toNat_inj.1; exact h)
        simp; omega
      go_wp2_with fail
      go_roundw
      case rel => exact ⟨k + 1, by omega, by go_num, trivial⟩
      case measure => simp [intOf]; omega
    · obtain rfl : k = dotAt (stBody s.data.toList) := by omega
      have hlw := whole_len s
      have hlp := part_len s
      have hdot : ¬ dotAt (stBody s.data.toList) < s.size := by
        have h := HDB.out
        rw [HSD.out] at h
        have h2 := of_decide_eq_false h.symm
        rw [HL2.out] at h2
        exact h2
      have hkB2 : ¬ (dotAt (stBody s.data.toList) : Int) < s.size := by omega
      have HNB := Lib.hid (show (stDot s.data.toList && !allDig (stPart s.data.toList)) = false by rw [HSD.out]; rfl)
      have HP0 : Hid (stPart s.data.toList = []) := Lib.hid (by
        unfold stPart
        refine List.drop_eq_nil_of_le ?_
        rw [HL2.out]; omega)
      have HPE : Hid ((ByteArray.mk #[]) = ⟨(stPart s.data.toList).toArray⟩) := Lib.hid (by rw [HP0.out])
      go_wp2_with fail
      rw [HWh.out]
      refine (refDigits' _ _ (by omega)).mono ?_
      rintro e w2 ⟨rfl, rfl⟩
      obtain ⟨W, hW⟩ : ∃ W, W = ByteArray.mk (stWhole s.data.toList).toArray := ⟨_, rfl⟩
      have hWd : W.data.toList = stWhole s.data.toList := by rw [hW]
      have hWs : W.size = (stWhole s.data.toList).length := by rw [hW]; simp [ByteArray.size]
      rw [← hW]
      have HWd := Lib.hid hWd; have HWs := Lib.hid hWs
      have hW64 : W.size ≤ 64 := by omega
      clear hW hWd hWs HWh
      cases hw : allDig (stWhole s.data.toList)
      · have HS := Lib.hid (st_bad (l := s.data.toList) (by rw [len_data]; omega) (by unfold stBad; rw [hw]; simp))
        clear hw
        go_wp2_with (first | (refine wpList_store_blk rfl 43 (.tmp 2) (.tmp 70) rfl _ rfl HBk.out rfl (by kernel_rfl) rfl rfl ?_; intro u2 b3 hg3; replace HBk := Lib.hid b3; replace HA := Lib.hid (HA.out.grown hg3 HA.out.size (fun k hk => by injection hk with hk; omega)); clear b3 hg3))
        refine ret_blk_tmp rfl rfl HBk.out whole_TimeD rfl rfl ⟨?_, HA.out⟩
        rw [HS.out.1, HS.out.2.1, HS.out.2.2]
        rfl
      have hn0 := (allDig_parts hw).1
      have hWp : 0 < W.size := by rw [HWs.out]; exact List.length_pos_iff.2 hn0
      have hWp2 : (0 : Int) < W.size := by omega
      have hh0 : (stWhole s.data.toList).head? = some (W[0]'hWp) := by
        rw [← HWd.out, List.head?_eq_getElem?, List.getElem?_eq_getElem (by rw [HWd.out, ← HWs.out]; exact hWp)]; rfl
      have HW := Lib.hid hw
      clear hw hn0
      by_cases hz : 1 < (stWhole s.data.toList).length ∧ (stWhole s.data.toList).head? = some 48
      · have HS := Lib.hid (st_bad (l := s.data.toList) (by rw [len_data]; omega) (by unfold stBad; rw [HW.out]; simp [hz.1, hz.2]))
        have e1 : (1 : Int) < W.size := by rw [HWs.out]; omega
        have e2 : (((W[0].toNat : Nat) : Int) == 48) = true := by
          have := hz.2; rw [hh0] at this; injection this with this; rw [this]; rfl
        clear hz hh0
        go_wp2_with (first | (refine wpList_store_blk rfl 43 (.tmp 2) (.tmp 70) rfl _ rfl HBk.out rfl (by kernel_rfl) rfl rfl ?_; intro u2 b3 hg3; replace HBk := Lib.hid b3; replace HA := Lib.hid (HA.out.grown hg3 HA.out.size (fun k hk => by injection hk with hk; omega)); clear b3 hg3))
        refine ret_blk_tmp rfl rfl HBk.out whole_TimeD rfl rfl ⟨?_, HA.out⟩
        rw [HS.out.1, HS.out.2.1, HS.out.2.2]
        rfl
      have hcase : (¬ (1 : Int) < W.size) ∨ ((1 : Int) < W.size ∧ (((W[0].toNat : Nat) : Int) == 48) = false) := by
        by_cases h2 : 1 < W.size
        · refine .inr ⟨by omega, ?_⟩
          have h1 : W[0] ≠ 48 := fun h => hz ⟨by rw [← HWs.out]; exact h2, by rw [hh0, h]⟩
          have : W[0].toNat ≠ 48 := fun h => h1 (by apply UInt8.toNat_inj.1; exact h)
          rw [beq_eq_false_iff_ne]; omega
        · exact .inl (by omega)
      by_cases h15 : 15 < W.size
      · have hbig : 1099511627776 < dval (stWhole s.data.toList) := whole_big HW.out hz (by rw [← HWs.out]; omega)
        have HS := Lib.hid (st_big (l := s.data.toList) (by rw [len_data]; omega) (bad_no HNB.out HW.out hz) hbig)
        have h152 : (15 : Int) < W.size := by omega
        clear hbig hz hh0
        rcases hcase with e1 | ⟨e1, e2⟩
        · exfalso; omega
        go_wp2_with (first | (refine wpList_store_blk rfl 43 (.tmp 2) (.tmp 74) rfl _ rfl HBk.out rfl (by kernel_rfl) rfl rfl ?_; intro u2 b3 hg3; replace HBk := Lib.hid b3; replace HA := Lib.hid (HA.out.grown hg3 HA.out.size (fun k hk => by injection hk with hk; omega)); clear b3 hg3))
        refine ret_blk_tmp rfl rfl HBk.out whole_TimeD rfl rfl ⟨?_, HA.out⟩
        rw [HS.out.1, HS.out.2.1, HS.out.2.2]
        rfl
      have hsm := whole_small HW.out (by rw [← HWs.out]; omega)
      have HBN := Lib.hid (bad_no HNB.out HW.out hz)
      have HDC : Hid (∀ w, Calls Tryz.prog 56 #[.string W] w fun e w' => e = .returned (.tuple #[.int .i64 (dval (stWhole s.data.toList) : Nat), .int .i64 0]) ∧ w' = w) := Lib.hid (fun w => by
        have h := refDecimal W w (by omega)
        obtain ⟨n1, n2⟩ := allDig_parts HW.out
        obtain ⟨e1, e2⟩ := dec_ok (l := stWhole s.data.toList) (bad_not n1 hz n2) (by omega)
        rw [HWd.out, e1, e2] at h
        exact h)
      have h152 : ¬ (15 : Int) < W.size := by omega
      clear hz hh0
      rw [HPE.out]
      have hPd : (ByteArray.mk (stPart s.data.toList).toArray).data.toList = stPart s.data.toList := rfl
      have hPs : (ByteArray.mk (stPart s.data.toList).toArray).size = (stPart s.data.toList).length := by simp [ByteArray.size]
      clear HPE HPt
      generalize ByteArray.mk (stPart s.data.toList).toArray = P at *
      have HPd := Lib.hid hPd; have HPs := Lib.hid hPs
      have hP64 : P.size ≤ 64 := by omega
      clear hPd hPs
      rcases hcase with e1 | ⟨e1, e2⟩
      all_goals
        go_wp2_with (first | (go_at_call 56; refine (HDC.out _).mono ?_; rintro e w2 ⟨rfl, rfl⟩))
        go_loopw [10, 11, 12] (fun nano rest i wr => ∃ k : Nat, k ≤ 9 + P.size ∧ i = .int .i64 k ∧ nano = .int .i64 (dval ((first9 (stPart s.data.toList)).take k) : Nat) ∧ rest = .bool ((((stPart s.data.toList).drop 9).take (k - 9)).any (· != 48)) ∧ wr = w2) (fun _ _ i _ => 9 + P.size - (intOf i).toNat)
        case atStart => exact ⟨0, Nat.zero_le _, rfl, rfl, rfl, rfl⟩
        case round =>
          obtain ⟨k, hk, rfl, rfl, rfl, rfl⟩ := hrel
          have hpd := part_dig HNB.out
          have hVb : dval ((first9 (stPart s.data.toList)).take k) < 1000000000 := Nat.lt_of_le_of_lt (dval_take _ _) (dval_first9 (first9_dig hpd))
          by_cases h9 : k < 9
          · have h92 : (k : Int) < 9 := by omega
            by_cases hP : k < P.size
            · have hP2 : (k : Int) < P.size := by omega
              have hkl : k < (stPart s.data.toList).length := by rw [← HPs.out]; exact hP
              have hPk : (stPart s.data.toList)[k] = P[k] := by
                have e := HPd.out
                simp only [← e]; rfl
              have hdg := isDig_iff.1 (List.all_eq_true.1 hpd _ (List.getElem_mem hkl))
              rw [hPk] at hdg
              have HST := Lib.hid (first9_in h9 hkl)
              rw [hPk] at HST
              clear hpd hPk
              generalize dval ((first9 (stPart s.data.toList)).take k) = V at *
              have hr0 : k - 9 = 0 := by omega
              have hr1 : k + 1 - 9 = 0 := by omega
              have HR0 := Lib.hid hr0; have HR1 := Lib.hid hr1
              clear hr0 hr1
              go_wp2_with fail
              go_roundw
              case rel => exact ⟨k + 1, by omega, by go_num, by rw [HST.out]; congr 1; omega, by rw [HR0.out, HR1.out], trivial⟩
              case measure => simp [intOf]; omega
            · have hP2 : ¬ (k : Int) < P.size := by omega
              have HST := Lib.hid (first9_out h9 (l := stPart s.data.toList) (by rw [← HPs.out]; exact hP))
              clear hpd
              generalize dval ((first9 (stPart s.data.toList)).take k) = V at *
              have HR0 := Lib.hid (show k - 9 = 0 by omega); have HR1 := Lib.hid (show k + 1 - 9 = 0 by omega)
              go_wp2_with fail
              go_roundw
              case rel => exact ⟨k + 1, by omega, by go_num, by rw [HST.out]; congr 1, by rw [HR0.out, HR1.out], trivial⟩
              case measure => simp [intOf]; omega
          · have h92 : ¬ (k : Int) < 9 := by omega
            have h9l := first9_len (stPart s.data.toList)
            have HF1 := Lib.hid (show (first9 (stPart s.data.toList)).take (k + 1) = (first9 (stPart s.data.toList)).take k by rw [List.take_of_length_le (by omega), List.take_of_length_le (by omega)])
            by_cases hP : k < P.size
            · have hP2 : (k : Int) < P.size := by omega
              have hkl : k < (stPart s.data.toList).length := by rw [← HPs.out]; exact hP
              have hPk : (stPart s.data.toList)[k] = P[k] := by
                have e := HPd.out
                simp only [← e]; rfl
              have hdg := isDig_iff.1 (List.all_eq_true.1 hpd _ (List.getElem_mem hkl))
              have HUP := Lib.hid (up_step (l := stPart s.data.toList) (by omega : 9 ≤ k) hkl)
              rw [hPk] at hdg HUP
              clear hpd hPk
              by_cases hz0 : P[k] = 48
              · have hz1 : (((P[k].toNat : Nat) : Int) - 48 != 0) = false := by rw [hz0]; rfl
                have HZ := Lib.hid hz0
                clear hz0
                go_wp2_with fail
                go_roundw
                case rel => exact ⟨k + 1, by omega, by go_num, by rw [HF1.out], by rw [HUP.out, HZ.out]; simp, trivial⟩
                case measure => simp [intOf]; omega
              · have hz2 : P[k].toNat ≠ 48 := fun e => hz0 (by apply UInt8.toNat_inj.1; exact e)
                have hz1 : (((P[k].toNat : Nat) : Int) - 48 != 0) = true := by simp; omega
                have HZ : Hid ((P[k] != 48) = true) := Lib.hid (by simpa using hz0)
                clear hz0
                go_wp2_with fail
                go_roundw
                case rel => exact ⟨k + 1, by omega, by go_num, by rw [HF1.out], by rw [HUP.out, HZ.out]; simp, trivial⟩
                case measure => simp [intOf]; omega
            · have hP2 : ¬ (k : Int) < P.size := by omega
              have he1 : (first9 (stPart s.data.toList)).take k = first9 (stPart s.data.toList) := List.take_of_length_le (by omega)
              have he2 : (((stPart s.data.toList).drop 9).take (k - 9)).any (· != 48) = stUp s.data.toList := by
                unfold stUp
                rw [List.take_of_length_le (by rw [List.length_drop, ← HPs.out]; omega)]
              rw [he1, he2]
              rw [he1] at hVb
              clear he1 he2 hpd HF1
              have e1 : stSecV s.data.toList = ((dval (stWhole s.data.toList) : Nat) : Int) := by unfold stSecV; rw [HN.out]; rfl
              have e2 : stNanoV s.data.toList = ((dval (first9 (stPart s.data.toList)) : Nat) : Int) := by unfold stNanoV stNan; rw [HN.out]; simp
              have E1 := Lib.hid e1; have E2 := Lib.hid e2
              clear e1 e2
              generalize dval (first9 (stPart s.data.toList)) = N9 at *
              generalize dval (stWhole s.data.toList) = V9 at *
              go_wp2_with (first | (refine wpList_store_blk rfl 43 (.tmp 14) (.tmp 109) rfl _ rfl (Blk.new _ _ _) rfl (size_time rfl) rfl (two_ones .i64 _ _) ?_; intro u2 b3 hg3; have HT := Lib.hid (show Blk u2 _ _ #[.int .i64 (V9 : Int), .int .i64 (N9 : Int)] from b3); replace HBk := Lib.hid ((HBk.out.alloc _).grown hg3 (fun e => by injection e with e; have := HBk.out.lt; omega)); replace HA := Lib.hid ((HA.out.alloc HA.out.size _).grown hg3 (by have := HA.out.size; simp; omega) (fun k hk => by injection hk with hk; have := HA.out.size; omega)); clear b3 hg3; refine StopP.mk ?_))
              unfold StopP
              have hoks : stampOk (V9 : Int) (N9 : Int) = true ∨ stampOk (V9 : Int) (N9 : Int) = false := by cases stampOk (V9 : Int) (N9 : Int) <;> simp
              rcases hoks with hok | hok
              · have HOK := Lib.hid hok
                clear hok
                have HS := Lib.hid (st_ok (l := s.data.toList) (by rw [len_data]; omega) HBN.out (by rw [ok_same', E1.out, E2.out]; exact HOK.out))
                go_wp2_with (first | (go_at_call 72; refine (refValid _ _ _).mono ?_; rintro e w6 ⟨rfl, hb3⟩; rw [HOK.out]; replace HT := Lib.hid (HT.out.below hb3 HT.out.lt); replace HBk := Lib.hid (HBk.out.below hb3 HBk.out.lt); replace HA := Lib.hid (HA.out.trans (hb3.mono HA.out.size)); clear hb3) | (refine wpList_load_blk rfl 43 (.tmp 14) rfl _ rfl HT.out whole_TimeD ?_) | (refine wpList_store_blk rfl 43 (.tmp 2) (.tmp 129) rfl _ rfl HBk.out rfl (by kernel_rfl) rfl rfl ?_; intro u2 b3 hg3; replace HBk := Lib.hid b3; replace HA := Lib.hid (HA.out.grown hg3 HA.out.size (fun k hk => by injection hk with hk; omega)); clear b3 hg3))
                refine ret_blk_tmp rfl rfl HBk.out whole_TimeD rfl rfl ⟨?_, HA.out⟩
                rw [HS.out.1, HS.out.2.1, HS.out.2.2, E1.out, E2.out]
                rfl
              · have HOK := Lib.hid hok
                clear hok
                have HS := Lib.hid (st_no (l := s.data.toList) (by rw [len_data]; omega) HBN.out (by rw [ok_same', E1.out, E2.out]; exact HOK.out))
                go_wp2_with (first | (go_at_call 72; refine (refValid _ _ _).mono ?_; rintro e w6 ⟨rfl, hb3⟩; rw [HOK.out]; replace HT := Lib.hid (HT.out.below hb3 HT.out.lt); replace HBk := Lib.hid (HBk.out.below hb3 HBk.out.lt); replace HA := Lib.hid (HA.out.trans (hb3.mono HA.out.size)); clear hb3) | (refine wpList_load_blk rfl 43 (.tmp 14) rfl _ rfl HT.out whole_TimeD ?_) | (refine wpList_store_blk rfl 43 (.tmp 2) (.tmp 128) rfl _ rfl HBk.out rfl (by kernel_rfl) rfl rfl ?_; intro u2 b3 hg3; replace HBk := Lib.hid b3; replace HA := Lib.hid (HA.out.grown hg3 HA.out.size (fun k hk => by injection hk with hk; omega)); clear b3 hg3))
                refine ret_blk_tmp rfl rfl HBk.out whole_TimeD rfl rfl ⟨?_, HA.out⟩
                rw [HS.out.1, HS.out.2.1, HS.out.2.2]
                rfl
end Go.Proofs.YtkpblhikndennaaGreatDoor
