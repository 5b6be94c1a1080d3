/- stamp.Parse of a text of digits in range, below nought: what it answers. No condition but room and what the library's variables hold. -/
import Derived.Test.YtfhfcipelgogjaaGreatDoorStParse2
namespace Go.Proofs.YtfhfcipelgogjaaGreatDoor
open Go.RowKit
set_option linter.unusedVariables false
set_option linter.unusedSimpArgs false
attribute [local go_sem] cell?_over frozen?_over lt_over le_over
set_option maxHeartbeats 4000000 in
set_option maxRecDepth 100000 in
theorem parse_neg0p (s : ByteArray) (w : World) (hs : s.size ≤ 64) (hm : MaxLenOk w) (hv : ErrRangeOk w) (hd : stDot s.data.toList = true) (hp : allDig (stPart s.data.toList) = true) (hw : allDig (stWhole s.data.toList) = true) (hz : ¬ (1 < (stWhole s.data.toList).length ∧ (stWhole s.data.toList).head? = some 48)) (hc : dval (stWhole s.data.toList) ≤ 1099511627776) (hneg : stNeg s.data.toList = true) (hk : (stPart s.data.toList).length ≤ 9) (hn : 0 < dval (first9 (stPart s.data.toList))) :
    Calls Tryz.prog 101 #[.string s] w fun e w' => e = .returned (.tuple #[.agg #[.int .i64 (stS s.data.toList), .int .i64 (stN s.data.toList)], .int .i64 (stErr s.data.toList)]) ∧ Below w.heap.size w w' := by
  have HBN := Lib.hid (bad_no (l := s.data.toList) (by rw [hd, hp]; rfl) hw hz)
  have HDC := Lib.hid (fun w hv => dec_good (l := stWhole s.data.toList) w (by have := whole_len s; omega) hv hw hz (by omega))
  clear hz
  have hc2 : decide (((dval (stWhole s.data.toList) : Nat) : Int) > 1099511627776) = false := by simp; omega
  have hu : stUp s.data.toList = false := by unfold stUp; rw [List.drop_eq_nil_of_le hk]; rfl
  have hnan : stNan s.data.toList = ((dval (first9 (stPart s.data.toList)) : Nat) : Int) := by unfold stNan; rw [hneg, hu]; simp
  have hpos : 0 < stNan s.data.toList := by rw [hnan]; omega
  have e1 : stSecV s.data.toList = (-((dval (stWhole s.data.toList) : Nat) : Int) - 1) := by unfold stSecV; rw [hneg, if_pos rfl, if_pos hpos]
  have e2 : stNanoV s.data.toList = (1000000000 - (((dval (first9 (stPart s.data.toList)) : Nat) : Int))) := by unfold stNanoV; rw [hneg, if_pos rfl, if_pos hpos, hnan]
  have E1 := Lib.hid e1; have E2 := Lib.hid e2
  clear e1 e2 hnan hpos hu
  have hlw := whole_len s
  have hlp := part_len s
  have HCP := Lib.hid (cutPre s)
  have HCU := Lib.hid (fun w hm => cutDot s w hs hm)
  have HM1 := Lib.hid (hm.keep (below_alloc' w (.cells #[.int .i64 0, .int .i64 0] 44)))
  have hs64 : ¬ (64 : Int) < s.size := by omega
  have hpd := part_dig (l := s.data.toList) (by rw [hd, hp]; rfl)
  have HF9 := Lib.hid (first9_dig hpd)
  have HFS := Lib.hid (first9_str (stPart s.data.toList))
  have HAT := Lib.hid (fun w => atoi9 (l := stPart s.data.toList) w HF9.out)
  have hn9 := dval_first9 (l := s.data.toList) HF9.out
  clear hpd
  go_enter Tryz.func101, Tryz.ntmps101
  go_wp2_with fail
  refine (HCP.out _).mono ?_
  rintro e w1 ⟨rfl, rfl⟩
  go_wp2_with fail
  refine (HCU.out _ HM1.out).mono ?_
  rintro e w2 ⟨rfl, hb2⟩
  obtain ⟨b1, hbw2, hsz2⟩ := blks1 hb2
  have HB := Lib.hid b1; have HW := Lib.hid hbw2
  clear hb2 b1 hbw2 hsz2
  go_wp2_with (first | (go_at_call 154; refine (allDigits' _ _ (by omega)).mono ?_; rintro e w3 ⟨rfl, hb3⟩; replace HB := Lib.hid (HB.out.below hb3 HB.out.lt); replace HW := Lib.hid (HW.out.trans (hb3.mono HW.out.size)); clear hb3) | (go_at_call 100; refine (HDC.out _ (hv.keep HW.out)).mono ?_; rintro e w3 ⟨rfl, hb3⟩; replace HB := Lib.hid (HB.out.below hb3 HB.out.lt); replace HW := Lib.hid (HW.out.trans (hb3.mono HW.out.size)); clear hb3))
  rw [HFS.out]
  refine (HAT.out _).mono ?_
  rintro e w3 ⟨rfl, hb3⟩
  replace HB := Lib.hid (HB.out.below hb3 HB.out.lt); replace HW := Lib.hid (HW.out.trans (hb3.mono HW.out.size)); clear hb3
  generalize dval (first9 (stPart s.data.toList)) = N9 at *
  generalize dval (stWhole s.data.toList) = V9 at *
  have hk2 : ¬ (9 : Int) < (stPart s.data.toList).length := by omega
  have hoks : stampOk (-(V9 : Int) - 1) (1000000000 - ((N9 : Int))) = true ∨ stampOk (-(V9 : Int) - 1) (1000000000 - ((N9 : Int))) = false := by cases stampOk (-(V9 : Int) - 1) (1000000000 - ((N9 : Int))) <;> simp
  rcases hoks with hok | hok
  · have HOK := Lib.hid hok
    clear hok
    have HS := Lib.hid (st_ok (l := s.data.toList) (by rw [len_data]; omega) HBN.out (by rw [ok_same', E1.out, E2.out]; exact HOK.out))
    go_wp2_with fail
    all_goals (try (exfalso; omega))
    refine (stampValid _ _ _).mono ?_
    rintro e w5 ⟨rfl, hb5⟩
    obtain ⟨bT, hbw5, hsz5⟩ := blks1 hb5
    replace HB := Lib.hid (HB.out.below hbw5 HB.out.lt); replace HW := Lib.hid (HW.out.trans (hbw5.mono HW.out.size))
    have kT := bT.cell
    clear hb5 hbw5
    rw [HOK.out]
    go_wp2_with (first | (refine wpList_store_blk rfl 44 (.tmp 2) (.tmp 94) rfl _ rfl HB.out rfl (by kernel_rfl) rfl rfl ?_; intro u2 b3 hg3; replace HB := Lib.hid b3; replace HW := Lib.hid (HW.out.grown hg3 HW.out.size (fun k hk => by injection hk with hk; omega)); clear b3 hg3))
    refine ret_blk_tmp rfl rfl HB.out whole_TimeD rfl rfl ⟨?_, HW.out⟩
    rw [HS.out.1, HS.out.2.1, HS.out.2.2, E1.out, E2.out]
    rfl
  · have HOK := Lib.hid hok
    clear hok
    have HS := Lib.hid (st_no (l := s.data.toList) (by rw [len_data]; omega) HBN.out (by rw [ok_same', E1.out, E2.out]; exact HOK.out))
    go_wp2_with fail
    all_goals (try (exfalso; omega))
    refine (stampValid _ _ _).mono ?_
    rintro e w5 ⟨rfl, hb5⟩
    obtain ⟨bT, hbw5, hsz5⟩ := blks1 hb5
    replace HB := Lib.hid (HB.out.below hbw5 HB.out.lt); replace HW := Lib.hid (HW.out.trans (hbw5.mono HW.out.size))
    have kT := bT.cell
    clear hb5 hbw5
    rw [HOK.out]
    go_wp2_with (first | (refine wpList_store_blk rfl 44 (.tmp 2) (.tmp 93) rfl _ rfl HB.out rfl (by kernel_rfl) rfl rfl ?_; intro u2 b3 hg3; replace HB := Lib.hid b3; replace HW := Lib.hid (HW.out.grown hg3 HW.out.size (fun k hk => by injection hk with hk; omega)); clear b3 hg3))
    refine ret_blk_tmp rfl rfl HB.out whole_TimeD rfl rfl ⟨?_, HW.out⟩
    rw [HS.out.1, HS.out.2.1, HS.out.2.2]
    rfl
set_option maxHeartbeats 4000000 in
set_option maxRecDepth 100000 in
theorem parse_neg0z (s : ByteArray) (w : World) (hs : s.size ≤ 64) (hm : MaxLenOk w) (hv : ErrRangeOk w) (hd : stDot s.data.toList = true) (hp : allDig (stPart s.data.toList) = true) (hw : allDig (stWhole s.data.toList) = true) (hz : ¬ (1 < (stWhole s.data.toList).length ∧ (stWhole s.data.toList).head? = some 48)) (hc : dval (stWhole s.data.toList) ≤ 1099511627776) (hneg : stNeg s.data.toList = true) (hk : (stPart s.data.toList).length ≤ 9) (hn : ¬ 0 < dval (first9 (stPart s.data.toList))) :
    Calls Tryz.prog 101 #[.string s] w fun e w' => e = .returned (.tuple #[.agg #[.int .i64 (stS s.data.toList), .int .i64 (stN s.data.toList)], .int .i64 (stErr s.data.toList)]) ∧ Below w.heap.size w w' := by
  have HBN := Lib.hid (bad_no (l := s.data.toList) (by rw [hd, hp]; rfl) hw hz)
  have HDC := Lib.hid (fun w hv => dec_good (l := stWhole s.data.toList) w (by have := whole_len s; omega) hv hw hz (by omega))
  clear hz
  have hc2 : decide (((dval (stWhole s.data.toList) : Nat) : Int) > 1099511627776) = false := by simp; omega
  have hu : stUp s.data.toList = false := by unfold stUp; rw [List.drop_eq_nil_of_le hk]; rfl
  have hnan : stNan s.data.toList = ((dval (first9 (stPart s.data.toList)) : Nat) : Int) := by unfold stNan; rw [hneg, hu]; simp
  have hpos : ¬ 0 < stNan s.data.toList := by rw [hnan]; omega
  have e1 : stSecV s.data.toList = (-((dval (stWhole s.data.toList) : Nat) : Int)) := by unfold stSecV; rw [hneg, if_pos rfl, if_neg hpos]
  have e2 : stNanoV s.data.toList = 0 := by unfold stNanoV; rw [hneg, if_pos rfl, if_neg hpos]
  have E1 := Lib.hid e1; have E2 := Lib.hid e2
  clear e1 e2 hnan hpos hu
  have hlw := whole_len s
  have hlp := part_len s
  have HCP := Lib.hid (cutPre s)
  have HCU := Lib.hid (fun w hm => cutDot s w hs hm)
  have HM1 := Lib.hid (hm.keep (below_alloc' w (.cells #[.int .i64 0, .int .i64 0] 44)))
  have hs64 : ¬ (64 : Int) < s.size := by omega
  have hpd := part_dig (l := s.data.toList) (by rw [hd, hp]; rfl)
  have HF9 := Lib.hid (first9_dig hpd)
  have HFS := Lib.hid (first9_str (stPart s.data.toList))
  have HAT := Lib.hid (fun w => atoi9 (l := stPart s.data.toList) w HF9.out)
  have hn9 := dval_first9 (l := s.data.toList) HF9.out
  clear hpd
  go_enter Tryz.func101, Tryz.ntmps101
  go_wp2_with fail
  refine (HCP.out _).mono ?_
  rintro e w1 ⟨rfl, rfl⟩
  go_wp2_with fail
  refine (HCU.out _ HM1.out).mono ?_
  rintro e w2 ⟨rfl, hb2⟩
  obtain ⟨b1, hbw2, hsz2⟩ := blks1 hb2
  have HB := Lib.hid b1; have HW := Lib.hid hbw2
  clear hb2 b1 hbw2 hsz2
  go_wp2_with (first | (go_at_call 154; refine (allDigits' _ _ (by omega)).mono ?_; rintro e w3 ⟨rfl, hb3⟩; replace HB := Lib.hid (HB.out.below hb3 HB.out.lt); replace HW := Lib.hid (HW.out.trans (hb3.mono HW.out.size)); clear hb3) | (go_at_call 100; refine (HDC.out _ (hv.keep HW.out)).mono ?_; rintro e w3 ⟨rfl, hb3⟩; replace HB := Lib.hid (HB.out.below hb3 HB.out.lt); replace HW := Lib.hid (HW.out.trans (hb3.mono HW.out.size)); clear hb3))
  rw [HFS.out]
  refine (HAT.out _).mono ?_
  rintro e w3 ⟨rfl, hb3⟩
  replace HB := Lib.hid (HB.out.below hb3 HB.out.lt); replace HW := Lib.hid (HW.out.trans (hb3.mono HW.out.size)); clear hb3
  generalize dval (first9 (stPart s.data.toList)) = N9 at *
  generalize dval (stWhole s.data.toList) = V9 at *
  have hk2 : ¬ (9 : Int) < (stPart s.data.toList).length := by omega
  have hoks : stampOk (-(V9 : Int)) 0 = true ∨ stampOk (-(V9 : Int)) 0 = false := by cases stampOk (-(V9 : Int)) 0 <;> simp
  rcases hoks with hok | hok
  · have HOK := Lib.hid hok
    clear hok
    have HS := Lib.hid (st_ok (l := s.data.toList) (by rw [len_data]; omega) HBN.out (by rw [ok_same', E1.out, E2.out]; exact HOK.out))
    go_wp2_with fail
    all_goals (try (exfalso; omega))
    refine (stampValid _ _ _).mono ?_
    rintro e w5 ⟨rfl, hb5⟩
    obtain ⟨bT, hbw5, hsz5⟩ := blks1 hb5
    replace HB := Lib.hid (HB.out.below hbw5 HB.out.lt); replace HW := Lib.hid (HW.out.trans (hbw5.mono HW.out.size))
    have kT := bT.cell
    clear hb5 hbw5
    rw [HOK.out]
    go_wp2_with (first | (refine wpList_store_blk rfl 44 (.tmp 2) (.tmp 94) rfl _ rfl HB.out rfl (by kernel_rfl) rfl rfl ?_; intro u2 b3 hg3; replace HB := Lib.hid b3; replace HW := Lib.hid (HW.out.grown hg3 HW.out.size (fun k hk => by injection hk with hk; omega)); clear b3 hg3))
    refine ret_blk_tmp rfl rfl HB.out whole_TimeD rfl rfl ⟨?_, HW.out⟩
    rw [HS.out.1, HS.out.2.1, HS.out.2.2, E1.out, E2.out]
    rfl
  · have HOK := Lib.hid hok
    clear hok
    have HS := Lib.hid (st_no (l := s.data.toList) (by rw [len_data]; omega) HBN.out (by rw [ok_same', E1.out, E2.out]; exact HOK.out))
    go_wp2_with fail
    all_goals (try (exfalso; omega))
    refine (stampValid _ _ _).mono ?_
    rintro e w5 ⟨rfl, hb5⟩
    obtain ⟨bT, hbw5, hsz5⟩ := blks1 hb5
    replace HB := Lib.hid (HB.out.below hbw5 HB.out.lt); replace HW := Lib.hid (HW.out.trans (hbw5.mono HW.out.size))
    have kT := bT.cell
    clear hb5 hbw5
    rw [HOK.out]
    go_wp2_with (first | (refine wpList_store_blk rfl 44 (.tmp 2) (.tmp 93) rfl _ rfl HB.out rfl (by kernel_rfl) rfl rfl ?_; intro u2 b3 hg3; replace HB := Lib.hid b3; replace HW := Lib.hid (HW.out.grown hg3 HW.out.size (fun k hk => by injection hk with hk; omega)); clear b3 hg3))
    refine ret_blk_tmp rfl rfl HB.out whole_TimeD rfl rfl ⟨?_, HW.out⟩
    rw [HS.out.1, HS.out.2.1, HS.out.2.2]
    rfl
set_option maxHeartbeats 4000000 in
set_option maxRecDepth 100000 in
theorem parse_neg1p (s : ByteArray) (w : World) (hs : s.size ≤ 64) (hm : MaxLenOk w) (hv : ErrRangeOk w) (hd : stDot s.data.toList = true) (hp : allDig (stPart s.data.toList) = true) (hw : allDig (stWhole s.data.toList) = true) (hz : ¬ (1 < (stWhole s.data.toList).length ∧ (stWhole s.data.toList).head? = some 48)) (hc : dval (stWhole s.data.toList) ≤ 1099511627776) (hneg : stNeg s.data.toList = true) (hk : 9 < (stPart s.data.toList).length) (hu : stUp s.data.toList = true) :
    Calls Tryz.prog 101 #[.string s] w fun e w' => e = .returned (.tuple #[.agg #[.int .i64 (stS s.data.toList), .int .i64 (stN s.data.toList)], .int .i64 (stErr s.data.toList)]) ∧ Below w.heap.size w w' := by
  have HBN := Lib.hid (bad_no (l := s.data.toList) (by rw [hd, hp]; rfl) hw hz)
  have HDC := Lib.hid (fun w hv => dec_good (l := stWhole s.data.toList) w (by have := whole_len s; omega) hv hw hz (by omega))
  clear hz
  have hc2 : decide (((dval (stWhole s.data.toList) : Nat) : Int) > 1099511627776) = false := by simp; omega
  have hnan : stNan s.data.toList = ((dval (first9 (stPart s.data.toList)) : Nat) : Int) + 1 := by unfold stNan; rw [hneg, hu]; simp
  have hpos : 0 < stNan s.data.toList := by rw [hnan]; omega
  have e1 : stSecV s.data.toList = (-((dval (stWhole s.data.toList) : Nat) : Int) - 1) := by unfold stSecV; rw [hneg, if_pos rfl, if_pos hpos]
  have e2 : stNanoV s.data.toList = (1000000000 - (((dval (first9 (stPart s.data.toList)) : Nat) : Int) + 1)) := by unfold stNanoV; rw [hneg, if_pos rfl, if_pos hpos, hnan]
  have E1 := Lib.hid e1; have E2 := Lib.hid e2
  have hup : (Lib.trimS ((stPart s.data.toList).drop 9) [48]).isEmpty = false := by rw [up_trim]; unfold stUp at hu; rw [hu]; rfl
  have HUP := Lib.hid hup
  clear hup
  clear e1 e2 hnan hpos hu
  have hlw := whole_len s
  have hlp := part_len s
  have HCP := Lib.hid (cutPre s)
  have HCU := Lib.hid (fun w hm => cutDot s w hs hm)
  have HM1 := Lib.hid (hm.keep (below_alloc' w (.cells #[.int .i64 0, .int .i64 0] 44)))
  have hs64 : ¬ (64 : Int) < s.size := by omega
  have hpd := part_dig (l := s.data.toList) (by rw [hd, hp]; rfl)
  have HF9 := Lib.hid (first9_dig hpd)
  have HFS := Lib.hid (first9_str (stPart s.data.toList))
  have HAT := Lib.hid (fun w => atoi9 (l := stPart s.data.toList) w HF9.out)
  have hn9 := dval_first9 (l := s.data.toList) HF9.out
  clear hpd
  go_enter Tryz.func101, Tryz.ntmps101
  go_wp2_with fail
  refine (HCP.out _).mono ?_
  rintro e w1 ⟨rfl, rfl⟩
  go_wp2_with fail
  refine (HCU.out _ HM1.out).mono ?_
  rintro e w2 ⟨rfl, hb2⟩
  obtain ⟨b1, hbw2, hsz2⟩ := blks1 hb2
  have HB := Lib.hid b1; have HW := Lib.hid hbw2
  clear hb2 b1 hbw2 hsz2
  go_wp2_with (first | (go_at_call 154; refine (allDigits' _ _ (by omega)).mono ?_; rintro e w3 ⟨rfl, hb3⟩; replace HB := Lib.hid (HB.out.below hb3 HB.out.lt); replace HW := Lib.hid (HW.out.trans (hb3.mono HW.out.size)); clear hb3) | (go_at_call 100; refine (HDC.out _ (hv.keep HW.out)).mono ?_; rintro e w3 ⟨rfl, hb3⟩; replace HB := Lib.hid (HB.out.below hb3 HB.out.lt); replace HW := Lib.hid (HW.out.trans (hb3.mono HW.out.size)); clear hb3))
  rw [HFS.out]
  refine (HAT.out _).mono ?_
  rintro e w3 ⟨rfl, hb3⟩
  replace HB := Lib.hid (HB.out.below hb3 HB.out.lt); replace HW := Lib.hid (HW.out.trans (hb3.mono HW.out.size)); clear hb3
  generalize dval (first9 (stPart s.data.toList)) = N9 at *
  generalize dval (stWhole s.data.toList) = V9 at *
  have hn : decide (((N9 : Int) + 1) > 0) = true := decide_eq_true (by omega)
  have hk2 : (9 : Int) < (stPart s.data.toList).length := by omega
  have hlt3 := HB.out.lt
  go_wp2_with fail
  rw [drop9_str]
  refine (trim0 _ (by omega)).mono ?_
  rintro e w5 ⟨rfl, hb5⟩
  have hup := HUP.out
  obtain ⟨bT, hbw5, hsz5⟩ := blks1 hb5
  replace HB := Lib.hid (HB.out.below hbw5 HB.out.lt); replace HW := Lib.hid (HW.out.trans (hbw5.mono HW.out.size))
  have HT := Lib.hid bT
  clear hb5 hbw5 bT
  have hoks : stampOk (-(V9 : Int) - 1) (1000000000 - ((N9 : Int) + 1)) = true ∨ stampOk (-(V9 : Int) - 1) (1000000000 - ((N9 : Int) + 1)) = false := by cases stampOk (-(V9 : Int) - 1) (1000000000 - ((N9 : Int) + 1)) <;> simp
  have hK9 : (N9 : Int) + 1 ≤ 1000000000 := by omega
  have hK8 : 1 ≤ (N9 : Int) + 1 := by omega
  rcases hoks with hok | hok
  · have HOK := Lib.hid hok
    clear hok
    have HS := Lib.hid (st_ok (l := s.data.toList) (by rw [len_data]; omega) HBN.out (by rw [ok_same', E1.out, E2.out]; exact HOK.out))
    go_wp2_with (first | (refine wpList_store_blk rfl 44 (.tmp 13) (.tmp 81) rfl _ rfl HT.out rfl (size_time rfl) rfl (two_ones .i64 _ _) ?_; intro u2 b3 hg3; replace HT := Lib.hid (show Blk u2 _ _ #[.int .i64 (-(V9 : Int)), .int .i64 0] from b3); replace HB := Lib.hid (HB.out.grown hg3 (fun e => by injection e with e; omega)); replace HW := Lib.hid (HW.out.grown hg3 HW.out.size (fun k hk => by injection hk with hk; omega)); clear b3 hg3; refine StopP.mk ?_))
    unfold StopP
    generalize (N9 : Int) + 1 = K9 at *
    go_wp2_with (first | (refine wpList_store_blk rfl 44 (.tmp 13) (.tmp 89) rfl _ rfl HT.out rfl (size_time rfl) rfl (two_ones .i64 _ _) ?_; intro u2 b3 hg3; replace HT := Lib.hid (show Blk u2 _ _ #[.int .i64 (-(V9 : Int) - 1), .int .i64 (1000000000 - K9)] from b3); replace HB := Lib.hid (HB.out.grown hg3 (fun e => by injection e with e; omega)); replace HW := Lib.hid (HW.out.grown hg3 HW.out.size (fun k hk => by injection hk with hk; omega)); clear b3 hg3) | (go_at_call 73; refine (stampValid _ _ _).mono ?_; rintro e w6 ⟨rfl, hb3⟩; rw [HOK.out]; replace HT := Lib.hid (HT.out.below hb3 HT.out.lt); replace HB := Lib.hid (HB.out.below hb3 HB.out.lt); replace HW := Lib.hid (HW.out.trans (hb3.mono HW.out.size)); clear hb3) | (refine wpList_store_blk rfl 44 (.tmp 2) (.tmp 94) rfl _ rfl HB.out rfl (by kernel_rfl) rfl rfl ?_; intro u2 b3 hg3; replace HB := Lib.hid b3; replace HW := Lib.hid (HW.out.grown hg3 HW.out.size (fun k hk => by injection hk with hk; omega)); clear b3 hg3) | (refine wpList_load_blk rfl 44 (.tmp 13) rfl _ rfl HT.out whole_TimeD ?_))
    refine ret_blk_tmp rfl rfl HB.out whole_TimeD rfl rfl ⟨?_, HW.out⟩
    rw [HS.out.1, HS.out.2.1, HS.out.2.2, E1.out, E2.out]
    rfl
  · have HOK := Lib.hid hok
    clear hok
    have HS := Lib.hid (st_no (l := s.data.toList) (by rw [len_data]; omega) HBN.out (by rw [ok_same', E1.out, E2.out]; exact HOK.out))
    go_wp2_with (first | (refine wpList_store_blk rfl 44 (.tmp 13) (.tmp 81) rfl _ rfl HT.out rfl (size_time rfl) rfl (two_ones .i64 _ _) ?_; intro u2 b3 hg3; replace HT := Lib.hid (show Blk u2 _ _ #[.int .i64 (-(V9 : Int)), .int .i64 0] from b3); replace HB := Lib.hid (HB.out.grown hg3 (fun e => by injection e with e; omega)); replace HW := Lib.hid (HW.out.grown hg3 HW.out.size (fun k hk => by injection hk with hk; omega)); clear b3 hg3; refine StopP.mk ?_))
    unfold StopP
    generalize (N9 : Int) + 1 = K9 at *
    go_wp2_with (first | (refine wpList_store_blk rfl 44 (.tmp 13) (.tmp 89) rfl _ rfl HT.out rfl (size_time rfl) rfl (two_ones .i64 _ _) ?_; intro u2 b3 hg3; replace HT := Lib.hid (show Blk u2 _ _ #[.int .i64 (-(V9 : Int) - 1), .int .i64 (1000000000 - K9)] from b3); replace HB := Lib.hid (HB.out.grown hg3 (fun e => by injection e with e; omega)); replace HW := Lib.hid (HW.out.grown hg3 HW.out.size (fun k hk => by injection hk with hk; omega)); clear b3 hg3) | (go_at_call 73; refine (stampValid _ _ _).mono ?_; rintro e w6 ⟨rfl, hb3⟩; rw [HOK.out]; replace HT := Lib.hid (HT.out.below hb3 HT.out.lt); replace HB := Lib.hid (HB.out.below hb3 HB.out.lt); replace HW := Lib.hid (HW.out.trans (hb3.mono HW.out.size)); clear hb3) | (refine wpList_store_blk rfl 44 (.tmp 2) (.tmp 93) rfl _ rfl HB.out rfl (by kernel_rfl) rfl rfl ?_; intro u2 b3 hg3; replace HB := Lib.hid b3; replace HW := Lib.hid (HW.out.grown hg3 HW.out.size (fun k hk => by injection hk with hk; omega)); clear b3 hg3) | (refine wpList_load_blk rfl 44 (.tmp 13) rfl _ rfl HT.out whole_TimeD ?_))
    refine ret_blk_tmp rfl rfl HB.out whole_TimeD rfl rfl ⟨?_, HW.out⟩
    rw [HS.out.1, HS.out.2.1, HS.out.2.2]
    rfl
set_option maxHeartbeats 4000000 in
set_option maxRecDepth 100000 in
theorem parse_neg2p (s : ByteArray) (w : World) (hs : s.size ≤ 64) (hm : MaxLenOk w) (hv : ErrRangeOk w) (hd : stDot s.data.toList = true) (hp : allDig (stPart s.data.toList) = true) (hw : allDig (stWhole s.data.toList) = true) (hz : ¬ (1 < (stWhole s.data.toList).length ∧ (stWhole s.data.toList).head? = some 48)) (hc : dval (stWhole s.data.toList) ≤ 1099511627776) (hneg : stNeg s.data.toList = true) (hk : 9 < (stPart s.data.toList).length) (hu : stUp s.data.toList = false) (hn : 0 < dval (first9 (stPart s.data.toList))) :
    Calls Tryz.prog 101 #[.string s] w fun e w' => e = .returned (.tuple #[.agg #[.int .i64 (stS s.data.toList), .int .i64 (stN s.data.toList)], .int .i64 (stErr s.data.toList)]) ∧ Below w.heap.size w w' := by
  have HBN := Lib.hid (bad_no (l := s.data.toList) (by rw [hd, hp]; rfl) hw hz)
  have HDC := Lib.hid (fun w hv => dec_good (l := stWhole s.data.toList) w (by have := whole_len s; omega) hv hw hz (by omega))
  clear hz
  have hc2 : decide (((dval (stWhole s.data.toList) : Nat) : Int) > 1099511627776) = false := by simp; omega
  have hnan : stNan s.data.toList = ((dval (first9 (stPart s.data.toList)) : Nat) : Int) := by unfold stNan; rw [hneg, hu]; simp
  have hpos : 0 < stNan s.data.toList := by rw [hnan]; omega
  have e1 : stSecV s.data.toList = (-((dval (stWhole s.data.toList) : Nat) : Int) - 1) := by unfold stSecV; rw [hneg, if_pos rfl, if_pos hpos]
  have e2 : stNanoV s.data.toList = (1000000000 - (((dval (first9 (stPart s.data.toList)) : Nat) : Int))) := by unfold stNanoV; rw [hneg, if_pos rfl, if_pos hpos, hnan]
  have E1 := Lib.hid e1; have E2 := Lib.hid e2
  have hup : (Lib.trimS ((stPart s.data.toList).drop 9) [48]).isEmpty = true := by rw [up_trim]; unfold stUp at hu; rw [hu]; rfl
  have HUP := Lib.hid hup
  clear hup
  clear e1 e2 hnan hpos hu
  have hlw := whole_len s
  have hlp := part_len s
  have HCP := Lib.hid (cutPre s)
  have HCU := Lib.hid (fun w hm => cutDot s w hs hm)
  have HM1 := Lib.hid (hm.keep (below_alloc' w (.cells #[.int .i64 0, .int .i64 0] 44)))
  have hs64 : ¬ (64 : Int) < s.size := by omega
  have hpd := part_dig (l := s.data.toList) (by rw [hd, hp]; rfl)
  have HF9 := Lib.hid (first9_dig hpd)
  have HFS := Lib.hid (first9_str (stPart s.data.toList))
  have HAT := Lib.hid (fun w => atoi9 (l := stPart s.data.toList) w HF9.out)
  have hn9 := dval_first9 (l := s.data.toList) HF9.out
  clear hpd
  go_enter Tryz.func101, Tryz.ntmps101
  go_wp2_with fail
  refine (HCP.out _).mono ?_
  rintro e w1 ⟨rfl, rfl⟩
  go_wp2_with fail
  refine (HCU.out _ HM1.out).mono ?_
  rintro e w2 ⟨rfl, hb2⟩
  obtain ⟨b1, hbw2, hsz2⟩ := blks1 hb2
  have HB := Lib.hid b1; have HW := Lib.hid hbw2
  clear hb2 b1 hbw2 hsz2
  go_wp2_with (first | (go_at_call 154; refine (allDigits' _ _ (by omega)).mono ?_; rintro e w3 ⟨rfl, hb3⟩; replace HB := Lib.hid (HB.out.below hb3 HB.out.lt); replace HW := Lib.hid (HW.out.trans (hb3.mono HW.out.size)); clear hb3) | (go_at_call 100; refine (HDC.out _ (hv.keep HW.out)).mono ?_; rintro e w3 ⟨rfl, hb3⟩; replace HB := Lib.hid (HB.out.below hb3 HB.out.lt); replace HW := Lib.hid (HW.out.trans (hb3.mono HW.out.size)); clear hb3))
  rw [HFS.out]
  refine (HAT.out _).mono ?_
  rintro e w3 ⟨rfl, hb3⟩
  replace HB := Lib.hid (HB.out.below hb3 HB.out.lt); replace HW := Lib.hid (HW.out.trans (hb3.mono HW.out.size)); clear hb3
  generalize dval (first9 (stPart s.data.toList)) = N9 at *
  generalize dval (stWhole s.data.toList) = V9 at *
  have hk2 : (9 : Int) < (stPart s.data.toList).length := by omega
  have hlt3 := HB.out.lt
  go_wp2_with fail
  rw [drop9_str]
  refine (trim0 _ (by omega)).mono ?_
  rintro e w5 ⟨rfl, hb5⟩
  have hup := HUP.out
  obtain ⟨bT, hbw5, hsz5⟩ := blks1 hb5
  replace HB := Lib.hid (HB.out.below hbw5 HB.out.lt); replace HW := Lib.hid (HW.out.trans (hbw5.mono HW.out.size))
  have HT := Lib.hid bT
  clear hb5 hbw5 bT
  have hoks : stampOk (-(V9 : Int) - 1) (1000000000 - ((N9 : Int))) = true ∨ stampOk (-(V9 : Int) - 1) (1000000000 - ((N9 : Int))) = false := by cases stampOk (-(V9 : Int) - 1) (1000000000 - ((N9 : Int))) <;> simp
  rcases hoks with hok | hok
  · have HOK := Lib.hid hok
    clear hok
    have HS := Lib.hid (st_ok (l := s.data.toList) (by rw [len_data]; omega) HBN.out (by rw [ok_same', E1.out, E2.out]; exact HOK.out))
    go_wp2_with (first | (refine wpList_store_blk rfl 44 (.tmp 13) (.tmp 81) rfl _ rfl HT.out rfl (size_time rfl) rfl (two_ones .i64 _ _) ?_; intro u2 b3 hg3; replace HT := Lib.hid (show Blk u2 _ _ #[.int .i64 (-(V9 : Int)), .int .i64 0] from b3); replace HB := Lib.hid (HB.out.grown hg3 (fun e => by injection e with e; omega)); replace HW := Lib.hid (HW.out.grown hg3 HW.out.size (fun k hk => by injection hk with hk; omega)); clear b3 hg3) | (refine wpList_store_blk rfl 44 (.tmp 13) (.tmp 89) rfl _ rfl HT.out rfl (size_time rfl) rfl (two_ones .i64 _ _) ?_; intro u2 b3 hg3; replace HT := Lib.hid (show Blk u2 _ _ #[.int .i64 (-(V9 : Int) - 1), .int .i64 (1000000000 - ((N9 : Int)))] from b3); replace HB := Lib.hid (HB.out.grown hg3 (fun e => by injection e with e; omega)); replace HW := Lib.hid (HW.out.grown hg3 HW.out.size (fun k hk => by injection hk with hk; omega)); clear b3 hg3) | (go_at_call 73; refine (stampValid _ _ _).mono ?_; rintro e w6 ⟨rfl, hb3⟩; rw [HOK.out]; replace HT := Lib.hid (HT.out.below hb3 HT.out.lt); replace HB := Lib.hid (HB.out.below hb3 HB.out.lt); replace HW := Lib.hid (HW.out.trans (hb3.mono HW.out.size)); clear hb3) | (refine wpList_store_blk rfl 44 (.tmp 2) (.tmp 94) rfl _ rfl HB.out rfl (by kernel_rfl) rfl rfl ?_; intro u2 b3 hg3; replace HB := Lib.hid b3; replace HW := Lib.hid (HW.out.grown hg3 HW.out.size (fun k hk => by injection hk with hk; omega)); clear b3 hg3) | (refine wpList_load_blk rfl 44 (.tmp 13) rfl _ rfl HT.out whole_TimeD ?_))
    refine ret_blk_tmp rfl rfl HB.out whole_TimeD rfl rfl ⟨?_, HW.out⟩
    rw [HS.out.1, HS.out.2.1, HS.out.2.2, E1.out, E2.out]
    rfl
  · have HOK := Lib.hid hok
    clear hok
    have HS := Lib.hid (st_no (l := s.data.toList) (by rw [len_data]; omega) HBN.out (by rw [ok_same', E1.out, E2.out]; exact HOK.out))
    go_wp2_with (first | (refine wpList_store_blk rfl 44 (.tmp 13) (.tmp 81) rfl _ rfl HT.out rfl (size_time rfl) rfl (two_ones .i64 _ _) ?_; intro u2 b3 hg3; replace HT := Lib.hid (show Blk u2 _ _ #[.int .i64 (-(V9 : Int)), .int .i64 0] from b3); replace HB := Lib.hid (HB.out.grown hg3 (fun e => by injection e with e; omega)); replace HW := Lib.hid (HW.out.grown hg3 HW.out.size (fun k hk => by injection hk with hk; omega)); clear b3 hg3) | (refine wpList_store_blk rfl 44 (.tmp 13) (.tmp 89) rfl _ rfl HT.out rfl (size_time rfl) rfl (two_ones .i64 _ _) ?_; intro u2 b3 hg3; replace HT := Lib.hid (show Blk u2 _ _ #[.int .i64 (-(V9 : Int) - 1), .int .i64 (1000000000 - ((N9 : Int)))] from b3); replace HB := Lib.hid (HB.out.grown hg3 (fun e => by injection e with e; omega)); replace HW := Lib.hid (HW.out.grown hg3 HW.out.size (fun k hk => by injection hk with hk; omega)); clear b3 hg3) | (go_at_call 73; refine (stampValid _ _ _).mono ?_; rintro e w6 ⟨rfl, hb3⟩; rw [HOK.out]; replace HT := Lib.hid (HT.out.below hb3 HT.out.lt); replace HB := Lib.hid (HB.out.below hb3 HB.out.lt); replace HW := Lib.hid (HW.out.trans (hb3.mono HW.out.size)); clear hb3) | (refine wpList_store_blk rfl 44 (.tmp 2) (.tmp 93) rfl _ rfl HB.out rfl (by kernel_rfl) rfl rfl ?_; intro u2 b3 hg3; replace HB := Lib.hid b3; replace HW := Lib.hid (HW.out.grown hg3 HW.out.size (fun k hk => by injection hk with hk; omega)); clear b3 hg3) | (refine wpList_load_blk rfl 44 (.tmp 13) rfl _ rfl HT.out whole_TimeD ?_))
    refine ret_blk_tmp rfl rfl HB.out whole_TimeD rfl rfl ⟨?_, HW.out⟩
    rw [HS.out.1, HS.out.2.1, HS.out.2.2]
    rfl
set_option maxHeartbeats 4000000 in
set_option maxRecDepth 100000 in
theorem parse_neg2z (s : ByteArray) (w : World) (hs : s.size ≤ 64) (hm : MaxLenOk w) (hv : ErrRangeOk w) (hd : stDot s.data.toList = true) (hp : allDig (stPart s.data.toList) = true) (hw : allDig (stWhole s.data.toList) = true) (hz : ¬ (1 < (stWhole s.data.toList).length ∧ (stWhole s.data.toList).head? = some 48)) (hc : dval (stWhole s.data.toList) ≤ 1099511627776) (hneg : stNeg s.data.toList = true) (hk : 9 < (stPart s.data.toList).length) (hu : stUp s.data.toList = false) (hn : ¬ 0 < dval (first9 (stPart s.data.toList))) :
    Calls Tryz.prog 101 #[.string s] w fun e w' => e = .returned (.tuple #[.agg #[.int .i64 (stS s.data.toList), .int .i64 (stN s.data.toList)], .int .i64 (stErr s.data.toList)]) ∧ Below w.heap.size w w' := by
  have HBN := Lib.hid (bad_no (l := s.data.toList) (by rw [hd, hp]; rfl) hw hz)
  have HDC := Lib.hid (fun w hv => dec_good (l := stWhole s.data.toList) w (by have := whole_len s; omega) hv hw hz (by omega))
  clear hz
  have hc2 : decide (((dval (stWhole s.data.toList) : Nat) : Int) > 1099511627776) = false := by simp; omega
  have hnan : stNan s.data.toList = ((dval (first9 (stPart s.data.toList)) : Nat) : Int) := by unfold stNan; rw [hneg, hu]; simp
  have hpos : ¬ 0 < stNan s.data.toList := by rw [hnan]; omega
  have e1 : stSecV s.data.toList = (-((dval (stWhole s.data.toList) : Nat) : Int)) := by unfold stSecV; rw [hneg, if_pos rfl, if_neg hpos]
  have e2 : stNanoV s.data.toList = 0 := by unfold stNanoV; rw [hneg, if_pos rfl, if_neg hpos]
  have E1 := Lib.hid e1; have E2 := Lib.hid e2
  have hup : (Lib.trimS ((stPart s.data.toList).drop 9) [48]).isEmpty = true := by rw [up_trim]; unfold stUp at hu; rw [hu]; rfl
  have HUP := Lib.hid hup
  clear hup
  clear e1 e2 hnan hpos hu
  have hlw := whole_len s
  have hlp := part_len s
  have HCP := Lib.hid (cutPre s)
  have HCU := Lib.hid (fun w hm => cutDot s w hs hm)
  have HM1 := Lib.hid (hm.keep (below_alloc' w (.cells #[.int .i64 0, .int .i64 0] 44)))
  have hs64 : ¬ (64 : Int) < s.size := by omega
  have hpd := part_dig (l := s.data.toList) (by rw [hd, hp]; rfl)
  have HF9 := Lib.hid (first9_dig hpd)
  have HFS := Lib.hid (first9_str (stPart s.data.toList))
  have HAT := Lib.hid (fun w => atoi9 (l := stPart s.data.toList) w HF9.out)
  have hn9 := dval_first9 (l := s.data.toList) HF9.out
  clear hpd
  go_enter Tryz.func101, Tryz.ntmps101
  go_wp2_with fail
  refine (HCP.out _).mono ?_
  rintro e w1 ⟨rfl, rfl⟩
  go_wp2_with fail
  refine (HCU.out _ HM1.out).mono ?_
  rintro e w2 ⟨rfl, hb2⟩
  obtain ⟨b1, hbw2, hsz2⟩ := blks1 hb2
  have HB := Lib.hid b1; have HW := Lib.hid hbw2
  clear hb2 b1 hbw2 hsz2
  go_wp2_with (first | (go_at_call 154; refine (allDigits' _ _ (by omega)).mono ?_; rintro e w3 ⟨rfl, hb3⟩; replace HB := Lib.hid (HB.out.below hb3 HB.out.lt); replace HW := Lib.hid (HW.out.trans (hb3.mono HW.out.size)); clear hb3) | (go_at_call 100; refine (HDC.out _ (hv.keep HW.out)).mono ?_; rintro e w3 ⟨rfl, hb3⟩; replace HB := Lib.hid (HB.out.below hb3 HB.out.lt); replace HW := Lib.hid (HW.out.trans (hb3.mono HW.out.size)); clear hb3))
  rw [HFS.out]
  refine (HAT.out _).mono ?_
  rintro e w3 ⟨rfl, hb3⟩
  replace HB := Lib.hid (HB.out.below hb3 HB.out.lt); replace HW := Lib.hid (HW.out.trans (hb3.mono HW.out.size)); clear hb3
  generalize dval (first9 (stPart s.data.toList)) = N9 at *
  generalize dval (stWhole s.data.toList) = V9 at *
  have hk2 : (9 : Int) < (stPart s.data.toList).length := by omega
  have hlt3 := HB.out.lt
  go_wp2_with fail
  rw [drop9_str]
  refine (trim0 _ (by omega)).mono ?_
  rintro e w5 ⟨rfl, hb5⟩
  have hup := HUP.out
  obtain ⟨bT, hbw5, hsz5⟩ := blks1 hb5
  replace HB := Lib.hid (HB.out.below hbw5 HB.out.lt); replace HW := Lib.hid (HW.out.trans (hbw5.mono HW.out.size))
  have HT := Lib.hid bT
  clear hb5 hbw5 bT
  have hoks : stampOk (-(V9 : Int)) 0 = true ∨ stampOk (-(V9 : Int)) 0 = false := by cases stampOk (-(V9 : Int)) 0 <;> simp
  rcases hoks with hok | hok
  · have HOK := Lib.hid hok
    clear hok
    have HS := Lib.hid (st_ok (l := s.data.toList) (by rw [len_data]; omega) HBN.out (by rw [ok_same', E1.out, E2.out]; exact HOK.out))
    go_wp2_with (first | (refine wpList_store_blk rfl 44 (.tmp 13) (.tmp 81) rfl _ rfl HT.out rfl (size_time rfl) rfl (two_ones .i64 _ _) ?_; intro u2 b3 hg3; replace HT := Lib.hid (show Blk u2 _ _ #[.int .i64 (-(V9 : Int)), .int .i64 0] from b3); replace HB := Lib.hid (HB.out.grown hg3 (fun e => by injection e with e; omega)); replace HW := Lib.hid (HW.out.grown hg3 HW.out.size (fun k hk => by injection hk with hk; omega)); clear b3 hg3) | (go_at_call 73; refine (stampValid _ _ _).mono ?_; rintro e w6 ⟨rfl, hb3⟩; rw [HOK.out]; replace HT := Lib.hid (HT.out.below hb3 HT.out.lt); replace HB := Lib.hid (HB.out.below hb3 HB.out.lt); replace HW := Lib.hid (HW.out.trans (hb3.mono HW.out.size)); clear hb3) | (refine wpList_store_blk rfl 44 (.tmp 2) (.tmp 94) rfl _ rfl HB.out rfl (by kernel_rfl) rfl rfl ?_; intro u2 b3 hg3; replace HB := Lib.hid b3; replace HW := Lib.hid (HW.out.grown hg3 HW.out.size (fun k hk => by injection hk with hk; omega)); clear b3 hg3) | (refine wpList_load_blk rfl 44 (.tmp 13) rfl _ rfl HT.out whole_TimeD ?_))
    refine ret_blk_tmp rfl rfl HB.out whole_TimeD rfl rfl ⟨?_, HW.out⟩
    rw [HS.out.1, HS.out.2.1, HS.out.2.2, E1.out, E2.out]
    rfl
  · have HOK := Lib.hid hok
    clear hok
    have HS := Lib.hid (st_no (l := s.data.toList) (by rw [len_data]; omega) HBN.out (by rw [ok_same', E1.out, E2.out]; exact HOK.out))
    go_wp2_with (first | (refine wpList_store_blk rfl 44 (.tmp 13) (.tmp 81) rfl _ rfl HT.out rfl (size_time rfl) rfl (two_ones .i64 _ _) ?_; intro u2 b3 hg3; replace HT := Lib.hid (show Blk u2 _ _ #[.int .i64 (-(V9 : Int)), .int .i64 0] from b3); replace HB := Lib.hid (HB.out.grown hg3 (fun e => by injection e with e; omega)); replace HW := Lib.hid (HW.out.grown hg3 HW.out.size (fun k hk => by injection hk with hk; omega)); clear b3 hg3) | (go_at_call 73; refine (stampValid _ _ _).mono ?_; rintro e w6 ⟨rfl, hb3⟩; rw [HOK.out]; replace HT := Lib.hid (HT.out.below hb3 HT.out.lt); replace HB := Lib.hid (HB.out.below hb3 HB.out.lt); replace HW := Lib.hid (HW.out.trans (hb3.mono HW.out.size)); clear hb3) | (refine wpList_store_blk rfl 44 (.tmp 2) (.tmp 93) rfl _ rfl HB.out rfl (by kernel_rfl) rfl rfl ?_; intro u2 b3 hg3; replace HB := Lib.hid b3; replace HW := Lib.hid (HW.out.grown hg3 HW.out.size (fun k hk => by injection hk with hk; omega)); clear b3 hg3) | (refine wpList_load_blk rfl 44 (.tmp 13) rfl _ rfl HT.out whole_TimeD ?_))
    refine ret_blk_tmp rfl rfl HB.out whole_TimeD rfl rfl ⟨?_, HW.out⟩
    rw [HS.out.1, HS.out.2.1, HS.out.2.2]
    rfl
end Go.Proofs.YtfhfcipelgogjaaGreatDoor
