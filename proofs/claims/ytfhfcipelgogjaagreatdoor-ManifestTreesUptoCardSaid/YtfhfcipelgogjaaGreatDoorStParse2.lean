/- stamp.Parse of a text of digits in range: what it answers. No condition but room and what the library's variables hold. -/
import Derived.Test.YtfhfcipelgogjaaGreatDoorStParse
namespace Go.Proofs.YtfhfcipelgogjaaGreatDoor
open Go.RowKit
set_option linter.unusedVariables false
set_option linter.unusedSimpArgs false
attribute [local go_sem] cell?_over frozen?_over lt_over le_over
def StopP (p : Prop) : Prop := p
theorem StopP.mk {p : Prop} (h : StopP p) : p := h
theorem two_ones (k : IntKind) (a b : Int) : (Value.agg #[.int k a, .int k b]).cells.toList.all (·.oneCell') = true := rfl
theorem size_time {n : Nat} (h : n = 2) : (Tryz.prog.info? 44).map (·.size) = some n := by subst h; kernel_rfl
theorem part_dig {l : List UInt8} (h : (stDot l && !allDig (stPart l)) = false) : (stPart l).all isDig = true := by
  cases hd : stDot l
  · have : stPart l = [] := by
      unfold stDot at hd
      simp only [decide_eq_false_iff_not] at hd
      unfold stPart
      exact List.drop_eq_nil_of_le (by omega)
    rw [this]; rfl
  · rw [hd] at h
    have : allDig (stPart l) = true := by simpa using h
    exact (allDig_parts this).2
theorem first9_str (l : List UInt8) : (ByteArray.mk l.toArray ++ ByteArray.mk #[48, 48, 48, 48, 48, 48, 48, 48, 48]).extract 0 9 = ⟨(first9 l).toArray⟩ := by
  apply ByteArray.ext
  rw [ByteArray.data_extract, ByteArray.data_append]
  apply Array.ext'
  simp [first9]
theorem atoi9 {l : List UInt8} (w : World) (h : (first9 l).all isDig = true) :
    Calls Tryz.prog 155 #[.string ⟨(first9 l).toArray⟩] w fun e w' => e = .returned (.tuple #[.int .i64 (dval (first9 l) : Nat), .nilIface]) ∧ Below w.heap.size w w' := by
  have h9 := first9_len l
  refine atoi_calls ⟨(first9 l).toArray⟩ w _ (by simp [ByteArray.size]; omega) (atoi_dig (l := first9 l) ?_ h)
  intro e
  rw [e] at h9; simp at h9
theorem ok_same' (s n : Int) : stampOk' s n = stampOk s n := rfl
theorem up_trim (l : List UInt8) : (Lib.trimS l [48]).isEmpty = !(l.any (· != 48)) := by
  rw [trim_empty]
  induction l with
  | nil => rfl
  | cons c l ih =>
    rw [List.all_cons, List.any_cons, ih]
    have : ([48] : List UInt8).contains c = !(c != 48) := by
      simp only [List.contains_cons, List.contains_nil, Bool.or_false, bne]
      cases (c == 48) <;> rfl
    rw [this]
    cases (c != 48) <;> cases (l.any (· != 48)) <;> rfl
theorem trim0 {l : List UInt8} (w : World) (hl : l.length ≤ 64) :
    Calls Tryz.prog 156 #[.string ⟨(l.drop 9).toArray⟩, .string ⟨#[48]⟩] w fun e w' => e = .returned (.string ⟨(Lib.trimS (l.drop 9) [48]).toArray⟩) ∧ Below w.heap.size w w' :=
  trim_calls ⟨(l.drop 9).toArray⟩ ⟨#[48]⟩ w (by simp [ByteArray.size]; omega) (by decide) (ascii_of_all (by decide))
theorem drop9_str (l : List UInt8) : (ByteArray.mk l.toArray).extract 9 l.length = ⟨(l.drop 9).toArray⟩ := by
  apply ByteArray.ext
  rw [ByteArray.data_extract]
  apply Array.ext'
  simp
  exact List.take_of_length_le (by simp)
set_option maxHeartbeats 4000000 in
set_option maxRecDepth 100000 in
theorem parse_pos (s : ByteArray) (w : World) (hs : s.size ≤ 64) (hm : MaxLenOk w) (hv : ErrRangeOk w) (hd : stDot s.data.toList = true) (hp : allDig (stPart s.data.toList) = true) (hw : allDig (stWhole s.data.toList) = true) (hz : ¬ (1 < (stWhole s.data.toList).length ∧ (stWhole s.data.toList).head? = some 48)) (hc : dval (stWhole s.data.toList) ≤ 1099511627776) (hneg : stNeg s.data.toList = false) :
    Calls Tryz.prog 101 #[.string s] w fun e w' => e = .returned (.tuple #[.agg #[.int .i64 (stS s.data.toList), .int .i64 (stN s.data.toList)], .int .i64 (stErr s.data.toList)]) ∧ Below w.heap.size w w' := by
  have HBN := Lib.hid (bad_no (l := s.data.toList) (by rw [hd, hp]; rfl) hw hz)
  have HDC := Lib.hid (fun w hv => dec_good (l := stWhole s.data.toList) w (by have := whole_len s; omega) hv hw hz (by omega))
  clear hz
  have hc2 : decide (((dval (stWhole s.data.toList) : Nat) : Int) > 1099511627776) = false := by simp; omega
  have e1 : stSecV s.data.toList = (dval (stWhole s.data.toList) : Nat) := by unfold stSecV; rw [hneg]; rfl
  have e2 : stNanoV s.data.toList = (dval (first9 (stPart s.data.toList)) : Nat) := by unfold stNanoV stNan; rw [hneg]; simp
  have E1 := Lib.hid e1; have E2 := Lib.hid e2
  clear e1 e2
  have hlw := whole_len s
  have hlp := part_len s
  have HCP := Lib.hid (cutPre s)
  have HCU := Lib.hid (fun w hm => cutDot s w hs hm)
  have HM1 := Lib.hid (hm.keep (below_alloc' w (.cells #[.int .i64 0, .int .i64 0] 44)))
  have hs64 : ¬ (64 : Int) < s.size := by omega
  have hpd := part_dig (l := s.data.toList) (by rw [hd, hp]; rfl)
  have HF9 := Lib.hid (first9_dig hpd)
  have HFS := Lib.hid (first9_str (stPart s.data.toList))
  have HAT := Lib.hid (fun w => atoi9 (l := stPart s.data.toList) w HF9.out)
  have hn9 := dval_first9 (l := s.data.toList) HF9.out
  clear hpd
  go_enter Tryz.func101, Tryz.ntmps101
  go_wp2_with fail
  refine (HCP.out _).mono ?_
  rintro e w1 ⟨rfl, rfl⟩
  go_wp2_with fail
  refine (HCU.out _ HM1.out).mono ?_
  rintro e w2 ⟨rfl, hb2⟩
  obtain ⟨b1, hbw2, hsz2⟩ := blks1 hb2
  have HB := Lib.hid b1; have HW := Lib.hid hbw2
  clear hb2 b1 hbw2 hsz2
  go_wp2_with (first | (go_at_call 154; refine (allDigits' _ _ (by omega)).mono ?_; rintro e w3 ⟨rfl, hb3⟩; replace HB := Lib.hid (HB.out.below hb3 HB.out.lt); replace HW := Lib.hid (HW.out.trans (hb3.mono HW.out.size)); clear hb3) | (go_at_call 100; refine (HDC.out _ (hv.keep HW.out)).mono ?_; rintro e w3 ⟨rfl, hb3⟩; replace HB := Lib.hid (HB.out.below hb3 HB.out.lt); replace HW := Lib.hid (HW.out.trans (hb3.mono HW.out.size)); clear hb3))
  rw [HFS.out]
  refine (HAT.out _).mono ?_
  rintro e w3 ⟨rfl, hb3⟩
  replace HB := Lib.hid (HB.out.below hb3 HB.out.lt); replace HW := Lib.hid (HW.out.trans (hb3.mono HW.out.size)); clear hb3
  have hok : stampOk (dval (stWhole s.data.toList) : Nat) (dval (first9 (stPart s.data.toList)) : Nat) = true := by simp [stampOk]; omega
  have HOK := Lib.hid hok
  clear hok
  have HS := Lib.hid (st_ok (l := s.data.toList) (by rw [len_data]; omega) HBN.out (by rw [ok_same', E1.out, E2.out]; exact HOK.out))
  go_wp2_with fail
  refine (stampValid _ _ _).mono ?_
  rintro e w5 ⟨rfl, hb5⟩
  obtain ⟨bT, hbw5, hsz5⟩ := blks1 hb5
  replace HB := Lib.hid (HB.out.below hbw5 HB.out.lt); replace HW := Lib.hid (HW.out.trans (hbw5.mono HW.out.size))
  have kT := bT.cell
  clear hb5 hbw5
  rw [HOK.out]
  go_wp2_with (first | (refine wpList_store_blk rfl 44 (.tmp 2) (.tmp 94) rfl _ rfl HB.out rfl (by kernel_rfl) rfl rfl ?_; intro u2 b3 hg3; replace HB := Lib.hid b3; replace HW := Lib.hid (HW.out.grown hg3 HW.out.size (fun k hk => by injection hk with hk; omega)); clear b3 hg3))
  refine ret_blk_tmp rfl rfl HB.out whole_TimeD rfl rfl ⟨?_, HW.out⟩
  rw [HS.out.1, HS.out.2.1, HS.out.2.2, E1.out, E2.out]
  rfl
set_option maxHeartbeats 4000000 in
set_option maxRecDepth 100000 in
theorem parse_posn (s : ByteArray) (w : World) (hs : s.size ≤ 64) (hm : MaxLenOk w) (hv : ErrRangeOk w) (hd : stDot s.data.toList = false) (hw : allDig (stWhole s.data.toList) = true) (hz : ¬ (1 < (stWhole s.data.toList).length ∧ (stWhole s.data.toList).head? = some 48)) (hc : dval (stWhole s.data.toList) ≤ 1099511627776) (hneg : stNeg s.data.toList = false) :
    Calls Tryz.prog 101 #[.string s] w fun e w' => e = .returned (.tuple #[.agg #[.int .i64 (stS s.data.toList), .int .i64 (stN s.data.toList)], .int .i64 (stErr s.data.toList)]) ∧ Below w.heap.size w w' := by
  have HBN := Lib.hid (bad_no (l := s.data.toList) (by rw [hd]; rfl) hw hz)
  have HDC := Lib.hid (fun w hv => dec_good (l := stWhole s.data.toList) w (by have := whole_len s; omega) hv hw hz (by omega))
  clear hz
  have hc2 : decide (((dval (stWhole s.data.toList) : Nat) : Int) > 1099511627776) = false := by simp; omega
  have e1 : stSecV s.data.toList = (dval (stWhole s.data.toList) : Nat) := by unfold stSecV; rw [hneg]; rfl
  have e2 : stNanoV s.data.toList = (dval (first9 (stPart s.data.toList)) : Nat) := by unfold stNanoV stNan; rw [hneg]; simp
  have E1 := Lib.hid e1; have E2 := Lib.hid e2
  clear e1 e2
  have hlw := whole_len s
  have hlp := part_len s
  have HCP := Lib.hid (cutPre s)
  have HCU := Lib.hid (fun w hm => cutDot s w hs hm)
  have HM1 := Lib.hid (hm.keep (below_alloc' w (.cells #[.int .i64 0, .int .i64 0] 44)))
  have hs64 : ¬ (64 : Int) < s.size := by omega
  have hpd := part_dig (l := s.data.toList) (by rw [hd]; rfl)
  have HF9 := Lib.hid (first9_dig hpd)
  have HFS := Lib.hid (first9_str (stPart s.data.toList))
  have HAT := Lib.hid (fun w => atoi9 (l := stPart s.data.toList) w HF9.out)
  have hn9 := dval_first9 (l := s.data.toList) HF9.out
  clear hpd
  go_enter Tryz.func101, Tryz.ntmps101
  go_wp2_with fail
  refine (HCP.out _).mono ?_
  rintro e w1 ⟨rfl, rfl⟩
  go_wp2_with fail
  refine (HCU.out _ HM1.out).mono ?_
  rintro e w2 ⟨rfl, hb2⟩
  obtain ⟨b1, hbw2, hsz2⟩ := blks1 hb2
  have HB := Lib.hid b1; have HW := Lib.hid hbw2
  clear hb2 b1 hbw2 hsz2
  go_wp2_with (first | (go_at_call 154; refine (allDigits' _ _ (by omega)).mono ?_; rintro e w3 ⟨rfl, hb3⟩; replace HB := Lib.hid (HB.out.below hb3 HB.out.lt); replace HW := Lib.hid (HW.out.trans (hb3.mono HW.out.size)); clear hb3) | (go_at_call 100; refine (HDC.out _ (hv.keep HW.out)).mono ?_; rintro e w3 ⟨rfl, hb3⟩; replace HB := Lib.hid (HB.out.below hb3 HB.out.lt); replace HW := Lib.hid (HW.out.trans (hb3.mono HW.out.size)); clear hb3))
  rw [HFS.out]
  refine (HAT.out _).mono ?_
  rintro e w3 ⟨rfl, hb3⟩
  replace HB := Lib.hid (HB.out.below hb3 HB.out.lt); replace HW := Lib.hid (HW.out.trans (hb3.mono HW.out.size)); clear hb3
  have hok : stampOk (dval (stWhole s.data.toList) : Nat) (dval (first9 (stPart s.data.toList)) : Nat) = true := by simp [stampOk]; omega
  have HOK := Lib.hid hok
  clear hok
  have HS := Lib.hid (st_ok (l := s.data.toList) (by rw [len_data]; omega) HBN.out (by rw [ok_same', E1.out, E2.out]; exact HOK.out))
  go_wp2_with fail
  refine (stampValid _ _ _).mono ?_
  rintro e w5 ⟨rfl, hb5⟩
  obtain ⟨bT, hbw5, hsz5⟩ := blks1 hb5
  replace HB := Lib.hid (HB.out.below hbw5 HB.out.lt); replace HW := Lib.hid (HW.out.trans (hbw5.mono HW.out.size))
  have kT := bT.cell
  clear hb5 hbw5
  rw [HOK.out]
  go_wp2_with (first | (refine wpList_store_blk rfl 44 (.tmp 2) (.tmp 94) rfl _ rfl HB.out rfl (by kernel_rfl) rfl rfl ?_; intro u2 b3 hg3; replace HB := Lib.hid b3; replace HW := Lib.hid (HW.out.grown hg3 HW.out.size (fun k hk => by injection hk with hk; omega)); clear b3 hg3))
  refine ret_blk_tmp rfl rfl HB.out whole_TimeD rfl rfl ⟨?_, HW.out⟩
  rw [HS.out.1, HS.out.2.1, HS.out.2.2, E1.out, E2.out]
  rfl
end Go.Proofs.YtfhfcipelgogjaaGreatDoor
