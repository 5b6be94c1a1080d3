/- stamp.Parse: what it answers. No condition but room and what the library's variables hold. -/
import Derived.Test.YtfhfcipelgogjaaGreatDoorBaseAt
import Derived.Test.YtfhfcipelgogjaaGreatDoorDecAll
import Derived.Test.YtfhfcipelgogjaaGreatDoorLawAll
import Derived.Test.YtfhfcipelgogjaaGreatDoorDataAll
import Derived.Laws.ResultCell
namespace Go.Proofs.YtfhfcipelgogjaaGreatDoor
open Go.RowKit
set_option linter.unusedVariables false
set_option linter.unusedSimpArgs false
attribute [local go_sem] cell?_over frozen?_over lt_over le_over
theorem trim_ascii10 : ∀ (j : Nat) b, (ByteArray.mk #[48, 49, 50, 51, 52, 53, 54, 55, 56, 57]).data.toList[j]? = some b → b.toNat < 128 := ascii_of_all (by decide)
set_option maxRecDepth 100000 in
theorem allDigits (s : ByteArray) (w : World) (hs : s.size ≤ 140737488355328) :
    Calls Tryz.prog 154 #[.string s] w fun e w' => e = .returned (.bool (allDig s.data.toList)) ∧ Below w.heap.size w w' := by
  by_cases h0 : s.data.toList = []
  · have he : s.toList.isEmpty = true := by rw [empty_data, h0]; rfl
    have HA : Hid (allDig s.data.toList = false) := Lib.hid (by rw [h0]; rfl)
    clear h0
    go_enter Tryz.func154, Tryz.ntmps154
    go_wp2_with fail
    go_ret
    refine ⟨?_, Below.refl _ _⟩; rw [HA.out]; rfl
  · have he : s.toList.isEmpty = false := by rw [empty_data]; cases hx : s.data.toList with | nil => exact absurd hx h0 | cons => rfl
    have HA : Hid (allDig s.data.toList = (Lib.trimS s.data.toList [48, 49, 50, 51, 52, 53, 54, 55, 56, 57]).isEmpty) := Lib.hid (by
      rw [trim_digits]
      unfold allDig
      cases hx : s.data.toList with | nil => exact absurd hx h0 | cons => rfl)
    have HT := Lib.hid (trim_calls s ⟨#[48, 49, 50, 51, 52, 53, 54, 55, 56, 57]⟩ w (by omega) (by decide) trim_ascii10)
    clear h0
    go_enter Tryz.func154, Tryz.ntmps154
    go_wp2_with (first | (go_at_call 156; refine HT.out.mono ?_; rintro e w2 ⟨rfl, hb⟩; have HB := Lib.hid hb; clear hb))
    all_goals (go_ret; refine ⟨ret_bool ?_, HB.out⟩; rw [HA.out])
set_option maxHeartbeats 1000000 in
set_option maxRecDepth 100000 in
theorem parse_long (s : ByteArray) (w : World) (hs : 64 < s.size) (hs2 : s.size ≤ 140737488355328) :
    Calls Tryz.prog 101 #[.string s] w fun e w' => e = .returned (.tuple #[.agg #[.int .i64 (stS s.data.toList), .int .i64 (stN s.data.toList)], .int .i64 (stErr s.data.toList)]) ∧ Below w.heap.size w w' := by
  have HS := Lib.hid (st_long (l := s.data.toList) (by rw [len_data]; exact hs))
  have h1 : decide ((s.size : Int) > 64) = true := by simp; omega
  go_enter Tryz.func101, Tryz.ntmps101
  go_wp2_with fail
  refine ret_blk_tmp rfl rfl (Blk.new w _ _) whole_TimeD rfl rfl ⟨?_, below_alloc' w _⟩
  rw [HS.out.1, HS.out.2.1, HS.out.2.2]
  rfl
theorem trimP (l : List UInt8) : Lib.trimPrefix l [45] = stBody l := by
  unfold Lib.trimPrefix stBody stNeg
  rw [pref_minus]
  rfl
theorem cutPre (s : ByteArray) (w : World) :
    Calls Tryz.prog 153 #[.string s, .string ⟨#[45]⟩] w fun e w' => e = .returned (.tuple #[.string ⟨(stBody s.data.toList).toArray⟩, .bool (stNeg s.data.toList)]) ∧ w' = w := by
  have h := cutPrefix_calls s ⟨#[45]⟩ w
  rw [show (ByteArray.mk #[45]).data.toList = [45] from rfl, trimP, pref_minus] at h
  exact h
theorem cutDot (s : ByteArray) (w : World) (hs : s.size ≤ 64) (hm : MaxLenOk w) :
    Calls Tryz.prog 34 #[.string ⟨(stBody s.data.toList).toArray⟩, .string ⟨#[46]⟩] w fun e w' => e = .returned (.tuple #[.string ⟨(stWhole s.data.toList).toArray⟩, .string ⟨(stPart s.data.toList).toArray⟩, .bool (stDot s.data.toList)]) ∧ Below w.heap.size w w' := by
  have hl : (stBody s.data.toList).length ≤ 64 := by
    have := len_data s
    unfold stBody; split
    · simp; omega
    · omega
  have h := cut_calls ⟨(stBody s.data.toList).toArray⟩ ⟨#[46]⟩ w (by simp [ByteArray.size]; omega) hm
  rw [show (ByteArray.mk #[46]).data.toList = [46] from rfl, show (ByteArray.mk (stBody s.data.toList).toArray).data.toList = stBody s.data.toList from rfl, cut_dot] at h
  exact h
theorem body_len (s : ByteArray) : (stBody s.data.toList).length ≤ s.size := by
  have := len_data s
  unfold stBody; split
  · simp <;> omega
  · omega
theorem whole_len (s : ByteArray) : (stWhole s.data.toList).length ≤ s.size := by
  have := body_len s
  unfold stWhole; simp; omega
theorem part_len (s : ByteArray) : (stPart s.data.toList).length ≤ s.size := by
  have := body_len s
  unfold stPart; simp; omega
theorem allDigits' (l : List UInt8) (w : World) (hs : l.length ≤ 64) :
    Calls Tryz.prog 154 #[.string ⟨l.toArray⟩] w fun e w' => e = .returned (.bool (allDig l)) ∧ Below w.heap.size w w' := allDigits ⟨l.toArray⟩ w (by simp [ByteArray.size]; omega)
theorem bad_no {l : List UInt8} (h1 : (stDot l && !allDig (stPart l)) = false) (h2 : allDig (stWhole l) = true) (h3 : ¬ (1 < (stWhole l).length ∧ (stWhole l).head? = some 48)) : stBad l = false := by
  unfold stBad
  rw [h1, h2, ← Bool.decide_and, decide_eq_false h3]; rfl
theorem allDig_parts {l : List UInt8} (h : allDig l = true) : l ≠ [] ∧ l.all isDig = true := by
  unfold allDig at h
  rw [Bool.and_eq_true] at h
  refine ⟨?_, h.2⟩
  intro e; rw [e] at h; exact absurd h.1 (by decide)
theorem dec_zero {l : List UInt8} (w : World) (hl : l.length ≤ 64) (hv : ErrRangeOk w) (hz : 1 < l.length ∧ l.head? = some 48) :
    Calls Tryz.prog 100 #[.string ⟨l.toArray⟩] w fun e w' => e = .returned (.tuple #[.int .i64 0, .int .i64 10]) ∧ Below w.heap.size w w' := by
  have h := decimal ⟨l.toArray⟩ w (by simp [ByteArray.size]; omega) hv
  obtain ⟨e1, e2⟩ := dec_bad (l := l) (by unfold decBad; rw [hz.2]; simp [hz.1])
  rw [show (ByteArray.mk l.toArray).data.toList = l from rfl, e1, e2] at h
  exact h
theorem dec_huge {l : List UInt8} (w : World) (hl : l.length ≤ 64) (hv : ErrRangeOk w) (hw : allDig l = true) (hz : ¬ (1 < l.length ∧ l.head? = some 48)) (hb : ¬ dval l ≤ 9223372036854775807) :
    Calls Tryz.prog 100 #[.string ⟨l.toArray⟩] w fun e w' => e = .returned (.tuple #[.int .i64 0, .int .i64 11]) ∧ Below w.heap.size w w' := by
  have h := decimal ⟨l.toArray⟩ w (by simp [ByteArray.size]; omega) hv
  obtain ⟨n1, n2⟩ := allDig_parts hw
  obtain ⟨e1, e2⟩ := dec_big (l := l) (bad_not n1 hz n2) hb
  rw [show (ByteArray.mk l.toArray).data.toList = l from rfl, e1, e2] at h
  exact h
theorem dec_good {l : List UInt8} (w : World) (hl : l.length ≤ 64) (hv : ErrRangeOk w) (hw : allDig l = true) (hz : ¬ (1 < l.length ∧ l.head? = some 48)) (hb : dval l ≤ 9223372036854775807) :
    Calls Tryz.prog 100 #[.string ⟨l.toArray⟩] w fun e w' => e = .returned (.tuple #[.int .i64 (dval l : Nat), .int .i64 0]) ∧ Below w.heap.size w w' := by
  have h := decimal ⟨l.toArray⟩ w (by simp [ByteArray.size]; omega) hv
  obtain ⟨n1, n2⟩ := allDig_parts hw
  obtain ⟨e1, e2⟩ := dec_ok (l := l) (bad_not n1 hz n2) hb
  rw [show (ByteArray.mk l.toArray).data.toList = l from rfl, e1, e2] at h
  exact h
set_option maxHeartbeats 1000000 in
set_option maxRecDepth 100000 in
theorem parse_bad1 (s : ByteArray) (w : World) (hs : s.size ≤ 64) (hm : MaxLenOk w) (hd : stDot s.data.toList = true) (hp : allDig (stPart s.data.toList) = false) :
    Calls Tryz.prog 101 #[.string s] w fun e w' => e = .returned (.tuple #[.agg #[.int .i64 (stS s.data.toList), .int .i64 (stN s.data.toList)], .int .i64 (stErr s.data.toList)]) ∧ Below w.heap.size w w' := by
  have HS := Lib.hid (st_bad (l := s.data.toList) (by rw [len_data]; omega) (by unfold stBad; rw [hd, hp]; rfl))
  have hlw := whole_len s
  have hlp := part_len s
  have HCP := Lib.hid (cutPre s)
  have HCU := Lib.hid (fun w hm => cutDot s w hs hm)
  have HM1 := Lib.hid (hm.keep (below_alloc' w (.cells #[.int .i64 0, .int .i64 0] 44)))
  have hs64 : ¬ (64 : Int) < s.size := by omega
  go_enter Tryz.func101, Tryz.ntmps101
  go_wp2_with fail
  refine (HCP.out _).mono ?_
  rintro e w1 ⟨rfl, rfl⟩
  go_wp2_with fail
  refine (HCU.out _ HM1.out).mono ?_
  rintro e w2 ⟨rfl, hb2⟩
  obtain ⟨b1, hbw2, hsz2⟩ := blks1 hb2
  have HB := Lib.hid b1; have HW := Lib.hid hbw2
  clear hb2 b1 hbw2 hsz2
  go_wp2_with (first | (go_at_call 154; refine (allDigits' _ _ (by omega)).mono ?_; rintro e w3 ⟨rfl, hb3⟩; replace HB := Lib.hid (HB.out.below hb3 HB.out.lt); replace HW := Lib.hid (HW.out.trans (hb3.mono HW.out.size)); clear hb3) | (refine wpList_store_blk rfl 44 (.tmp 2) (.tmp 40) rfl _ rfl HB.out rfl (by kernel_rfl) rfl rfl ?_; intro u2 b3 hg3; replace HB := Lib.hid b3; replace HW := Lib.hid (HW.out.grown hg3 HW.out.size (fun k hk => by injection hk with hk; omega)); clear b3 hg3))
  all_goals (
    refine ret_blk_tmp rfl rfl HB.out whole_TimeD rfl rfl ⟨?_, HW.out⟩
    rw [HS.out.1, HS.out.2.1, HS.out.2.2]
    rfl)
set_option maxHeartbeats 1000000 in
set_option maxRecDepth 100000 in
theorem parse_bad2 (s : ByteArray) (w : World) (hs : s.size ≤ 64) (hm : MaxLenOk w) (hd : stDot s.data.toList = true) (hp : allDig (stPart s.data.toList) = true) (hw : allDig (stWhole s.data.toList) = false) :
    Calls Tryz.prog 101 #[.string s] w fun e w' => e = .returned (.tuple #[.agg #[.int .i64 (stS s.data.toList), .int .i64 (stN s.data.toList)], .int .i64 (stErr s.data.toList)]) ∧ Below w.heap.size w w' := by
  have HS := Lib.hid (st_bad (l := s.data.toList) (by rw [len_data]; omega) (by unfold stBad; rw [hw]; simp))
  have hlw := whole_len s
  have hlp := part_len s
  have HCP := Lib.hid (cutPre s)
  have HCU := Lib.hid (fun w hm => cutDot s w hs hm)
  have HM1 := Lib.hid (hm.keep (below_alloc' w (.cells #[.int .i64 0, .int .i64 0] 44)))
  have hs64 : ¬ (64 : Int) < s.size := by omega
  go_enter Tryz.func101, Tryz.ntmps101
  go_wp2_with fail
  refine (HCP.out _).mono ?_
  rintro e w1 ⟨rfl, rfl⟩
  go_wp2_with fail
  refine (HCU.out _ HM1.out).mono ?_
  rintro e w2 ⟨rfl, hb2⟩
  obtain ⟨b1, hbw2, hsz2⟩ := blks1 hb2
  have HB := Lib.hid b1; have HW := Lib.hid hbw2
  clear hb2 b1 hbw2 hsz2
  go_wp2_with (first | (go_at_call 154; refine (allDigits' _ _ (by omega)).mono ?_; rintro e w3 ⟨rfl, hb3⟩; replace HB := Lib.hid (HB.out.below hb3 HB.out.lt); replace HW := Lib.hid (HW.out.trans (hb3.mono HW.out.size)); clear hb3) | (refine wpList_store_blk rfl 44 (.tmp 2) (.tmp 40) rfl _ rfl HB.out rfl (by kernel_rfl) rfl rfl ?_; intro u2 b3 hg3; replace HB := Lib.hid b3; replace HW := Lib.hid (HW.out.grown hg3 HW.out.size (fun k hk => by injection hk with hk; omega)); clear b3 hg3))
  all_goals (
    refine ret_blk_tmp rfl rfl HB.out whole_TimeD rfl rfl ⟨?_, HW.out⟩
    rw [HS.out.1, HS.out.2.1, HS.out.2.2]
    rfl)
set_option maxHeartbeats 1000000 in
set_option maxRecDepth 100000 in
theorem parse_bad3 (s : ByteArray) (w : World) (hs : s.size ≤ 64) (hm : MaxLenOk w) (hv : ErrRangeOk w) (hd : stDot s.data.toList = true) (hp : allDig (stPart s.data.toList) = true) (hw : allDig (stWhole s.data.toList) = true) (hz : 1 < (stWhole s.data.toList).length ∧ (stWhole s.data.toList).head? = some 48) :
    Calls Tryz.prog 101 #[.string s] w fun e w' => e = .returned (.tuple #[.agg #[.int .i64 (stS s.data.toList), .int .i64 (stN s.data.toList)], .int .i64 (stErr s.data.toList)]) ∧ Below w.heap.size w w' := by
  have HS := Lib.hid (st_bad (l := s.data.toList) (by rw [len_data]; omega) (by unfold stBad; rw [hw]; simp [hz.1, hz.2]))
  have HDC := Lib.hid (fun w hv => dec_zero (l := stWhole s.data.toList) w (by have := whole_len s; omega) hv hz)
  clear hz
  have hlw := whole_len s
  have hlp := part_len s
  have HCP := Lib.hid (cutPre s)
  have HCU := Lib.hid (fun w hm => cutDot s w hs hm)
  have HM1 := Lib.hid (hm.keep (below_alloc' w (.cells #[.int .i64 0, .int .i64 0] 44)))
  have hs64 : ¬ (64 : Int) < s.size := by omega
  go_enter Tryz.func101, Tryz.ntmps101
  go_wp2_with fail
  refine (HCP.out _).mono ?_
  rintro e w1 ⟨rfl, rfl⟩
  go_wp2_with fail
  refine (HCU.out _ HM1.out).mono ?_
  rintro e w2 ⟨rfl, hb2⟩
  obtain ⟨b1, hbw2, hsz2⟩ := blks1 hb2
  have HB := Lib.hid b1; have HW := Lib.hid hbw2
  clear hb2 b1 hbw2 hsz2
  go_wp2_with (first | (go_at_call 154; refine (allDigits' _ _ (by omega)).mono ?_; rintro e w3 ⟨rfl, hb3⟩; replace HB := Lib.hid (HB.out.below hb3 HB.out.lt); replace HW := Lib.hid (HW.out.trans (hb3.mono HW.out.size)); clear hb3) | (go_at_call 100; refine (HDC.out _ (hv.keep HW.out)).mono ?_; rintro e w3 ⟨rfl, hb3⟩; replace HB := Lib.hid (HB.out.below hb3 HB.out.lt); replace HW := Lib.hid (HW.out.trans (hb3.mono HW.out.size)); clear hb3) | (refine wpList_store_blk rfl 44 (.tmp 2) (.tmp 48) rfl _ rfl HB.out rfl (by kernel_rfl) rfl rfl ?_; intro u2 b3 hg3; replace HB := Lib.hid b3; replace HW := Lib.hid (HW.out.grown hg3 HW.out.size (fun k hk => by injection hk with hk; omega)); clear b3 hg3))
  all_goals (
    refine ret_blk_tmp rfl rfl HB.out whole_TimeD rfl rfl ⟨?_, HW.out⟩
    rw [HS.out.1, HS.out.2.1, HS.out.2.2]
    rfl)
set_option maxHeartbeats 1000000 in
set_option maxRecDepth 100000 in
theorem parse_big1 (s : ByteArray) (w : World) (hs : s.size ≤ 64) (hm : MaxLenOk w) (hv : ErrRangeOk w) (hd : stDot s.data.toList = true) (hp : allDig (stPart s.data.toList) = true) (hw : allDig (stWhole s.data.toList) = true) (hz : ¬ (1 < (stWhole s.data.toList).length ∧ (stWhole s.data.toList).head? = some 48)) (hb : ¬ dval (stWhole s.data.toList) ≤ 9223372036854775807) :
    Calls Tryz.prog 101 #[.string s] w fun e w' => e = .returned (.tuple #[.agg #[.int .i64 (stS s.data.toList), .int .i64 (stN s.data.toList)], .int .i64 (stErr s.data.toList)]) ∧ Below w.heap.size w w' := by
  have HS := Lib.hid (st_big (l := s.data.toList) (by rw [len_data]; omega) (bad_no (by rw [hd, hp]; rfl) hw hz) (by omega))
  have HDC := Lib.hid (fun w hv => dec_huge (l := stWhole s.data.toList) w (by have := whole_len s; omega) hv hw hz hb)
  clear hz hb
  have hlw := whole_len s
  have hlp := part_len s
  have HCP := Lib.hid (cutPre s)
  have HCU := Lib.hid (fun w hm => cutDot s w hs hm)
  have HM1 := Lib.hid (hm.keep (below_alloc' w (.cells #[.int .i64 0, .int .i64 0] 44)))
  have hs64 : ¬ (64 : Int) < s.size := by omega
  go_enter Tryz.func101, Tryz.ntmps101
  go_wp2_with fail
  refine (HCP.out _).mono ?_
  rintro e w1 ⟨rfl, rfl⟩
  go_wp2_with fail
  refine (HCU.out _ HM1.out).mono ?_
  rintro e w2 ⟨rfl, hb2⟩
  obtain ⟨b1, hbw2, hsz2⟩ := blks1 hb2
  have HB := Lib.hid b1; have HW := Lib.hid hbw2
  clear hb2 b1 hbw2 hsz2
  go_wp2_with (first | (go_at_call 154; refine (allDigits' _ _ (by omega)).mono ?_; rintro e w3 ⟨rfl, hb3⟩; replace HB := Lib.hid (HB.out.below hb3 HB.out.lt); replace HW := Lib.hid (HW.out.trans (hb3.mono HW.out.size)); clear hb3) | (go_at_call 100; refine (HDC.out _ (hv.keep HW.out)).mono ?_; rintro e w3 ⟨rfl, hb3⟩; replace HB := Lib.hid (HB.out.below hb3 HB.out.lt); replace HW := Lib.hid (HW.out.trans (hb3.mono HW.out.size)); clear hb3) | (refine wpList_store_blk rfl 44 (.tmp 2) (.tmp 55) rfl _ rfl HB.out rfl (by kernel_rfl) rfl rfl ?_; intro u2 b3 hg3; replace HB := Lib.hid b3; replace HW := Lib.hid (HW.out.grown hg3 HW.out.size (fun k hk => by injection hk with hk; omega)); clear b3 hg3))
  all_goals (
    refine ret_blk_tmp rfl rfl HB.out whole_TimeD rfl rfl ⟨?_, HW.out⟩
    rw [HS.out.1, HS.out.2.1, HS.out.2.2]
    rfl)
set_option maxHeartbeats 1000000 in
set_option maxRecDepth 100000 in
theorem parse_big2 (s : ByteArray) (w : World) (hs : s.size ≤ 64) (hm : MaxLenOk w) (hv : ErrRangeOk w) (hd : stDot s.data.toList = true) (hp : allDig (stPart s.data.toList) = true) (hw : allDig (stWhole s.data.toList) = true) (hz : ¬ (1 < (stWhole s.data.toList).length ∧ (stWhole s.data.toList).head? = some 48)) (hb : dval (stWhole s.data.toList) ≤ 9223372036854775807) (hc : 1099511627776 < dval (stWhole s.data.toList)) :
    Calls Tryz.prog 101 #[.string s] w fun e w' => e = .returned (.tuple #[.agg #[.int .i64 (stS s.data.toList), .int .i64 (stN s.data.toList)], .int .i64 (stErr s.data.toList)]) ∧ Below w.heap.size w w' := by
  have HS := Lib.hid (st_big (l := s.data.toList) (by rw [len_data]; omega) (bad_no (by rw [hd, hp]; rfl) hw hz) hc)
  have HDC := Lib.hid (fun w hv => dec_good (l := stWhole s.data.toList) w (by have := whole_len s; omega) hv hw hz hb)
  clear hz
  have hc2 : decide (((dval (stWhole s.data.toList) : Nat) : Int) > 1099511627776) = true := by simp; omega
  have hlw := whole_len s
  have hlp := part_len s
  have HCP := Lib.hid (cutPre s)
  have HCU := Lib.hid (fun w hm => cutDot s w hs hm)
  have HM1 := Lib.hid (hm.keep (below_alloc' w (.cells #[.int .i64 0, .int .i64 0] 44)))
  have hs64 : ¬ (64 : Int) < s.size := by omega
  go_enter Tryz.func101, Tryz.ntmps101
  go_wp2_with fail
  refine (HCP.out _).mono ?_
  rintro e w1 ⟨rfl, rfl⟩
  go_wp2_with fail
  refine (HCU.out _ HM1.out).mono ?_
  rintro e w2 ⟨rfl, hb2⟩
  obtain ⟨b1, hbw2, hsz2⟩ := blks1 hb2
  have HB := Lib.hid b1; have HW := Lib.hid hbw2
  clear hb2 b1 hbw2 hsz2
  go_wp2_with (first | (go_at_call 154; refine (allDigits' _ _ (by omega)).mono ?_; rintro e w3 ⟨rfl, hb3⟩; replace HB := Lib.hid (HB.out.below hb3 HB.out.lt); replace HW := Lib.hid (HW.out.trans (hb3.mono HW.out.size)); clear hb3) | (go_at_call 100; refine (HDC.out _ (hv.keep HW.out)).mono ?_; rintro e w3 ⟨rfl, hb3⟩; replace HB := Lib.hid (HB.out.below hb3 HB.out.lt); replace HW := Lib.hid (HW.out.trans (hb3.mono HW.out.size)); clear hb3) | (refine wpList_store_blk rfl 44 (.tmp 2) (.tmp 55) rfl _ rfl HB.out rfl (by kernel_rfl) rfl rfl ?_; intro u2 b3 hg3; replace HB := Lib.hid b3; replace HW := Lib.hid (HW.out.grown hg3 HW.out.size (fun k hk => by injection hk with hk; omega)); clear b3 hg3))
  all_goals (
    refine ret_blk_tmp rfl rfl HB.out whole_TimeD rfl rfl ⟨?_, HW.out⟩
    rw [HS.out.1, HS.out.2.1, HS.out.2.2]
    rfl)
set_option maxHeartbeats 1000000 in
set_option maxRecDepth 100000 in
theorem parse_bad2n (s : ByteArray) (w : World) (hs : s.size ≤ 64) (hm : MaxLenOk w) (hd : stDot s.data.toList = false) (hw : allDig (stWhole s.data.toList) = false) :
    Calls Tryz.prog 101 #[.string s] w fun e w' => e = .returned (.tuple #[.agg #[.int .i64 (stS s.data.toList), .int .i64 (stN s.data.toList)], .int .i64 (stErr s.data.toList)]) ∧ Below w.heap.size w w' := by
  have HS := Lib.hid (st_bad (l := s.data.toList) (by rw [len_data]; omega) (by unfold stBad; rw [hw]; simp))
  have hlw := whole_len s
  have hlp := part_len s
  have HCP := Lib.hid (cutPre s)
  have HCU := Lib.hid (fun w hm => cutDot s w hs hm)
  have HM1 := Lib.hid (hm.keep (below_alloc' w (.cells #[.int .i64 0, .int .i64 0] 44)))
  have hs64 : ¬ (64 : Int) < s.size := by omega
  go_enter Tryz.func101, Tryz.ntmps101
  go_wp2_with fail
  refine (HCP.out _).mono ?_
  rintro e w1 ⟨rfl, rfl⟩
  go_wp2_with fail
  refine (HCU.out _ HM1.out).mono ?_
  rintro e w2 ⟨rfl, hb2⟩
  obtain ⟨b1, hbw2, hsz2⟩ := blks1 hb2
  have HB := Lib.hid b1; have HW := Lib.hid hbw2
  clear hb2 b1 hbw2 hsz2
  go_wp2_with (first | (go_at_call 154; refine (allDigits' _ _ (by omega)).mono ?_; rintro e w3 ⟨rfl, hb3⟩; replace HB := Lib.hid (HB.out.below hb3 HB.out.lt); replace HW := Lib.hid (HW.out.trans (hb3.mono HW.out.size)); clear hb3) | (refine wpList_store_blk rfl 44 (.tmp 2) (.tmp 40) rfl _ rfl HB.out rfl (by kernel_rfl) rfl rfl ?_; intro u2 b3 hg3; replace HB := Lib.hid b3; replace HW := Lib.hid (HW.out.grown hg3 HW.out.size (fun k hk => by injection hk with hk; omega)); clear b3 hg3))
  all_goals (
    refine ret_blk_tmp rfl rfl HB.out whole_TimeD rfl rfl ⟨?_, HW.out⟩
    rw [HS.out.1, HS.out.2.1, HS.out.2.2]
    rfl)
set_option maxHeartbeats 1000000 in
set_option maxRecDepth 100000 in
theorem parse_bad3n (s : ByteArray) (w : World) (hs : s.size ≤ 64) (hm : MaxLenOk w) (hv : ErrRangeOk w) (hd : stDot s.data.toList = false) (hw : allDig (stWhole s.data.toList) = true) (hz : 1 < (stWhole s.data.toList).length ∧ (stWhole s.data.toList).head? = some 48) :
    Calls Tryz.prog 101 #[.string s] w fun e w' => e = .returned (.tuple #[.agg #[.int .i64 (stS s.data.toList), .int .i64 (stN s.data.toList)], .int .i64 (stErr s.data.toList)]) ∧ Below w.heap.size w w' := by
  have HS := Lib.hid (st_bad (l := s.data.toList) (by rw [len_data]; omega) (by unfold stBad; rw [hw]; simp [hz.1, hz.2]))
  have HDC := Lib.hid (fun w hv => dec_zero (l := stWhole s.data.toList) w (by have := whole_len s; omega) hv hz)
  clear hz
  have hlw := whole_len s
  have hlp := part_len s
  have HCP := Lib.hid (cutPre s)
  have HCU := Lib.hid (fun w hm => cutDot s w hs hm)
  have HM1 := Lib.hid (hm.keep (below_alloc' w (.cells #[.int .i64 0, .int .i64 0] 44)))
  have hs64 : ¬ (64 : Int) < s.size := by omega
  go_enter Tryz.func101, Tryz.ntmps101
  go_wp2_with fail
  refine (HCP.out _).mono ?_
  rintro e w1 ⟨rfl, rfl⟩
  go_wp2_with fail
  refine (HCU.out _ HM1.out).mono ?_
  rintro e w2 ⟨rfl, hb2⟩
  obtain ⟨b1, hbw2, hsz2⟩ := blks1 hb2
  have HB := Lib.hid b1; have HW := Lib.hid hbw2
  clear hb2 b1 hbw2 hsz2
  go_wp2_with (first | (go_at_call 154; refine (allDigits' _ _ (by omega)).mono ?_; rintro e w3 ⟨rfl, hb3⟩; replace HB := Lib.hid (HB.out.below hb3 HB.out.lt); replace HW := Lib.hid (HW.out.trans (hb3.mono HW.out.size)); clear hb3) | (go_at_call 100; refine (HDC.out _ (hv.keep HW.out)).mono ?_; rintro e w3 ⟨rfl, hb3⟩; replace HB := Lib.hid (HB.out.below hb3 HB.out.lt); replace HW := Lib.hid (HW.out.trans (hb3.mono HW.out.size)); clear hb3) | (refine wpList_store_blk rfl 44 (.tmp 2) (.tmp 48) rfl _ rfl HB.out rfl (by kernel_rfl) rfl rfl ?_; intro u2 b3 hg3; replace HB := Lib.hid b3; replace HW := Lib.hid (HW.out.grown hg3 HW.out.size (fun k hk => by injection hk with hk; omega)); clear b3 hg3))
  all_goals (
    refine ret_blk_tmp rfl rfl HB.out whole_TimeD rfl rfl ⟨?_, HW.out⟩
    rw [HS.out.1, HS.out.2.1, HS.out.2.2]
    rfl)
set_option maxHeartbeats 1000000 in
set_option maxRecDepth 100000 in
theorem parse_big1n (s : ByteArray) (w : World) (hs : s.size ≤ 64) (hm : MaxLenOk w) (hv : ErrRangeOk w) (hd : stDot s.data.toList = false) (hw : allDig (stWhole s.data.toList) = true) (hz : ¬ (1 < (stWhole s.data.toList).length ∧ (stWhole s.data.toList).head? = some 48)) (hb : ¬ dval (stWhole s.data.toList) ≤ 9223372036854775807) :
    Calls Tryz.prog 101 #[.string s] w fun e w' => e = .returned (.tuple #[.agg #[.int .i64 (stS s.data.toList), .int .i64 (stN s.data.toList)], .int .i64 (stErr s.data.toList)]) ∧ Below w.heap.size w w' := by
  have HS := Lib.hid (st_big (l := s.data.toList) (by rw [len_data]; omega) (bad_no (by rw [hd]; rfl) hw hz) (by omega))
  have HDC := Lib.hid (fun w hv => dec_huge (l := stWhole s.data.toList) w (by have := whole_len s; omega) hv hw hz hb)
  clear hz hb
  have hlw := whole_len s
  have hlp := part_len s
  have HCP := Lib.hid (cutPre s)
  have HCU := Lib.hid (fun w hm => cutDot s w hs hm)
  have HM1 := Lib.hid (hm.keep (below_alloc' w (.cells #[.int .i64 0, .int .i64 0] 44)))
  have hs64 : ¬ (64 : Int) < s.size := by omega
  go_enter Tryz.func101, Tryz.ntmps101
  go_wp2_with fail
  refine (HCP.out _).mono ?_
  rintro e w1 ⟨rfl, rfl⟩
  go_wp2_with fail
  refine (HCU.out _ HM1.out).mono ?_
  rintro e w2 ⟨rfl, hb2⟩
  obtain ⟨b1, hbw2, hsz2⟩ := blks1 hb2
  have HB := Lib.hid b1; have HW := Lib.hid hbw2
  clear hb2 b1 hbw2 hsz2
  go_wp2_with (first | (go_at_call 154; refine (allDigits' _ _ (by omega)).mono ?_; rintro e w3 ⟨rfl, hb3⟩; replace HB := Lib.hid (HB.out.below hb3 HB.out.lt); replace HW := Lib.hid (HW.out.trans (hb3.mono HW.out.size)); clear hb3) | (go_at_call 100; refine (HDC.out _ (hv.keep HW.out)).mono ?_; rintro e w3 ⟨rfl, hb3⟩; replace HB := Lib.hid (HB.out.below hb3 HB.out.lt); replace HW := Lib.hid (HW.out.trans (hb3.mono HW.out.size)); clear hb3) | (refine wpList_store_blk rfl 44 (.tmp 2) (.tmp 55) rfl _ rfl HB.out rfl (by kernel_rfl) rfl rfl ?_; intro u2 b3 hg3; replace HB := Lib.hid b3; replace HW := Lib.hid (HW.out.grown hg3 HW.out.size (fun k hk => by injection hk with hk; omega)); clear b3 hg3))
  all_goals (
    refine ret_blk_tmp rfl rfl HB.out whole_TimeD rfl rfl ⟨?_, HW.out⟩
    rw [HS.out.1, HS.out.2.1, HS.out.2.2]
    rfl)
set_option maxHeartbeats 1000000 in
set_option maxRecDepth 100000 in
theorem parse_big2n (s : ByteArray) (w : World) (hs : s.size ≤ 64) (hm : MaxLenOk w) (hv : ErrRangeOk w) (hd : stDot s.data.toList = false) (hw : allDig (stWhole s.data.toList) = true) (hz : ¬ (1 < (stWhole s.data.toList).length ∧ (stWhole s.data.toList).head? = some 48)) (hb : dval (stWhole s.data.toList) ≤ 9223372036854775807) (hc : 1099511627776 < dval (stWhole s.data.toList)) :
    Calls Tryz.prog 101 #[.string s] w fun e w' => e = .returned (.tuple #[.agg #[.int .i64 (stS s.data.toList), .int .i64 (stN s.data.toList)], .int .i64 (stErr s.data.toList)]) ∧ Below w.heap.size w w' := by
  have HS := Lib.hid (st_big (l := s.data.toList) (by rw [len_data]; omega) (bad_no (by rw [hd]; rfl) hw hz) hc)
  have HDC := Lib.hid (fun w hv => dec_good (l := stWhole s.data.toList) w (by have := whole_len s; omega) hv hw hz hb)
  clear hz
  have hc2 : decide (((dval (stWhole s.data.toList) : Nat) : Int) > 1099511627776) = true := by simp; omega
  have hlw := whole_len s
  have hlp := part_len s
  have HCP := Lib.hid (cutPre s)
  have HCU := Lib.hid (fun w hm => cutDot s w hs hm)
  have HM1 := Lib.hid (hm.keep (below_alloc' w (.cells #[.int .i64 0, .int .i64 0] 44)))
  have hs64 : ¬ (64 : Int) < s.size := by omega
  go_enter Tryz.func101, Tryz.ntmps101
  go_wp2_with fail
  refine (HCP.out _).mono ?_
  rintro e w1 ⟨rfl, rfl⟩
  go_wp2_with fail
  refine (HCU.out _ HM1.out).mono ?_
  rintro e w2 ⟨rfl, hb2⟩
  obtain ⟨b1, hbw2, hsz2⟩ := blks1 hb2
  have HB := Lib.hid b1; have HW := Lib.hid hbw2
  clear hb2 b1 hbw2 hsz2
  go_wp2_with (first | (go_at_call 154; refine (allDigits' _ _ (by omega)).mono ?_; rintro e w3 ⟨rfl, hb3⟩; replace HB := Lib.hid (HB.out.below hb3 HB.out.lt); replace HW := Lib.hid (HW.out.trans (hb3.mono HW.out.size)); clear hb3) | (go_at_call 100; refine (HDC.out _ (hv.keep HW.out)).mono ?_; rintro e w3 ⟨rfl, hb3⟩; replace HB := Lib.hid (HB.out.below hb3 HB.out.lt); replace HW := Lib.hid (HW.out.trans (hb3.mono HW.out.size)); clear hb3) | (refine wpList_store_blk rfl 44 (.tmp 2) (.tmp 55) rfl _ rfl HB.out rfl (by kernel_rfl) rfl rfl ?_; intro u2 b3 hg3; replace HB := Lib.hid b3; replace HW := Lib.hid (HW.out.grown hg3 HW.out.size (fun k hk => by injection hk with hk; omega)); clear b3 hg3))
  all_goals (
    refine ret_blk_tmp rfl rfl HB.out whole_TimeD rfl rfl ⟨?_, HW.out⟩
    rw [HS.out.1, HS.out.2.1, HS.out.2.2]
    rfl)
end Go.Proofs.YtfhfcipelgogjaaGreatDoor
