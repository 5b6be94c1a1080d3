/- The reference's Decimal and digits: what they answer. No condition but room. The library's part of reading numbers and times. No condition but room and what the library's variables hold. numeral.Decimal: what it answers. No condition but room and what the library's variables hold. -/
import Derived.Test.YtfhfcipelgogjaaGreatDoorLawAll
import Derived.Test.YtfhfcipelgogjaaGreatDoorLayParse
namespace Go.Proofs.YtfhfcipelgogjaaGreatDoor
open Go.RowKit
set_option linter.unusedVariables false
set_option linter.unusedSimpArgs false
theorem len_data (s : ByteArray) : s.data.toList.length = s.size := by rw [Array.length_toList]; rfl
theorem empty_data (s : ByteArray) : s.toList.isEmpty = s.data.toList.isEmpty := by rw [ByteArray.toList_eq]
theorem isDig_no {c : UInt8} (h : (c.toNat : Int) < 48 ∨ 57 < (c.toNat : Int)) : isDig c = false := by
  rw [← Bool.not_eq_true, isDig_iff]; omega
theorem isDig_yes {c : UInt8} (h : 48 ≤ (c.toNat : Int)) (h2 : (c.toNat : Int) ≤ 57) : isDig c = true := by
  rw [isDig_iff]; omega
end Go.Proofs.YtfhfcipelgogjaaGreatDoor
namespace Go.Proofs.YtfhfcipelgogjaaGreatDoor
open Go.RowKit
set_option linter.unusedVariables false
set_option linter.unusedSimpArgs false

/-- the library's variable MaxLen holds some number -/
def MaxLenOk (w : World) : Prop := ∃ m : Int, w.cell? ⟨0, 0, none⟩ = some (.int .i64 m)
/-- the library's ErrRange holds an error -/
def ErrRangeOk (w : World) : Prop := ∃ (tp : TypeId) (p : Value), w.cell? ⟨5, 0, none⟩ = some (.iface tp p)
theorem cell_lt {w : World} {g i : Nat} {v : Value} (h : w.cell? ⟨g, i, none⟩ = some v) : g < w.heap.size := by
  rcases Nat.lt_or_ge g w.heap.size with hlt | hge
  · exact hlt
  · unfold World.cell? at h
    simp only at h
    rw [Array.getElem?_eq_none hge] at h
    simp at h
theorem MaxLenOk.keep {w w' : World} (h : MaxLenOk w) (hb : Below w.heap.size w w') : MaxLenOk w' := by
  obtain ⟨m, hm⟩ := h
  exact ⟨m, (World.cell?_of_block (hb.block _ (cell_lt hm))).trans hm⟩
theorem ErrRangeOk.keep {w w' : World} (h : ErrRangeOk w) (hb : Below w.heap.size w w') : ErrRangeOk w' := by
  obtain ⟨t, p, hm⟩ := h
  exact ⟨t, p, (World.cell?_of_block (hb.block _ (cell_lt hm))).trans hm⟩
theorem cutPrefix_calls (s p : ByteArray) (w : World) :
    Calls Tryz.prog 153 #[.string s, .string p] w fun e w' => e = .returned (.tuple #[.string ⟨(Lib.trimPrefix s.data.toList p.data.toList).toArray⟩, .bool (Lib.hasPrefix s.data.toList p.data.toList)]) ∧ w' = w :=
  Any.strings_CutPrefix Tryz.lays103 s p w
theorem cut_calls (s sep : ByteArray) (w : World) (hs : s.size < 4294967281) (hm : MaxLenOk w) :
    Calls Tryz.prog 34 #[.string s, .string sep] w fun e w' => e = .returned (.tuple #[.string ⟨(Lib.cut s.data.toList sep.data.toList).1.toArray⟩, .string ⟨(Lib.cut s.data.toList sep.data.toList).2.1.toArray⟩, .bool (Lib.cut s.data.toList sep.data.toList).2.2]) ∧ Below w.heap.size w w' := by
  obtain ⟨m, hm⟩ := hm
  refine (Any.strings_Cut Tryz.lays145 s sep m w hs hm).mono ?_
  rintro e w' ⟨he, n, rfl⟩
  exact ⟨he, ⟨rfl, rfl, rfl, Nat.le_refl _, fun _ _ => rfl⟩⟩
theorem trim_calls (s cs : ByteArray) (w : World) (hs : s.size ≤ 9223372036854775807) (hc : cs.size < 4294967281) (ha : ∀ (j : Nat) b, cs.data.toList[j]? = some b → b.toNat < 128) :
    Calls Tryz.prog 156 #[.string s, .string cs] w fun e w' => e = .returned (.string ⟨(Lib.trimS s.data.toList cs.data.toList).toArray⟩) ∧ Below w.heap.size w w' :=
  Any.strings_Trim_laid Tryz.lays160 (by kernel_rfl) s cs w hs hc ha
theorem below_bytes (w : World) (e : TypeId) (t : ByteArray) : Below w.heap.size w (Lib.bytesWorld w e t) := by
  exact Lib.bytesWorld_below w e t
theorem parseInt_ok (s : ByteArray) (w : World) (hs : s.size ≤ 140737488355328) (v : Int) (h : Lib.parseIntB 64 s.data.toList = .ok v) :
    Calls Tryz.prog 152 #[.string s, .int .i64 10, .int .i64 64] w fun e w' => e = .returned (.tuple #[.int .i64 v, .nilIface]) ∧ Below w.heap.size w w' := by
  refine (Any.strconv_ParseInt_10_at64_ok Tryz.laysC174 s (by omega) v h w).mono ?_
  rintro e w' ⟨he, rfl | ⟨t, rfl⟩⟩
  · exact ⟨he, Below.refl _ _⟩
  · exact ⟨he, below_bytes _ _ _⟩
theorem parseInt_range (s : ByteArray) (w : World) (hs : s.size ≤ 140737488355328) (h : Lib.parseIntB 64 s.data.toList = .range) (hv : ErrRangeOk w) :
    Calls Tryz.prog 152 #[.string s, .int .i64 10, .int .i64 64] w fun e w' => ∃ (n : Int) (t : TypeId) (v : Value), e = .returned (.tuple #[.int .i64 n, .iface t v]) ∧ Below w.heap.size w w' := by
  obtain ⟨tp, p, hp⟩ := hv
  refine (Any.strconv_ParseInt_10_at64_range Tryz.laysC174 s (by omega) h (.iface tp p) w hp (.inr ⟨tp, p, rfl⟩)).mono ?_
  rintro e w' ⟨N, he, _, _, hb⟩
  exact ⟨_, _, _, he, hb⟩
theorem atoi_calls (s : ByteArray) (w : World) (n : Int) (hl : s.size ≤ 18) (h : Lib.atoi s.data.toList = some n) :
    Calls Tryz.prog 155 #[.string s] w fun e w' => e = .returned (.tuple #[.int .i64 n, .nilIface]) ∧ Below w.heap.size w w' := by
  refine (Any.strconv_Atoi Tryz.lays172 s n hl h w).mono ?_
  rintro e w' ⟨he, t, rfl⟩
  exact ⟨he, below_bytes _ _ _⟩
end Go.Proofs.YtfhfcipelgogjaaGreatDoor
namespace Go.Proofs.YtfhfcipelgogjaaGreatDoor
open Go.RowKit
set_option linter.unusedVariables false
set_option linter.unusedSimpArgs false
set_option maxHeartbeats 1000000 in
set_option maxRecDepth 100000 in
theorem decimal (s : ByteArray) (w : World) (hs : s.size ≤ 140737488355328) (hv : ErrRangeOk w) :
    Calls Tryz.prog 100 #[.string s] w fun e w' => e = .returned (.tuple #[.int .i64 (decV s.data.toList), .int .i64 (decErr s.data.toList)]) ∧ Below w.heap.size w w' := by
  have HL := Lib.hid (len_data s)
  by_cases h0 : s.data.toList = []
  · have HB := Lib.hid (dec_bad (l := s.data.toList) (by rw [h0]; rfl))
    have he : s.toList.isEmpty = true := by rw [empty_data, h0]; rfl
    clear h0
    go_enter Tryz.func100, Tryz.ntmps100
    go_wp2_with fail
    go_ret2
    refine ⟨?_, Below.refl _ _⟩; rw [HB.out.1, HB.out.2]; rfl
  have he : s.toList.isEmpty = false := by rw [empty_data]; cases hx : s.data.toList with | nil => exact absurd hx h0 | cons => rfl
  have hpos : 0 < s.size := by rw [← HL.out]; exact List.length_pos_iff.2 h0
  have hpos2 : (0 : Int) < s.size := by omega
  have hh0 : s.data.toList.head? = some s[0] := by
    rw [List.head?_eq_getElem?, List.getElem?_eq_getElem (by rw [HL.out]; exact hpos)]; rfl
  by_cases hb2 : 1 < s.data.toList.length ∧ s.data.toList.head? = some 48
  · have h1 : s[0] = 48 := by have := hb2.2; rw [hh0] at this; injection this
    have h2 : 1 < s.size := by rw [← HL.out]; exact hb2.1
    have HB := Lib.hid (dec_bad (l := s.data.toList) (by unfold decBad; rw [hh0, HL.out, h1]; simp [h2]))
    have e1 : ((s[0].toNat : Int) == 48) = true := by rw [h1]; rfl
    have e2 : decide ((s.size : Int) > 1) = true := by simp; omega
    clear h0 hh0 h1 hb2
    go_enter Tryz.func100, Tryz.ntmps100
    go_wp2_with fail
    go_ret2
    refine ⟨?_, Below.refl _ _⟩; rw [HB.out.1, HB.out.2]; rfl
  have hcase : (¬ 1 < s.size) ∨ (1 < s.size ∧ ((s[0].toNat : Int) == 48) = false) := by
    by_cases h2 : 1 < s.size
    · refine .inr ⟨h2, ?_⟩
      have h1 : s[0] ≠ 48 := fun h => hb2 ⟨by rw [HL.out]; exact h2, by rw [hh0, h]⟩
      have : s[0].toNat ≠ 48 := fun h => h1 (by apply UInt8.toNat_inj.1; exact h)
      rw [beq_eq_false_iff_ne]; omega
    · exact .inl h2
  have HNB : Hid (s.data.toList.all isDig = true → decBad s.data.toList = false) := Lib.hid (bad_not h0 hb2)
  have HNE := Lib.hid h0
  clear h0 hh0 hb2
  rcases hcase with e1 | ⟨e1, e2⟩
  all_goals
    go_enter Tryz.func100, Tryz.ntmps100
    go_wp2_with fail
    go_loopw [21] (fun i wr => ∃ k : Nat, k ≤ s.size ∧ i = .int .i64 k ∧ (s.data.toList.take k).all isDig = true ∧ wr = w) (fun i _ => s.size - (intOf i).toNat)
    case atStart => exact ⟨0, Nat.zero_le _, rfl, rfl, rfl⟩
    case round =>
      obtain ⟨k, hk, rfl, hd, rfl⟩ := hrel
      have HD := Lib.hid hd; clear hd
      by_cases hlt : k < s.size
      · have hlt2 : (k : Int) < s.size := by omega
        have hkl : k < s.data.toList.length := by rw [HL.out]; exact hlt
        by_cases hdg : isDig s[k] = true
        · have h2 := isDig_iff.1 hdg
          have h3 : ¬ (s[k].toNat : Int) < 48 := by omega
          have h4 : ¬ (57 : Int) < s[k].toNat := by omega
          have HT := Lib.hid (dig_take hkl HD.out hdg)
          clear hdg h2
          go_wp2_with fail
          go_roundw
          case rel => exact ⟨k + 1, by omega, by go_num, HT.out, trivial⟩
          case measure => simp [intOf]; omega
        · rw [Bool.not_eq_true] at hdg
          have HB := Lib.hid (dec_bad (bad_dig (not_dig hkl hdg)))
          by_cases h3 : (s[k].toNat : Int) < 48
          · clear hdg
            go_wp2_with fail
            go_ret2
            refine ⟨?_, Below.refl _ _⟩; rw [HB.out.1, HB.out.2]; rfl
          · have h4 : (57 : Int) < s[k].toNat := by
              have : ¬ (48 ≤ s[k].toNat ∧ s[k].toNat ≤ 57) := fun h => by rw [isDig_iff.2 h] at hdg; cases hdg
              omega
            clear hdg
            go_wp2_with fail
            go_ret2
            refine ⟨?_, Below.refl _ _⟩; rw [HB.out.1, HB.out.2]; rfl
      · have hks : ¬ (k : Int) < s.size := by omega
        have hd2 : s.data.toList.all isDig = true := by
          have := HD.out
          rwa [List.take_of_length_le (by rw [HL.out]; omega)] at this
        have HBN := Lib.hid (HNB.out hd2)
        have HPI := Lib.hid (parseInt_dig HNE.out hd2)
        clear hd2
        by_cases hbig : dval s.data.toList ≤ 9223372036854775807
        · have HB := Lib.hid (dec_ok HBN.out hbig)
          have HPC := Lib.hid (parseInt_ok s wr hs (dval s.data.toList) (by rw [HPI.out, if_pos hbig]))
          go_wp2_with (first | (go_at_call 152; refine HPC.out.mono ?_; rintro e w2 ⟨rfl, hb⟩; have HW := Lib.hid hb; clear hb))
          go_ret2
          refine ⟨?_, HW.out⟩; rw [HB.out.1, HB.out.2]; rfl
        · have HB := Lib.hid (dec_big HBN.out hbig)
          have HPC := Lib.hid (parseInt_range s wr hs (by rw [HPI.out, if_neg hbig]) hv)
          go_wp2_with (first | (go_at_call 152; refine HPC.out.mono ?_; rintro e w2 ⟨n, t, v, rfl, hb⟩; have HW := Lib.hid hb; clear hb))
          go_ret2
          refine ⟨?_, HW.out⟩; rw [HB.out.1, HB.out.2]; rfl
end Go.Proofs.YtfhfcipelgogjaaGreatDoor
