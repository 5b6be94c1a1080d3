/- stamp.Parse: what it answers, for every text. No condition but room and what the library's variables hold. -/
import Derived.Test.YtfhfcipelgogjaaGreatDoorStParse3
import Derived.Test.YtfhfcipelgogjaaGreatDoorStParse4
namespace Go.Proofs.YtfhfcipelgogjaaGreatDoor
open Go.RowKit
set_option linter.unusedVariables false
set_option linter.unusedSimpArgs false
set_option maxRecDepth 100000 in
theorem parse_long2 (s : ByteArray) (w : World) (hs : 64 < s.size) (hs2 : s.size ≤ 9223372036854775807) :
    Calls Tryz.prog 101 #[.string s] w fun e w' => e = .returned (.tuple #[.agg #[.int .i64 (stS s.data.toList), .int .i64 (stN s.data.toList)], .int .i64 (stErr s.data.toList)]) ∧ Below w.heap.size w w' := by
  have HS := Lib.hid (st_long (l := s.data.toList) (by rw [len_data]; exact hs))
  have h1 : decide ((s.size : Int) > 64) = true := by simp; omega
  go_enter Tryz.func101, Tryz.ntmps101
  go_wp2_with fail
  refine ret_blk_tmp rfl rfl (Blk.new w _ _) whole_TimeD rfl rfl ⟨?_, below_alloc' w _⟩
  rw [HS.out.1, HS.out.2.1, HS.out.2.2]
  rfl
theorem stampParse (s : ByteArray) (w : World) (hs2 : s.size ≤ 9223372036854775807) (hm : MaxLenOk w) (hv : ErrRangeOk w) :
    Calls Tryz.prog 101 #[.string s] w fun e w' => e = .returned (.tuple #[.agg #[.int .i64 (stS s.data.toList), .int .i64 (stN s.data.toList)], .int .i64 (stErr s.data.toList)]) ∧ Below w.heap.size w w' := by
  by_cases hs : 64 < s.size
  · exact parse_long2 s w hs hs2
  have hs : s.size ≤ 64 := by omega
  cases hd : stDot s.data.toList
  · cases hw : allDig (stWhole s.data.toList)
    · exact parse_bad2n s w hs hm hd hw
    by_cases hz : 1 < (stWhole s.data.toList).length ∧ (stWhole s.data.toList).head? = some 48
    · exact parse_bad3n s w hs hm hv hd hw hz
    by_cases hb : dval (stWhole s.data.toList) ≤ 9223372036854775807
    · by_cases hc : 1099511627776 < dval (stWhole s.data.toList)
      · exact parse_big2n s w hs hm hv hd hw hz hb hc
      have hc : dval (stWhole s.data.toList) ≤ 1099511627776 := by omega
      cases hneg : stNeg s.data.toList
      · exact parse_posn s w hs hm hv hd hw hz hc hneg
      by_cases hk : (stPart s.data.toList).length ≤ 9
      · by_cases hn : 0 < dval (first9 (stPart s.data.toList))
        · exact parse_negn0p s w hs hm hv hd hw hz hc hneg hk hn
        · exact parse_negn0z s w hs hm hv hd hw hz hc hneg hk hn
      have hk : 9 < (stPart s.data.toList).length := by omega
      cases hu : stUp s.data.toList
      · by_cases hn : 0 < dval (first9 (stPart s.data.toList))
        · exact parse_negn2p s w hs hm hv hd hw hz hc hneg hk hu hn
        · exact parse_negn2z s w hs hm hv hd hw hz hc hneg hk hu hn
      · exact parse_negn1p s w hs hm hv hd hw hz hc hneg hk hu
    · exact parse_big1n s w hs hm hv hd hw hz hb
  · cases hp : allDig (stPart s.data.toList)
    · exact parse_bad1 s w hs hm hd hp
    cases hw : allDig (stWhole s.data.toList)
    · exact parse_bad2 s w hs hm hd hp hw
    by_cases hz : 1 < (stWhole s.data.toList).length ∧ (stWhole s.data.toList).head? = some 48
    · exact parse_bad3 s w hs hm hv hd hp hw hz
    by_cases hb : dval (stWhole s.data.toList) ≤ 9223372036854775807
    · by_cases hc : 1099511627776 < dval (stWhole s.data.toList)
      · exact parse_big2 s w hs hm hv hd hp hw hz hb hc
      have hc : dval (stWhole s.data.toList) ≤ 1099511627776 := by omega
      cases hneg : stNeg s.data.toList
      · exact parse_pos s w hs hm hv hd hp hw hz hc hneg
      by_cases hk : (stPart s.data.toList).length ≤ 9
      · by_cases hn : 0 < dval (first9 (stPart s.data.toList))
        · exact parse_neg0p s w hs hm hv hd hp hw hz hc hneg hk hn
        · exact parse_neg0z s w hs hm hv hd hp hw hz hc hneg hk hn
      have hk : 9 < (stPart s.data.toList).length := by omega
      cases hu : stUp s.data.toList
      · by_cases hn : 0 < dval (first9 (stPart s.data.toList))
        · exact parse_neg2p s w hs hm hv hd hp hw hz hc hneg hk hu hn
        · exact parse_neg2z s w hs hm hv hd hp hw hz hc hneg hk hu hn
      · exact parse_neg1p s w hs hm hv hd hp hw hz hc hneg hk hu
    · exact parse_big1 s w hs hm hv hd hp hw hz hb
end Go.Proofs.YtfhfcipelgogjaaGreatDoor
