/- The reference's Parse of a time: what it answers, for every text. No condition but room. -/
import Derived.Test.YtkpblhikndennaaGreatDoorRefStParseA
import Derived.Test.YtkpblhikndennaaGreatDoorRefStParseB
import Derived.Test.YtkpblhikndennaaGreatDoorRefStParseC
import Derived.Test.YtkpblhikndennaaGreatDoorRefStParseD
namespace Go.Proofs.YtkpblhikndennaaGreatDoor
open Go.RowKit
set_option linter.unusedVariables false
set_option linter.unusedSimpArgs false
attribute [local go_sem] cell?_over frozen?_over lt_over le_over
set_option maxHeartbeats 1000000 in
set_option maxRecDepth 100000 in
theorem refParse_long2 (s : ByteArray) (w : World) (hs : 64 < s.size) (hs2 : s.size ≤ 9223372036854775807) :
    Calls Tryz.prog 57 #[.string s] w fun e w' => e = .returned (.tuple #[.agg #[.int .i64 (stS s.data.toList), .int .i64 (stN s.data.toList)], .int .i64 (stErr s.data.toList)]) ∧ Below w.heap.size w w' := by
  have HS := Lib.hid (st_long (l := s.data.toList) (by rw [len_data]; exact hs))
  have h1 : decide ((s.size : Int) > 64) = true := by simp; omega
  go_enter Tryz.func57, Tryz.ntmps57
  go_wp2_with fail
  refine ret_blk_tmp rfl rfl (Blk.new w _ _) whole_TimeD rfl rfl ⟨?_, below_alloc' w _⟩
  rw [HS.out.1, HS.out.2.1, HS.out.2.2]
  rfl
theorem st_empty : stErr [] = 20 ∧ stS [] = 0 ∧ stN [] = 0 := by decide +kernel
set_option maxHeartbeats 1000000 in
set_option maxRecDepth 100000 in
theorem refParse_empty (w : World) :
    Calls Tryz.prog 57 #[.string ⟨#[]⟩] w fun e w' => e = .returned (.tuple #[.agg #[.int .i64 (stS []), .int .i64 (stN [])], .int .i64 (stErr [])]) ∧ Below w.heap.size w w' := by
  have HA := Lib.hid (below_alloc' w (.cells #[.int .i64 0, .int .i64 0] 43))
  have HBk := Lib.hid (Blk.new w 43 #[.int .i64 0, .int .i64 0])
  have hz : (ByteArray.mk #[]).size = 0 := rfl
  have hx : (ByteArray.mk #[]).extract 0 0 = ByteArray.mk #[] := rfl
  go_enter Tryz.func57, Tryz.ntmps57
  go_wp2_with fail
  generalize w.alloc (.cells #[.int .i64 0, .int .i64 0] 43) = wa at *
  go_loopw [5] (fun i wr => i = .int .i64 0 ∧ wr = wa) (fun i _ => 0)
  case atStart => exact ⟨rfl, rfl⟩
  case round =>
    obtain ⟨rfl, rfl⟩ := hrel
    go_wp2_with fail
    refine (refDigits' [] _ (by simp)).mono ?_
    rintro e w2 ⟨rfl, rfl⟩
    have hd : allDig [] = false := rfl
    rw [hd]
    go_wp2_with (first | (refine wpList_store_blk rfl 43 (.tmp 2) (.tmp 70) rfl _ rfl HBk.out rfl (by kernel_rfl) rfl rfl ?_; intro u2 b3 hg3; replace HBk := Lib.hid b3; replace HA := Lib.hid (HA.out.grown hg3 HA.out.size (fun k hk => by injection hk with hk; omega)); clear b3 hg3))
    refine ret_blk_tmp rfl rfl HBk.out whole_TimeD rfl rfl ⟨?_, HA.out⟩
    rw [st_empty.1, st_empty.2.1, st_empty.2.2]
    rfl
theorem refStParse (s : ByteArray) (w : World) (hs2 : s.size ≤ 9223372036854775807) :
    Calls Tryz.prog 57 #[.string s] w fun e w' => e = .returned (.tuple #[.agg #[.int .i64 (stS s.data.toList), .int .i64 (stN s.data.toList)], .int .i64 (stErr s.data.toList)]) ∧ Below w.heap.size w w' := by
  by_cases hs : 64 < s.size
  · exact refParse_long2 s w hs hs2
  have hs : s.size ≤ 64 := by omega
  by_cases h0 : s.size = 0
  · have e : s = ⟨#[]⟩ := by
      obtain ⟨d⟩ := s
      have : d = #[] := Array.eq_empty_of_size_eq_zero h0
      rw [this]
    subst e
    exact refParse_empty w
  cases hn : stNeg s.data.toList <;> cases hd : stDot s.data.toList
  · exact refParse_pos_nodot s w hs (by omega) hn hd
  · exact refParse_pos_dot s w hs (by omega) hn hd
  · exact refParse_neg_nodot s w hs hn hd
  · exact refParse_neg_dot s w hs hn hd
end Go.Proofs.YtkpblhikndennaaGreatDoor
