/- stamp.Show ahead of zero with a part of a second. No condition but room. -/
import Derived.Test.YtnadldcdckjifaaDoorStShow2
namespace Go.Proofs.YtnadldcdckjifaaDoor
open Go.RowKit
attribute [local go_sem] cell?_over frozen?_over lt_over le_over
set_option linter.unusedVariables false
set_option linter.unusedSimpArgs false
set_option maxHeartbeats 600000 in
set_option maxRecDepth 100000 in
theorem stampShow_3 (s n : Int) (w : World) (hp : Pow10 w) (hs : I64 s) (hn : I64 n) (hb : stampOk s n = true) (h0 : decide (s < 0) = true) (h1 : decide (n > 0) = true) :
    Calls Tryd.prog 14 #[.agg #[.int .i64 s, .int .i64 n]] w fun e w' => e = .returned (.tuple #[.string ⟨(stText s n).toArray⟩, .int .i64 0]) ∧ Below w.heap.size w w' := by
  go_enter Tryd.func14, Tryd.ntmps14
  go_wp2_with (go_at_call 16; refine (stampValid s n _).mono ?_)
  rintro e w1 ⟨rfl, h1⟩
  rw [hb]
  have B1 := Lib.hid (((below_alloc_self w _).trans (h1.mono (by simp)) : Below w.heap.size w w1))
  have hlt : w.heap.size < w1.heap.size := by have := h1.size; simp at this; omega
  have k0 : w1.cell? ⟨w.heap.size, 0, none⟩ = some (.int .i64 s) := by rw [World.cell?_of_block (h1.block _ (by simp))]; go_simp
  have k1 : w1.cell? ⟨w.heap.size, 1, none⟩ = some (.int .i64 n) := by rw [World.cell?_of_block (h1.block _ (by simp))]; go_simp
  clear h1
  go_wp2_with fail
  refine wp_region_over_of (fun u => w.heap.size < u.heap.size ∧ u.cell? ⟨w.heap.size, 0, none⟩ = some (.int .i64 s) ∧ u.cell? ⟨w.heap.size, 1, none⟩ = some (.int .i64 n) ∧ Below w.heap.size w u) ⟨hlt, k0, k1, B1.out⟩ (by kernel_rfl) (by kernel_rfl) ?_
  rintro u ⟨g0, g1, g2, g3⟩
  repeat (go_big_quiet_step (fail))
  refine wpQuiet_nil ?_
  rintro _ ⟨δ', rfl⟩
  have hp2 := hp.keep (below_trans_over g3 (by omega) δ')
  have B2 := Lib.hid (below_trans_over g3 (by omega) δ')
  have HP := Lib.hid hp2
  clear hp2 g3
  have hs1 : -1099511627777 ≤ s := by simp [stampOk] at hb; omega
  have hs2 : s < 0 := by simpa using h0
  have hn1 : n < 1000000000 := by simp [stampOk] at hb; omega
  have hn0 : 0 < n := by simpa using h1
  have hns : I64 (-s - 1) := ⟨by omega, by omega⟩
  have hl : ¬ 9223372036854775807 < 1 + (Lib.itoa (-s - 1)).length := by have := Lib.itoa_length_le (-s - 1) hns.1 hns.2; omega
  have HW := Lib.hid (show wrap64 (wrap64 (-s) - 1) = -s - 1 by rw [wrap64_self (x := -s) (by omega) (by omega), wrap64_self (x := -s - 1) (by omega) (by omega)])
  go_wp2_with fail
  try rw [HW.out]
  refine (numeralShow (-s - 1) hns _ HP.out).mono ?_
  rintro e w3 ⟨rfl, h3⟩
  have B3 := Lib.hid (B2.out.trans (h3.mono B2.out.size))
  clear h3
  have hg : decide (1000000000 - n > 0) = true := by simp; omega
  have hi : I64 (1000000000 + (1000000000 - n)) := ⟨by omega, by omega⟩
  have HP3 := Lib.hid (hp.keep B3.out)
  go_wp2_with (go_at_call 34; refine (itoa_calls _ hi _ HP3.out).mono ?_)
  rintro e w4 ⟨rfl, h4⟩
  have B4 := Lib.hid (B3.out.trans (h4.mono B3.out.size))
  clear h4
  have hl1 : 1 ≤ ((Lib.itoa (1000000000 + (1000000000 - n))).length : Int) := itoa_pos _
  have hl2 : (Lib.itoa (1000000000 + (1000000000 - n))).length ≤ 21 := Lib.itoa_length_le _ hi.1 hi.2
  have he : (ByteArray.mk (Lib.itoa (1000000000 + (1000000000 - n))).toArray).extract 1 (Lib.itoa (1000000000 + (1000000000 - n))).length = ⟨((Lib.itoa (1000000000 + (1000000000 - n))).drop 1).toArray⟩ := extract_tail _
  have ht := trim_len ((Lib.itoa (1000000000 + (1000000000 - n))).drop 1)
  have ht2 : ((Lib.itoa (1000000000 + (1000000000 - n))).drop 1).length ≤ 21 := by simp; omega
  have HE := Lib.hid he; clear he
  go_wp2_with fail
  rw [HE.out]
  refine (trimRight_calls _ 48 (by decide) _ (by simp [ByteArray.size]; omega)).mono ?_
  rintro e w5 ⟨rfl, rfl⟩
  have h5 : ¬ 9223372036854775807 < 1 + (Lib.itoa (-s - 1)).length + (1 + (Lib.trimRightB (Lib.itoa (1000000000 + (1000000000 - n))).tail 48).length) := by
    have a1 := Lib.itoa_length_le (-s - 1) hns.1 hns.2
    have a2 := trim_len (Lib.itoa (1000000000 + (1000000000 - n))).tail
    have a3 : (Lib.itoa (1000000000 + (1000000000 - n))).tail.length ≤ 21 := by simp; omega
    omega
  have h6 : (ByteArray.mk #[45] ++ ByteArray.mk (Lib.itoa (-s - 1)).toArray ++ (ByteArray.mk #[46] ++ ByteArray.mk (Lib.trimRightB (Lib.itoa (1000000000 + (1000000000 - n))).tail 48).toArray)) = ⟨(stText s n).toArray⟩ := by
    have hss : stSec s n = -s - 1 := by unfold stSec; rw [if_pos hs2, if_pos hn0]
    have hnn : stNano s n = 1000000000 - n := by unfold stNano; rw [if_pos ⟨hs2, hn0⟩]
    unfold stText
    rw [hss, hnn, if_pos hs2, if_pos (show 0 < 1000000000 - n by omega), List.drop_one]
    apply ByteArray.ext
    simp [ByteArray.data_append]
  have H6 := Lib.hid h6; clear h6
  go_wp2
  go_ret2
  exact ⟨congrArg (fun b => Ending.returned (Value.tuple #[Value.string b, Value.int .i64 0])) H6.out, B4.out⟩
end Go.Proofs.YtnadldcdckjifaaDoor
