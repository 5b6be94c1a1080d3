/- The library's decimal numeral, where the table of powers of ten is laid. No condition. The library's part of printing: decimal numerals, joined texts, a trimmed text; each where the table of powers of ten is laid. No condition but room. numeral.Show, and the table of powers of ten kept over calls. No condition but room. stamp.Show: what it returns. No condition but room. stamp.Show, the case of a part of a second. No condition but room. stamp.Show, a whole second ahead of zero. No condition but room. stamp.Show ahead of zero with a part of a second. No condition but room. stamp.Show of a good stamp: its text. No condition but room. -/
import Derived.Test.YtfhfcipelgogjaaGreatDoorLayPrint
import Derived.Test.YtfhfcipelgogjaaGreatDoorBaseAt
import Derived.Lib.LaidTab
import Derived.Deep.DeepHandedRow
import Derived.Lib.ItoaLen
import Derived.Test.YtfhfcipelgogjaaGreatDoorDataAll
namespace Go.Proofs.YtfhfcipelgogjaaGreatDoor
open Go.RowKit
set_option linter.unusedVariables false
set_option linter.unusedSimpArgs false
/-- the table of powers of ten is laid in w -/
def Pow10 (w : World) : Prop := Lib.TabIs Tryz.prog w "internal/strconv.uint64pow10" .u64 Lib.pow10Tab
theorem gPow : Tryz.prog.globalNamed "internal/strconv.uint64pow10" = some 1 := by kernel_rfl
theorem below_grow (w : World) (k : Nat) (os : Array Obj) : Below w.heap.size w (Sort.grow (w.drewN k) os) :=
  ⟨rfl, rfl, rfl, by simp [Sort.grow, World.drewN], fun n hn => by
    simp only [Sort.grow]
    rw [Array.getElem?_append_left (by simpa [World.drewN] using hn)]
    rfl⟩
theorem itoa_calls (n : Int) (h : I64 n) (w : World) (hp : Pow10 w) :
    Calls Tryz.prog 92 #[.int .i64 n] w fun e w' => e = .returned (.string ⟨(Lib.itoa n).toArray⟩) ∧ Below w.heap.size w w' := by
  have := Any.strconv_Itoa Tryz.laysM171 n h.1 h.2 w hp
  change Calls Tryz.prog 92 _ _ _ at this
  refine this.mono ?_
  rintro e w' ⟨rfl, k, os, rfl⟩
  exact ⟨rfl, below_grow w k os⟩
theorem pow_lt {w : World} (h : Pow10 w) : 1 < w.heap.size := by
  unfold Pow10 Lib.TabIs World.var? at h
  rw [gPow] at h
  by_cases hl : 1 < w.heap.size
  · exact hl
  · have hn : w.heap[1]? = none := Array.getElem?_eq_none (by omega)
    simp only [Option.bind_some, hn] at h
    exact absurd h (by simp)
theorem Pow10.keep {w w' : World} (h : Pow10 w) (hb : Below w.heap.size w w') : Pow10 w' := by
  have hl := pow_lt h
  have e : w'.heap[1]? = w.heap[1]? := hb.block _ hl
  unfold Pow10 Lib.TabIs World.var? at *
  rw [gPow] at *
  simp only [Option.bind_some, e] at *
  exact h
end Go.Proofs.YtfhfcipelgogjaaGreatDoor
namespace Go.Proofs.YtfhfcipelgogjaaGreatDoor
open Go.RowKit
set_option linter.unusedVariables false
set_option linter.unusedSimpArgs false

theorem trimRight_calls (s : ByteArray) (c : UInt8) (hc : c.toNat < 128) (w : World) (hs : s.size ≤ 9223372036854775807) :
    Calls Tryz.prog 91 #[.string s, .string ⟨#[c]⟩] w fun e w' => e = .returned (.string ⟨(Lib.trimRightB s.data.toList c).toArray⟩) ∧ w' = w :=
  Any.strings_TrimRight_one Tryz.lays162 s c hc w hs
end Go.Proofs.YtfhfcipelgogjaaGreatDoor
namespace Go.Proofs.YtfhfcipelgogjaaGreatDoor
open Go.RowKit
set_option linter.unusedVariables false
set_option linter.unusedSimpArgs false

theorem numeralShow (n : Int) (h : I64 n) (w : World) (hp : Pow10 w) :
    Calls Tryz.prog 57 #[.int .i64 n] w fun e w' => e = .returned (.string ⟨(Lib.itoa n).toArray⟩) ∧ Below w.heap.size w w' := by
  go_enter Tryz.func57, Tryz.ntmps57
  go_wp2_with (go_at_call 92; refine (itoa_calls n h w hp).mono ?_)
  rintro e w1 ⟨rfl, hb⟩
  have HB := Lib.hid hb
  clear hb
  go_wp2
  go_ret
  exact ⟨rfl, HB.out⟩
end Go.Proofs.YtfhfcipelgogjaaGreatDoor
namespace Go.Proofs.YtfhfcipelgogjaaGreatDoor
open Go.RowKit
attribute [local go_sem] cell?_over frozen?_over lt_over le_over
set_option linter.unusedVariables false
set_option linter.unusedSimpArgs false

def stSec (s n : Int) : Int := if s < 0 then (if 0 < n then -s - 1 else -s) else s
def stNano (s n : Int) : Int := if s < 0 ∧ 0 < n then 1000000000 - n else n
def stText (s n : Int) : List UInt8 :=
  (if s < 0 then [45] else []) ++ Lib.itoa (stSec s n) ++ (if 0 < stNano s n then 46 :: Lib.trimRightB ((Lib.itoa (1000000000 + stNano s n)).drop 1) 48 else [])
set_option maxHeartbeats 600000 in
set_option maxRecDepth 100000 in
theorem stampShow_bad (s n : Int) (w : World) (hb : stampOk s n = false) :
    Calls Tryz.prog 55 #[.agg #[.int .i64 s, .int .i64 n]] w fun e w' => e = .returned (.tuple #[.string ⟨#[]⟩, .int .i64 20]) ∧ Below w.heap.size w w' := by
  go_enter Tryz.func55, Tryz.ntmps55
  go_wp2_with (go_at_call 73; refine (stampValid s n _).mono ?_)
  rintro e w1 ⟨rfl, h1⟩
  rw [hb]
  have B1 := Lib.hid (((below_alloc_self w _).trans (h1.mono (by simp)) : Below w.heap.size w w1))
  clear h1
  go_wp2
  go_ret2
  exact ⟨rfl, B1.out⟩
set_option maxHeartbeats 600000 in
set_option maxRecDepth 100000 in
theorem stampShow_0 (s n : Int) (w : World) (hp : Pow10 w) (hs : I64 s) (hn : I64 n) (hb : stampOk s n = true) (h0 : decide (s < 0) = false) (h1 : decide (n > 0) = false) :
    Calls Tryz.prog 55 #[.agg #[.int .i64 s, .int .i64 n]] w fun e w' => e = .returned (.tuple #[.string (⟨#[]⟩ ++ ⟨(Lib.itoa s).toArray⟩), .int .i64 0]) ∧ Below w.heap.size w w' := by
  go_enter Tryz.func55, Tryz.ntmps55
  go_wp2_with (go_at_call 73; refine (stampValid s n _).mono ?_)
  rintro e w1 ⟨rfl, h1⟩
  rw [hb]
  have B1 := Lib.hid (((below_alloc_self w _).trans (h1.mono (by simp)) : Below w.heap.size w w1))
  have hlt : w.heap.size < w1.heap.size := by have := h1.size; simp at this; omega
  have k0 : w1.cell? ⟨w.heap.size, 0, none⟩ = some (.int .i64 s) := by rw [World.cell?_of_block (h1.block _ (by simp))]; go_simp
  have k1 : w1.cell? ⟨w.heap.size, 1, none⟩ = some (.int .i64 n) := by rw [World.cell?_of_block (h1.block _ (by simp))]; go_simp
  clear h1
  go_wp2_with fail
  refine wp_region_over_of (fun u => w.heap.size < u.heap.size ∧ u.cell? ⟨w.heap.size, 0, none⟩ = some (.int .i64 s) ∧ u.cell? ⟨w.heap.size, 1, none⟩ = some (.int .i64 n) ∧ Below w.heap.size w u) ⟨hlt, k0, k1, B1.out⟩ (by kernel_rfl) (by kernel_rfl) ?_
  rintro u ⟨g0, g1, g2, g3⟩
  repeat (go_big_quiet_step (fail))
  refine wpQuiet_nil ?_
  rintro _ ⟨δ', rfl⟩
  have hp2 := hp.keep (below_trans_over g3 (by omega) δ')
  have B2 := Lib.hid (below_trans_over g3 (by omega) δ')
  have HP := Lib.hid hp2
  clear hp2 g3
  have hl : ¬ 9223372036854775807 < (Lib.itoa s).length := by have := Lib.itoa_length_le s hs.1 hs.2; omega
  go_wp2_with (go_at_call 57; refine (numeralShow s hs _ HP.out).mono ?_)
  rintro e w3 ⟨rfl, h3⟩
  have B3 := Lib.hid (B2.out.trans (h3.mono B2.out.size))
  clear h3
  go_wp2
  go_ret2
  exact ⟨rfl, B3.out⟩
end Go.Proofs.YtfhfcipelgogjaaGreatDoor
namespace Go.Proofs.YtfhfcipelgogjaaGreatDoor
open Go.RowKit
attribute [local go_sem] cell?_over frozen?_over lt_over le_over
set_option linter.unusedVariables false
set_option linter.unusedSimpArgs false
theorem itoa_pos (n : Int) : 1 ≤ ((Lib.itoa n).length : Int) := by
  have : 0 < (Lib.itoa n).length := by
    unfold Lib.itoa
    split
    · simp
    · unfold Lib.decDigits; split <;> simp
  omega
theorem extract_tail (L : List UInt8) : (ByteArray.mk L.toArray).extract 1 L.length = ⟨(L.drop 1).toArray⟩ := by
  apply ByteArray.ext
  rw [ByteArray.data_extract]
  apply Array.ext'
  simp
  exact List.take_of_length_le (by simp)
theorem trim_len (L : List UInt8) : (Lib.trimRightB L 48).length ≤ L.length := by
  unfold Lib.trimRightB
  have := (List.dropWhile_suffix (l := L.reverse) (· == (48:UInt8))).length_le
  simpa using this
set_option maxHeartbeats 600000 in
set_option maxRecDepth 100000 in
theorem stampShow_1 (s n : Int) (w : World) (hp : Pow10 w) (hs : I64 s) (hn : I64 n) (hb : stampOk s n = true) (h0 : decide (s < 0) = false) (h1 : decide (n > 0) = true) :
    Calls Tryz.prog 55 #[.agg #[.int .i64 s, .int .i64 n]] w fun e w' => e = .returned (.tuple #[.string ⟨(stText s n).toArray⟩, .int .i64 0]) ∧ Below w.heap.size w w' := by
  go_enter Tryz.func55, Tryz.ntmps55
  go_wp2_with (go_at_call 73; refine (stampValid s n _).mono ?_)
  rintro e w1 ⟨rfl, h1⟩
  rw [hb]
  have B1 := Lib.hid (((below_alloc_self w _).trans (h1.mono (by simp)) : Below w.heap.size w w1))
  have hlt : w.heap.size < w1.heap.size := by have := h1.size; simp at this; omega
  have k0 : w1.cell? ⟨w.heap.size, 0, none⟩ = some (.int .i64 s) := by rw [World.cell?_of_block (h1.block _ (by simp))]; go_simp
  have k1 : w1.cell? ⟨w.heap.size, 1, none⟩ = some (.int .i64 n) := by rw [World.cell?_of_block (h1.block _ (by simp))]; go_simp
  clear h1
  go_wp2_with fail
  refine wp_region_over_of (fun u => w.heap.size < u.heap.size ∧ u.cell? ⟨w.heap.size, 0, none⟩ = some (.int .i64 s) ∧ u.cell? ⟨w.heap.size, 1, none⟩ = some (.int .i64 n) ∧ Below w.heap.size w u) ⟨hlt, k0, k1, B1.out⟩ (by kernel_rfl) (by kernel_rfl) ?_
  rintro u ⟨g0, g1, g2, g3⟩
  repeat (go_big_quiet_step (fail))
  refine wpQuiet_nil ?_
  rintro _ ⟨δ', rfl⟩
  have hp2 := hp.keep (below_trans_over g3 (by omega) δ')
  have B2 := Lib.hid (below_trans_over g3 (by omega) δ')
  have HP := Lib.hid hp2
  clear hp2 g3
  have hl : ¬ 9223372036854775807 < (Lib.itoa s).length := by have := Lib.itoa_length_le s hs.1 hs.2; omega
  go_wp2_with (go_at_call 57; refine (numeralShow s hs _ HP.out).mono ?_)
  rintro e w3 ⟨rfl, h3⟩
  have B3 := Lib.hid (B2.out.trans (h3.mono B2.out.size))
  clear h3
  have hn1 : n < 1000000000 := by simp [stampOk] at hb; omega
  have hn0 : 0 < n := by simpa using h1
  have hi : I64 (1000000000 + n) := ⟨by omega, by omega⟩
  have HP3 := Lib.hid (hp.keep B3.out)
  go_wp2_with (go_at_call 92; refine (itoa_calls _ hi _ HP3.out).mono ?_)
  rintro e w4 ⟨rfl, h4⟩
  have B4 := Lib.hid (B3.out.trans (h4.mono B3.out.size))
  clear h4
  have hl1 : 1 ≤ ((Lib.itoa (1000000000 + n)).length : Int) := itoa_pos _
  have hl2 : (Lib.itoa (1000000000 + n)).length ≤ 21 := Lib.itoa_length_le _ hi.1 hi.2
  have he : (ByteArray.mk (Lib.itoa (1000000000 + n)).toArray).extract 1 (Lib.itoa (1000000000 + n)).length = ⟨((Lib.itoa (1000000000 + n)).drop 1).toArray⟩ := extract_tail _
  have ht := trim_len ((Lib.itoa (1000000000 + n)).drop 1)
  have ht2 : ((Lib.itoa (1000000000 + n)).drop 1).length ≤ 21 := by simp; omega
  have HE := Lib.hid he; clear he
  go_wp2_with fail
  rw [HE.out]
  refine (trimRight_calls _ 48 (by decide) _ (by simp [ByteArray.size]; omega)).mono ?_
  rintro e w5 ⟨rfl, rfl⟩
  have h5 : ¬ 9223372036854775807 < (Lib.itoa s).length + (1 + (Lib.trimRightB (Lib.itoa (1000000000 + n)).tail 48).length) := by
    have a1 := Lib.itoa_length_le s hs.1 hs.2
    have a2 := trim_len (Lib.itoa (1000000000 + n)).tail
    have a3 : (Lib.itoa (1000000000 + n)).tail.length ≤ 21 := by simp; omega
    omega
  have h6 : (ByteArray.mk #[] ++ ByteArray.mk (Lib.itoa s).toArray ++ (ByteArray.mk #[46] ++ ByteArray.mk (Lib.trimRightB (Lib.itoa (1000000000 + n)).tail 48).toArray)) = ⟨(stText s n).toArray⟩ := by
    have hs0 : ¬ s < 0 := by simpa using h0
    have hss : stSec s n = s := by unfold stSec; rw [if_neg hs0]
    have hnn : stNano s n = n := by unfold stNano; rw [if_neg (fun h => hs0 h.1)]
    unfold stText
    rw [hss, hnn, if_neg hs0, if_pos hn0, List.drop_one]
    apply ByteArray.ext
    simp [ByteArray.data_append]
  have H6 := Lib.hid h6; clear h6
  go_wp2
  go_ret2
  exact ⟨congrArg (fun b => Ending.returned (Value.tuple #[Value.string b, Value.int .i64 0])) H6.out, B4.out⟩
end Go.Proofs.YtfhfcipelgogjaaGreatDoor
namespace Go.Proofs.YtfhfcipelgogjaaGreatDoor
open Go.RowKit
attribute [local go_sem] cell?_over frozen?_over lt_over le_over
set_option linter.unusedVariables false
set_option linter.unusedSimpArgs false
theorem wrap64_self {x : Int} (h1 : -9223372036854775808 ≤ x) (h2 : x ≤ 9223372036854775807) : wrap64 x = x := by unfold wrap64; omega
set_option maxHeartbeats 600000 in
set_option maxRecDepth 100000 in
theorem stampShow_2 (s n : Int) (w : World) (hp : Pow10 w) (hs : I64 s) (hn : I64 n) (hb : stampOk s n = true) (h0 : decide (s < 0) = true) (h1 : decide (n > 0) = false) :
    Calls Tryz.prog 55 #[.agg #[.int .i64 s, .int .i64 n]] w fun e w' => e = .returned (.tuple #[.string (⟨#[45]⟩ ++ ⟨(Lib.itoa (-s)).toArray⟩), .int .i64 0]) ∧ Below w.heap.size w w' := by
  go_enter Tryz.func55, Tryz.ntmps55
  go_wp2_with (go_at_call 73; refine (stampValid s n _).mono ?_)
  rintro e w1 ⟨rfl, h1⟩
  rw [hb]
  have B1 := Lib.hid (((below_alloc_self w _).trans (h1.mono (by simp)) : Below w.heap.size w w1))
  have hlt : w.heap.size < w1.heap.size := by have := h1.size; simp at this; omega
  have k0 : w1.cell? ⟨w.heap.size, 0, none⟩ = some (.int .i64 s) := by rw [World.cell?_of_block (h1.block _ (by simp))]; go_simp
  have k1 : w1.cell? ⟨w.heap.size, 1, none⟩ = some (.int .i64 n) := by rw [World.cell?_of_block (h1.block _ (by simp))]; go_simp
  clear h1
  go_wp2_with fail
  refine wp_region_over_of (fun u => w.heap.size < u.heap.size ∧ u.cell? ⟨w.heap.size, 0, none⟩ = some (.int .i64 s) ∧ u.cell? ⟨w.heap.size, 1, none⟩ = some (.int .i64 n) ∧ Below w.heap.size w u) ⟨hlt, k0, k1, B1.out⟩ (by kernel_rfl) (by kernel_rfl) ?_
  rintro u ⟨g0, g1, g2, g3⟩
  repeat (go_big_quiet_step (fail))
  refine wpQuiet_nil ?_
  rintro _ ⟨δ', rfl⟩
  have hp2 := hp.keep (below_trans_over g3 (by omega) δ')
  have B2 := Lib.hid (below_trans_over g3 (by omega) δ')
  have HP := Lib.hid hp2
  clear hp2 g3
  have hs1 : -1099511627777 ≤ s := by simp [stampOk] at hb; omega
  have hns : I64 (-s) := ⟨by have := hs.2; omega, by omega⟩
  have hl : ¬ 9223372036854775807 < 1 + (Lib.itoa (-s)).length := by have := Lib.itoa_length_le (-s) hns.1 hns.2; omega
  have HW := Lib.hid (wrap64_self (show -9223372036854775808 ≤ -s from hns.1) hns.2)
  go_wp2_with fail
  rw [HW.out]
  refine (numeralShow (-s) hns _ HP.out).mono ?_
  rintro e w3 ⟨rfl, h3⟩
  have B3 := Lib.hid (B2.out.trans (h3.mono B2.out.size))
  clear h3
  go_wp2
  go_ret2
  exact ⟨rfl, B3.out⟩
end Go.Proofs.YtfhfcipelgogjaaGreatDoor
namespace Go.Proofs.YtfhfcipelgogjaaGreatDoor
open Go.RowKit
attribute [local go_sem] cell?_over frozen?_over lt_over le_over
set_option linter.unusedVariables false
set_option linter.unusedSimpArgs false
set_option maxHeartbeats 600000 in
set_option maxRecDepth 100000 in
theorem stampShow_3 (s n : Int) (w : World) (hp : Pow10 w) (hs : I64 s) (hn : I64 n) (hb : stampOk s n = true) (h0 : decide (s < 0) = true) (h1 : decide (n > 0) = true) :
    Calls Tryz.prog 55 #[.agg #[.int .i64 s, .int .i64 n]] w fun e w' => e = .returned (.tuple #[.string ⟨(stText s n).toArray⟩, .int .i64 0]) ∧ Below w.heap.size w w' := by
  go_enter Tryz.func55, Tryz.ntmps55
  go_wp2_with (go_at_call 73; refine (stampValid s n _).mono ?_)
  rintro e w1 ⟨rfl, h1⟩
  rw [hb]
  have B1 := Lib.hid (((below_alloc_self w _).trans (h1.mono (by simp)) : Below w.heap.size w w1))
  have hlt : w.heap.size < w1.heap.size := by have := h1.size; simp at this; omega
  have k0 : w1.cell? ⟨w.heap.size, 0, none⟩ = some (.int .i64 s) := by rw [World.cell?_of_block (h1.block _ (by simp))]; go_simp
  have k1 : w1.cell? ⟨w.heap.size, 1, none⟩ = some (.int .i64 n) := by rw [World.cell?_of_block (h1.block _ (by simp))]; go_simp
  clear h1
  go_wp2_with fail
  refine wp_region_over_of (fun u => w.heap.size < u.heap.size ∧ u.cell? ⟨w.heap.size, 0, none⟩ = some (.int .i64 s) ∧ u.cell? ⟨w.heap.size, 1, none⟩ = some (.int .i64 n) ∧ Below w.heap.size w u) ⟨hlt, k0, k1, B1.out⟩ (by kernel_rfl) (by kernel_rfl) ?_
  rintro u ⟨g0, g1, g2, g3⟩
  repeat (go_big_quiet_step (fail))
  refine wpQuiet_nil ?_
  rintro _ ⟨δ', rfl⟩
  have hp2 := hp.keep (below_trans_over g3 (by omega) δ')
  have B2 := Lib.hid (below_trans_over g3 (by omega) δ')
  have HP := Lib.hid hp2
  clear hp2 g3
  have hs1 : -1099511627777 ≤ s := by simp [stampOk] at hb; omega
  have hs2 : s < 0 := by simpa using h0
  have hn1 : n < 1000000000 := by simp [stampOk] at hb; omega
  have hn0 : 0 < n := by simpa using h1
  have hns : I64 (-s - 1) := ⟨by omega, by omega⟩
  have hl : ¬ 9223372036854775807 < 1 + (Lib.itoa (-s - 1)).length := by have := Lib.itoa_length_le (-s - 1) hns.1 hns.2; omega
  have HW := Lib.hid (show wrap64 (wrap64 (-s) - 1) = -s - 1 by rw [wrap64_self (x := -s) (by omega) (by omega), wrap64_self (x := -s - 1) (by omega) (by omega)])
  go_wp2_with fail
  try rw [HW.out]
  refine (numeralShow (-s - 1) hns _ HP.out).mono ?_
  rintro e w3 ⟨rfl, h3⟩
  have B3 := Lib.hid (B2.out.trans (h3.mono B2.out.size))
  clear h3
  have hg : decide (1000000000 - n > 0) = true := by simp; omega
  have hi : I64 (1000000000 + (1000000000 - n)) := ⟨by omega, by omega⟩
  have HP3 := Lib.hid (hp.keep B3.out)
  go_wp2_with (go_at_call 92; refine (itoa_calls _ hi _ HP3.out).mono ?_)
  rintro e w4 ⟨rfl, h4⟩
  have B4 := Lib.hid (B3.out.trans (h4.mono B3.out.size))
  clear h4
  have hl1 : 1 ≤ ((Lib.itoa (1000000000 + (1000000000 - n))).length : Int) := itoa_pos _
  have hl2 : (Lib.itoa (1000000000 + (1000000000 - n))).length ≤ 21 := Lib.itoa_length_le _ hi.1 hi.2
  have he : (ByteArray.mk (Lib.itoa (1000000000 + (1000000000 - n))).toArray).extract 1 (Lib.itoa (1000000000 + (1000000000 - n))).length = ⟨((Lib.itoa (1000000000 + (1000000000 - n))).drop 1).toArray⟩ := extract_tail _
  have ht := trim_len ((Lib.itoa (1000000000 + (1000000000 - n))).drop 1)
  have ht2 : ((Lib.itoa (1000000000 + (1000000000 - n))).drop 1).length ≤ 21 := by simp; omega
  have HE := Lib.hid he; clear he
  go_wp2_with fail
  rw [HE.out]
  refine (trimRight_calls _ 48 (by decide) _ (by simp [ByteArray.size]; omega)).mono ?_
  rintro e w5 ⟨rfl, rfl⟩
  have h5 : ¬ 9223372036854775807 < 1 + (Lib.itoa (-s - 1)).length + (1 + (Lib.trimRightB (Lib.itoa (1000000000 + (1000000000 - n))).tail 48).length) := by
    have a1 := Lib.itoa_length_le (-s - 1) hns.1 hns.2
    have a2 := trim_len (Lib.itoa (1000000000 + (1000000000 - n))).tail
    have a3 : (Lib.itoa (1000000000 + (1000000000 - n))).tail.length ≤ 21 := by simp; omega
    omega
  have h6 : (ByteArray.mk #[45] ++ ByteArray.mk (Lib.itoa (-s - 1)).toArray ++ (ByteArray.mk #[46] ++ ByteArray.mk (Lib.trimRightB (Lib.itoa (1000000000 + (1000000000 - n))).tail 48).toArray)) = ⟨(stText s n).toArray⟩ := by
    have hss : stSec s n = -s - 1 := by unfold stSec; rw [if_pos hs2, if_pos hn0]
    have hnn : stNano s n = 1000000000 - n := by unfold stNano; rw [if_pos ⟨hs2, hn0⟩]
    unfold stText
    rw [hss, hnn, if_pos hs2, if_pos (show 0 < 1000000000 - n by omega), List.drop_one]
    apply ByteArray.ext
    simp [ByteArray.data_append]
  have H6 := Lib.hid h6; clear h6
  go_wp2
  go_ret2
  exact ⟨congrArg (fun b => Ending.returned (Value.tuple #[Value.string b, Value.int .i64 0])) H6.out, B4.out⟩
end Go.Proofs.YtfhfcipelgogjaaGreatDoor
namespace Go.Proofs.YtfhfcipelgogjaaGreatDoor
open Go.RowKit
set_option linter.unusedVariables false
set_option linter.unusedSimpArgs false
theorem stampShow (s n : Int) (w : World) (hp : Pow10 w) (hs : I64 s) (hn : I64 n) (hb : stampOk s n = true) :
    Calls Tryz.prog 55 #[.agg #[.int .i64 s, .int .i64 n]] w fun e w' => e = .returned (.tuple #[.string ⟨(stText s n).toArray⟩, .int .i64 0]) ∧ Below w.heap.size w w' := by
  by_cases h0 : s < 0 <;> by_cases h1 : n > 0
  · exact stampShow_3 s n w hp hs hn hb (by simpa using h0) (by simpa using h1)
  · refine (stampShow_2 s n w hp hs hn hb (by simpa using h0) (by simpa using h1)).mono ?_
    rintro e w' ⟨he, hB⟩
    refine ⟨he.trans (congrArg (fun b => Ending.returned (Value.tuple #[Value.string b, Value.int .i64 0])) ?_), hB⟩
    have hss : stSec s n = -s := by unfold stSec; rw [if_pos h0, if_neg h1]
    have hnn : stNano s n = n := by unfold stNano; rw [if_neg (fun h => h1 h.2)]
    unfold stText
    rw [hss, hnn, if_pos h0, if_neg h1]
    apply ByteArray.ext
    simp [ByteArray.data_append]
  · exact stampShow_1 s n w hp hs hn hb (by simpa using h0) (by simpa using h1)
  · refine (stampShow_0 s n w hp hs hn hb (by simpa using h0) (by simpa using h1)).mono ?_
    rintro e w' ⟨he, hB⟩
    refine ⟨he.trans (congrArg (fun b => Ending.returned (Value.tuple #[Value.string b, Value.int .i64 0])) ?_), hB⟩
    have hss : stSec s n = s := by unfold stSec; rw [if_neg h0]
    have hnn : stNano s n = n := by unfold stNano; rw [if_neg (fun h => h1 h.2)]
    unfold stText
    rw [hss, hnn, if_neg h0, if_neg h1]
    apply ByteArray.ext
    simp [ByteArray.data_append]
end Go.Proofs.YtfhfcipelgogjaaGreatDoor
