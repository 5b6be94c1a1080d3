/- The reference's Show of a good stamp: its text; of a bad one: the error. No condition but room. -/
import Derived.Test.YtnadldcdckjifaaDoorNine
import Derived.Test.YtnadldcdckjifaaDoorStShow1
namespace Go.Proofs.YtnadldcdckjifaaDoor
open Go.RowKit
attribute [local go_sem] cell?_over frozen?_over lt_over le_over
set_option linter.unusedVariables false
set_option linter.unusedSimpArgs false
set_option maxHeartbeats 600000 in
set_option maxRecDepth 100000 in
theorem refStShow_bad (s n : Int) (w : World) (hb : stampOk s n = false) :
    Calls Tryd.prog 15 #[.agg #[.int .i64 s, .int .i64 n]] w fun e w' => e = .returned (.tuple #[.string ⟨#[]⟩, .int .i64 20]) ∧ Below w.heap.size w w' := by
  go_enter Tryd.func15, Tryd.ntmps15
  go_wp2_with fail
  refine (refValid s n _).mono ?_
  rintro e w1 ⟨rfl, h1⟩
  rw [hb]
  have B1 := Lib.hid (((below_alloc_self w _).trans (h1.mono (by simp)) : Below w.heap.size w w1))
  clear h1
  go_wp2
  go_ret2
  exact ⟨rfl, B1.out⟩
theorem take_succ_snoc {P : List UInt8} {m : Nat} (h : m < P.length) : P.take (m + 1) = P.take m ++ [P[m]] := List.take_succ_eq_append_getElem h
set_option maxHeartbeats 1000000 in
set_option maxRecDepth 100000 in
theorem refStShow_0 (s n : Int) (w : World) (hs : I64 s) (hn : I64 n) (hb : stampOk s n = true) (h0 : ¬ s < 0) (h1 : ¬ 0 < n) :
    Calls Tryd.prog 15 #[.agg #[.int .i64 s, .int .i64 n]] w fun e w' => e = .returned (.tuple #[.string ⟨(stText s n).toArray⟩, .int .i64 0]) ∧ Below w.heap.size w w' := by
  have hbs : 0 ≤ n ∧ n < 1000000000 ∧ -1099511627777 ≤ s ∧ s ≤ 1099511627776 := by simp [stampOk] at hb; omega
  have hss : stSec s n = s := by unfold stSec; rw [if_neg h0]
  have hnn : stNano s n = n := by unfold stNano; exact if_neg (fun h => h1 h.2)
  have hi : I64 s := ⟨by omega, by omega⟩
  have d0 : decide (s < 0) = false := by simpa using h0
  have d1 : decide (n > 0) = false := by simpa using h1
  have HSS := Lib.hid hss; have HNN := Lib.hid hnn
  have HBK := Lib.hid hb
  clear hss hnn hb
  go_enter Tryd.func15, Tryd.ntmps15
  go_wp2_with fail
  refine (refValid s n _).mono ?_
  rintro e w1 ⟨rfl, h1'⟩
  rw [HBK.out]
  have B1 := Lib.hid (((below_alloc_self w _).trans (h1'.mono (by simp)) : Below w.heap.size w w1))
  have hlt : w.heap.size < w1.heap.size := by have := h1'.size; simp at this; omega
  have k0 : w1.cell? ⟨w.heap.size, 0, none⟩ = some (.int .i64 s) := by rw [World.cell?_of_block (h1'.block _ (by simp))]; go_simp
  have k1 : w1.cell? ⟨w.heap.size, 1, none⟩ = some (.int .i64 n) := by rw [World.cell?_of_block (h1'.block _ (by simp))]; go_simp
  clear h1'
  go_wp2_with fail
  refine (refShow s hi _).mono ?_
  rintro e w3 ⟨rfl, h3⟩
  have B3 := Lib.hid (B1.out.trans (h3.mono B1.out.size))
  clear h3
  have hl : (Lib.itoa s).length ≤ 21 := Lib.itoa_length_le _ hi.1 hi.2
  obtain rfl : n = 0 := by omega
  have H6 : Hid (ByteArray.mk #[] ++ ByteArray.mk (Lib.itoa s).toArray = ⟨(stText s 0).toArray⟩) := Lib.hid (by
    unfold stText
    rw [HSS.out, HNN.out, if_neg (by omega), if_neg (by decide)]
    apply ByteArray.ext
    simp [ByteArray.data_append])
  go_wp2
  go_ret2
  exact ⟨congrArg (fun b => Ending.returned (Value.tuple #[Value.string b, Value.int .i64 0])) H6.out, B3.out⟩
set_option maxHeartbeats 1000000 in
set_option maxRecDepth 100000 in
theorem refStShow_1 (s n : Int) (w : World) (hs : I64 s) (hn : I64 n) (hb : stampOk s n = true) (h0 : ¬ s < 0) (h1 : 0 < n) :
    Calls Tryd.prog 15 #[.agg #[.int .i64 s, .int .i64 n]] w fun e w' => e = .returned (.tuple #[.string ⟨(stText s n).toArray⟩, .int .i64 0]) ∧ Below w.heap.size w w' := by
  have hbs : 0 ≤ n ∧ n < 1000000000 ∧ -1099511627777 ≤ s ∧ s ≤ 1099511627776 := by simp [stampOk] at hb; omega
  have hss : stSec s n = s := by unfold stSec; rw [if_neg h0]
  have hnn : stNano s n = n := by unfold stNano; exact if_neg (fun h => h0 h.1)
  have hi : I64 s := ⟨by omega, by omega⟩
  have d0 : decide (s < 0) = false := by simpa using h0
  have d1 : decide (n > 0) = true := by simpa using h1
  have HSS := Lib.hid hss; have HNN := Lib.hid hnn
  have HBK := Lib.hid hb
  clear hss hnn hb
  go_enter Tryd.func15, Tryd.ntmps15
  go_wp2_with fail
  refine (refValid s n _).mono ?_
  rintro e w1 ⟨rfl, h1'⟩
  rw [HBK.out]
  have B1 := Lib.hid (((below_alloc_self w _).trans (h1'.mono (by simp)) : Below w.heap.size w w1))
  have hlt : w.heap.size < w1.heap.size := by have := h1'.size; simp at this; omega
  have k0 : w1.cell? ⟨w.heap.size, 0, none⟩ = some (.int .i64 s) := by rw [World.cell?_of_block (h1'.block _ (by simp))]; go_simp
  have k1 : w1.cell? ⟨w.heap.size, 1, none⟩ = some (.int .i64 n) := by rw [World.cell?_of_block (h1'.block _ (by simp))]; go_simp
  clear h1'
  go_wp2_with fail
  refine (refShow s hi _).mono ?_
  rintro e w3 ⟨rfl, h3⟩
  have B3 := Lib.hid (B1.out.trans (h3.mono B1.out.size))
  clear h3
  have hl : (Lib.itoa s).length ≤ 21 := Lib.itoa_length_le _ hi.1 hi.2
  have hz : (n == 0) = false := by simp; omega
  have hi2 : I64 (1000000000 + n) := ⟨by omega, by omega⟩
  go_wp2_with fail
  refine (refShow (1000000000 + n) hi2 _).mono ?_
  rintro e w4 ⟨rfl, h4⟩
  have B4 := Lib.hid (B3.out.trans (h4.mono B3.out.size))
  clear h4
  have hl1 : 1 ≤ ((Lib.itoa (1000000000 + n)).length : Int) := itoa_pos _
  have hl2 : (Lib.itoa (1000000000 + n)).length ≤ 21 := Lib.itoa_length_le _ hi2.1 hi2.2
  have HE := Lib.hid (extract_tail (Lib.itoa (1000000000 + n)))
  have HN9 := Lib.hid (itoa_nine n (by omega) (by omega))
  have HT : Hid (Lib.trimRightB (nine (Int.toNat n)) 48 ≠ []) := Lib.hid (nine_trim (by omega) (by omega))
  have HLN := Lib.hid (show stNano s n = n from HNN.out)
  have hN2 : Hid (n = n) := Lib.hid rfl
  go_wp2_with fail
  rw [HE.out, HN9.out]
  go_loopw [7] (fun p wr => ∃ m : Nat, m ≤ 9 ∧ p = .string ⟨((nine n.toNat).take m).toArray⟩ ∧ Lib.trimRightB ((nine n.toNat).take m) 48 = Lib.trimRightB (nine n.toNat) 48 ∧ Below w.heap.size w wr) (fun p _ => match p with | .string b => b.size | _ => 0)
  case atStart => exact ⟨9, Nat.le_refl _, by rw [List.take_of_length_le (by rw [nine_len]; omega)], by rw [List.take_of_length_le (by rw [nine_len]; omega)], B4.out⟩
  case round =>
    obtain ⟨m, hm, rfl, htr, hbel⟩ := hrel
    cases m with
    | zero => exact absurd htr.symm (by simpa [trim_nil] using HT.out)
    | succ m =>
      have hlen9 := nine_len n.toNat
      have hml : m < (nine n.toNat).length := by omega
      have hsn := take_succ_snoc hml
      have hBs : (ByteArray.mk (List.take (m + 1) (nine n.toNat)).toArray).size = m + 1 := by simp [ByteArray.size]; omega
      rw [hsn, trim_snoc] at htr
      have hBg : ∀ h : m < (ByteArray.mk (List.take (m + 1) (nine n.toNat)).toArray).size, (ByteArray.mk (List.take (m + 1) (nine n.toNat)).toArray)[m] = (nine n.toNat)[m] := by
        intro h
        show (List.take (m + 1) (nine n.toNat)).toArray[m]'_ = _
        simp
      have hBe : (ByteArray.mk (List.take (m + 1) (nine n.toNat)).toArray).extract 0 m = ⟨(List.take m (nine n.toNat)).toArray⟩ := by
        apply ByteArray.ext
        rw [ByteArray.data_extract]
        apply Array.ext'
        simp [List.take_take]
      have HSN := Lib.hid hsn; clear hsn
      generalize hB : ByteArray.mk (List.take (m + 1) (nine n.toNat)).toArray = B at *
      have HB := Lib.hid hB; have HBG := Lib.hid hBg; have HBE := Lib.hid hBe; have HTR := Lib.hid htr
      clear hB hBg hBe htr
      have hBm : m < B.size := by omega
      have hB9 : B.size ≤ 9 := by omega
      by_cases hc : (nine n.toNat)[m] = 48
      · have hc2 : (((B[m].toNat : Nat) : Int) == 48) = true := by rw [HBG.out, hc]; rfl
        have HC := Lib.hid hc
        clear hc
        go_wp2_with fail
        go_roundw
        case rel =>
          refine ⟨m, by omega, ?_, ?_, hbel⟩
          · first | exact congrArg Value.string HBE.out | (rw [← HBE.out]; simp [hBs])
          · have := HTR.out; rw [if_pos HC.out] at this; exact this
        case measure =>
          show (B.extract 0 _).size < B.size
          simp [ByteArray.size_extract]; omega
      · have hc2 : (((B[m].toNat : Nat) : Int) == 48) = false := by
          rw [HBG.out]
          have : (nine n.toNat)[m].toNat ≠ 48 := fun h => hc (by apply UInt8.toNat_inj.1; exact h)
          simp; omega
        have H6 : Hid (ByteArray.mk #[] ++ ByteArray.mk (Lib.itoa s).toArray ++ ByteArray.mk #[46] ++ B = ⟨(stText s n).toArray⟩) := Lib.hid (by
          unfold stText
          have ht := HTR.out
          rw [if_neg hc, ← HSN.out] at ht
          rw [HSS.out, HLN.out, if_neg (by omega), if_pos (by have := hN2.out; omega), HN9.out, ← ht, ← HB.out]
          apply ByteArray.ext
          simp [ByteArray.data_append])
        clear hc
        go_wp2_with fail
        go_ret2
        exact ⟨congrArg (fun b => Ending.returned (Value.tuple #[Value.string b, Value.int .i64 0])) H6.out, hbel⟩
set_option maxHeartbeats 1000000 in
set_option maxRecDepth 100000 in
theorem refStShow_2 (s n : Int) (w : World) (hs : I64 s) (hn : I64 n) (hb : stampOk s n = true) (h0 : s < 0) (h1 : ¬ 0 < n) :
    Calls Tryd.prog 15 #[.agg #[.int .i64 s, .int .i64 n]] w fun e w' => e = .returned (.tuple #[.string ⟨(stText s n).toArray⟩, .int .i64 0]) ∧ Below w.heap.size w w' := by
  have hbs : 0 ≤ n ∧ n < 1000000000 ∧ -1099511627777 ≤ s ∧ s ≤ 1099511627776 := by simp [stampOk] at hb; omega
  have hss : stSec s n = (-s) := by unfold stSec; rw [if_pos h0, if_neg h1]
  have hnn : stNano s n = n := by unfold stNano; exact if_neg (fun h => h1 h.2)
  have hi : I64 (-s) := ⟨by omega, by omega⟩
  have d0 : decide (s < 0) = true := by simpa using h0
  have d1 : decide (n > 0) = false := by simpa using h1
  have HSS := Lib.hid hss; have HNN := Lib.hid hnn
  have HBK := Lib.hid hb
  clear hss hnn hb
  go_enter Tryd.func15, Tryd.ntmps15
  go_wp2_with fail
  refine (refValid s n _).mono ?_
  rintro e w1 ⟨rfl, h1'⟩
  rw [HBK.out]
  have B1 := Lib.hid (((below_alloc_self w _).trans (h1'.mono (by simp)) : Below w.heap.size w w1))
  have hlt : w.heap.size < w1.heap.size := by have := h1'.size; simp at this; omega
  have k0 : w1.cell? ⟨w.heap.size, 0, none⟩ = some (.int .i64 s) := by rw [World.cell?_of_block (h1'.block _ (by simp))]; go_simp
  have k1 : w1.cell? ⟨w.heap.size, 1, none⟩ = some (.int .i64 n) := by rw [World.cell?_of_block (h1'.block _ (by simp))]; go_simp
  clear h1'
  go_wp2_with fail
  refine (refShow (-s) hi _).mono ?_
  rintro e w3 ⟨rfl, h3⟩
  have B3 := Lib.hid (B1.out.trans (h3.mono B1.out.size))
  clear h3
  have hl : (Lib.itoa (-s)).length ≤ 21 := Lib.itoa_length_le _ hi.1 hi.2
  obtain rfl : n = 0 := by omega
  have H6 : Hid (ByteArray.mk #[45] ++ ByteArray.mk (Lib.itoa (-s)).toArray = ⟨(stText s 0).toArray⟩) := Lib.hid (by
    unfold stText
    rw [HSS.out, HNN.out, if_pos (by omega), if_neg (by decide)]
    apply ByteArray.ext
    simp [ByteArray.data_append])
  go_wp2
  go_ret2
  exact ⟨congrArg (fun b => Ending.returned (Value.tuple #[Value.string b, Value.int .i64 0])) H6.out, B3.out⟩
set_option maxHeartbeats 1000000 in
set_option maxRecDepth 100000 in
theorem refStShow_3 (s n : Int) (w : World) (hs : I64 s) (hn : I64 n) (hb : stampOk s n = true) (h0 : s < 0) (h1 : 0 < n) :
    Calls Tryd.prog 15 #[.agg #[.int .i64 s, .int .i64 n]] w fun e w' => e = .returned (.tuple #[.string ⟨(stText s n).toArray⟩, .int .i64 0]) ∧ Below w.heap.size w w' := by
  have hbs : 0 ≤ n ∧ n < 1000000000 ∧ -1099511627777 ≤ s ∧ s ≤ 1099511627776 := by simp [stampOk] at hb; omega
  have hss : stSec s n = (-s - 1) := by unfold stSec; rw [if_pos h0, if_pos h1]
  have hnn : stNano s n = (1000000000 - n) := by unfold stNano; rw [if_pos ⟨h0, h1⟩]
  have hi : I64 (-s - 1) := ⟨by omega, by omega⟩
  have d0 : decide (s < 0) = true := by simpa using h0
  have d1 : decide (n > 0) = true := by simpa using h1
  have HSS := Lib.hid hss; have HNN := Lib.hid hnn
  have HBK := Lib.hid hb
  clear hss hnn hb
  go_enter Tryd.func15, Tryd.ntmps15
  go_wp2_with fail
  refine (refValid s n _).mono ?_
  rintro e w1 ⟨rfl, h1'⟩
  rw [HBK.out]
  have B1 := Lib.hid (((below_alloc_self w _).trans (h1'.mono (by simp)) : Below w.heap.size w w1))
  have hlt : w.heap.size < w1.heap.size := by have := h1'.size; simp at this; omega
  have k0 : w1.cell? ⟨w.heap.size, 0, none⟩ = some (.int .i64 s) := by rw [World.cell?_of_block (h1'.block _ (by simp))]; go_simp
  have k1 : w1.cell? ⟨w.heap.size, 1, none⟩ = some (.int .i64 n) := by rw [World.cell?_of_block (h1'.block _ (by simp))]; go_simp
  clear h1'
  go_wp2_with fail
  refine (refShow (-s - 1) hi _).mono ?_
  rintro e w3 ⟨rfl, h3⟩
  have B3 := Lib.hid (B1.out.trans (h3.mono B1.out.size))
  clear h3
  have hl : (Lib.itoa (-s - 1)).length ≤ 21 := Lib.itoa_length_le _ hi.1 hi.2
  have hz : ((1000000000 - n) == 0) = false := by simp; omega
  have hi2 : I64 (1000000000 + (1000000000 - n)) := ⟨by omega, by omega⟩
  go_wp2_with fail
  refine (refShow (1000000000 + (1000000000 - n)) hi2 _).mono ?_
  rintro e w4 ⟨rfl, h4⟩
  have B4 := Lib.hid (B3.out.trans (h4.mono B3.out.size))
  clear h4
  have hl1 : 1 ≤ ((Lib.itoa (1000000000 + (1000000000 - n))).length : Int) := itoa_pos _
  have hl2 : (Lib.itoa (1000000000 + (1000000000 - n))).length ≤ 21 := Lib.itoa_length_le _ hi2.1 hi2.2
  have HE := Lib.hid (extract_tail (Lib.itoa (1000000000 + (1000000000 - n))))
  have HN9 := Lib.hid (itoa_nine (1000000000 - n) (by omega) (by omega))
  have HT : Hid (Lib.trimRightB (nine (Int.toNat (1000000000 - n))) 48 ≠ []) := Lib.hid (nine_trim (by omega) (by omega))
  have HLN := Lib.hid (show stNano s n = (1000000000 - n) from HNN.out)
  generalize hN : (1000000000 - n) = N at *
  have hN2 := Lib.hid hN
  clear hN
  go_wp2_with fail
  rw [HE.out, HN9.out]
  go_loopw [7] (fun p wr => ∃ m : Nat, m ≤ 9 ∧ p = .string ⟨((nine N.toNat).take m).toArray⟩ ∧ Lib.trimRightB ((nine N.toNat).take m) 48 = Lib.trimRightB (nine N.toNat) 48 ∧ Below w.heap.size w wr) (fun p _ => match p with | .string b => b.size | _ => 0)
  case atStart => exact ⟨9, Nat.le_refl _, by rw [List.take_of_length_le (by rw [nine_len]; omega)], by rw [List.take_of_length_le (by rw [nine_len]; omega)], B4.out⟩
  case round =>
    obtain ⟨m, hm, rfl, htr, hbel⟩ := hrel
    cases m with
    | zero => exact absurd htr.symm (by simpa [trim_nil] using HT.out)
    | succ m =>
      have hlen9 := nine_len N.toNat
      have hml : m < (nine N.toNat).length := by omega
      have hsn := take_succ_snoc hml
      have hBs : (ByteArray.mk (List.take (m + 1) (nine N.toNat)).toArray).size = m + 1 := by simp [ByteArray.size]; omega
      rw [hsn, trim_snoc] at htr
      have hBg : ∀ h : m < (ByteArray.mk (List.take (m + 1) (nine N.toNat)).toArray).size, (ByteArray.mk (List.take (m + 1) (nine N.toNat)).toArray)[m] = (nine N.toNat)[m] := by
        intro h
        show (List.take (m + 1) (nine N.toNat)).toArray[m]'_ = _
        simp
      have hBe : (ByteArray.mk (List.take (m + 1) (nine N.toNat)).toArray).extract 0 m = ⟨(List.take m (nine N.toNat)).toArray⟩ := by
        apply ByteArray.ext
        rw [ByteArray.data_extract]
        apply Array.ext'
        simp [List.take_take]
      have HSN := Lib.hid hsn; clear hsn
      generalize hB : ByteArray.mk (List.take (m + 1) (nine N.toNat)).toArray = B at *
      have HB := Lib.hid hB; have HBG := Lib.hid hBg; have HBE := Lib.hid hBe; have HTR := Lib.hid htr
      clear hB hBg hBe htr
      have hBm : m < B.size := by omega
      have hB9 : B.size ≤ 9 := by omega
      by_cases hc : (nine N.toNat)[m] = 48
      · have hc2 : (((B[m].toNat : Nat) : Int) == 48) = true := by rw [HBG.out, hc]; rfl
        have HC := Lib.hid hc
        clear hc
        go_wp2_with fail
        go_roundw
        case rel =>
          refine ⟨m, by omega, ?_, ?_, hbel⟩
          · first | exact congrArg Value.string HBE.out | (rw [← HBE.out]; simp [hBs])
          · have := HTR.out; rw [if_pos HC.out] at this; exact this
        case measure =>
          show (B.extract 0 _).size < B.size
          simp [ByteArray.size_extract]; omega
      · have hc2 : (((B[m].toNat : Nat) : Int) == 48) = false := by
          rw [HBG.out]
          have : (nine N.toNat)[m].toNat ≠ 48 := fun h => hc (by apply UInt8.toNat_inj.1; exact h)
          simp; omega
        have H6 : Hid (ByteArray.mk #[45] ++ ByteArray.mk (Lib.itoa (-s - 1)).toArray ++ ByteArray.mk #[46] ++ B = ⟨(stText s n).toArray⟩) := Lib.hid (by
          unfold stText
          have ht := HTR.out
          rw [if_neg hc, ← HSN.out] at ht
          rw [HSS.out, HLN.out, if_pos (by omega), if_pos (by have := hN2.out; omega), HN9.out, ← ht, ← HB.out]
          apply ByteArray.ext
          simp [ByteArray.data_append])
        clear hc
        go_wp2_with fail
        go_ret2
        exact ⟨congrArg (fun b => Ending.returned (Value.tuple #[Value.string b, Value.int .i64 0])) H6.out, hbel⟩
theorem refStShow (s n : Int) (w : World) (hs : I64 s) (hn : I64 n) (hb : stampOk s n = true) :
    Calls Tryd.prog 15 #[.agg #[.int .i64 s, .int .i64 n]] w fun e w' => e = .returned (.tuple #[.string ⟨(stText s n).toArray⟩, .int .i64 0]) ∧ Below w.heap.size w w' := by
  by_cases h0 : s < 0 <;> by_cases h1 : 0 < n
  · exact refStShow_3 s n w hs hn hb h0 h1
  · exact refStShow_2 s n w hs hn hb h0 h1
  · exact refStShow_1 s n w hs hn hb h0 h1
  · exact refStShow_0 s n w hs hn hb h0 h1
end Go.Proofs.YtnadldcdckjifaaDoor
