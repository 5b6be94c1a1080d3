/- later.key: each part with its length ahead of it. No condition but room and the table of powers of ten. -/
import Derived.Test.YtdmpdinaineiiaaDoorBldStr
import Derived.Test.YtdmpdinaineiiaaDoorItoaLib
import Derived.Test.YtdmpdinaineiiaaDoorTexts2
namespace Go.Proofs.YtdmpdinaineiiaaDoor
open Go.RowKit
set_option linter.unusedVariables false
set_option linter.unusedSimpArgs false
attribute [local go_sem] cell?_over frozen?_over lt_over le_over
def keyP (p : ByteArray) : List UInt8 := Lib.itoa p.size ++ [58] ++ p.data.toList
def keyL (l : List ByteArray) : List UInt8 := l.flatMap keyP
def keyS (l : List ByteArray) : ByteArray := ⟨(keyL l).toArray⟩
def sizeAll (l : List ByteArray) : Nat := bulkAll Shape.str.bulk l
theorem keyP_len {p : ByteArray} (h : p.size ≤ 1048576) : (keyP p).length ≤ p.size + 30 := by
  unfold keyP
  have := Lib.itoa_length_le (p.size : Int) (by omega) (by omega)
  simp only [List.length_append, List.length_cons, List.length_nil, Array.length_toList]
  show _ + _ + p.size ≤ _
  omega
theorem keyL_len : ∀ {l : List ByteArray}, sizeAll l ≤ 1048576 → (keyL l).length ≤ 31 * sizeAll l
  | [], _ => by simp [keyL]
  | p :: l, h => by
    have e : sizeAll (p :: l) = p.size + 1 + sizeAll l := rfl
    have h1 := keyP_len (p := p) (by omega)
    have h2 := keyL_len (l := l) (by omega)
    unfold keyL at *
    rw [List.flatMap_cons, List.length_append]
    omega
theorem sizeAll_take : ∀ (l : List ByteArray) (k : Nat), sizeAll (l.take k) ≤ sizeAll l
  | [], k => by simp [sizeAll]
  | p :: l, 0 => by simp [sizeAll, bulkAll]
  | p :: l, k + 1 => by
    have := sizeAll_take l k
    have e : sizeAll (p :: l) = p.size + 1 + sizeAll l := rfl
    have e' : sizeAll ((p :: l).take (k + 1)) = p.size + 1 + sizeAll (l.take k) := rfl
    omega
theorem size_mem {l : List ByteArray} {k : Nat} (h : k < l.length) : l[k].size + 1 ≤ sizeAll l := mem_bulk Shape.str.bulk (List.getElem_mem h)
set_option maxHeartbeats 1000000 in
set_option maxRecDepth 100000 in
theorem keyT {A : Option Addr} {n c : Nat} {l : List ByteArray} (w : World) (h : Row Shape.str w (Old w) A n l) (hs : sizeAll l ≤ 1048576) (hp : Pow10 w) :
    Calls Tryd.prog 34 #[.slice A n c] w fun e w' => e = .returned (.string (keyS l)) ∧ Below w.heap.size w w' := by
  have hn : n ≤ 1048576 := by have := len_bulk Shape.str l; have := h.1; unfold sizeAll at hs; omega
  have HL := Lib.hid h.1
  go_enter Tryd.func34, Tryd.ntmps34
  go_wp2_with fail
  go_loopw [8] (fun i wr => ∃ k : Nat, k ≤ n ∧ i = .int .i64 k ∧ BW w w.heap.size w.heap.size (keyL (l.take k)) wr) (fun i _ => n - (intOf i).toNat)
  case atStart => exact ⟨0, Nat.zero_le _, rfl, BW.new w⟩
  case round =>
    obtain ⟨k, hk, rfl, hbw⟩ := hrel
    have O := Lib.hid hbw; clear hbw
    by_cases hlt : k < n
    · obtain ⟨b, off, es, hkl, rfl, hb, hc, hr⟩ := h.at_ hlt
      have c0 := hc 0 (by decide)
      obtain ⟨hr, -⟩ := hr
      subst hr
      have e13 : Shape.str.size = 1 := rfl
      simp only [e13, Nat.mul_one, Nat.add_zero, List.getElem?_cons_zero] at c0
      rw [← O.out.below.cell (p := ⟨b, off + k, none⟩) hb] at c0
      have hb2 := Nat.lt_of_lt_of_le hb O.out.sz
      have hks : (k : Int) < n := by omega
      clear hc e13
      have hlen := keyL_len (Nat.le_trans (sizeAll_take l k) hs)
      have hlen2 := sizeAll_take l k
      have hsz := size_mem hkl
      have hK := Lib.hid (show keyL (l.take (k + 1)) = keyL (l.take k) ++ (Lib.itoa l[k].size ++ [58] ++ l[k].data.toList) by
        unfold keyL
        rw [List.take_succ_eq_append_getElem hkl, List.flatMap_append]
        simp [keyP])
      have hacc : (keyL (l.take k)).length ≤ 32505856 := by omega
      have hps : l[k].size ≤ 1048576 := by omega
      clear hlen hlen2 hsz
      generalize keyL (l.take k) = acc at *
      have hil := Lib.itoa_length_le (l[k].size : Int) (by omega) (by omega)
      have hi64 : I64 l[k].size := ⟨by omega, by omega⟩
      generalize l[k] = p at *
      go_wp2_with fail
      refine (itoa_calls _ hi64 _ (hp.keep (O.out.below.mono (Nat.le_refl _)))).mono ?_
      rintro e w1 ⟨rfl, hb1⟩
      have O1 := Lib.hid (O.out.grown (grownBy_of_below hb1))
      have lt1 := hb1.size
      clear hb1 O
      go_wp2_with fail
      refine (writeStringW O1.out _ (by show _ + (Lib.itoa (p.size : Int)).toArray.size ≤ _; simp; omega)).mono ?_
      rintro e w2 ⟨rfl, h2⟩
      have O2 := Lib.hid h2
      clear h2 O1
      go_wp2_with fail
      refine (writeByteW O2.out _ 58 rfl (by simp; omega)).mono ?_
      rintro e w3 ⟨rfl, h3⟩
      have O3 := Lib.hid h3
      clear h3 O2
      go_wp2_with fail
      refine (writeStringW O3.out _ (by simp; omega)).mono ?_
      rintro e w4 ⟨rfl, h4⟩
      have O4 := Lib.hid h4
      clear h4 O3
      go_wp2_with fail
      go_roundw
      case rel => exact ⟨k + 1, by omega, by go_num, by rw [hK.out]; simpa using O4.out⟩
      case measure => simp [intOf]; omega
    · have hkn : k = n := by omega
      subst hkn
      rw [List.take_of_length_le (by rw [HL.out]; omega)] at O
      go_wp2_with fail
      refine (bldStringW O.out).mono ?_
      rintro e w1 ⟨rfl, hb1⟩
      unfold strV
      go_wp2_with fail
      go_ret
      exact ⟨by simp [keyS], hb1⟩
end Go.Proofs.YtdmpdinaineiiaaDoor
