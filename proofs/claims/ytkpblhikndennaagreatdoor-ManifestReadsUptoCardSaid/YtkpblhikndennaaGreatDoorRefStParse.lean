/- The reference's Parse of a time: what it answers. No condition but room. -/
import Derived.Test.YtkpblhikndennaaGreatDoorStParse2
namespace Go.Proofs.YtkpblhikndennaaGreatDoor
open Go.RowKit
set_option linter.unusedVariables false
set_option linter.unusedSimpArgs false
attribute [local go_sem] cell?_over frozen?_over lt_over le_over
set_option maxHeartbeats 1000000 in
set_option maxRecDepth 100000 in
theorem refParse_long (s : ByteArray) (w : World) (hs : 64 < s.size) (hs2 : s.size ≤ 140737488355328) :
    Calls Tryz.prog 57 #[.string s] w fun e w' => e = .returned (.tuple #[.agg #[.int .i64 (stS s.data.toList), .int .i64 (stN s.data.toList)], .int .i64 (stErr s.data.toList)]) ∧ Below w.heap.size w w' := by
  have HS := Lib.hid (st_long (l := s.data.toList) (by rw [len_data]; exact hs))
  have h1 : decide ((s.size : Int) > 64) = true := by simp; omega
  go_enter Tryz.func57, Tryz.ntmps57
  go_wp2_with fail
  refine ret_blk_tmp rfl rfl (Blk.new w _ _) whole_TimeD rfl rfl ⟨?_, below_alloc' w _⟩
  rw [HS.out.1, HS.out.2.1, HS.out.2.2]
  rfl
theorem refDigits' (l : List UInt8) (w : World) (hs : l.length ≤ 64) :
    Calls Tryz.prog 86 #[.string ⟨l.toArray⟩] w fun e w' => e = .returned (.bool (allDig l)) ∧ w' = w := refDigits ⟨l.toArray⟩ w (by simp [ByteArray.size]; omega)
theorem take_str {B : ByteArray} {l : List UInt8} (h : B.data.toList = l) (k : Nat) : B.extract 0 k = ⟨(l.take k).toArray⟩ := by
  subst h
  apply ByteArray.ext
  rw [ByteArray.data_extract]
  apply Array.ext'
  simp
theorem drop_str {B : ByteArray} {l : List UInt8} (h : B.data.toList = l) (k : Nat) : B.extract k B.size = ⟨(l.drop k).toArray⟩ := by
  subst h
  apply ByteArray.ext
  rw [ByteArray.data_extract]
  apply Array.ext'
  simp
  exact List.take_of_length_le (by simp; try (show _ ≤ B.data.size - k; omega))
theorem dot_lt {l : List UInt8} {k : Nat} (hk : k < l.length) (h : k < dotAt l) : l[k] ≠ 46 := by
  have := List.not_of_lt_findIdx (p := (· == 46)) (xs := l) h
  simpa using this
theorem dot_at {l : List UInt8} (h : dotAt l < l.length) : l[dotAt l] = 46 := by
  have := List.findIdx_getElem (p := (· == 46)) (xs := l) (w := h)
  rw [beq_iff_eq] at this
  exact this
theorem whole_big {l : List UInt8} (h : allDig l = true) (hz : ¬ (1 < l.length ∧ l.head? = some 48)) (hl : 16 ≤ l.length) : 1099511627776 < dval l := by
  obtain ⟨n1, n2⟩ := allDig_parts h
  obtain ⟨c, r, rfl⟩ : ∃ c r, l = c :: r := by cases l with | nil => exact absurd rfl n1 | cons c r => exact ⟨c, r, rfl⟩
  have hc : isDig c = true := by simp only [List.all_cons, Bool.and_eq_true] at n2; exact n2.1
  have h1 := isDig_iff.1 hc
  have h2 : c ≠ 48 := fun e => hz ⟨by omega, by rw [e]; rfl⟩
  have h3 : c.toNat ≠ 48 := fun e => h2 (by apply UInt8.toNat_inj.1; exact e)
  have h4 := dval_ge (c := c) (l := r) (by omega)
  have h5 : 10 ^ 15 ≤ 10 ^ r.length := Nat.pow_le_pow_right (by decide) (by simp at hl; omega)
  have h6 : (10 : Nat) ^ 15 = 1000000000000000 := by decide
  omega
theorem whole_small {l : List UInt8} (h : allDig l = true) (hl : l.length ≤ 15) : dval l < 1000000000000000 := by
  have h1 := dval_lt (allDig_parts h).2
  have h5 : 10 ^ l.length ≤ 10 ^ 15 := Nat.pow_le_pow_right (by decide) hl
  have h6 : (10 : Nat) ^ 15 = 1000000000000000 := by decide
  omega
theorem first9_in {l : List UInt8} {k : Nat} (hk : k < 9) (hl : k < l.length) : dval ((first9 l).take (k + 1)) = dval ((first9 l).take k) * 10 + (l[k].toNat - 48) := by
  have h9 := first9_len l
  rw [dval_step (by omega)]
  have : (first9 l)[k]'(by omega) = l[k] := by
    unfold first9
    rw [List.getElem_take, List.getElem_append_left hl]
  rw [this]
theorem first9_out {l : List UInt8} {k : Nat} (hk : k < 9) (hl : ¬ k < l.length) : dval ((first9 l).take (k + 1)) = dval ((first9 l).take k) * 10 := by
  have h9 := first9_len l
  rw [dval_step (by omega)]
  have : (first9 l)[k]'(by omega) = 48 := by
    unfold first9
    rw [List.getElem_take, List.getElem_append_right (by omega)]
    exact List.getElem_replicate ..
  rw [this]; rfl
theorem up_step {l : List UInt8} {k : Nat} (hk : 9 ≤ k) (hl : k < l.length) : ((l.drop 9).take (k + 1 - 9)).any (· != 48) = (((l.drop 9).take (k - 9)).any (· != 48) || (l[k] != 48)) := by
  have e : k + 1 - 9 = (k - 9) + 1 := by omega
  have hlen : k - 9 < (l.drop 9).length := by simp; omega
  rw [e, List.take_succ_eq_append_getElem hlen, List.any_append]
  have : (l.drop 9)[k - 9] = l[k] := by
    rw [List.getElem_drop]; congr 1; omega
  rw [this]; simp
theorem body_minus {s : ByteArray} (h : stNeg s.data.toList = true) : (s.extract 1 s.size).data.toList = stBody s.data.toList := by
  rw [drop_str rfl]
  unfold stBody
  rw [h]; rfl
theorem neg_first {s : ByteArray} (hs : 0 < s.size) : stNeg s.data.toList = (((s[0]'hs).toNat : Int) == 45) := by
  unfold stNeg
  have hh : s.data.toList.head? = some (s[0]'hs) := by
    rw [List.head?_eq_getElem?, List.getElem?_eq_getElem (by rw [len_data]; exact hs)]; rfl
  rw [hh, Bool.eq_iff_iff, decide_eq_true_eq, beq_iff_eq]
  constructor
  · intro h; injection h with h; rw [h]; rfl
  · intro h
    have h2 : (s[0]'hs).toNat = 45 := by omega
    have : s[0]'hs = 45 := by apply UInt8.toNat_inj.1; exact h2
    rw [this]
end Go.Proofs.YtkpblhikndennaaGreatDoor
