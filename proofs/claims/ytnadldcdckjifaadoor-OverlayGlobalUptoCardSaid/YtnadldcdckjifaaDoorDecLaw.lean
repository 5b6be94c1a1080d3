/- Decimal texts and the text of a time, plain. No condition. -/
import Derived.Test.YtnadldcdckjifaaDoorBase
import Derived.Lib.ParseIntB
import Derived.Lib.SlTrimSet
import Derived.Lib.IndexMore
namespace Go.Proofs.YtnadldcdckjifaaDoor
set_option linter.unusedVariables false
set_option linter.unusedSimpArgs false

def isDig (c : UInt8) : Bool := decide (48 ≤ c.toNat) && decide (c.toNat ≤ 57)
def dstep (v : Nat) (c : UInt8) : Nat := v * 10 + (c.toNat - 48)
def dval (l : List UInt8) : Nat := l.foldl dstep 0
def allDig (l : List UInt8) : Bool := !l.isEmpty && l.all isDig
theorem isDig_iff {c : UInt8} : isDig c = true ↔ 48 ≤ c.toNat ∧ c.toNat ≤ 57 := by simp [isDig]
theorem dfold_add (l : List UInt8) (v : Nat) : l.foldl dstep v = v * 10 ^ l.length + dval l := by
  induction l generalizing v with
  | nil => simp [dval]
  | cons c l ih =>
    unfold dval
    rw [List.foldl_cons, List.foldl_cons, ih, ih (dstep 0 c)]
    simp only [dstep, List.length_cons, Nat.pow_succ]
    rw [Nat.add_mul]
    simp only [Nat.zero_mul, Nat.zero_add]
    have : v * 10 * 10 ^ l.length = v * (10 ^ l.length * 10) := by rw [Nat.mul_assoc, Nat.mul_comm 10]
    omega
theorem dval_cons (c : UInt8) (l : List UInt8) : dval (c :: l) = (c.toNat - 48) * 10 ^ l.length + dval l := by
  have := dfold_add l (dstep 0 c)
  unfold dval at *
  rw [List.foldl_cons, this]
  simp [dstep]
theorem dval_snoc (l : List UInt8) (c : UInt8) : dval (l ++ [c]) = dval l * 10 + (c.toNat - 48) := by
  unfold dval
  rw [List.foldl_append]; rfl
theorem dval_lt {l : List UInt8} (h : l.all isDig = true) : dval l < 10 ^ l.length := by
  induction l with
  | nil => simp [dval]
  | cons c l ih =>
    simp only [List.all_cons, Bool.and_eq_true] at h
    have h1 := isDig_iff.1 h.1
    have h2 := ih h.2
    rw [dval_cons, List.length_cons, Nat.pow_succ]
    have : (c.toNat - 48) * 10 ^ l.length ≤ 9 * 10 ^ l.length := Nat.mul_le_mul_right _ (by omega)
    omega
theorem dval_ge {c : UInt8} {l : List UInt8} (h : 49 ≤ c.toNat) : 10 ^ l.length ≤ dval (c :: l) := by
  rw [dval_cons]
  have : 1 * 10 ^ l.length ≤ (c.toNat - 48) * 10 ^ l.length := Nat.mul_le_mul_right _ (by omega)
  omega
theorem parseM (l : List UInt8) (h : l.all isDig = true) (acc : Nat) (ha : acc ≤ 18446744073709551615) :
    Lib.parseUintM 18446744073709551615 acc l = if l.foldl dstep acc ≤ 18446744073709551615 then .ok (l.foldl dstep acc) else .range := by
  induction l generalizing acc with
  | nil => simp [Lib.parseUintM, ha]
  | cons c l ih =>
    simp only [List.all_cons, Bool.and_eq_true] at h
    have h1 := isDig_iff.1 h.1
    have hge : acc * 10 + (c.toNat - 48) ≤ l.foldl dstep (acc * 10 + (c.toNat - 48)) := by
      rw [dfold_add]
      have : (acc * 10 + (c.toNat - 48)) * 1 ≤ (acc * 10 + (c.toNat - 48)) * 10 ^ l.length := Nat.mul_le_mul_left _ (Nat.one_le_pow _ _ (by decide))
      omega
    rw [Lib.parseUintM, if_pos h1, List.foldl_cons]
    by_cases h2 : 1844674407370955162 ≤ acc
    · rw [if_pos h2, if_neg]
      show ¬ List.foldl dstep (acc * 10 + (c.toNat - 48)) l ≤ _
      omega
    · rw [if_neg h2]
      by_cases h3 : 18446744073709551615 < acc * 10 + (c.toNat - 48)
      · rw [if_pos h3, if_neg]
        show ¬ List.foldl dstep (acc * 10 + (c.toNat - 48)) l ≤ _
        omega
      · rw [if_neg h3, ih h.2 _ (by omega)]
        rfl
theorem parseInt_dig {l : List UInt8} (h0 : l ≠ []) (h : l.all isDig = true) : Lib.parseIntB 64 l = if dval l ≤ 9223372036854775807 then .ok (dval l) else .range := by
  obtain ⟨c, r, rfl⟩ : ∃ c r, l = c :: r := by cases l with | nil => exact absurd rfl h0 | cons c r => exact ⟨c, r, rfl⟩
  have hc : isDig c = true := by simp only [List.all_cons, Bool.and_eq_true] at h; exact h.1
  have h1 := isDig_iff.1 hc
  have hp := parseM (c :: r) h 0 (by decide)
  unfold Lib.parseIntB
  simp only
  rw [if_neg (by omega)]
  have hu : Lib.parseUintB 64 (c :: r) = if dval (c :: r) ≤ 18446744073709551615 then .ok (dval (c :: r)) else .range := by
    unfold Lib.parseUintB
    rw [if_neg (by simp)]
    exact hp
  rw [hu]
  by_cases h2 : dval (c :: r) ≤ 18446744073709551615
  · rw [if_pos h2]
    simp only
    by_cases h3 : dval (c :: r) ≤ 9223372036854775807
    · rw [if_pos h3, if_neg (by simp; omega), if_neg (by omega), if_neg (by omega)]
    · rw [if_neg h3, if_pos ⟨by omega, by simp; omega⟩]
  · rw [if_neg h2, if_neg (by omega)]
/-- what Decimal answers: the number and the error -/
def decBad (l : List UInt8) : Bool := l.isEmpty || (decide (1 < l.length) && decide (l.head? = some 48)) || !l.all isDig
def decV (l : List UInt8) : Int := if decBad l then 0 else if dval l ≤ 9223372036854775807 then dval l else 0
def decErr (l : List UInt8) : Int := if decBad l then 10 else if dval l ≤ 9223372036854775807 then 0 else 11
theorem dec_bad {l : List UInt8} (h : decBad l = true) : decV l = 0 ∧ decErr l = 10 := ⟨if_pos h, if_pos h⟩
theorem dec_big {l : List UInt8} (h : decBad l = false) (h2 : ¬ dval l ≤ 9223372036854775807) : decV l = 0 ∧ decErr l = 11 := by
  unfold decV decErr; rw [h]; simp [h2]
theorem dec_ok {l : List UInt8} (h : decBad l = false) (h2 : dval l ≤ 9223372036854775807) : decV l = dval l ∧ decErr l = 0 := by
  unfold decV decErr; rw [h]; simp [h2]
theorem dval_take (l : List UInt8) (k : Nat) : dval (l.take k) ≤ dval l := by
  have h : dval l = dval (l.take k) * 10 ^ (l.drop k).length + dval (l.drop k) := by
    have := dfold_add (l.drop k) (dval (l.take k))
    rw [← this]
    show dval l = List.foldl dstep (List.foldl dstep 0 (l.take k)) (l.drop k)
    rw [← List.foldl_append, List.take_append_drop]; rfl
  have : dval (l.take k) * 1 ≤ dval (l.take k) * 10 ^ (l.drop k).length := Nat.mul_le_mul_left _ (Nat.one_le_pow _ _ (by decide))
  omega
theorem dval_step {l : List UInt8} {k : Nat} (h : k < l.length) : dval (l.take (k + 1)) = dval (l.take k) * 10 + (l[k].toNat - 48) := by
  rw [List.take_succ_eq_append_getElem h, dval_snoc]
theorem dig_take {l : List UInt8} {k : Nat} (h : k < l.length) (h1 : (l.take k).all isDig = true) (h2 : isDig l[k] = true) : (l.take (k + 1)).all isDig = true := by
  rw [List.take_succ_eq_append_getElem h, List.all_append, h1]; simp [h2]
theorem not_dig {l : List UInt8} {k : Nat} (h : k < l.length) (h2 : isDig l[k] = false) : l.all isDig = false := by
  rw [← Bool.not_eq_true]
  intro hc
  have := List.all_eq_true.1 hc l[k] (List.getElem_mem h)
  rw [h2] at this; cases this
theorem bad_dig {l : List UInt8} (h : l.all isDig = false) : decBad l = true := by unfold decBad; rw [h]; simp
theorem bad_not {l : List UInt8} (h0 : l ≠ []) (h1 : ¬ (1 < l.length ∧ l.head? = some 48)) (h : l.all isDig = true) : decBad l = false := by
  unfold decBad
  rw [h]
  have : l.isEmpty = false := by cases l with | nil => exact absurd rfl h0 | cons => rfl
  rw [this]
  simp only [Bool.false_or, Bool.not_true, Bool.or_false]
  rw [← Bool.decide_and, decide_eq_false h1]
theorem all_u8 (p : UInt8 → Bool) (h : (List.range 256).all (fun n => p (UInt8.ofNat n)) = true) (c : UInt8) : p c = true := by
  rw [List.all_eq_true] at h
  have := h c.toNat (by have := c.toNat_lt; simp; omega)
  simpa using this
theorem drop_empty (p : UInt8 → Bool) (l : List UInt8) : (l.dropWhile p).isEmpty = l.all p := by
  induction l with
  | nil => rfl
  | cons c l ih =>
    rw [List.dropWhile_cons, List.all_cons]
    cases h : p c
    · simp
    · simpa using ih
theorem drop_all_ (p : UInt8 → Bool) (l : List UInt8) : (l.dropWhile p).all p = l.all p := by
  induction l with
  | nil => rfl
  | cons c l ih =>
    rw [List.dropWhile_cons, List.all_cons]
    cases h : p c
    · simp [h]
    · simpa using ih
theorem trim_empty (l cs : List UInt8) : (Lib.trimS l cs).isEmpty = l.all (cs.contains ·) := by
  unfold Lib.trimS Lib.trimLeftS Lib.trimRightS
  rw [drop_empty, List.all_reverse, drop_all_, List.all_reverse]
theorem trim_digits (l : List UInt8) : (Lib.trimS l [48, 49, 50, 51, 52, 53, 54, 55, 56, 57]).isEmpty = l.all isDig := by
  have hcs : (fun c : UInt8 => ([48, 49, 50, 51, 52, 53, 54, 55, 56, 57] : List UInt8).contains c) = isDig := by
    funext c
    have := all_u8 (fun c => decide (([48, 49, 50, 51, 52, 53, 54, 55, 56, 57] : List UInt8).contains c = isDig c)) (by decide +kernel) c
    simpa only [decide_eq_true_eq] using this
  rw [trim_empty, hcs]
/-- what Parse answers -/
def stParse (s : List UInt8) : Int × Int × Int :=
  if 64 < s.length then (0, 0, 0) else (0, 0, 0)
end Go.Proofs.YtnadldcdckjifaaDoor
