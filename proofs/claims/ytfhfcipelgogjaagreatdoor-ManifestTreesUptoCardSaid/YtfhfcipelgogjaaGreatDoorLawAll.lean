/- Decimal texts and the text of a time, plain. No condition. The time that a text says, plain. No condition. -/
import Derived.Test.YtfhfcipelgogjaaGreatDoorBaseAt
import Derived.Lib.ParseIntB
import Derived.Lib.SlTrimSet
import Derived.Lib.IndexMore
import Derived.Lib.Atoi
import Derived.Lib.Strings
namespace Go.Proofs.YtfhfcipelgogjaaGreatDoor
set_option linter.unusedVariables false
set_option linter.unusedSimpArgs false

def isDig (c : UInt8) : Bool := decide (48 ≤ c.toNat) && decide (c.toNat ≤ 57)
def dstep (v : Nat) (c : UInt8) : Nat := v * 10 + (c.toNat - 48)
def dval (l : List UInt8) : Nat := l.foldl dstep 0
def allDig (l : List UInt8) : Bool := !l.isEmpty && l.all isDig
theorem isDig_iff {c : UInt8} : isDig c = true ↔ 48 ≤ c.toNat ∧ c.toNat ≤ 57 := by simp [isDig]
theorem dfold_add (l : List UInt8) (v : Nat) : l.foldl dstep v = v * 10 ^ l.length + dval l := by
  induction l generalizing v with
  | nil => simp [dval]
  | cons c l ih =>
    unfold dval
    rw [List.foldl_cons, List.foldl_cons, ih, ih (dstep 0 c)]
    simp only [dstep, List.length_cons, Nat.pow_succ]
    rw [Nat.add_mul]
    simp only [Nat.zero_mul, Nat.zero_add]
    have : v * 10 * 10 ^ l.length = v * (10 ^ l.length * 10) := by rw [Nat.mul_assoc, Nat.mul_comm 10]
    omega
theorem dval_cons (c : UInt8) (l : List UInt8) : dval (c :: l) = (c.toNat - 48) * 10 ^ l.length + dval l := by
  have := dfold_add l (dstep 0 c)
  unfold dval at *
  rw [List.foldl_cons, this]
  simp [dstep]
theorem dval_snoc (l : List UInt8) (c : UInt8) : dval (l ++ [c]) = dval l * 10 + (c.toNat - 48) := by
  unfold dval
  rw [List.foldl_append]; rfl
theorem dval_lt {l : List UInt8} (h : l.all isDig = true) : dval l < 10 ^ l.length := by
  induction l with
  | nil => simp [dval]
  | cons c l ih =>
    simp only [List.all_cons, Bool.and_eq_true] at h
    have h1 := isDig_iff.1 h.1
    have h2 := ih h.2
    rw [dval_cons, List.length_cons, Nat.pow_succ]
    have : (c.toNat - 48) * 10 ^ l.length ≤ 9 * 10 ^ l.length := Nat.mul_le_mul_right _ (by omega)
    omega
theorem dval_ge {c : UInt8} {l : List UInt8} (h : 49 ≤ c.toNat) : 10 ^ l.length ≤ dval (c :: l) := by
  rw [dval_cons]
  have : 1 * 10 ^ l.length ≤ (c.toNat - 48) * 10 ^ l.length := Nat.mul_le_mul_right _ (by omega)
  omega
theorem parseM (l : List UInt8) (h : l.all isDig = true) (acc : Nat) (ha : acc ≤ 18446744073709551615) :
    Lib.parseUintM 18446744073709551615 acc l = if l.foldl dstep acc ≤ 18446744073709551615 then .ok (l.foldl dstep acc) else .range := by
  induction l generalizing acc with
  | nil => simp [Lib.parseUintM, ha]
  | cons c l ih =>
    simp only [List.all_cons, Bool.and_eq_true] at h
    have h1 := isDig_iff.1 h.1
    have hge : acc * 10 + (c.toNat - 48) ≤ l.foldl dstep (acc * 10 + (c.toNat - 48)) := by
      rw [dfold_add]
      have : (acc * 10 + (c.toNat - 48)) * 1 ≤ (acc * 10 + (c.toNat - 48)) * 10 ^ l.length := Nat.mul_le_mul_left _ (Nat.one_le_pow _ _ (by decide))
      omega
    rw [Lib.parseUintM, if_pos h1, List.foldl_cons]
    by_cases h2 : 1844674407370955162 ≤ acc
    · rw [if_pos h2, if_neg]
      show ¬ List.foldl dstep (acc * 10 + (c.toNat - 48)) l ≤ _
      omega
    · rw [if_neg h2]
      by_cases h3 : 18446744073709551615 < acc * 10 + (c.toNat - 48)
      · rw [if_pos h3, if_neg]
        show ¬ List.foldl dstep (acc * 10 + (c.toNat - 48)) l ≤ _
        omega
      · rw [if_neg h3, ih h.2 _ (by omega)]
        rfl
theorem parseInt_dig {l : List UInt8} (h0 : l ≠ []) (h : l.all isDig = true) : Lib.parseIntB 64 l = if dval l ≤ 9223372036854775807 then .ok (dval l) else .range := by
  obtain ⟨c, r, rfl⟩ : ∃ c r, l = c :: r := by cases l with | nil => exact absurd rfl h0 | cons c r => exact ⟨c, r, rfl⟩
  have hc : isDig c = true := by simp only [List.all_cons, Bool.and_eq_true] at h; exact h.1
  have h1 := isDig_iff.1 hc
  have hp := parseM (c :: r) h 0 (by decide)
  unfold Lib.parseIntB
  simp only
  rw [if_neg (by omega)]
  have hu : Lib.parseUintB 64 (c :: r) = if dval (c :: r) ≤ 18446744073709551615 then .ok (dval (c :: r)) else .range := by
    unfold Lib.parseUintB
    rw [if_neg (by simp)]
    exact hp
  rw [hu]
  by_cases h2 : dval (c :: r) ≤ 18446744073709551615
  · rw [if_pos h2]
    simp only
    by_cases h3 : dval (c :: r) ≤ 9223372036854775807
    · rw [if_pos h3, if_neg (by simp; omega), if_neg (by omega), if_neg (by omega)]
    · rw [if_neg h3, if_pos ⟨by omega, by simp; omega⟩]
  · rw [if_neg h2, if_neg (by omega)]
/-- what Decimal answers: the number and the error -/
def decBad (l : List UInt8) : Bool := l.isEmpty || (decide (1 < l.length) && decide (l.head? = some 48)) || !l.all isDig
def decV (l : List UInt8) : Int := if decBad l then 0 else if dval l ≤ 9223372036854775807 then dval l else 0
def decErr (l : List UInt8) : Int := if decBad l then 10 else if dval l ≤ 9223372036854775807 then 0 else 11
theorem dec_bad {l : List UInt8} (h : decBad l = true) : decV l = 0 ∧ decErr l = 10 := ⟨if_pos h, if_pos h⟩
theorem dec_big {l : List UInt8} (h : decBad l = false) (h2 : ¬ dval l ≤ 9223372036854775807) : decV l = 0 ∧ decErr l = 11 := by
  unfold decV decErr; rw [h]; simp [h2]
theorem dec_ok {l : List UInt8} (h : decBad l = false) (h2 : dval l ≤ 9223372036854775807) : decV l = dval l ∧ decErr l = 0 := by
  unfold decV decErr; rw [h]; simp [h2]
theorem dval_take (l : List UInt8) (k : Nat) : dval (l.take k) ≤ dval l := by
  have h : dval l = dval (l.take k) * 10 ^ (l.drop k).length + dval (l.drop k) := by
    have := dfold_add (l.drop k) (dval (l.take k))
    rw [← this]
    show dval l = List.foldl dstep (List.foldl dstep 0 (l.take k)) (l.drop k)
    rw [← List.foldl_append, List.take_append_drop]; rfl
  have : dval (l.take k) * 1 ≤ dval (l.take k) * 10 ^ (l.drop k).length := Nat.mul_le_mul_left _ (Nat.one_le_pow _ _ (by decide))
  omega
theorem dval_step {l : List UInt8} {k : Nat} (h : k < l.length) : dval (l.take (k + 1)) = dval (l.take k) * 10 + (l[k].toNat - 48) := by
  rw [List.take_succ_eq_append_getElem h, dval_snoc]
theorem dig_take {l : List UInt8} {k : Nat} (h : k < l.length) (h1 : (l.take k).all isDig = true) (h2 : isDig l[k] = true) : (l.take (k + 1)).all isDig = true := by
  rw [List.take_succ_eq_append_getElem h, List.all_append, h1]; simp [h2]
theorem not_dig {l : List UInt8} {k : Nat} (h : k < l.length) (h2 : isDig l[k] = false) : l.all isDig = false := by
  rw [← Bool.not_eq_true]
  intro hc
  have := List.all_eq_true.1 hc l[k] (List.getElem_mem h)
  rw [h2] at this; cases this
theorem bad_dig {l : List UInt8} (h : l.all isDig = false) : decBad l = true := by unfold decBad; rw [h]; simp
theorem bad_not {l : List UInt8} (h0 : l ≠ []) (h1 : ¬ (1 < l.length ∧ l.head? = some 48)) (h : l.all isDig = true) : decBad l = false := by
  unfold decBad
  rw [h]
  have : l.isEmpty = false := by cases l with | nil => exact absurd rfl h0 | cons => rfl
  rw [this]
  simp only [Bool.false_or, Bool.not_true, Bool.or_false]
  rw [← Bool.decide_and, decide_eq_false h1]
theorem all_u8 (p : UInt8 → Bool) (h : (List.range 256).all (fun n => p (UInt8.ofNat n)) = true) (c : UInt8) : p c = true := by
  rw [List.all_eq_true] at h
  have := h c.toNat (by have := c.toNat_lt; simp; omega)
  simpa using this
theorem drop_empty (p : UInt8 → Bool) (l : List UInt8) : (l.dropWhile p).isEmpty = l.all p := by
  induction l with
  | nil => rfl
  | cons c l ih =>
    rw [List.dropWhile_cons, List.all_cons]
    cases h : p c
    · simp
    · simpa using ih
theorem drop_all_ (p : UInt8 → Bool) (l : List UInt8) : (l.dropWhile p).all p = l.all p := by
  induction l with
  | nil => rfl
  | cons c l ih =>
    rw [List.dropWhile_cons, List.all_cons]
    cases h : p c
    · simp [h]
    · simpa using ih
theorem trim_empty (l cs : List UInt8) : (Lib.trimS l cs).isEmpty = l.all (cs.contains ·) := by
  unfold Lib.trimS Lib.trimLeftS Lib.trimRightS
  rw [drop_empty, List.all_reverse, drop_all_, List.all_reverse]
theorem trim_digits (l : List UInt8) : (Lib.trimS l [48, 49, 50, 51, 52, 53, 54, 55, 56, 57]).isEmpty = l.all isDig := by
  have hcs : (fun c : UInt8 => ([48, 49, 50, 51, 52, 53, 54, 55, 56, 57] : List UInt8).contains c) = isDig := by
    funext c
    have := all_u8 (fun c => decide (([48, 49, 50, 51, 52, 53, 54, 55, 56, 57] : List UInt8).contains c = isDig c)) (by decide +kernel) c
    simpa only [decide_eq_true_eq] using this
  rw [trim_empty, hcs]
/-- what Parse answers -/
def stParse (s : List UInt8) : Int × Int × Int :=
  if 64 < s.length then (0, 0, 0) else (0, 0, 0)
end Go.Proofs.YtfhfcipelgogjaaGreatDoor
namespace Go.Proofs.YtfhfcipelgogjaaGreatDoor
set_option linter.unusedVariables false
set_option linter.unusedSimpArgs false

def dotAt (l : List UInt8) : Nat := l.findIdx (· == 46)
theorem dotAt_le (l : List UInt8) : dotAt l ≤ l.length := List.findIdx_le_length
theorem index_dot (l : List UInt8) : Lib.index l [46] = if dotAt l < l.length then (dotAt l : Int) else -1 := by
  induction l with
  | nil => rfl
  | cons c l ih =>
    unfold Lib.index
    have hp : ([46] : List UInt8).isPrefixOf (c :: l) = (c == 46) := by
      simp [List.isPrefixOf]
      rw [Bool.eq_iff_iff, beq_iff_eq, beq_iff_eq]; exact eq_comm
    rw [hp]
    by_cases h : (c == 46) = true
    · have hd : dotAt (c :: l) = 0 := by unfold dotAt; rw [List.findIdx_cons, h]; rfl
      rw [if_pos h, hd, if_pos (by simp)]; rfl
    · have h' : (c == 46) = false := by simpa using h
      have hd : dotAt (c :: l) = dotAt l + 1 := by unfold dotAt; rw [List.findIdx_cons, h']; rfl
      rw [if_neg h, hd, ih, List.length_cons]
      by_cases h2 : dotAt l < l.length
      · have : ((dotAt l : Int) == -1) = false := by rw [beq_eq_false_iff_ne]; omega
        rw [if_pos h2, this]; simp [h2]
      · rw [if_neg h2]; simp [h2]
theorem cut_dot (l : List UInt8) : Lib.cut l [46] = (l.take (dotAt l), l.drop (dotAt l + 1), decide (dotAt l < l.length)) := by
  unfold Lib.cut
  rw [index_dot]
  have hle := dotAt_le l
  by_cases h : dotAt l < l.length
  · rw [if_pos h, if_pos (by omega)]; simp [h]
  · rw [if_neg h, if_neg (by omega)]
    have : dotAt l = l.length := by omega
    rw [this]; simp
theorem pref_minus (l : List UInt8) : Lib.hasPrefix l [45] = decide (l.head? = some 45) := by
  unfold Lib.hasPrefix
  cases l with
  | nil => rfl
  | cons c l =>
    simp only [List.isPrefixOf, List.head?_cons, Option.some.injEq, Bool.and_true]
    rw [Bool.eq_iff_iff, beq_iff_eq, decide_eq_true_eq]; exact eq_comm
theorem decFrom_dig (l : List UInt8) (h : l.all isDig = true) (acc : Nat) : Lib.decFrom acc l = some (l.foldl dstep acc) := by
  induction l generalizing acc with
  | nil => rfl
  | cons c l ih =>
    simp only [List.all_cons, Bool.and_eq_true] at h
    have h1 := isDig_iff.1 h.1
    unfold Lib.decFrom
    have : Lib.digitVal c = some (c.toNat - 48) := by unfold Lib.digitVal; rw [if_pos h1]
    rw [this]
    exact ih h.2 _
theorem atoi_dig {l : List UInt8} (h0 : l ≠ []) (h : l.all isDig = true) : Lib.atoi l = some (dval l : Int) := by
  obtain ⟨c, r, rfl⟩ : ∃ c r, l = c :: r := by cases l with | nil => exact absurd rfl h0 | cons c r => exact ⟨c, r, rfl⟩
  have hc : isDig c = true := by simp only [List.all_cons, Bool.and_eq_true] at h; exact h.1
  have h1 := isDig_iff.1 hc
  unfold Lib.atoi
  have e1 : (c == 45) = false := by
    rw [beq_eq_false_iff_ne]; intro e; subst e; have : (45 : UInt8).toNat = 45 := rfl; omega
  have e2 : (c == 43) = false := by
    rw [beq_eq_false_iff_ne]; intro e; subst e; have : (43 : UInt8).toNat = 43 := rfl; omega
  simp only [e1, e2]
  unfold Lib.decNat
  simp only [Bool.false_eq_true, if_false, List.isEmpty_cons]
  rw [decFrom_dig _ h]
  rfl
/-- the first nine digits behind the dot -/
def first9 (part : List UInt8) : List UInt8 := (part ++ List.replicate 9 48).take 9
theorem first9_len (part : List UInt8) : (first9 part).length = 9 := by unfold first9; simp
theorem first9_dig {part : List UInt8} (h : part.all isDig = true) : (first9 part).all isDig = true := by
  unfold first9
  rw [List.all_eq_true]
  intro c hc
  have hc2 := List.mem_of_mem_take hc
  rcases List.mem_append.1 hc2 with h1 | h1
  · exact List.all_eq_true.1 h c h1
  · rw [List.mem_replicate] at h1; rw [h1.2]; decide
def stNeg (l : List UInt8) : Bool := decide (l.head? = some 45)
def stBody (l : List UInt8) : List UInt8 := if stNeg l then l.drop 1 else l
def stWhole (l : List UInt8) : List UInt8 := (stBody l).take (dotAt (stBody l))
def stPart (l : List UInt8) : List UInt8 := (stBody l).drop (dotAt (stBody l) + 1)
def stDot (l : List UInt8) : Bool := decide (dotAt (stBody l) < (stBody l).length)
def stBad (l : List UInt8) : Bool := (stDot l && !allDig (stPart l)) || !allDig (stWhole l) || (decide (1 < (stWhole l).length) && decide ((stWhole l).head? = some 48))
def stUp (l : List UInt8) : Bool := ((stPart l).drop 9).any (· != 48)
/-- the nine digits as a number, one more where the time is below nought and more follows -/
def stNan (l : List UInt8) : Int := dval (first9 (stPart l)) + (if stNeg l && stUp l then 1 else 0)
def stSecV (l : List UInt8) : Int := if stNeg l then (if 0 < stNan l then -(dval (stWhole l) : Int) - 1 else -(dval (stWhole l) : Int)) else dval (stWhole l)
def stNanoV (l : List UInt8) : Int := if stNeg l then (if 0 < stNan l then 1000000000 - stNan l else 0) else stNan l
def stampOk' (s n : Int) : Bool := decide (0 ≤ n ∧ n < 1000000000 ∧ -1099511627777 ≤ s ∧ s ≤ 1099511627776 ∧ (s ≠ -1099511627777 ∨ 0 < n))
def stErr (l : List UInt8) : Int :=
  if 64 < l.length then 21 else if stBad l then 20 else if 1099511627776 < dval (stWhole l) then 11 else if stampOk' (stSecV l) (stNanoV l) then 0 else 11
def stS (l : List UInt8) : Int := if stErr l = 0 then stSecV l else 0
def stN (l : List UInt8) : Int := if stErr l = 0 then stNanoV l else 0
theorem st_long {l : List UInt8} (h : 64 < l.length) : stErr l = 21 ∧ stS l = 0 ∧ stN l = 0 := by
  have e : stErr l = 21 := if_pos h
  unfold stS stN; rw [e]; exact ⟨rfl, rfl, rfl⟩
theorem st_bad {l : List UInt8} (h : ¬ 64 < l.length) (h2 : stBad l = true) : stErr l = 20 ∧ stS l = 0 ∧ stN l = 0 := by
  have e : stErr l = 20 := by unfold stErr; rw [if_neg h, if_pos h2]
  unfold stS stN; rw [e]; exact ⟨rfl, rfl, rfl⟩
theorem st_big {l : List UInt8} (h : ¬ 64 < l.length) (h2 : stBad l = false) (h3 : 1099511627776 < dval (stWhole l)) : stErr l = 11 ∧ stS l = 0 ∧ stN l = 0 := by
  have e : stErr l = 11 := by unfold stErr; rw [if_neg h, if_neg (by rw [h2]; decide), if_pos h3]
  unfold stS stN; rw [e]; exact ⟨rfl, rfl, rfl⟩
theorem st_no {l : List UInt8} (h : ¬ 64 < l.length) (h2 : stBad l = false) (h3 : stampOk' (stSecV l) (stNanoV l) = false) : stErr l = 11 ∧ stS l = 0 ∧ stN l = 0 := by
  have e : stErr l = 11 := by
    unfold stErr; rw [if_neg h, if_neg (by rw [h2]; decide)]
    split
    · rfl
    · rw [if_neg (by rw [h3]; decide)]
  unfold stS stN; rw [e]; exact ⟨rfl, rfl, rfl⟩
theorem dval_first9 {l : List UInt8} (h : (first9 (stPart l)).all isDig = true) : dval (first9 (stPart l)) < 1000000000 := by
  have := dval_lt h; rw [first9_len] at this; exact this
theorem st_ok {l : List UInt8} (h : ¬ 64 < l.length) (h2 : stBad l = false) (h3 : stampOk' (stSecV l) (stNanoV l) = true) : stErr l = 0 ∧ stS l = stSecV l ∧ stN l = stNanoV l := by
  have e : stErr l = 0 := by
    unfold stErr; rw [if_neg h, if_neg (by rw [h2]; decide)]
    have hb : ¬ 1099511627776 < dval (stWhole l) := by
      intro hc
      have h4 : 0 ≤ stNan l := by unfold stNan; split <;> omega
      simp only [stampOk', decide_eq_true_eq] at h3
      unfold stSecV stNanoV at h3
      cases hn : stNeg l
      · rw [hn] at h3; simp at h3; omega
      · rw [hn] at h3
        simp only [if_true] at h3
        by_cases h5 : 0 < stNan l
        · rw [if_pos h5, if_pos h5] at h3; omega
        · rw [if_neg h5, if_neg h5] at h3; omega
    rw [if_neg hb, if_pos h3]
  unfold stS stN; rw [e]; exact ⟨rfl, rfl, rfl⟩
end Go.Proofs.YtfhfcipelgogjaaGreatDoor
