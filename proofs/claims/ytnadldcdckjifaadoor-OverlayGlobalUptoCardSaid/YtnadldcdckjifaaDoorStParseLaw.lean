/- The time that a text says, plain. No condition. -/
import Derived.Test.YtnadldcdckjifaaDoorDecLaw
import Derived.Lib.Atoi
import Derived.Lib.Strings
namespace Go.Proofs.YtnadldcdckjifaaDoor
set_option linter.unusedVariables false
set_option linter.unusedSimpArgs false

def dotAt (l : List UInt8) : Nat := l.findIdx (· == 46)
theorem dotAt_le (l : List UInt8) : dotAt l ≤ l.length := List.findIdx_le_length
theorem index_dot (l : List UInt8) : Lib.index l [46] = if dotAt l < l.length then (dotAt l : Int) else -1 := by
  induction l with
  | nil => rfl
  | cons c l ih =>
    unfold Lib.index
    have hp : ([46] : List UInt8).isPrefixOf (c :: l) = (c == 46) := by
      simp [List.isPrefixOf]
      rw [Bool.eq_iff_iff, beq_iff_eq, beq_iff_eq]; exact eq_comm
    rw [hp]
    by_cases h : (c == 46) = true
    · have hd : dotAt (c :: l) = 0 := by unfold dotAt; rw [List.findIdx_cons, h]; rfl
      rw [if_pos h, hd, if_pos (by simp)]; rfl
    · have h' : (c == 46) = false := by simpa using h
      have hd : dotAt (c :: l) = dotAt l + 1 := by unfold dotAt; rw [List.findIdx_cons, h']; rfl
      rw [if_neg h, hd, ih, List.length_cons]
      by_cases h2 : dotAt l < l.length
      · have : ((dotAt l : Int) == -1) = false := by rw [beq_eq_false_iff_ne]; omega
        rw [if_pos h2, this]; simp [h2]
      · rw [if_neg h2]; simp [h2]
theorem cut_dot (l : List UInt8) : Lib.cut l [46] = (l.take (dotAt l), l.drop (dotAt l + 1), decide (dotAt l < l.length)) := by
  unfold Lib.cut
  rw [index_dot]
  have hle := dotAt_le l
  by_cases h : dotAt l < l.length
  · rw [if_pos h, if_pos (by omega)]; simp [h]
  · rw [if_neg h, if_neg (by omega)]
    have : dotAt l = l.length := by omega
    rw [this]; simp
theorem pref_minus (l : List UInt8) : Lib.hasPrefix l [45] = decide (l.head? = some 45) := by
  unfold Lib.hasPrefix
  cases l with
  | nil => rfl
  | cons c l =>
    simp only [List.isPrefixOf, List.head?_cons, Option.some.injEq, Bool.and_true]
    rw [Bool.eq_iff_iff, beq_iff_eq, decide_eq_true_eq]; exact eq_comm
theorem decFrom_dig (l : List UInt8) (h : l.all isDig = true) (acc : Nat) : Lib.decFrom acc l = some (l.foldl dstep acc) := by
  induction l generalizing acc with
  | nil => rfl
  | cons c l ih =>
    simp only [List.all_cons, Bool.and_eq_true] at h
    have h1 := isDig_iff.1 h.1
    unfold Lib.decFrom
    have : Lib.digitVal c = some (c.toNat - 48) := by unfold Lib.digitVal; rw [if_pos h1]
    rw [this]
    exact ih h.2 _
theorem atoi_dig {l : List UInt8} (h0 : l ≠ []) (h : l.all isDig = true) : Lib.atoi l = some (dval l : Int) := by
  obtain ⟨c, r, rfl⟩ : ∃ c r, l = c :: r := by cases l with | nil => exact absurd rfl h0 | cons c r => exact ⟨c, r, rfl⟩
  have hc : isDig c = true := by simp only [List.all_cons, Bool.and_eq_true] at h; exact h.1
  have h1 := isDig_iff.1 hc
  unfold Lib.atoi
  have e1 : (c == 45) = false := by
    rw [beq_eq_false_iff_ne]; intro e; subst e; have : (45 : UInt8).toNat = 45 := rfl; omega
  have e2 : (c == 43) = false := by
    rw [beq_eq_false_iff_ne]; intro e; subst e; have : (43 : UInt8).toNat = 43 := rfl; omega
  simp only [e1, e2]
  unfold Lib.decNat
  simp only [Bool.false_eq_true, if_false, List.isEmpty_cons]
  rw [decFrom_dig _ h]
  rfl
/-- the first nine digits behind the dot -/
def first9 (part : List UInt8) : List UInt8 := (part ++ List.replicate 9 48).take 9
theorem first9_len (part : List UInt8) : (first9 part).length = 9 := by unfold first9; simp
theorem first9_dig {part : List UInt8} (h : part.all isDig = true) : (first9 part).all isDig = true := by
  unfold first9
  rw [List.all_eq_true]
  intro c hc
  have hc2 := List.mem_of_mem_take hc
  rcases List.mem_append.1 hc2 with h1 | h1
  · exact List.all_eq_true.1 h c h1
  · rw [List.mem_replicate] at h1; rw [h1.2]; decide
def stNeg (l : List UInt8) : Bool := decide (l.head? = some 45)
def stBody (l : List UInt8) : List UInt8 := if stNeg l then l.drop 1 else l
def stWhole (l : List UInt8) : List UInt8 := (stBody l).take (dotAt (stBody l))
def stPart (l : List UInt8) : List UInt8 := (stBody l).drop (dotAt (stBody l) + 1)
def stDot (l : List UInt8) : Bool := decide (dotAt (stBody l) < (stBody l).length)
def stBad (l : List UInt8) : Bool := (stDot l && !allDig (stPart l)) || !allDig (stWhole l) || (decide (1 < (stWhole l).length) && decide ((stWhole l).head? = some 48))
def stUp (l : List UInt8) : Bool := ((stPart l).drop 9).any (· != 48)
/-- the nine digits as a number, one more where the time is below nought and more follows -/
def stNan (l : List UInt8) : Int := dval (first9 (stPart l)) + (if stNeg l && stUp l then 1 else 0)
def stSecV (l : List UInt8) : Int := if stNeg l then (if 0 < stNan l then -(dval (stWhole l) : Int) - 1 else -(dval (stWhole l) : Int)) else dval (stWhole l)
def stNanoV (l : List UInt8) : Int := if stNeg l then (if 0 < stNan l then 1000000000 - stNan l else 0) else stNan l
def stampOk' (s n : Int) : Bool := decide (0 ≤ n ∧ n < 1000000000 ∧ -1099511627777 ≤ s ∧ s ≤ 1099511627776 ∧ (s ≠ -1099511627777 ∨ 0 < n))
def stErr (l : List UInt8) : Int :=
  if 64 < l.length then 21 else if stBad l then 20 else if 1099511627776 < dval (stWhole l) then 11 else if stampOk' (stSecV l) (stNanoV l) then 0 else 11
def stS (l : List UInt8) : Int := if stErr l = 0 then stSecV l else 0
def stN (l : List UInt8) : Int := if stErr l = 0 then stNanoV l else 0
theorem st_long {l : List UInt8} (h : 64 < l.length) : stErr l = 21 ∧ stS l = 0 ∧ stN l = 0 := by
  have e : stErr l = 21 := if_pos h
  unfold stS stN; rw [e]; exact ⟨rfl, rfl, rfl⟩
theorem st_bad {l : List UInt8} (h : ¬ 64 < l.length) (h2 : stBad l = true) : stErr l = 20 ∧ stS l = 0 ∧ stN l = 0 := by
  have e : stErr l = 20 := by unfold stErr; rw [if_neg h, if_pos h2]
  unfold stS stN; rw [e]; exact ⟨rfl, rfl, rfl⟩
theorem st_big {l : List UInt8} (h : ¬ 64 < l.length) (h2 : stBad l = false) (h3 : 1099511627776 < dval (stWhole l)) : stErr l = 11 ∧ stS l = 0 ∧ stN l = 0 := by
  have e : stErr l = 11 := by unfold stErr; rw [if_neg h, if_neg (by rw [h2]; decide), if_pos h3]
  unfold stS stN; rw [e]; exact ⟨rfl, rfl, rfl⟩
theorem st_no {l : List UInt8} (h : ¬ 64 < l.length) (h2 : stBad l = false) (h3 : stampOk' (stSecV l) (stNanoV l) = false) : stErr l = 11 ∧ stS l = 0 ∧ stN l = 0 := by
  have e : stErr l = 11 := by
    unfold stErr; rw [if_neg h, if_neg (by rw [h2]; decide)]
    split
    · rfl
    · rw [if_neg (by rw [h3]; decide)]
  unfold stS stN; rw [e]; exact ⟨rfl, rfl, rfl⟩
theorem dval_first9 {l : List UInt8} (h : (first9 (stPart l)).all isDig = true) : dval (first9 (stPart l)) < 1000000000 := by
  have := dval_lt h; rw [first9_len] at this; exact this
theorem st_ok {l : List UInt8} (h : ¬ 64 < l.length) (h2 : stBad l = false) (h3 : stampOk' (stSecV l) (stNanoV l) = true) : stErr l = 0 ∧ stS l = stSecV l ∧ stN l = stNanoV l := by
  have e : stErr l = 0 := by
    unfold stErr; rw [if_neg h, if_neg (by rw [h2]; decide)]
    have hb : ¬ 1099511627776 < dval (stWhole l) := by
      intro hc
      have h4 : 0 ≤ stNan l := by unfold stNan; split <;> omega
      simp only [stampOk', decide_eq_true_eq] at h3
      unfold stSecV stNanoV at h3
      cases hn : stNeg l
      · rw [hn] at h3; simp at h3; omega
      · rw [hn] at h3
        simp only [if_true] at h3
        by_cases h5 : 0 < stNan l
        · rw [if_pos h5, if_pos h5] at h3; omega
        · rw [if_neg h5, if_neg h5] at h3; omega
    rw [if_neg hb, if_pos h3]
  unfold stS stN; rw [e]; exact ⟨rfl, rfl, rfl⟩
end Go.Proofs.YtnadldcdckjifaaDoor
