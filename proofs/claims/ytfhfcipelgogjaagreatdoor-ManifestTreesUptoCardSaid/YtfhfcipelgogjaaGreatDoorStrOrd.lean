/- Go's order of texts, and of lists of texts: plain. No condition. -/
import Derived.Test.YtfhfcipelgogjaaGreatDoorBaseAt
import Derived.Sort.Walk0
namespace Go.Proofs.YtfhfcipelgogjaaGreatDoor
set_option linter.unusedSectionVars false
set_option linter.unusedVariables false
set_option linter.unusedSimpArgs false
/-- Go's order of texts -/
def pl (a b : ByteArray) : Bool := Op.bytesLess a.toList b.toList
theorem pl_iff (a b : ByteArray) : pl a b = true ↔ a.data.toList < b.data.toList := by
  unfold pl; rw [Go.Proofs.bytesLess_eq, ByteArray.toList_eq, ByteArray.toList_eq, decide_eq_true_iff]
theorem pl_irrefl (a : ByteArray) : pl a a = false := by
  rw [← Bool.not_eq_true, pl_iff]; exact List.lt_irrefl _
theorem pl_trans {a b c : ByteArray} (h : pl a b = true) (k : pl b c = true) : pl a c = true := by
  rw [pl_iff] at *; exact List.lt_trans h k
theorem pl_tri {a b : ByteArray} (h : pl a b = false) (k : pl b a = false) : a = b := by
  rw [← Bool.not_eq_true, pl_iff] at h k
  have : a.data.toList = b.data.toList := List.le_antisymm (List.not_lt.1 k) (List.not_lt.1 h)
  cases a; cases b
  simp only [ByteArray.mk.injEq] at *
  exact Array.toList_inj.1 this
theorem pl_asymm {a b : ByteArray} (h : pl a b = true) : pl b a = false := by
  rw [← Bool.not_eq_true]; intro k
  have := pl_trans h k
  rw [pl_irrefl] at this; cases this

def cmpSt (a b : ByteArray) : Int := if pl a b then -1 else if pl b a then 1 else 0
theorem cmpSt_0 {a b : ByteArray} (h : cmpSt a b = 0) : a = b := by
  unfold cmpSt at h
  cases h1 : pl a b
  · cases h2 : pl b a
    · exact pl_tri h1 h2
    · simp [h1, h2] at h
  · simp [h1] at h
theorem cmpSt_self (a : ByteArray) : cmpSt a a = 0 := by simp [cmpSt, pl_irrefl]
theorem cmpSt_neg (a b : ByteArray) : cmpSt a b < 0 ↔ pl a b = true := by
  unfold cmpSt
  cases h1 : pl a b
  · cases h2 : pl b a <;> simp
  · simp
/-- slices.Compare of two lists of texts -/
def cmpL : List ByteArray → List ByteArray → Int
  | [], [] => 0
  | [], _ :: _ => -1
  | _ :: _, [] => 1
  | x :: a, y :: b => if cmpSt x y = 0 then cmpL a b else cmpSt x y
/-- the first of two lists of one length that differ -/
def lexL : List ByteArray → List ByteArray → Bool
  | x :: a, y :: b => if x = y then lexL a b else pl x y
  | _, _ => false
/-- does the path a come ahead of the path b? -/
def aheadL (a b : List ByteArray) : Bool := if a.length = b.length then lexL a b else decide (b.length < a.length)
theorem cmpL_lex : ∀ (a b : List ByteArray), a.length = b.length → (cmpL a b < 0 ↔ lexL a b = true)
  | [], [], _ => by simp [cmpL, lexL]
  | [], _ :: _, h => by simp at h
  | _ :: _, [], h => by simp at h
  | x :: a, y :: b, h => by
    unfold cmpL lexL
    by_cases hxy : x = y
    · subst hxy
      rw [if_pos (cmpSt_self x), if_pos rfl]
      exact cmpL_lex a b (by simpa using h)
    · rw [if_neg (fun e => hxy (cmpSt_0 e)), if_neg hxy]
      exact cmpSt_neg x y
theorem lexL_irrefl : ∀ a, lexL a a = false
  | [] => rfl
  | x :: a => by unfold lexL; rw [if_pos rfl]; exact lexL_irrefl a
theorem lexL_trans : ∀ {a b c : List ByteArray}, lexL a b = true → lexL b c = true → lexL a c = true
  | [], _, _, h, _ => by simp [lexL] at h
  | _ :: _, [], _, h, _ => by simp [lexL] at h
  | _ :: _, _ :: _, [], _, k => by simp [lexL] at k
  | x :: a, y :: b, z :: c, h, k => by
    unfold lexL at *
    by_cases h1 : x = y
    · subst h1
      rw [if_pos rfl] at h
      by_cases h2 : x = z
      · rw [if_pos h2] at k ⊢; exact lexL_trans h k
      · rw [if_neg h2] at k ⊢; exact k
    · rw [if_neg h1] at h
      by_cases h2 : y = z
      · subst h2; rw [if_neg h1]; exact h
      · rw [if_neg h2] at k
        have := pl_trans h k
        by_cases h3 : x = z
        · subst h3; rw [pl_irrefl] at this; cases this
        · rw [if_neg h3]; exact this
theorem lexL_tri : ∀ {a b : List ByteArray}, a.length = b.length → lexL a b = false → lexL b a = false → a = b
  | [], [], _, _, _ => rfl
  | [], _ :: _, h, _, _ => by simp at h
  | _ :: _, [], h, _, _ => by simp at h
  | x :: a, y :: b, h, k1, k2 => by
    unfold lexL at k1 k2
    by_cases hxy : x = y
    · subst hxy
      rw [if_pos rfl] at k1 k2
      rw [lexL_tri (by simpa using h) k1 k2]
    · rw [if_neg hxy] at k1
      rw [if_neg (Ne.symm hxy)] at k2
      exact absurd (pl_tri k1 k2) hxy
theorem aheadL_irrefl (a : List ByteArray) : aheadL a a = false := by unfold aheadL; rw [if_pos rfl]; exact lexL_irrefl a
theorem aheadL_trans {a b c : List ByteArray} (h : aheadL a b = true) (k : aheadL b c = true) : aheadL a c = true := by
  unfold aheadL at *
  by_cases h1 : a.length = b.length
  · rw [if_pos h1] at h
    by_cases h2 : b.length = c.length
    · rw [if_pos h2] at k; rw [if_pos (by omega)]; exact lexL_trans h k
    · rw [if_neg h2, decide_eq_true_eq] at k; rw [if_neg (by omega), decide_eq_true_eq]; omega
  · rw [if_neg h1, decide_eq_true_eq] at h
    by_cases h2 : b.length = c.length
    · rw [if_neg (by omega), decide_eq_true_eq]; omega
    · rw [if_neg h2, decide_eq_true_eq] at k; rw [if_neg (by omega), decide_eq_true_eq]; omega
theorem aheadL_tri {a b : List ByteArray} (h : aheadL a b = false) (k : aheadL b a = false) : a = b := by
  unfold aheadL at *
  by_cases h1 : a.length = b.length
  · rw [if_pos h1] at h; rw [if_pos h1.symm] at k; exact lexL_tri h1 h k
  · rw [if_neg h1, decide_eq_false_iff_not] at h; rw [if_neg (Ne.symm h1), decide_eq_false_iff_not] at k; omega
theorem aheadL_asymm {a b : List ByteArray} (h : aheadL a b = true) : aheadL b a = false := by
  rw [← Bool.not_eq_true]; intro k
  have := aheadL_trans h k
  rw [aheadL_irrefl] at this; cases this
/-- the order of later: the deepest first, then by the parts -/
def ordL (a b : List ByteArray) : Int := if a.length = b.length then cmpL a b else if b.length < a.length then -1 else 1
theorem ordL_neg (a b : List ByteArray) : decide (ordL a b < 0) = aheadL a b := by
  unfold ordL aheadL
  by_cases h1 : a.length = b.length
  · rw [if_pos h1, if_pos h1, Bool.eq_iff_iff, decide_eq_true_eq]; exact cmpL_lex a b h1
  · rw [if_neg h1, if_neg h1]
    by_cases h2 : b.length < a.length
    · rw [if_pos h2, decide_eq_true h2]; decide
    · rw [if_neg h2, decide_eq_false h2]; decide
/-- do the parts begin with those of d? -/
def within (d p : List ByteArray) : Bool := decide (p.take d.length = d)
theorem within_short {d p : List ByteArray} (h : p.length < d.length) : within d p = false := by
  unfold within
  rw [decide_eq_false_iff_not]
  intro e
  have := congrArg List.length e
  rw [List.length_take] at this
  omega
end Go.Proofs.YtfhfcipelgogjaaGreatDoor
