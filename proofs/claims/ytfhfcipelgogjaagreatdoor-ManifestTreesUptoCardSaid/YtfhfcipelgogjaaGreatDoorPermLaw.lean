/- Ten letters as a kind and a mode, plain. No condition. -/
import Derived.Test.YtfhfcipelgogjaaGreatDoorPermR
namespace Go.Proofs.YtfhfcipelgogjaaGreatDoor
open Go.RowKit
set_option linter.unusedVariables false
set_option linter.unusedSimpArgs false
/-- three letters: their bits, and whether the special one is set -/
def trip (a b c small : UInt8) : Option (Nat × Bool) :=
  if a ≠ 114 ∧ a ≠ 45 then none else if b ≠ 119 ∧ b ≠ 45 then none else
    if c = 45 then some ((if a = 114 then 4 else 0) + (if b = 119 then 2 else 0), false)
    else if c = 120 then some ((if a = 114 then 4 else 0) + (if b = 119 then 2 else 0) + 1, false)
    else if c = small then some ((if a = 114 then 4 else 0) + (if b = 119 then 2 else 0) + 1, true)
    else if c = small - 32 then some ((if a = 114 then 4 else 0) + (if b = 119 then 2 else 0), true) else none
def tripA (x : Nat) : UInt8 := if x / 4 % 2 = 1 then 114 else 45
def tripB (x : Nat) : UInt8 := if x / 2 % 2 = 1 then 119 else 45
def tripC (x : Nat) (sp : Bool) (small : UInt8) : UInt8 := if sp then (if x % 2 = 1 then small else small - 32) else if x % 2 = 1 then 120 else 45
theorem trip_sound {a b c small : UInt8} {x : Nat} {sp : Bool} (h : trip a b c small = some (x, sp)) : x < 8 ∧ a = tripA x ∧ b = tripB x ∧ c = tripC x sp small := by
  unfold trip at h
  split at h
  · cases h
  · next ha =>
    split at h
    · cases h
    · next hb =>
      have ha' : a = 114 ∨ a = 45 := by
        by_cases h1 : a = 114
        · exact .inl h1
        · exact .inr (Classical.byContradiction fun h2 => ha ⟨h1, h2⟩)
      have hb' : b = 119 ∨ b = 45 := by
        by_cases h1 : b = 119
        · exact .inl h1
        · exact .inr (Classical.byContradiction fun h2 => hb ⟨h1, h2⟩)
      rcases ha' with rfl | rfl <;> rcases hb' with rfl | rfl <;>
        (split at h
         · next hc => subst hc; injection h with h; injection h with h1 h2; subst h1 h2; exact ⟨by decide, by decide, by decide, rfl⟩
         · split at h
           · next hc => subst hc; injection h with h; injection h with h1 h2; subst h1 h2; exact ⟨by decide, by decide, by decide, rfl⟩
           · split at h
             · next hc => subst hc; injection h with h; injection h with h1 h2; subst h1 h2; exact ⟨by decide, by decide, by decide, rfl⟩
             · split at h
               · next hc => subst hc; injection h with h; injection h with h1 h2; subst h1 h2; exact ⟨by decide, by decide, by decide, rfl⟩
               · cases h)
/-- one round of the modes -/
def stepC (m : Nat) (t : Nat × Bool) (bit : Nat) : Nat :=
  if t.2 then (m &&& 3584 ||| (m &&& 511) <<< 3 ||| t.1) ||| bit else m &&& 3584 ||| (m &&& 511) <<< 3 ||| t.1
def modeC (t1 t2 t3 : Nat × Bool) : Nat := stepC (stepC (stepC 0 t1 2048) t2 1024) t3 512
def kindIx (k : UInt8) : Option Nat := if k = 45 then some 1 else if k = 100 then some 2 else if k = 108 then some 3 else if k = 104 then some 4 else if k = 63 then some 5 else none
def permP : List UInt8 → Option (Nat × Nat)
  | [k, a, b, c, d, e, f, g, h, i] =>
    match kindIx k, trip a b c 115, trip d e f 115, trip g h i 116 with
    | some k, some t1, some t2, some t3 => some (k, modeC t1 t2 t3)
    | _, _, _, _ => none
  | _ => none
def tailT (m : Int) : List UInt8 := [permC m 8, permC m 7, permS m 11 6 115 83, permC m 5, permC m 4, permS m 10 3 115 83, permC m 2, permC m 1, permS m 9 0 116 84]
theorem permText_tail (k m : Int) : permText k m = kindC k :: tailT m := rfl
def tripL (t1 t2 t3 : Nat × Bool) : List UInt8 := [tripA t1.1, tripB t1.1, tripC t1.1 t1.2 115, tripA t2.1, tripB t2.1, tripC t2.1 t2.2 115, tripA t3.1, tripB t3.1, tripC t3.1 t3.2 116]
def codeT (n : Nat) : Nat × Bool := (n % 8, decide (n / 8 % 2 = 1))
theorem codeT_all {t : Nat × Bool} (h : t.1 < 8) : ∃ n, n < 16 ∧ codeT n = t := by
  obtain ⟨x, sp⟩ := t
  cases sp
  · exact ⟨x, by simp at h; omega, by simp at h; simp only [codeT, Prod.mk.injEq, decide_eq_false_iff_not]; omega⟩
  · exact ⟨x + 8, by simp at h; omega, by simp at h; simp only [codeT, Prod.mk.injEq, decide_eq_true_eq]; omega⟩
theorem tail_all : (List.range 4096).all (fun n => decide (tailT (modeC (codeT (n / 256)) (codeT (n / 16 % 16)) (codeT (n % 16))) = tripL (codeT (n / 256)) (codeT (n / 16 % 16)) (codeT (n % 16)) ∧ modeC (codeT (n / 256)) (codeT (n / 16 % 16)) (codeT (n % 16)) < 4096)) = true := by decide +kernel
theorem tail_mode {t1 t2 t3 : Nat × Bool} (h1 : t1.1 < 8) (h2 : t2.1 < 8) (h3 : t3.1 < 8) : tailT (modeC t1 t2 t3) = tripL t1 t2 t3 ∧ modeC t1 t2 t3 < 4096 := by
  obtain ⟨a, ha, rfl⟩ := codeT_all h1
  obtain ⟨b, hb, rfl⟩ := codeT_all h2
  obtain ⟨c, hc, rfl⟩ := codeT_all h3
  have h := List.all_eq_true.1 tail_all (a * 256 + b * 16 + c) (List.mem_range.2 (by omega))
  rw [decide_eq_true_eq] at h
  have e1 : (a * 256 + b * 16 + c) / 256 = a := by omega
  have e2 : (a * 256 + b * 16 + c) / 16 % 16 = b := by omega
  have e3 : (a * 256 + b * 16 + c) % 16 = c := by omega
  rw [e1, e2, e3] at h
  exact h
theorem kindIx_sound {k : UInt8} {n : Nat} (h : kindIx k = some n) : 1 ≤ n ∧ n ≤ 5 ∧ k = kindC n := by
  unfold kindIx at h
  repeat' split at h
  all_goals first
    | (next hk => subst hk; injection h with h; subst h; exact ⟨by decide, by decide, by decide⟩)
    | cases h
theorem permP_sound {l : List UInt8} {k m : Nat} (h : permP l = some (k, m)) : permOk k m = true ∧ permText k m = l := by
  unfold permP at h
  split at h
  · split at h
    · next k' t1 t2 t3 h1 h2 h3 h4 =>
      injection h with h
      injection h with e1 e2
      subst e1 e2
      obtain ⟨i1, i2, i3⟩ := kindIx_sound h1
      obtain ⟨x1, s1⟩ := t1
      obtain ⟨x2, s2⟩ := t2
      obtain ⟨x3, s3⟩ := t3
      obtain ⟨a1, a2, a3, a4⟩ := trip_sound h2
      obtain ⟨b1, b2, b3, b4⟩ := trip_sound h3
      obtain ⟨c1, c2, c3, c4⟩ := trip_sound h4
      obtain ⟨ht, hm⟩ := tail_mode (t1 := (x1, s1)) (t2 := (x2, s2)) (t3 := (x3, s3)) a1 b1 c1
      subst i3 a2 a3 a4 b2 b3 b4 c2 c3 c4
      refine ⟨decide_eq_true (by omega), ?_⟩
      rw [permText_tail, ht]
      rfl
    · cases h
  · cases h
theorem text_all : (List.range 4096).all (fun n => match tailT n with
    | [a, b, c, d, e, f, g, h, i] => (match trip a b c 115, trip d e f 115, trip g h i 116 with
      | some t1, some t2, some t3 => decide (modeC t1 t2 t3 = n)
      | _, _, _ => false)
    | _ => false) = true := by decide +kernel
theorem permP_text {k m : Int} (h : permOk k m = true) : permP (permText k m) = some (k.toNat, m.toNat) := by
  unfold permOk at h
  rw [decide_eq_true_eq] at h
  obtain ⟨n, rfl⟩ := Int.eq_ofNat_of_zero_le h.2.2.1
  have h1 := List.all_eq_true.1 text_all n (List.mem_range.2 (by omega))
  simp only [tailT] at h1
  have hk : kindIx (kindC k) = some k.toNat := by
    have : k = 1 ∨ k = 2 ∨ k = 3 ∨ k = 4 ∨ k = 5 := by omega
    rcases this with rfl | rfl | rfl | rfl | rfl <;> decide
  unfold permText permP
  simp only [hk]
  revert h1
  generalize trip (permC (n : Int) 8) (permC n 7) (permS n 11 6 115 83) 115 = o1
  generalize trip (permC (n : Int) 5) (permC n 4) (permS n 10 3 115 83) 115 = o2
  generalize trip (permC (n : Int) 2) (permC n 1) (permS n 9 0 116 84) 116 = o3
  intro h1
  cases o1 with
  | none => simp at h1
  | some t1 =>
    cases o2 with
    | none => simp at h1
    | some t2 =>
      cases o3 with
      | none => simp at h1
      | some t3 =>
        simp only [decide_eq_true_eq] at h1
        simp only [h1]
        rfl
/-- the document's way: bit by bit, then the text again -/
def refStep (m i : Nat) (c : UInt8) : Nat :=
  if c = 45 then m
  else if i % 3 < 2 then m ||| 256 >>> i
  else
    let m1 := if c = 120 ∨ c = 115 ∨ c = 116 then m ||| 256 >>> i else m
    if c ≠ 120 then m1 ||| 2048 >>> (i / 3) else m1
def refMode : Nat → List UInt8 → Nat → Nat
  | _, [], m => m
  | i, c :: l, m => refMode (i + 1) l (refStep m i c)
def refP (l : List UInt8) : Option (Nat × Nat) :=
  match l with
  | k :: t => if l.length = 10 ∧ permText ((kindIx k).getD 0) (refMode 0 t 0) = l ∧ permOk ((kindIx k).getD 0) (refMode 0 t 0) = true then some ((kindIx k).getD 0, refMode 0 t 0) else none
  | [] => none
theorem ref_all : (List.range 4096).all (fun n => refMode 0 (tailT n) 0 == n) = true := by decide +kernel
theorem refP_eq (l : List UInt8) : refP l = permP l := by
  cases hp : permP l with
  | some p =>
    obtain ⟨k, m⟩ := p
    obtain ⟨h1, h2⟩ := permP_sound hp
    subst h2
    have h3 := h1
    unfold permOk at h3
    rw [decide_eq_true_eq] at h3
    have hk : kindIx (kindC k) = some k := by
      have : k = 1 ∨ k = 2 ∨ k = 3 ∨ k = 4 ∨ k = 5 := by omega
      rcases this with rfl | rfl | rfl | rfl | rfl <;> decide
    have hm : refMode 0 (tailT m) 0 = m := by
      have := List.all_eq_true.1 ref_all m (List.mem_range.2 (by omega))
      simpa using this
    rw [permText_tail]
    unfold refP
    simp only [hk, Option.getD_some, hm]
    rw [if_pos ⟨rfl, permText_tail _ _, h1⟩]
  | none =>
    cases hr : refP l with
    | none => rfl
    | some p =>
      unfold refP at hr
      split at hr
      · next k t =>
        split at hr
        · next h =>
          have := permP_text h.2.2
          rw [h.2.1, hp] at this
          cases this
        · cases hr
      · cases hr
end Go.Proofs.YtfhfcipelgogjaaGreatDoor
