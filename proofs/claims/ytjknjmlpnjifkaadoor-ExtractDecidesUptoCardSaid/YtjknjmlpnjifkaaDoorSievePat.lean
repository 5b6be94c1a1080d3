/- A pattern's tokens, plain: how a pattern is read; names that are wanted. No condition. -/
import Derived.Test.YtjknjmlpnjifkaaDoorSieveLaw
namespace Go.Proofs.YtjknjmlpnjifkaaDoor
open Go.RowKit
set_option linter.unusedVariables false
set_option linter.unusedSimpArgs false
/-- the byte at i of a pattern, and where it ends -/
def itemB (p : List UInt8) (i : Nat) : Option (UInt8 × Nat) :=
  match p[i]? with
  | none => none
  | some c => if c ≠ 92 then some (c, i + 1) else match p[i + 1]? with
    | none => none
    | some d => some (d, i + 2)
def inR (lo hi b : UInt8) : Bool := decide (lo.toNat ≤ b.toNat) && decide (b.toNat ≤ hi.toNat)
def orS (f g : UInt8 → Bool) (b : UInt8) : Bool := f b || g b
def dashB (p : List UInt8) (i : Nat) : Bool := p[i]? == some 45 && decide (i + 1 < p.length) && !(p[i + 1]? == some 93)
theorem itemB_lt {p : List UInt8} {i nx : Nat} {c : UInt8} (h : itemB p i = some (c, nx)) : i < nx ∧ nx ≤ p.length := by
  unfold itemB at h
  split at h
  · cases h
  · next c' h0 =>
    have h0' := (List.getElem?_eq_some_iff.1 h0).1
    split at h
    · injection h with h; injection h with h1 h2; omega
    · split at h
      · cases h
      · next d h1 =>
        have h1' := (List.getElem?_eq_some_iff.1 h1).1
        injection h with h; injection h with h2 h3; omega
/-- the set from i on: what is in it, n items so far; and where it ends -/
def setB (p : List UInt8) (i : Nat) (f : UInt8 → Bool) (n : Nat) : Option ((UInt8 → Bool) × Nat) :=
  if h : i < p.length ∧ p[i]? ≠ some 93 then
    match h1 : itemB p i with
    | none => none
    | some (lo, nx) =>
      if dashB p nx = true then
        match h2 : itemB p (nx + 1) with
        | none => none
        | some (hi, nx2) => if hi.toNat < lo.toNat then none else setB p nx2 (orS f (inR lo hi)) (n + 1)
      else setB p nx (orS f (inR lo lo)) (n + 1)
  else if i < p.length ∧ n ≠ 0 then some (f, i + 1) else none
termination_by p.length - i
decreasing_by
  · have := itemB_lt h1; have := itemB_lt h2; omega
  · have := itemB_lt h1; omega
theorem setB_end {p : List UInt8} {i : Nat} {f : UInt8 → Bool} {n : Nat} (h : ¬ (i < p.length ∧ p[i]? ≠ some 93)) : setB p i f n = if i < p.length ∧ n ≠ 0 then some (f, i + 1) else none := by
  rw [setB.eq_def, dif_neg h]
theorem setB_none {p : List UInt8} {i : Nat} {f : UInt8 → Bool} {n : Nat} (h : i < p.length ∧ p[i]? ≠ some 93) (h1 : itemB p i = none) : setB p i f n = none := by
  rw [setB.eq_def, dif_pos h]
  split
  · rfl
  · next h2 => rw [h1] at h2; cases h2
theorem setB_one {p : List UInt8} {i nx : Nat} {lo : UInt8} {f : UInt8 → Bool} {n : Nat} (h : i < p.length ∧ p[i]? ≠ some 93) (h1 : itemB p i = some (lo, nx)) (hd : dashB p nx = false) :
    setB p i f n = setB p nx (orS f (inR lo lo)) (n + 1) := by
  rw [setB.eq_def, dif_pos h]
  split
  · next h2 => rw [h1] at h2; cases h2
  · next lo' nx' h2 =>
    rw [h1] at h2
    injection h2 with h2
    injection h2 with e1 e2
    subst e1; subst e2
    rw [if_neg (by rw [hd]; decide)]
theorem setB_dash0 {p : List UInt8} {i nx : Nat} {lo : UInt8} {f : UInt8 → Bool} {n : Nat} (h : i < p.length ∧ p[i]? ≠ some 93) (h1 : itemB p i = some (lo, nx)) (hd : dashB p nx = true) (h2 : itemB p (nx + 1) = none) :
    setB p i f n = none := by
  rw [setB.eq_def, dif_pos h]
  split
  · rfl
  · next lo' nx' h3 =>
    rw [h1] at h3
    injection h3 with h3
    injection h3 with e1 e2
    subst e1; subst e2
    rw [if_pos hd]
    split
    · rfl
    · next h4 => rw [h2] at h4; cases h4
theorem setB_dash {p : List UInt8} {i nx nx2 : Nat} {lo hi : UInt8} {f : UInt8 → Bool} {n : Nat} (h : i < p.length ∧ p[i]? ≠ some 93) (h1 : itemB p i = some (lo, nx)) (hd : dashB p nx = true) (h2 : itemB p (nx + 1) = some (hi, nx2)) :
    setB p i f n = if hi.toNat < lo.toNat then none else setB p nx2 (orS f (inR lo hi)) (n + 1) := by
  rw [setB.eq_def, dif_pos h]
  split
  · next h3 => rw [h1] at h3; cases h3
  · next lo' nx' h3 =>
    rw [h1] at h3
    injection h3 with h3
    injection h3 with e1 e2
    subst e1; subst e2
    rw [if_pos hd]
    split
    · next h4 => rw [h2] at h4; cases h4
    · next hi' nx2' h4 =>
      rw [h2] at h4
      injection h4 with h4
      injection h4 with e1 e2
      subst e1; subst e2
      rfl
theorem setB_lt {p : List UInt8} : ∀ (k i : Nat) {f g : UInt8 → Bool} {n j : Nat}, p.length - i ≤ k → setB p i f n = some (g, j) → i < j ∧ j ≤ p.length
  | k, i, f, g, n, j, hk, h => by
    by_cases hc : i < p.length ∧ p[i]? ≠ some 93
    · cases h1 : itemB p i with
      | none => rw [setB_none hc h1] at h; cases h
      | some x =>
        obtain ⟨lo, nx⟩ := x
        have l1 := itemB_lt h1
        cases k with
        | zero => omega
        | succ k =>
          cases hd : dashB p nx with
          | false =>
            rw [setB_one hc h1 hd] at h
            have := setB_lt k nx (by omega) h
            omega
          | true =>
            cases h2 : itemB p (nx + 1) with
            | none => rw [setB_dash0 hc h1 hd h2] at h; cases h
            | some y =>
              obtain ⟨hi, nx2⟩ := y
              have l2 := itemB_lt h2
              rw [setB_dash hc h1 hd h2] at h
              split at h
              · cases h
              · have := setB_lt k nx2 (by omega) h
                omega
    · rw [setB_end hc] at h
      split at h
      · next h2 => injection h with h; injection h with h3 h4; omega
      · cases h
def notB (p : List UInt8) (i : Nat) : Bool := p[i]? == some 33
/-- the set behind the bracket, i: behind it -/
def classB (p : List UInt8) (i : Nat) : Option ((UInt8 → Bool) × Nat) :=
  (setB p (if notB p i then i + 1 else i) (fun _ => false) 0).map fun x => (fun b => b != 47 && (x.1 b != notB p i), x.2)
theorem classB_lt {p : List UInt8} {i j : Nat} {g : UInt8 → Bool} (h : classB p i = some (g, j)) : i < j ∧ j ≤ p.length := by
  unfold classB at h
  rw [Option.map_eq_some_iff] at h
  obtain ⟨⟨f, j'⟩, h1, h2⟩ := h
  injection h2 with _ h2
  subst h2
  have := setB_lt _ _ (Nat.le_refl _) h1
  split at this <;> omega
/-- the token at i -/
def tokB (p : List UInt8) (i : Nat) : Option (Tok × Nat) :=
  if p[i]? = some 42 then (if p[i + 1]? = some 42 then some (⟨2, fun _ => false⟩, i + 2) else some (⟨1, fun _ => false⟩, i + 1))
  else if p[i]? = some 63 then some (⟨0, fun b => b != 47⟩, i + 1)
  else if p[i]? = some 91 then (classB p (i + 1)).map fun x => (⟨0, x.1⟩, x.2)
  else (itemB p i).map fun x => (⟨0, fun b => b == x.1⟩, x.2)
theorem tokB_lt {p : List UInt8} {i j : Nat} {t : Tok} (h : tokB p i = some (t, j)) : i < j ∧ j ≤ p.length := by
  unfold tokB at h
  split at h
  · next h0 =>
    have h0' := (List.getElem?_eq_some_iff.1 h0).1
    split at h
    · next h1 =>
      have h1' := (List.getElem?_eq_some_iff.1 h1).1
      injection h with h; injection h with _ h; omega
    · injection h with h; injection h with _ h; omega
  · split at h
    · next h0 =>
      have h0' := (List.getElem?_eq_some_iff.1 h0).1
      injection h with h; injection h with _ h; omega
    · split at h
      · rw [Option.map_eq_some_iff] at h
        obtain ⟨⟨f, j'⟩, h1, h2⟩ := h
        injection h2 with _ h2
        have := classB_lt h1
        simp only at h2; omega
      · rw [Option.map_eq_some_iff] at h
        obtain ⟨⟨f, j'⟩, h1, h2⟩ := h
        injection h2 with _ h2
        have := itemB_lt h1
        simp only at h2; omega
/-- the tokens from i on -/
def readB (p : List UInt8) (i : Nat) : Option (List Tok) :=
  if h : i < p.length then
    match h1 : tokB p i with
    | none => none
    | some (t, j) => (readB p j).map (t :: ·)
  else some []
termination_by p.length - i
decreasing_by have := tokB_lt h1; omega
theorem readB_end {p : List UInt8} {i : Nat} (h : ¬ i < p.length) : readB p i = some [] := by rw [readB.eq_def, dif_neg h]
theorem readB_none {p : List UInt8} {i : Nat} (h : i < p.length) (h1 : tokB p i = none) : readB p i = none := by
  rw [readB.eq_def, dif_pos h]
  split
  · rfl
  · next h2 => rw [h1] at h2; cases h2
theorem readB_some {p : List UInt8} {i j : Nat} {t : Tok} (h : i < p.length) (h1 : tokB p i = some (t, j)) : readB p i = (readB p j).map (t :: ·) := by
  rw [readB.eq_def, dif_pos h]
  split
  · next h2 => rw [h1] at h2; cases h2
  · next t' j' h2 =>
    rw [h1] at h2
    injection h2 with h2
    injection h2 with e1 e2
    subst e1; subst e2
    rfl
theorem readB_len {p : List UInt8} : ∀ (k i : Nat) {ts : List Tok}, p.length - i ≤ k → readB p i = some ts → ts.length + i ≤ p.length ∨ ts = []
  | k, i, ts, hk, h => by
    by_cases hi : i < p.length
    · cases h1 : tokB p i with
      | none => rw [readB_none hi h1] at h; cases h
      | some x =>
        obtain ⟨t, j⟩ := x
        have l1 := tokB_lt h1
        rw [readB_some hi h1, Option.map_eq_some_iff] at h
        obtain ⟨r, h2, h3⟩ := h
        cases k with
        | zero => omega
        | succ k =>
          subst h3
          rcases readB_len k j (by omega) h2 with h4 | h4
          · left; simp; omega
          · subst h4; left; simp; omega
    · rw [readB_end hi] at h; injection h with h; subst h; exact .inr rfl
/-- what stands against a pattern -/
def checkE (p : List UInt8) : Int := if 4096 < p.length then 21 else if (readB p 0).isSome then 0 else 110
/-- does the text, or a beginning ahead of a stroke, lie behind all tokens? -/
def hitsT (ts : List Tok) (x : List UInt8) : Bool := (List.range (x.length + 1)).any fun i => (i == x.length || tx x i == 47) && reach ts x ts.length i
def hitsP (x p : List UInt8) : Bool := match readB p 0 with
  | some ts => hitsT ts x
  | none => false
def firstE : List (List UInt8) → Int
  | [] => 0
  | p :: l => if checkE p = 0 then firstE l else checkE p
def chosenE (inc exc : List (List UInt8)) : Int := if firstE inc = 0 then firstE exc else firstE inc
def chosenV (inc exc : List (List UInt8)) (x : List UInt8) : Bool := chosenE inc exc == 0 && (inc.isEmpty || inc.any (hitsP x)) && !exc.any (hitsP x)
end Go.Proofs.YtjknjmlpnjifkaaDoor
