/- A pattern's places in a text, plain: the set of places that the program goes on with byte by byte is the document's table piece by piece. No condition. -/
import Derived.Test.YtjknjmlpnjifkaaDoorBase
namespace Go.Proofs.YtjknjmlpnjifkaaDoor
open Go.RowKit
set_option linter.unusedVariables false
set_option linter.unusedSimpArgs false
/-- a part of a pattern: kind 0 one byte of a set, 1 any number without a stroke, 2 any number -/
structure Tok where
  kind : Nat
  has : UInt8 → Bool
instance : Inhabited Tok := ⟨⟨0, fun _ => false⟩⟩
def Tok.one (t : Tok) : Bool := t.kind == 0
def Tok.eats (t : Tok) (b : UInt8) : Bool := t.kind == 2 || (t.kind == 1 && b != 47)
/-- the piece at a place -/
def tk (ts : List Tok) (k : Nat) : Tok := ts[k]!
/-- the byte at a place -/
def tx (x : List UInt8) (i : Nat) : UInt8 := x[i]!
/-- the document's next row: the places of the text to which the pieces so far lead -/
def nextRow (t : Tok) (row : Nat → Bool) (x : List UInt8) : Nat → Bool
  | 0 => !t.one && row 0
  | i + 1 => if t.one then row i && t.has (tx x i) else row (i + 1) || (nextRow t row x i && t.eats (tx x i))
def reach (ts : List Tok) (x : List UInt8) : Nat → Nat → Bool
  | 0 => fun i => i == 0
  | k + 1 => nextRow (tk ts k) (reach ts x k) x
/-- the program's set of places behind i bytes -/
def onAt (ts : List Tok) (x : List UInt8) (k i : Nat) : Bool := if k < ts.length && !(tk ts k).one then reach ts x (k + 1) i else reach ts x k i
def skipRow (ts : List Tok) (p : Nat → Bool) : Nat → Bool
  | 0 => p 0
  | k + 1 => p (k + 1) || (skipRow ts p k && !(tk ts k).one)
def stepRow (ts : List Tok) (on : Nat → Bool) (b : UInt8) (k : Nat) : Bool :=
  (decide (k < ts.length) && on k && (tk ts k).eats b) || (decide (0 < k) && on (k - 1) && (tk ts (k - 1)).one && (tk ts (k - 1)).has b)
theorem eats_not {t : Tok} {b : UInt8} (h : t.one = true) : t.eats b = false := by
  unfold Tok.one at h
  unfold Tok.eats
  rw [beq_iff_eq] at h
  simp [h]
theorem on_reach (ts : List Tok) (x : List UInt8) (i : Nat) {p : Nat → Bool}
    (hp : ∀ k, k ≤ ts.length → p k = ((decide (k < ts.length) && !(tk ts k).one && (match i with | 0 => false | i + 1 => reach ts x (k + 1) i && (tk ts k).eats (tx x i))) || (match k with | 0 => i == 0 | k + 1 => (tk ts k).one && reach ts x (k + 1) i)))
    : ∀ k, k ≤ ts.length → skipRow ts p k = onAt ts x k i
  | 0, h => by
    show p 0 = _
    rw [hp 0 h]
    unfold onAt
    by_cases hl : 0 < ts.length
    · rw [decide_eq_true hl]
      cases ho : (tk ts 0).one with
      | true => cases i <;> simp [reach, hl]
      | false =>
        cases i with
        | zero => simp [reach, hl, nextRow, ho]
        | succ i => simp [reach, hl, nextRow, ho]
    · rw [decide_eq_false hl]
      cases i <;> simp [reach, hl]
  | k + 1, h => by
    have ih := on_reach ts x i hp k (by omega)
    show (p (k + 1) || (skipRow ts p k && !(tk ts k).one)) = _
    rw [ih, hp (k + 1) h]
    have hk : k < ts.length := by omega
    -- what leads to k + 1 without its own piece
    have hr : ((tk ts k).one && reach ts x (k + 1) i || (onAt ts x k i && !(tk ts k).one)) = reach ts x (k + 1) i := by
      unfold onAt
      cases ho : (tk ts k).one with
      | true => simp
      | false => simp [hk]
    conv => rhs; unfold onAt
    by_cases hl : k + 1 < ts.length
    · rw [decide_eq_true hl]
      cases ho : (tk ts (k + 1)).one with
      | true =>
        simp only [Bool.not_true, Bool.and_false, Bool.false_and, Bool.false_or, Bool.false_eq_true, if_false]
        exact hr
      | false =>
        simp only [Bool.not_false, Bool.and_true, Bool.true_and, if_true]
        cases i with
        | zero =>
          simp only [Bool.false_or]
          rw [hr]
          show _ = nextRow (tk ts (k + 1)) (reach ts x (k + 1)) x 0
          simp [nextRow, ho]
        | succ i =>
          rw [Bool.or_assoc, hr]
          show _ = nextRow (tk ts (k + 1)) (reach ts x (k + 1)) x (i + 1)
          unfold nextRow
          rw [ho, Bool.or_comm]
          rfl
    · rw [decide_eq_false hl]
      simp only [Bool.false_and, Bool.false_or, Bool.false_eq_true, if_false]
      exact hr
theorem on_begin (ts : List Tok) (x : List UInt8) : ∀ k, k ≤ ts.length → skipRow ts (fun k => k == 0) k = onAt ts x k 0 :=
  on_reach ts x 0 fun k hk => by
    cases k with
    | zero => simp
    | succ k =>
      cases ho : (tk ts k).one with
      | false => simp [ho]
      | true => simp [ho, reach, nextRow]
theorem on_step (ts : List Tok) (x : List UInt8) (i : Nat) {on : Nat → Bool} (h : ∀ k, k ≤ ts.length → on k = onAt ts x k i) : ∀ k, k ≤ ts.length → skipRow ts (stepRow ts on (tx x i)) k = onAt ts x k (i + 1) :=
  on_reach ts x (i + 1) fun k hk => by
    unfold stepRow
    rw [h k hk]
    have h1 : (decide (k < ts.length) && onAt ts x k i && (tk ts k).eats (tx x i)) = (decide (k < ts.length) && !(tk ts k).one && (reach ts x (k + 1) i && (tk ts k).eats (tx x i))) := by
      by_cases hl : k < ts.length
      · rw [decide_eq_true hl]
        cases ho : (tk ts k).one with
        | true => simp [eats_not ho]
        | false => simp [onAt, hl, ho]
      · rw [decide_eq_false hl]; simp
    rw [h1]
    congr 1
    cases k with
    | zero => simp
    | succ k =>
      simp only [Nat.add_sub_cancel]
      rw [h k (by omega)]
      cases ho : (tk ts k).one with
      | false => simp
      | true => simp [onAt, ho, reach, nextRow]
theorem on_done (ts : List Tok) (x : List UInt8) (i : Nat) : onAt ts x ts.length i = reach ts x ts.length i := by
  unfold onAt; simp
/-- a row looks at the text ahead alone -/
theorem nextRow_take {t : Tok} {row row' : Nat → Bool} {x : List UInt8} {m : Nat} (h : ∀ i, i ≤ m → row i = row' i) : ∀ i, i ≤ m → i ≤ x.length → m ≤ x.length → nextRow t row x i = nextRow t row' (x.take m) i
  | 0, _, _, _ => by unfold nextRow; rw [h 0 (by omega)]
  | i + 1, hi, hx, hm => by
    have ih := nextRow_take (t := t) (x := x) h i (by omega) (by omega) hm
    have e : tx (x.take m) i = tx x i := by
      unfold tx
      rw [getElem!_pos (x.take m) i (by simp; omega), getElem!_pos x i (by omega), List.getElem_take]
    unfold nextRow
    rw [h i (by omega), h (i + 1) hi, ih, e]
theorem reach_take (ts : List Tok) (x : List UInt8) {m : Nat} (hm : m ≤ x.length) : ∀ k i, i ≤ m → reach ts x k i = reach ts (x.take m) k i
  | 0, i, _ => rfl
  | k + 1, i, hi => nextRow_take (fun j hj => reach_take ts x hm k j hj) i hi (by omega) hm
end Go.Proofs.YtjknjmlpnjifkaaDoor
