/- The document's reader of patterns: a piece in memory; a set in brackets. No condition but room. -/
import Derived.Test.YtjknjmlpnjifkaaDoorRfA
import Derived.Test.YtjknjmlpnjifkaaDoorAt
namespace Go.Proofs.YtjknjmlpnjifkaaDoor
open Go.RowKit
set_option linter.unusedVariables false
set_option linter.unusedSimpArgs false
attribute [local go_sem] cell?_over frozen?_over lt_over le_over
def bools256 (f : UInt8 → Bool) : List Value := (List.range 256).map fun j => Value.bool (f (UInt8.ofNat j))
/-- a piece: its kind, and which bytes are in it -/
def pieceCs (k : Int) (f : UInt8 → Bool) : Array Value := (Value.int .i64 k :: bools256 f).toArray
theorem piece_size (k : Int) (f : UInt8 → Bool) : (pieceCs k f).size = 257 := by simp [pieceCs, bools256]
theorem piece_zero : Tryd.zeroCells115 = pieceCs 0 (fun _ => false) := by kernel_rfl
theorem piece_kind (k k' : Int) (f : UInt8 → Bool) : (pieceCs k f).setIfInBounds 0 (.int .i64 k') = pieceCs k' f := by simp [pieceCs]
theorem piece_one : Tryd.zeroCells115.setIfInBounds 0 (.int .i64 1) = pieceCs 1 (fun _ => false) := by rw [piece_zero, piece_kind]
theorem piece_flat (k : Int) (f : UInt8 → Bool) : (pieceCs k f).toList.all (·.oneCell') = true := by
  simp only [pieceCs, bools256, List.all_cons, List.all_map, List.all_eq_true, Bool.and_eq_true]
  exact ⟨rfl, fun x _ => rfl⟩
theorem whole_piece : Whole Tryd.prog 115 257 := ⟨by kernel_rfl, by kernel_rfl⟩
theorem piece_get (k : Int) (f : UInt8 → Bool) (b : UInt8) : (pieceCs k f)[1 + b.toNat]? = some (.bool (f b)) := by
  have hb : b.toNat < 256 := b.toNat_lt
  simp only [pieceCs, bools256, List.getElem?_toArray]
  rw [Nat.add_comm, List.getElem?_cons_succ, List.getElem?_map, List.getElem?_range hb]
  simp
def updB (f : UInt8 → Bool) (b : UInt8) (v : Bool) : UInt8 → Bool := fun x => if x = b then v else f x
theorem piece_set (k : Int) (f : UInt8 → Bool) (b : UInt8) (v : Bool) : (pieceCs k f).setIfInBounds (1 + b.toNat) (.bool v) = pieceCs k (updB f b v) := by
  have hb : b.toNat < 256 := b.toNat_lt
  apply Array.ext'
  simp only [pieceCs, bools256, Array.toList_setIfInBounds]
  rw [Nat.add_comm, List.set_cons_succ]
  congr 1
  apply List.ext_getElem?
  intro j
  rw [List.getElem?_set, List.getElem?_map, List.getElem?_map]
  by_cases hj : j < 256
  · rw [List.getElem?_range hj]
    by_cases hbj : b.toNat = j
    · subst hbj
      simp [updB, hb]
    · rw [if_neg hbj]
      simp only [Option.map_some, updB]
      rw [if_neg]
      intro e
      apply hbj
      rw [← e, UInt8.toNat_ofNat']
      omega
  · rw [List.getElem?_eq_none (by simp; omega)]
    have : ¬ b.toNat = j := by omega
    rw [if_neg this]
    rfl
/-- a piece's block -/
abbrev PieB (w : World) (g : Nat) (k : Int) (f : UInt8 → Bool) : Prop := Blk w g 115 (pieceCs k f)
theorem PieB.at_ {w : World} {g : Nat} {k : Int} {f : UInt8 → Bool} (h : PieB w g k f) (b : UInt8) : w.cell? ⟨g, 1 + b.toNat, none⟩ = some (.bool (f b)) := by rw [h.cell, piece_get]
theorem PieB.put {w : World} {g : Nat} {k : Int} {f : UInt8 → Bool} (h : PieB w g k f) (b : UInt8) (v : Bool) : PieB (w.setCell ⟨g, 1 + b.toNat, none⟩ (.bool v)) g k (updB f b v) := (h.set_ (1 + b.toNat) (.bool v)).to (piece_set k f b v)
/-- what set answers -/
def SetVEnd (s : ByteArray) (i : Nat) (w : World) (e : Ending) (w' : World) : Prop :=
  Below w.heap.size w w' ∧ ∃ (F : UInt8 → Bool) (j : Nat), e = .returned (.tuple #[.agg (pieceCs 1 F), .int .i64 j]) ∧ ((classB s.data.toList i = some (F, j) ∧ 0 < j ∧ j ≤ s.size) ∨ (classB s.data.toList i = none ∧ j = 0))
theorem setV_bad {s : ByteArray} {i : Nat} {w w' : World} {F : UInt8 → Bool} (h : classB s.data.toList i = none) (hb : Below w.heap.size w w') : SetVEnd s i w (.returned (.tuple #[.agg (pieceCs 1 F), .int .i64 0])) w' := ⟨hb, F, 0, rfl, .inr ⟨h, rfl⟩⟩
def AT (s : ByteArray) (i : Nat) (b : UInt8) : Prop := peekB s i b = true
theorem upd_step (f g : UInt8 → Bool) (lo : UInt8) {q : Nat} (b : UInt8) (hb : b.toNat = q) (hl : lo.toNat ≤ q) (h : ∀ x, g x = (f x || (decide (lo.toNat ≤ x.toNat) && decide (x.toNat < q)))) (x : UInt8) : updB g b true x = (f x || (decide (lo.toNat ≤ x.toNat) && decide (x.toNat < q + 1))) := by
  unfold updB
  by_cases hx : x = b
  · subst hx
    rw [if_pos rfl, decide_eq_true (by omega), decide_eq_true (by omega)]
    simp
  · have hne : ¬ x.toNat = q := fun e => hx (UInt8.toNat_inj.1 (by omega))
    rw [if_neg hx, h x]
    congr 2
    rw [decide_eq_decide]
    omega
end Go.Proofs.YtjknjmlpnjifkaaDoor
