/- One element behind a list of the call's own, the element leading on; and such a list kept apart from some blocks. No condition. -/
import Derived.Test.YtdmpdinaineiiaaDoorLtPlain
namespace Go.Proofs.YtdmpdinaineiiaaDoor
open Go.RowKit
set_option linter.unusedSectionVars false
set_option linter.unusedVariables false
set_option linter.unusedSimpArgs false
section
variable {P : Program} {ops : Array Oper} {rest : List Oper} {o : Oper} {a : Act} {w : World} {Q : Exit → Act → World → Prop} {α : Type} {s : Shape α} {e : TypeId} {base : Nat} {M M' : Nat → Prop} {v : Value} {l : List α}
theorem wpList_append_g (hgd : o.guard = none) (sv x : Operand) (t : TypeId) (ho : o.op = .call { callee := .builtin .append, args := #[sv, x], argTypes := #[t, t] }) {bytes : Nat} (el : Elem P t e s bytes)
    (hs : a.eval sv = v) (h : Own s e w base M v l) {es : List Value} {b : α} (hx : a.eval x = .slice (some ⟨w.heap.size, 0, none⟩) 1 1) (hr : s.rd w M' es b) (h3' : ∀ n, M' n → n < w.heap.size ∧ some n ≠ v.ownBlock) (hlen : (l.length + 1) * bytes ≤ 140737488355328) (hlen' : l.length + 1 ≤ maxLen) (hbase : base ≤ w.heap.size)
    (K : ∀ v' w', Own s e w' base (fun n => M n ∨ M' n) v' (l ++ [b]) → w.grownBy w' v.ownBlock → (v'.ownBlock = v.ownBlock ∨ v'.ownBlock = some (w.heap.size + 1)) → wpList P ops Q rest (a.put o.dst v') w') : wpList P ops Q (o :: rest) a (w.alloc (.cells es.toArray e)) := by
  have hk : Keeps M' w (w.alloc (.cells es.toArray e)) := (Keeps.of_below (below_alloc' w _)).mono fun n hn => (h3' n hn).1
  have hsrc := src_blk (Blk.new w e es.toArray) (s.keep hr hk)
  refine wpList_append_list (v := v) (k := [b]) (M' := M') hgd sv x t ho el hs (h.alloc _) hx hsrc (fun n hn => ⟨by have := (h3' n hn).1; simp; omega, (h3' n hn).2⟩) (by simpa using hlen) (by simpa using hlen') (by simp; omega) ?_
  intro v' w' h1 h2 h3
  refine K v' w' h1 (grown_trans (grown_below (grown_refl w _) (below_alloc' w _)) h2) ?_
  simpa using h3
end
/-- a list of the call's own, its elements in new memory or in blocks that were there and are none of X -/
def OwnX {α : Type} (X : List Nat) (w0 : World) (s : Shape α) (e : TypeId) (w : World) (v : Value) (l : List α) : Prop :=
  ∃ M : Nat → Prop, (∀ n, M n → Out X w0 n ∨ From w0.heap.size w n) ∧ Own s e w w0.heap.size M v l
section
variable {α : Type} {X : List Nat} {w0 w w' : World} {s : Shape α} {e : TypeId} {v : Value} {l : List α}
theorem OwnX.made (X : List Nat) (w0 : World) (s : Shape α) (e : TypeId) : OwnX X w0 s e (w0.alloc (.cells #[] e)) (.slice (some ⟨w0.heap.size, 0, none⟩) 0 0) ([] : List α) :=
  ⟨fun _ => False, fun _ h => h.elim, Own.made s e w0 _ (Nat.le_refl _)⟩
theorem OwnX.below (h : OwnX X w0 s e w v l) (hb : Below w.heap.size w w') : OwnX X w0 s e w' v l := by
  obtain ⟨M, h1, h2⟩ := h
  have hM : ∀ n, M n → n < w.heap.size := fun n hn => by obtain ⟨_, _, _, h3⟩ := h2; exact (h3 n hn).1
  exact ⟨M, fun n hn => (h1 n hn).imp id fun h => ⟨h.1, Nat.lt_of_lt_of_le h.2 hb.size⟩, h2.kept (grownBy_of_below hb) (by cases hv : v.ownBlock <;> simp) (fun n hn => by simp)⟩
theorem OwnX.lt (h : OwnX X w0 s e w v l) : ∀ k, v.ownBlock = some k → w0.heap.size ≤ k ∧ k < w.heap.size := by obtain ⟨_, _, h⟩ := h; exact h.lt
theorem OwnX.rd (h : OwnX X w0 s e w v l) (hX : ∀ k ∈ X, k < w0.heap.size) (hw : w0.heap.size ≤ w.heap.size) : SliceRd s w (Out X w) v l := by
  obtain ⟨M, h1, h2⟩ := h
  have hlt := h2.lt
  refine h2.rd.more fun n hn => ?_
  rcases hn with hn | hn
  · rcases h1 n hn with h | h
    · exact ⟨Nat.lt_of_lt_of_le h.1 hw, h.2⟩
    · exact ⟨h.2, fun e => by have := hX n e; have := h.1; omega⟩
  · have := hlt n hn.symm
    exact ⟨this.2, fun e => by have := hX n e; omega⟩
theorem OwnX.snoc {M M' : Nat → Prop} {b : α} (h1 : ∀ n, M n → Out X w0 n ∨ From w0.heap.size w n) (h2 : ∀ n, M' n → Out X w0 n ∨ From w0.heap.size w n) (hs : w.heap.size ≤ w'.heap.size) (h : Own s e w' w0.heap.size (fun n => M n ∨ M' n) v (l ++ [b])) : OwnX X w0 s e w' v (l ++ [b]) :=
  ⟨_, fun n hn => (hn.elim (h1 n) (h2 n)).imp id fun h => ⟨h.1, Nat.lt_of_lt_of_le h.2 hs⟩, h⟩
end
end Go.Proofs.YtdmpdinaineiiaaDoor
