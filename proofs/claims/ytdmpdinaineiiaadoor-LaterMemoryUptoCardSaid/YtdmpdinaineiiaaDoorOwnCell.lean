/- One cell of one element of a list of the call's own: read, and stored into. No condition. -/
import Derived.Test.YtdmpdinaineiiaaDoorBase
import Derived.Lib.FrozenHead
namespace Go.Proofs.YtdmpdinaineiiaaDoor
open Go.RowKit
set_option linter.unusedSectionVars false
set_option linter.unusedVariables false
set_option linter.unusedSimpArgs false
section
variable {α : Type} {s : Shape α} {w : World} {M : Nat → Prop}
theorem Cells.setC {xs : List Value} {l : List α} (h : Cells s w M xs l) {i j : Nat} (hi : i < l.length) (hj : j < s.size) {u : Value} {a : α} (hr : ∀ es, s.rd w M es l[i] → s.rd w M (es.set j u) a) : Cells s w M (xs.set (i * s.size + j) u) (l.set i a) := by
  induction l generalizing xs i with
  | nil => simp at hi
  | cons b l ih =>
    obtain ⟨es, rest, e, h2, h3⟩ := h
    have hl := s.len h2
    subst e
    cases i with
    | zero =>
      refine ⟨es.set j u, rest, ?_, hr es h2, h3⟩
      rw [Nat.zero_mul, Nat.zero_add, List.set_append, if_pos (by omega)]
    | succ i =>
      refine ⟨es, rest.set (i * s.size + j) u, ?_, h2, ih h3 (by simpa using hi) (fun es h => hr es (by simpa using h))⟩
      rw [List.set_append, if_neg (by rw [Nat.succ_mul]; omega), hl]
      congr 2
      rw [Nat.succ_mul]; omega
variable {e : TypeId} {base g n cap : Nat} {v : Value} {l : List α}
theorem Own.setC (h : Own s e w base M v l) (hv : v = .slice (some ⟨g, 0, none⟩) n cap) {i j : Nat} (hi : i < l.length) (hj : j < s.size) {u : Value} {a : α} (hr : ∀ w es, s.rd w M es l[i] → s.rd w M (es.set j u) a) :
    Own s e (w.setCell ⟨g, i * s.size + j, none⟩ u) base M v (l.set i a) := by
  obtain ⟨xs, ⟨hx, hc⟩, hcs, hM⟩ := h
  subst hv
  have hb : (Value.slice (some ⟨g, 0, none⟩) n cap).ownBlock = some g := rfl
  refine ⟨xs.set (i * s.size + j) u, ⟨by simpa using hx, .inr ?_⟩, ?_, fun k hk => ⟨by simpa [World.setCell] using (hM k hk).1, (hM k hk).2⟩⟩
  · rcases hc with ⟨h, _⟩ | ⟨g', cap', cur, hv, h2, h3, h4, h5, h6, h7⟩
    · cases h
    · injection hv with e1 e2 e3
      injection e1 with e1
      injection e1 with e1
      subst e1 e2 e3
      refine ⟨g, cap, cur.setIfInBounds (i * s.size + j) u, by simp, h2, ?_, by simpa using h4, h5, by simpa using h6, ?_⟩
      · simp [World.setCell, Array.getElem?_modify, h3]
      · rw [List.length_set, Array.toList_setIfInBounds, List.take_set, h7]
  · have hkeep : Cells s (w.setCell ⟨g, i * s.size + j, none⟩ u) M xs l := hcs.keep (Keeps.set w _ _ fun n hn e => by
      have := (hM n hn).2
      rw [hb] at this
      exact this (by rw [e]))
    exact hkeep.setC hi hj (hr _)
theorem Own.cellC (h : Own s e w base M v l) (hv : v = .slice (some ⟨g, 0, none⟩) n cap) {i : Nat} (hi : i < l.length) :
    ∃ es, s.rd w M es l[i] ∧ (∀ j, j < s.size → w.cell? ⟨g, i * s.size + j, none⟩ = es[j]?) ∧ ∀ j, w.frozen? ⟨g, j, none⟩ = false := by
  obtain ⟨xs, ⟨hx, hc⟩, hcs, hM⟩ := h
  subst hv
  rcases hc with ⟨h, _⟩ | ⟨g', cap', cur, hv, h2, h3, h4, h5, h6, h7⟩
  · cases h
  · injection hv with e1 e2 e3
    injection e1 with e1
    injection e1 with e1
    subst e1 e2 e3
    obtain ⟨es, he, hr⟩ := hcs.get i hi
    refine ⟨es, hr, fun j hj => ?_, fun j => Lib.frozen_of_heap h3 j⟩
    have hlt : i * s.size + j < l.length * s.size := by
      have : (i + 1) * s.size ≤ l.length * s.size := Nat.mul_le_mul_right _ hi
      rw [Nat.succ_mul] at this
      omega
    rw [← he j hj, ← h7, List.getElem?_take, if_pos hlt]
    simp only [World.cell?, h3, Option.bind_some, Array.getElem?_toList]
    first | rfl | simp
end
/-- the array of a list that is not empty -/
theorem Own.arr {α : Type} {s : Shape α} {w : World} {M : Nat → Prop} {e : TypeId} {base : Nat} {A : Option Addr} {n c : Nat} {l : List α} (h : Own s e w base M (.slice A n c) l) (hl : 0 < l.length) : ∃ g, A = some ⟨g, 0, none⟩ ∧ base ≤ g ∧ g < w.heap.size := by
  rcases h.form with ⟨_, h⟩ | ⟨g, cap, hv, h1, h2, h3, _⟩
  · subst h; simp at hl
  · injection hv with e1 e2 e3
    exact ⟨g, e1, h1, h2⟩
end Go.Proofs.YtdmpdinaineiiaaDoor
