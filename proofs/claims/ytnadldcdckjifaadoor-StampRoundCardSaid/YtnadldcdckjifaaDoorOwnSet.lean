/- Storing into a list of the call's own whose elements lead nowhere and take one cell; turning a list round, plain; the decimal numeral by its last digits. No condition. -/
import Derived.Test.YtnadldcdckjifaaDoorByt
import Derived.Lib.ItoaNum
namespace Go.Proofs.YtnadldcdckjifaaDoor
open Go.RowKit
set_option linter.unusedSectionVars false
set_option linter.unusedVariables false
set_option linter.unusedSimpArgs false

theorem Cells.set1 {α : Type} {s : Shape α} (h1 : s.size = 1) (hf : s.Flat) {w : World} {M : Nat → Prop} {xs : List Value} {l : List α} (h : Cells s w M xs l) {i : Nat} {u : Value} {a : α} (hr : s.rd w (fun _ => False) [u] a) : Cells s w M (xs.set i u) (l.set i a) := by
  induction l generalizing xs i with
  | nil => have : xs = [] := h; subst this; rfl
  | cons b l ih =>
    obtain ⟨es, rest, e, h2, h3⟩ := h
    have hl := s.len h2
    rw [h1] at hl
    obtain ⟨x, rfl⟩ := List.length_eq_one_iff.1 hl
    subst e
    cases i with
    | zero => exact ⟨[u], rest, rfl, hf hr, h3⟩
    | succ i => exact ⟨[x], rest.set i u, rfl, h2, ih h3⟩
/-- a store into a list of the call's own -/
theorem Own.set1 {α : Type} {s : Shape α} (h1 : s.size = 1) (hf : s.Flat) {w : World} {e : TypeId} {base : Nat} {M : Nat → Prop} {v : Value} {l : List α} (h : Own s e w base M v l) {g n cap : Nat} (hv : v = .slice (some ⟨g, 0, none⟩) n cap)
    {i : Nat} {u : Value} {a : α} (hr : s.rd w (fun _ => False) [u] a) : Own s e (w.setCell ⟨g, i, none⟩ u) base M v (l.set i a) := by
  obtain ⟨xs, ⟨hx, hc⟩, hcs, hM⟩ := h
  subst hv
  have hb : (Value.slice (some ⟨g, 0, none⟩) n cap).ownBlock = some g := rfl
  refine ⟨xs.set i u, ⟨by simpa using hx, .inr ?_⟩, ?_, fun k hk => ⟨by simpa [World.setCell] using (hM k hk).1, (hM k hk).2⟩⟩
  · rcases hc with ⟨h, _⟩ | ⟨g', cap', cur, hv, h2, h3, h4, h5, h6, h7⟩
    · cases h
    · injection hv with e1 e2 e3
      injection e1 with e1
      injection e1 with e1
      subst e1 e2 e3
      refine ⟨g, cap, cur.setIfInBounds i u, by simp, h2, ?_, by simpa using h4, h5, by simpa using h6, ?_⟩
      · simp [World.setCell, Array.getElem?_modify, h3]
      · rw [List.length_set, Array.toList_setIfInBounds, List.take_set, h7]
  · have hkeep : Cells s (w.setCell ⟨g, i, none⟩ u) M xs l := hcs.keep (Keeps.set w _ _ fun n hn e => by
      have := (hM n hn).2
      rw [hb] at this
      exact this (by rw [e]))
    exact hkeep.set1 h1 hf (hf hr)
/-- a cell of a list of bytes of the call's own -/
theorem OwnB.cell {w : World} {e : TypeId} {base : Nat} {v : Value} {l : List UInt8} (h : OwnB e w base v l) {g n cap : Nat} (hv : v = .slice (some ⟨g, 0, none⟩) n cap) {i : Nat} {c : UInt8} (hi : l[i]? = some c) :
    w.cell? ⟨g, i, none⟩ = some (.int .u8 c.toNat) ∧ w.frozen? ⟨g, i, none⟩ = false := by
  obtain ⟨xs, ⟨hx, hc⟩, hcs, hM⟩ := h
  subst hv
  rcases hc with ⟨h, _⟩ | ⟨g', cap', cur, hv, h2, h3, h4, h5, h6, h7⟩
  · cases h
  · injection hv with e1 e2 e3
    injection e1 with e1
    injection e1 with e1
    subst e1 e2 e3
    have hil : i < l.length := (List.getElem?_eq_some_iff.1 hi).1
    obtain ⟨es, he, hr⟩ := hcs.get i hil
    have hr' : es = [.int .u8 l[i].toNat] := hr
    subst hr'
    have hil2 := (List.getElem?_eq_some_iff.1 hi).2
    have h0 := he 0 (by decide)
    have e13 : Shape.byte.size = 1 := rfl
    simp only [e13, Nat.mul_one, Nat.add_zero] at h0 h6 h7
    have hcur : cur[i]? = some (.int .u8 c.toNat) := by
      have : (cur.toList.take l.length)[i]? = cur.toList[i]? := by rw [List.getElem?_take, if_pos hil]
      rw [← Array.getElem?_toList, ← this, h7, h0, hil2]
      rfl
    constructor
    · simp only [World.cell?, h3, Option.bind_some]
      first
        | exact hcur
        | simpa using hcur
    · have := Lib.frozen_of_heap h3 i
      exact this
theorem OwnB.get {w : World} {e : TypeId} {base : Nat} {v : Value} {l : List UInt8} (h : OwnB e w base v l) (hl : 0 < l.length) : ∃ g cap, v = .slice (some ⟨g, 0, none⟩) l.length cap ∧ base ≤ g ∧ g < w.heap.size ∧ l.length ≤ cap := by
  rcases h.form with ⟨_, h⟩ | ⟨g, cap, hv, h1, h2, h3, _⟩
  · subst h; simp at hl
  · exact ⟨g, cap, hv, h1, h2, h3⟩

def revAt (l cur : List UInt8) (k : Nat) : Prop := cur.length = l.length ∧ ∀ p, p < l.length → cur[p]? = if p < k ∨ l.length - k ≤ p then l[l.length - 1 - p]? else l[p]?
theorem revAt_0 (l : List UInt8) : revAt l l 0 := ⟨rfl, fun p hp => by rw [if_neg (by omega)]⟩
theorem revAt_step {l cur : List UInt8} {k : Nat} (h : revAt l cur k) (hk : k + 1 + k < l.length) {a b : UInt8} (ha : cur[k]? = some a) (hb : cur[l.length - 1 - k]? = some b) :
    revAt l ((cur.set k b).set (l.length - 1 - k) a) (k + 1) := by
  obtain ⟨h1, h2⟩ := h
  have a1 := h2 k (by omega)
  have b1 := h2 (l.length - 1 - k) (by omega)
  rw [if_neg (by omega), ha] at a1
  rw [if_neg (by omega), hb] at b1
  refine ⟨by simp [h1], fun p hp => ?_⟩
  by_cases hp1 : p = l.length - 1 - k
  · subst hp1
    rw [List.getElem?_set_self (by simp; omega), if_pos (by omega), a1]
    congr 1; omega
  · rw [List.getElem?_set_ne (by omega)]
    by_cases hp2 : p = k
    · subst hp2
      rw [List.getElem?_set_self (by omega), if_pos (by omega), b1]
    · rw [List.getElem?_set_ne (by omega), h2 p hp]
      by_cases hc : p < k ∨ l.length - k ≤ p
      · rw [if_pos hc, if_pos (by omega)]
      · rw [if_neg hc, if_neg (by omega)]
theorem revAt_end {l cur : List UInt8} {k : Nat} (h : revAt l cur k) (hk : ¬ k + 1 + k < l.length) : cur = l.reverse := by
  apply List.ext_getElem?
  intro p
  by_cases hp : p < l.length
  · rw [h.2 p hp, List.getElem?_reverse hp]
    by_cases hc : p < k ∨ l.length - k ≤ p
    · rw [if_pos hc]
    · rw [if_neg hc]; congr 1; omega
  · rw [List.getElem?_eq_none (by rw [h.1]; omega), List.getElem?_eq_none (by simp; omega)]
/-- the digits of u, none of nought -/
def decR (u : Nat) : List UInt8 := if u = 0 then [] else Lib.decDigits u
theorem decR_step {u : Nat} (h : u ≠ 0) : decR u = decR (u / 10) ++ [UInt8.ofNat (48 + u % 10)] := by
  unfold decR
  rw [if_neg h, Lib.decDigits.eq_def]
  by_cases h1 : u < 10
  · rw [dif_pos h1, if_pos (by omega), show u % 10 = u by omega]; rfl
  · rw [dif_neg h1, if_neg (by omega)]
theorem decR_len (u : Nat) : ∀ k, u < 10 ^ k → (decR u).length ≤ k := by
  induction u using Nat.strongRecOn with
  | _ u ih =>
    intro k hk
    by_cases h : u = 0
    · subst h; simp [decR]
    · cases k with
      | zero => simp at hk; omega
      | succ k =>
        rw [decR_step h, List.length_append]
        have := ih (u / 10) (by omega) k (by rw [Nat.pow_succ] at hk; omega)
        simp; omega
theorem itoa_decR {v : Int} (h : v ≠ 0) : Lib.itoa v = (if v < 0 then [45] else []) ++ decR v.natAbs := by
  unfold Lib.itoa decR
  by_cases h1 : v < 0
  · rw [if_pos h1, if_pos h1, if_neg (by omega)]; rfl
  · rw [if_neg h1, if_neg h1, if_neg (by omega), show v.toNat = v.natAbs by omega]; rfl
theorem itoa_0 : Lib.itoa 0 = [48] := by
  unfold Lib.itoa
  rw [if_neg (by decide), Lib.decDigits.eq_def, dif_pos (by decide)]
  rfl
end Go.Proofs.YtnadldcdckjifaaDoor
