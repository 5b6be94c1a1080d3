/- Where the text of a symbolic link leads: whether it leaves, plain. And an own list cut short. No condition. -/
import Derived.Test.YtjknjmlpnjifkaaDoorRouteS
namespace Go.Proofs.YtjknjmlpnjifkaaDoor
open Go.RowKit
set_option linter.unusedVariables false
set_option linter.unusedSimpArgs false
/-- from n steps down, along the pieces -/
def climb : Nat → List (List UInt8) → Int
  | _, [] => 0
  | n, p :: ps => if keepP p = false then climb n ps else if p = [46, 46] then (if n = 0 then 101 else climb (n - 1) ps) else climb (n + 1) ps
def symE (d : Nat) (l : List UInt8) (pol mn : Int) : Int :=
  if pol ≠ 0 ∧ pol ≠ 1 then 100 else if l = [] then 90 else if mn < l.length then 93 else if (0 : UInt8) ∈ l then 91 else if pol = 0 then 0 else if l.head? = some 47 then 92 else climb d (splitW 47 l)
theorem climb_drop {P : List (List UInt8)} {k : Nat} (h : k < P.length) (n : Nat) : climb n (P.drop k) = if keepP P[k] = false then climb n (P.drop (k + 1)) else if P[k] = [46, 46] then (if n = 0 then 101 else climb (n - 1) (P.drop (k + 1))) else climb (n + 1) (P.drop (k + 1)) := by
  rw [List.drop_eq_getElem_cons h]
  conv => lhs; unfold climb
def SymEnd (d : Nat) (l : List UInt8) (pol mn : Int) (w : World) (e : Ending) (w' : World) : Prop :=
  Below w.heap.size w w' ∧ ∃ v, e = .returned (.tuple #[v, .int .i64 (symE d l pol mn)])
theorem Cells.take_ {α : Type} {s : Shape α} {w : World} {M : Nat → Prop} : ∀ {xs : List Value} {l : List α} (k : Nat), Cells s w M xs l → Cells s w M (xs.take (k * s.size)) (l.take k)
  | xs, [], k, h => by
    simp only [Cells] at h
    subst h
    simp [Cells]
  | xs, a :: l, 0, h => by simp [Cells]
  | xs, a :: l, k + 1, h => by
    obtain ⟨es, rest, rfl, hr, hc⟩ := h
    have hl := s.len hr
    refine ⟨es, rest.take (k * s.size), ?_, hr, Cells.take_ k hc⟩
    rw [List.take_append, hl, Nat.add_mul, Nat.one_mul, Nat.add_sub_cancel, List.take_of_length_le (by omega)]
theorem Own.take_ {α : Type} {s : Shape α} {e : TypeId} {w : World} {base g n cap : Nat} {l : List α} (h : Own s e w base (fun _ => False) (.slice (some ⟨g, 0, none⟩) n cap) l) {k : Nat} (hk : k ≤ n) : Own s e w base (fun _ => False) (.slice (some ⟨g, 0, none⟩) k cap) (l.take k) := by
  obtain ⟨xs, ⟨h1, h2⟩, hc, _⟩ := h
  rcases h2 with ⟨h, _⟩ | ⟨g', cap', cur, hv, hb, hg, hn, hm, hs, ht⟩
  · cases h
  · injection hv with e1 e2 e3
    injection e1 with e1
    injection e1 with e1
    subst e1 e3
    have hkl : (l.take k).length = k := by rw [List.length_take]; omega
    refine ⟨xs.take (k * s.size), ⟨?_, .inr ⟨g, cap, cur, by rw [hkl], hb, hg, by rw [hkl]; omega, hm, hs, ?_⟩⟩, Cells.take_ k hc, fun _ h => h.elim⟩
    · rw [List.length_take, h1, hkl]
      have : k * s.size ≤ l.length * s.size := Nat.mul_le_mul_right _ (by omega)
      omega
    · rw [hkl, ← ht, List.take_take]
      congr 1
      have : k * s.size ≤ l.length * s.size := Nat.mul_le_mul_right _ (by omega)
      omega
theorem own_behind {α : Type} {s : Shape α} {e : TypeId} {w w' : World} {base : Nat} {v : Value} {l : List α} (h : Own s e w base (fun _ => False) v l) (hb : Below w.heap.size w w') : Own s e w' base (fun _ => False) v l :=
  h.kept (row := none) ⟨hb.os, hb.tape, hb.output, hb.size, fun k hk _ => hb.block k hk⟩ (Classical.em _) (fun _ h => h.elim)
end Go.Proofs.YtjknjmlpnjifkaaDoor
