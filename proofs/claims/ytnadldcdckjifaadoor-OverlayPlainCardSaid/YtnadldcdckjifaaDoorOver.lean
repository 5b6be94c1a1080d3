/- Plain words for walks: a world of which everything that was there stays as it was (World.over), and what it is good for in a walk: contracts say 'the world is the old one, grown'. No condition. -/
import Derived.Test.YtnadldcdckjifaaDoorRows
import Derived.WalkKit
import Derived.ProofKit
import Derived.OpenShut
import Derived.Outline
import Derived.Deep.QuietTactic
import Derived.BigQuiet
import Derived.Tactics2
import Derived.Handy
import Derived.Lib.Hide
import Derived.Deep.RegionHeld3
import Derived.WalkSpells
import Derived.WalkLawsBesides
namespace Go.Proofs.YtnadldcdckjifaaDoor
open Go.RowKit

/-- W, and behind it what δ has more. -/
def over (W δ : World) : World := { W with heap := W.heap ++ δ.heap.extract W.heap.size δ.heap.size, drawn := δ.drawn }

theorem over_heap_lt {W δ : World} {n : Nat} (h : n < W.heap.size) : (over W δ).heap[n]? = W.heap[n]? := by
  simp [over, Array.getElem?_append, h]
theorem size_over_le (W δ : World) : W.heap.size ≤ (over W δ).heap.size := by
  simp [over]
theorem below_over (W δ : World) : Below W.heap.size W (over W δ) :=
  ⟨rfl, rfl, rfl, size_over_le W δ, fun _ h => over_heap_lt h⟩
theorem over_of_below {W w' : World} (h : Below W.heap.size W w') : w' = over W w' := by
  have e : w'.heap = W.heap ++ w'.heap.extract W.heap.size w'.heap.size := by
    apply Array.ext_getElem?
    intro n
    rw [Array.getElem?_append]
    by_cases hn : n < W.heap.size
    · rw [if_pos hn]; exact h.block n hn
    · rw [if_neg hn, Array.getElem?_extract]
      have hs := h.size
      by_cases hn' : n < w'.heap.size
      · rw [if_pos (by omega)]; congr 1; omega
      · rw [if_neg (by omega), Array.getElem?_eq_none (by omega)]
  have h1 := h.os
  have h2 := h.tape
  have h3 := h.output
  cases w'
  simp only [over, World.mk.injEq] at *
  exact ⟨e, h2, trivial, h1, h3⟩
theorem exists_over {W w' : World} (h : Below W.heap.size W w') : ∃ δ, w' = over W δ := ⟨w', over_of_below h⟩
theorem over_over (W δ δ' : World) : over (over W δ) δ' = over W (over (over W δ) δ') :=
  over_of_below ((below_over W δ).trans ((below_over _ _).mono (size_over_le _ _)))

section
variable {W δ : World} {n : Nat}
theorem cell?_over {a : Addr} (h : a.block < W.heap.size) : (over W δ).cell? a = W.cell? a := World.cell?_of_block (w := W) (over_heap_lt h)
theorem frozen?_over {a : Addr} (h : a.block < W.heap.size) : (over W δ).frozen? a = W.frozen? a := World.frozen?_of_block (w := W) (over_heap_lt h)
theorem lt_over (h : n < W.heap.size) : n < (over W δ).heap.size := Nat.lt_of_lt_of_le h (size_over_le _ _)
theorem le_over (h : n ≤ W.heap.size) : n ≤ (over W δ).heap.size := Nat.le_trans h (size_over_le _ _)
theorem drew_over : (over W δ).drew = over W (over W δ).drew := over_of_below (below_over W δ).drew
end

/-- A region that draws its order, whose operations only read, and whose callees leave all that was there: one walk of the text's order. -/
theorem wp_region_over {P : Program} {id : Nat} {Q : Exit → Act → World → Prop} {a : Act} {w : World} {l : List Oper} (hm : P.follows .mixedOrders = true) (hB : Region.lexB .any l.toArray = true)
    (h : wpQuiet P l.toArray (fun w' => ∃ δ, w' = over w δ) (fun a' => ∀ w', (∃ δ, w' = over w δ) → Q .normal a' w') l a) : (Code.region id l.toArray true).wp P Q a w :=
  wp_region_quiet (C := fun w' => ∃ δ, w' = over w δ) hm hB ⟨_, over_of_below (Below.refl _ _).drew⟩ (by simpa using h)

/-- The same, the world at hand behind a variable; of it just F is known. -/
theorem wp_region_over_of {P : Program} {id : Nat} {Q : Exit → Act → World → Prop} {a : Act} {w : World} {l : List Oper} (F : World → Prop) (hF : F w) (hm : P.follows .mixedOrders = true) (hB : Region.lexB .any l.toArray = true)
    (h : ∀ u, F u → wpQuiet P l.toArray (fun w' => ∃ δ, w' = over u δ) (fun a' => ∀ w', (∃ δ, w' = over u δ) → Q .normal a' w') l a) : (Code.region id l.toArray true).wp P Q a w :=
  wp_region_quiet (C := fun w' => ∃ δ, w' = over w δ) hm hB ⟨_, over_of_below (Below.refl _ _).drew⟩ (by simpa using h w hF)

/-- A contract met in a region. -/
theorem calls_over {P : Program} {f : FuncId} {args : Array Value} {W δ : World} {v : Value}
    (h : Calls P f args (over W δ) fun e w' => e = .returned v ∧ ∃ δ', w' = over (over W δ) δ') : Calls P f args (over W δ) fun e w' => e = .returned v ∧ ∃ δ', w' = over W δ' :=
  h.mono fun _ _ ⟨he, δ', hw⟩ => ⟨he, _, hw.trans (over_over W δ δ')⟩
theorem calls_over_same {P : Program} {f : FuncId} {args : Array Value} {W δ : World} {v : Value}
    (h : Calls P f args (over W δ) fun e w' => e = .returned v ∧ over W δ = w') : Calls P f args (over W δ) fun e w' => e = .returned v ∧ ∃ δ', w' = over W δ' :=
  h.mono fun _ _ ⟨he, hw⟩ => ⟨he, _, hw.symm⟩
theorem below_alloc {B : Nat} (w : World) (o : Obj) (h : B ≤ w.heap.size) : Below B w (w.alloc o) := (Below.refl _ _).alloc h _
theorem below_alloc' (w : World) (o : Obj) : Below w.heap.size w (w.alloc o) := (Below.refl _ _).alloc (Nat.le_refl _) _
theorem lt2 (a : Nat) : a < a + 1 + 1 := by omega
theorem lt3 (a : Nat) : a < a + 1 + 1 + 1 := by omega
theorem lt4 (a : Nat) : a < a + 1 + 1 + 1 + 1 := by omega
theorem lt5 (a : Nat) : a < a + 1 + 1 + 1 + 1 + 1 := by omega
theorem lt6 (a : Nat) : a < a + 1 + 1 + 1 + 1 + 1 + 1 := by omega
theorem lt7 (a : Nat) : a < a + 1 + 1 + 1 + 1 + 1 + 1 + 1 := by omega
theorem lt8 (a : Nat) : a < a + 1 + 1 + 1 + 1 + 1 + 1 + 1 + 1 := by omega
theorem below_trans_over {B : Nat} {w u : World} (h : Below B w u) (hB : B ≤ u.heap.size) (δ : World) : Below B w (over u δ) := h.trans ((below_over u δ).mono hB)
theorem ret_int {k : IntKind} {a b : Int} (h : a = b) : Ending.returned (.int k a) = .returned (.int k b) := by rw [h]
theorem ret_bool {a b : Bool} (h : a = b) : Ending.returned (.bool a) = .returned (.bool b) := by rw [h]
end Go.Proofs.YtnadldcdckjifaaDoor
