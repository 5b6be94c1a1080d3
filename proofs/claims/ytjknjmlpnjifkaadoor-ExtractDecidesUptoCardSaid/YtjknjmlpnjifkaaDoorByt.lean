/- Byte lists of the call's own: appending a byte; a byte list as a text. No condition but room. -/
import Derived.Test.YtjknjmlpnjifkaaDoorBase
import Derived.Laws.IdiomStrings
namespace Go.Proofs.YtjknjmlpnjifkaaDoor
open Go.RowKit
set_option linter.unusedSectionVars false
set_option linter.unusedVariables false
set_option linter.unusedSimpArgs false

/-- a byte list of the call's own -/
abbrev OwnB (e : TypeId) (w : World) (base : Nat) (v : Value) (l : List UInt8) : Prop := Own Shape.byte e w base (fun _ => False) v l
def strV (l : List UInt8) : Value := .string ⟨l.toArray⟩
theorem strV_data (s : ByteArray) : strV s.data.toList = .string s := by simp [strV]
section
variable {P : Program} {w W w' : World} {v : Value} {l : List UInt8} {e : TypeId} {base : Nat} {ops : Array Oper} {rest : List Oper} {o : Oper} {a : Act} {Q : Exit → Act → World → Prop}
theorem Own.ff {M M' : Nat → Prop} (h : Own Shape.byte e w base (fun n => M n ∨ M' n) v l) : OwnB e w base v l := by
  obtain ⟨xs, h1, h2, h3⟩ := h
  exact ⟨xs, h1, h2.flat flat_byte, fun _ h => h.elim⟩
theorem below_append {B : Nat} {W w w1 : World} {v : Value} (hb : Below B W w) (hB : B ≤ w.heap.size) (hg : w.grownBy w1 v.ownBlock) (hlt : ∀ k, v.ownBlock = some k → B ≤ k) : Below B W w1 :=
  hb.grown hg hB hlt
theorem wpList_append_b1 (hgd : o.guard = none) (sv x : Operand) (t : TypeId) (ho : o.op = .call { callee := .builtin .append, args := #[sv, x], argTypes := #[t, t] }) (el : Elem P t e Shape.byte 1)
    (hs : a.eval sv = v) (h : OwnB e w base v l) (n : Int) (c : UInt8) (hx : a.eval x = .slice (some ⟨w.heap.size, 0, none⟩) 1 1) (hn : n = (c.toNat : Int)) (hlen : l.length ≤ 1000000000000) (hB : Below base W w) (hbase : base ≤ w.heap.size)
    (K : ∀ v' w', OwnB e w' base v' (l ++ [c]) → Below base W w' → base ≤ w'.heap.size → wpList P ops Q rest (a.put o.dst v') w') : wpList P ops Q (o :: rest) a (w.alloc (.cells #[.int .u8 n] e)) := by
  subst hn
  refine wpList_append_list hgd sv x t ho el hs (h.alloc _) hx (Src.single (s := Shape.byte) (es := [.int .u8 c.toNat]) (a := c) e (M := fun _ => False) (fun _ h => h.elim) rfl) (fun _ h => h.elim) ?_ ?_ ?_ ?_
  · simp; omega
  · simp [maxLen]; omega
  · simp; omega
  · intro v' w1 hown hg hat
    have hb : Below base W w1 := (hB.alloc hbase _).grown hg (by simp; omega) (fun k hk => (h.lt k hk).1)
    exact K v' w1 hown.ff hb (by have := hg.size; simp at this; omega)
theorem run_str_of (src dst : TypeId) (hs : P.underlying src = some (.slice e)) (he : P.underlying e = some (.int .u8)) (hd : P.underlying dst = some .string) {M : Nat → Prop} (h : SliceRd Shape.byte w M v l) :
    (convert src dst v).run P w = .ok (strV l) w := by
  obtain ⟨A, n, c, rfl, hnc, hcm, hlen, hrow⟩ := h
  rcases Nat.eq_zero_or_pos n with hn | hn
  · subst hn
    have : l = [] := List.eq_nil_of_length_eq_zero hlen
    subst this
    rw [run_convert_bytes_string w src dst e A 0 c hs he hd]
    cases A <;> simp [Conv.bytesToString, strV, loadCells, Sem.run_bind, Sem.run_pure] <;> rfl
  · obtain ⟨b, off, rfl, hb, hi⟩ := hrow hn
    subst hlen
    refine run_convert_bytes_back w src dst e _ c l hs he hd fun j hj => ?_
    obtain ⟨es, h1, h2⟩ := hi j hj
    have := h1 0 (by decide)
    simp only [Shape.byte] at h2 this
    subst h2
    unfold Addr.add
    by_cases h0 : j = 0
    · subst h0; simpa using this
    · rw [if_neg h0]; simpa using this
/-- '[]byte(s)': new memory that reads as the text's bytes -/
theorem run_bytes_of (src dst : TypeId) (hs : P.underlying src = some .string) (hd : P.underlying dst = some (.slice e)) (he : P.underlying e = some (.int .u8)) (w : World) (s : ByteArray) :
    ∃ c w', (convert src dst (.string s)).run P w = .ok (.slice (some ⟨w.heap.size, 0, none⟩) s.size c) w' ∧ w.grownBy w' none ∧ w'.heap.size = w.heap.size + 1 ∧ s.size ≤ c ∧
      ∀ j (hj : j < s.data.size), w'.cell? ⟨w.heap.size, j, none⟩ = some (.int .u8 (s.data[j].toNat : Int)) := by
  refine ⟨_, _, run_bytes_of_string w src dst e s hs hd he, ⟨rfl, rfl, rfl, by simp, fun k hk _ => Below.heap_alloc w.drew _ k hk⟩, by simp, grownCap_ge w _ _ _, fun j hj => ?_⟩
  have := World.cell?_alloc_mark w.drew (bytesRow s (grownCap w s.size 0 e)) e ((bytesRow s (grownCap w s.size 0 e)).size, (bytesRow s (grownCap w s.size 0 e)).size + 1) j
  rw [bytesRow_at s _ j hj] at this
  exact this
theorem Own.low {α : Type} {s : Shape α} {M : Nat → Prop} {l : List α} {base' : Nat} (h : Own s e w base M v l) (hb : base' ≤ base) : Own s e w base' M v l := by
  obtain ⟨xs, ⟨h1, h2⟩, h3⟩ := h
  refine ⟨xs, ⟨h1, ?_⟩, h3⟩
  rcases h2 with h | ⟨g, cap, cur, hv, hg, r⟩
  · exact .inl h
  · exact .inr ⟨g, cap, cur, hv, Nat.le_trans hb hg, r⟩
/-- one new element that leads nowhere -/
theorem wpList_append_one {α : Type} {s : Shape α} {l : List α} (hf : s.Flat) (hgd : o.guard = none) (sv x : Operand) (t : TypeId) (ho : o.op = .call { callee := .builtin .append, args := #[sv, x], argTypes := #[t, t] }) {bytes : Nat} (el : Elem P t e s bytes)
    (hs : a.eval sv = v) (h : Own s e w base (fun _ => False) v l) {es : List Value} {b : α} (hx : a.eval x = .slice (some ⟨w.heap.size, 0, none⟩) 1 1) (hr : s.rd w (fun _ => False) es b) (hlen : (l.length + 1) * bytes ≤ 140737488355328) (hlen' : l.length + 1 ≤ maxLen) (hbase : base ≤ w.heap.size)
    (K : ∀ v' w', Own s e w' base (fun _ => False) v' (l ++ [b]) → w.grownBy w' v.ownBlock → w.heap.size ≤ w'.heap.size → (v'.ownBlock = v.ownBlock ∨ v'.ownBlock = some (w.heap.size + 1)) → wpList P ops Q rest (a.put o.dst v') w') : wpList P ops Q (o :: rest) a (w.alloc (.cells es.toArray e)) := by
  refine wpList_append_list hgd sv x t ho el hs (h.alloc _) hx (Src.single (s := s) (es := es) (a := b) e (M := fun _ => False) (fun _ h => h.elim) hr) (fun _ h => h.elim) hlen hlen' (by simp; omega) ?_
  intro v' w1 hown hg hat
  have hz := hg.size
  simp at hz
  refine K v' w1 ?_ ?_ (by omega) (by simpa using hat)
  · obtain ⟨xs, h1, h2, h3⟩ := hown
    exact ⟨xs, h1, h2.flat hf, fun _ h => h.elim⟩
  · exact ⟨hg.os, hg.tape, hg.output, by omega, fun n hn hne => (hg.block n (by simp; omega) hne).trans (Below.heap_alloc w _ n hn)⟩
end
end Go.Proofs.YtjknjmlpnjifkaaDoor
