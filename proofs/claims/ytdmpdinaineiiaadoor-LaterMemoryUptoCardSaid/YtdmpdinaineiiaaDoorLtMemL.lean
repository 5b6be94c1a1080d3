/- LaterMemory: its walk. No condition but room and the table of powers of ten. -/
import Derived.Test.YtdmpdinaineiiaaDoorLtLib
import Derived.Test.YtdmpdinaineiiaaDoorAppG
namespace Go.Proofs.YtdmpdinaineiiaaDoor
open Go.RowKit
set_option linter.unusedVariables false
set_option linter.unusedSimpArgs false
attribute [local go_sem] cell?_over frozen?_over lt_over le_over
/-- an item as its two cells, whatever its parts lead to -/
def Shape.raw : Shape (Value × Int) where
  size := 2
  pos := by decide
  rd w M cs a := cs = [a.1, .int .i64 a.2] ∧ a.1.oneCell' = true
  bulk _ := 1
  bpos _ := Nat.le_refl _
  len h := by rw [h.1]; rfl
  keep h k := h
  more h k := h
  one h v hv := by
    rw [h.1] at hv
    simp only [List.mem_cons, List.not_mem_nil, or_false] at hv
    rcases hv with rfl | rfl
    · exact h.2
    · rfl
theorem cells_raw {w : World} {M : Nat → Prop} : ∀ {xs : List Value} {lo : List OV}, Cells Shape.OVI w M xs lo → Cells Shape.raw w (fun _ => False) xs (lo.map fun o => (o.v, o.d.v))
  | _, [], h => h
  | _, a :: lo, h => by
    obtain ⟨es, rest, e, h1, h2⟩ := h
    exact ⟨es, rest, e, ⟨h1.1, h1.2.one⟩, cells_raw h2⟩
theorem raw_of {w : World} {base : Nat} {M : Nat → Prop} {v : Value} {lo : List OV} {e : TypeId} (h : Own Shape.OVI e w base M v lo) : Own Shape.raw e w base (fun _ => False) v (lo.map fun o => (o.v, o.d.v)) := by
  obtain ⟨xs, h1, h2, h3⟩ := h
  exact ⟨xs, by rw [List.length_map]; exact h1, cells_raw h2, fun _ h => h.elim⟩
theorem oks_of {w : World} {base : Nat} {M : Nat → Prop} {v : Value} {lo : List OV} {e : TypeId} (h : Own Shape.OVI e w base M v lo) : ∀ o ∈ lo, Own Shape.str 9 w 0 (fun _ => False) o.v o.d.parts ∧ (∀ m, o.v.ownBlock = some m → m < w.heap.size ∧ some m ≠ v.ownBlock) ∧ o.d.parts.length ≤ 1048576 := by
  obtain ⟨xs, h1, h2, h3⟩ := h
  intro o ho
  have hk := cells_okI h2 o ho
  obtain ⟨A, c, e1, _, e3, _, _⟩ := hk.slice
  exact ⟨hk.1, fun m hm => h3 m (hk.2.1 m hm), e3⟩
/-- what holds of a list of items for good -/
structure MemS (B C ga n : Nat) (loa : List OV) : Prop where
  len : loa.length = n
  ap : Apart loa
  gB : B ≤ ga ∧ ga < C
  blk : ∀ o ∈ loa, ∀ m, o.v.ownBlock = some m → B ≤ m ∧ m < C ∧ m ≠ ga
  small : ∀ o ∈ loa, o.d.parts.length ≤ 1048576
/-- what holds of it while it is written into -/
structure MemI (B C : Nat) (z : World) (ga n ca : Nat) (loa : List OV) (i i' : Nat) (wr : World) : Prop where
  bel : Below B z wr
  mid : Keeps (fun k => C ≤ k ∧ k < z.heap.size) z wr
  raw : ∃ lr : List (Value × Int), lr.length = n ∧ Own Shape.raw 38 wr 0 (fun _ => False) (.slice (some ⟨ga, 0, none⟩) n ca) lr ∧ ∀ j (h : j < lr.length) (h' : j < loa.length), i ≤ j → lr[j].1 = loa[j].v
  els : ∀ j (h : j < loa.length), i' ≤ j → Own Shape.str 9 wr 0 (fun _ => False) loa[j].v loa[j].d.parts
section
variable {B C ga n ca i i' : Nat} {z wo wr : World} {loa : List OV}
theorem MemS.apart (S : MemS B C ga n loa) {i j : Nat} (hi : i < loa.length) (hj : j < loa.length) (hij : i < j) {m : Nat} (hm : loa[j].v.ownBlock = some m) : loa[i].v.ownBlock ≠ some m := fun e =>
  List.pairwise_iff_getElem.1 S.ap i j hi hj hij m e hm
/-- only what is behind one item is written into, or what is new -/
structure Beh (B : Nat) (ob : Option Nat) (wo wr : World) : Prop where
  bel : Below B wo wr
  keep : Keeps (fun k => k < wo.heap.size ∧ ob ≠ some k) wo wr
theorem Beh.refl (B : Nat) (ob : Option Nat) (wo : World) : Beh B ob wo wo := ⟨Below.refl _ _, Keeps.refl _ _⟩
theorem MemI.step (h : MemI B C z ga n ca loa i i wo) (S : MemS B C ga n loa) (hC : C ≤ z.heap.size) (hi : i < loa.length) (hb : Beh B loa[i].v.ownBlock wo wr) : MemI B C z ga n ca loa i (i + 1) wr := by
  have hz := h.bel.size
  obtain ⟨lr, h1, h2, h3⟩ := h.raw
  refine ⟨h.bel.trans hb.bel, fun k hk => (hb.keep k ⟨by have h1 : C ≤ k ∧ k < z.heap.size := hk; omega, fun e => ?_⟩).trans (h.mid k hk), ⟨lr, h1, ?_, h3⟩, fun j hj hij => ?_⟩
  · have := S.blk _ (List.getElem_mem hi) k e; have h1 : C ≤ k ∧ k < z.heap.size := hk; omega
  · refine h2.keepsM hb.keep fun k hk => ?_
    injection hk with hk
    subst hk
    exact ⟨by have := S.gB; show ga < wo.heap.size; omega, fun e => (S.blk _ (List.getElem_mem hi) _ e).2.2 rfl⟩
  · refine (h.els j hj (by omega)).keepsM hb.keep fun k hk => ⟨?_, S.apart hi hj (by omega) hk⟩
    have := S.blk _ (List.getElem_mem hj) k hk; omega
theorem MemI.far (h : MemI B C z ga n ca loa i i' wr) (S : MemS B C ga n loa) (o : Nat) (u : Value) : Below B z (wr.setCell ⟨ga, o, none⟩ u) ∧ Keeps (fun k => C ≤ k ∧ k < z.heap.size) z (wr.setCell ⟨ga, o, none⟩ u) ∧ ∀ j (h : j < loa.length), i' ≤ j → Own Shape.str 9 (wr.setCell ⟨ga, o, none⟩ u) 0 (fun _ => False) loa[j].v loa[j].d.parts := by
  refine ⟨h.bel.setCell S.gB.1 _, h.mid.trans (Keeps.set _ _ _ fun k hk => ?_), fun j hj hij => ?_⟩
  · have := S.gB; have := hk.1; show k ≠ ga; omega
  · exact (h.els j hj hij).keepsM (N := fun k => k ≠ ga) (Keeps.set _ _ _ fun k hk => hk) fun k hk => (S.blk _ (List.getElem_mem hj) k hk).2.2
theorem MemI.setV (h : MemI B C z ga n ca loa i i' wr) (S : MemS B C ga n loa) (hi : i < loa.length) (x : Int) : MemI B C z ga n ca loa i i' (wr.setCell ⟨ga, i * 2 + 1, none⟩ (.int .i64 x)) := by
  obtain ⟨f1, f2, f3⟩ := h.far S (i * 2 + 1) (.int .i64 x)
  obtain ⟨lr, h1, h2, h3⟩ := h.raw
  have hl := S.len
  have hi' : i < lr.length := by omega
  refine ⟨f1, f2, ⟨lr.set i (lr[i].1, x), by rw [List.length_set]; exact h1, ?_, fun j hj hj' hij => ?_⟩, f3⟩
  · exact h2.setC rfl (i := i) (j := 1) (u := .int .i64 x) (a := (lr[i].1, x)) hi' (by decide) (fun w es h => by
      obtain ⟨rfl, h1⟩ := h
      exact ⟨rfl, h1⟩)
  · rw [List.length_set] at hj
    rw [List.getElem_set]
    split
    · next e => subst e; exact h3 i hi' hi hij
    · exact h3 j hj hj' hij
theorem MemI.setP (h : MemI B C z ga n ca loa i i' wr) (S : MemS B C ga n loa) (hi : i < loa.length) {v : Value} (hv : v.oneCell' = true) : MemI B C z ga n ca loa (i + 1) i' (wr.setCell ⟨ga, i * 2, none⟩ v) := by
  obtain ⟨f1, f2, f3⟩ := h.far S (i * 2) v
  obtain ⟨lr, h1, h2, h3⟩ := h.raw
  have hl := S.len
  have hi' : i < lr.length := by omega
  refine ⟨f1, f2, ⟨lr.set i (v, lr[i].2), by rw [List.length_set]; exact h1, ?_, fun j hj hj' hij => ?_⟩, f3⟩
  · exact h2.setC rfl (i := i) (j := 0) (u := v) (a := (v, lr[i].2)) hi' (by decide) (fun w es h => by
      obtain ⟨rfl, h1⟩ := h
      exact ⟨rfl, hv⟩)
  · rw [List.length_set] at hj
    rw [List.getElem_set, if_neg (by omega)]
    exact h3 j hj hj' (by omega)
/-- where the parts of one lie, and its other cell -/
theorem MemI.at_ (h : MemI B C z ga n ca loa i i' wr) (S : MemS B C ga n loa) (hi : i < loa.length) : ∃ x, wr.cell? ⟨ga, i * 2, none⟩ = some loa[i].v ∧ wr.cell? ⟨ga, i * 2 + 1, none⟩ = some (.int .i64 x) ∧ (∀ j, wr.frozen? ⟨ga, j, none⟩ = false) ∧ ga < wr.heap.size := by
  obtain ⟨lr, h1, h2, h3⟩ := h.raw
  have hl := S.len
  have hi' : i < lr.length := by omega
  obtain ⟨es, ⟨rfl, _⟩, hc, hf⟩ := h2.cellC rfl hi'
  have c0 := hc 0 (by decide)
  have c1 := hc 1 (by decide)
  rw [h3 i hi' hi (Nat.le_refl _)] at c0
  exact ⟨lr[i].2, c0, c1, hf, (h2.lt ga rfl).2⟩
end
end Go.Proofs.YtdmpdinaineiiaaDoor
