/- A block that is known whole, kept over what a walk does elsewhere. No condition. -/
import Derived.Test.YtnadldcdckjifaaDoorShape
import Derived.Laws.Rows
import Derived.Laws.Tables
namespace Go.Proofs.YtnadldcdckjifaaDoor
open Go.RowKit
/-- block g holds just the cells cs, none frozen -/
def Blk (w : World) (g : Nat) (t : TypeId) (cs : Array Value) : Prop := w.heap[g]? = some (.cells cs t (0, 0))
section
variable {w w' : World} {g : Nat} {t : TypeId} {cs : Array Value}
theorem Blk.lt (h : Blk w g t cs) : g < w.heap.size := by
  rcases Nat.lt_or_ge g w.heap.size with hlt | hge
  · exact hlt
  · unfold Blk at h; rw [Array.getElem?_eq_none hge] at h; cases h
theorem Blk.cell (h : Blk w g t cs) (i : Nat) : w.cell? ⟨g, i, none⟩ = cs[i]? := cell_of_row w g i cs t (0, 0) h
theorem Blk.frozen (h : Blk w g t cs) (i : Nat) : w.frozen? ⟨g, i, none⟩ = false := by
  unfold Blk at h
  simp [World.frozen?, h]
theorem Blk.new (w : World) (t : TypeId) (cs : Array Value) : Blk (w.alloc (.cells cs t)) w.heap.size t cs := heap_alloc_new w _
theorem Blk.to {cs' : Array Value} (h : Blk w g t cs) (e : cs = cs') : Blk w g t cs' := e ▸ h
theorem Blk.drew (h : Blk w g t cs) : Blk w.drew g t cs := h
theorem Blk.drewN (h : Blk w g t cs) (n : Nat) : Blk (w.drewN n) g t cs := h
theorem Blk.alloc (h : Blk w g t cs) (o : Obj) : Blk (w.alloc o) g t cs := (Below.heap_alloc w o g h.lt).trans h
theorem Blk.over_ (h : Blk w g t cs) (δ : World) : Blk (over w δ) g t cs := (over_heap_lt h.lt).trans h
theorem Blk.set_ (h : Blk w g t cs) (i : Nat) (u : Value) : Blk (w.setCell ⟨g, i, none⟩ u) g t (cs.setIfInBounds i u) := by
  unfold Blk at h ⊢
  simp [World.setCell, Array.getElem?_modify, h]
theorem Blk.far (h : Blk w g t cs) {p : Addr} (hp : g ≠ p.block) (u : Value) : Blk (w.setCell p u) g t cs := (Below.heap_setCell w p u g hp).trans h
theorem Blk.below {B : Nat} (h : Blk w g t cs) (hb : Below B w w') (hg : g < B) : Blk w' g t cs := (hb.block g hg).trans h
theorem Blk.keeps {M : Nat → Prop} (h : Blk w g t cs) (hk : Keeps M w w') (hg : M g) : Blk w' g t cs := (hk g hg).trans h
theorem Blk.grown {row : Option Nat} (h : Blk w g t cs) (hb : w.grownBy w' row) (hg : some g ≠ row) : Blk w' g t cs := (hb.block g h.lt hg).trans h
theorem Blk.ne_ {g' : Nat} {t' : TypeId} {cs' : Array Value} (h : Blk w g t cs) (h' : Blk w g' t' cs') (hne : t ≠ t') : g ≠ g' := by
  rintro rfl
  unfold Blk at h h'
  rw [h] at h'
  injection h' with h'
  injection h' with _ ht
  exact hne ht
theorem Own.ne_blk {α : Type} {s : Shape α} {e : TypeId} {base : Nat} {M : Nat → Prop} {v : Value} {l : List α} (h : Own s e w base M v l) (hg : Blk w g t cs) (hne : e ≠ t) : v.ownBlock ≠ some g := by
  obtain ⟨xs, h, _⟩ := h
  rcases h.2 with ⟨rfl, _⟩ | ⟨g', cap, cur, rfl, _, hh, _⟩
  · simp [Value.ownBlock]
  · intro he
    have : g' = g := by simpa [Value.ownBlock] using he
    subst this
    exact Blk.ne_ (t := e) hh hg hne rfl
end
theorem below_of {X u δ : World} (h : u = over X δ) : Below X.heap.size X u := by rw [h]; exact below_over _ _
theorem below_of_drew {X u δ : World} (h : u = over X.drew δ) : Below X.heap.size X u := by have h := below_of h; exact ⟨h.os, h.tape, h.output, h.size, h.block⟩
section
variable {w u : World}
theorem blks1 {c1 : Array Value} {t1 : TypeId} (h : Below (w.alloc (.cells c1 t1)).heap.size (w.alloc (.cells c1 t1)) u) :
    Blk u (w.heap.size) t1 c1 ∧ Below w.heap.size w u ∧ w.heap.size + 1 ≤ u.heap.size := by
  refine ⟨?_, Below.trans (by go_grown) (h.mono (by simp <;> omega)), by have := h.size; simpa using this⟩
  · have := (Blk.new w t1 c1).below h (by simp <;> omega); simpa using this
theorem blks2 {c1 c2 : Array Value} {t1 t2 : TypeId} (h : Below ((w.alloc (.cells c1 t1)).alloc (.cells c2 t2)).heap.size ((w.alloc (.cells c1 t1)).alloc (.cells c2 t2)) u) :
    Blk u (w.heap.size) t1 c1 ∧ Blk u (w.heap.size + 1) t2 c2 ∧ Below w.heap.size w u ∧ w.heap.size + 1 + 1 ≤ u.heap.size := by
  refine ⟨?_, ?_, Below.trans (by go_grown) (h.mono (by simp <;> omega)), by have := h.size; simpa using this⟩
  · have := ((Blk.new w t1 c1).alloc _).below h (by simp <;> omega); simpa using this
  · have := (Blk.new (w.alloc (.cells c1 t1)) t2 c2).below h (by simp <;> omega); simpa using this
theorem blks3 {c1 c2 c3 : Array Value} {t1 t2 t3 : TypeId} (h : Below (((w.alloc (.cells c1 t1)).alloc (.cells c2 t2)).alloc (.cells c3 t3)).heap.size (((w.alloc (.cells c1 t1)).alloc (.cells c2 t2)).alloc (.cells c3 t3)) u) :
    Blk u (w.heap.size) t1 c1 ∧ Blk u (w.heap.size + 1) t2 c2 ∧ Blk u (w.heap.size + 1 + 1) t3 c3 ∧ Below w.heap.size w u ∧ w.heap.size + 1 + 1 + 1 ≤ u.heap.size := by
  refine ⟨?_, ?_, ?_, Below.trans (by go_grown) (h.mono (by simp <;> omega)), by have := h.size; simpa using this⟩
  · have := (((Blk.new w t1 c1).alloc _).alloc _).below h (by simp <;> omega); simpa using this
  · have := ((Blk.new (w.alloc (.cells c1 t1)) t2 c2).alloc _).below h (by simp <;> omega); simpa using this
  · have := (Blk.new ((w.alloc (.cells c1 t1)).alloc (.cells c2 t2)) t3 c3).below h (by simp <;> omega); simpa using this
theorem blks4 {c1 c2 c3 c4 : Array Value} {t1 t2 t3 t4 : TypeId} (h : Below ((((w.alloc (.cells c1 t1)).alloc (.cells c2 t2)).alloc (.cells c3 t3)).alloc (.cells c4 t4)).heap.size ((((w.alloc (.cells c1 t1)).alloc (.cells c2 t2)).alloc (.cells c3 t3)).alloc (.cells c4 t4)) u) :
    Blk u (w.heap.size) t1 c1 ∧ Blk u (w.heap.size + 1) t2 c2 ∧ Blk u (w.heap.size + 1 + 1) t3 c3 ∧ Blk u (w.heap.size + 1 + 1 + 1) t4 c4 ∧ Below w.heap.size w u ∧ w.heap.size + 1 + 1 + 1 + 1 ≤ u.heap.size := by
  refine ⟨?_, ?_, ?_, ?_, Below.trans (by go_grown) (h.mono (by simp <;> omega)), by have := h.size; simpa using this⟩
  · have := ((((Blk.new w t1 c1).alloc _).alloc _).alloc _).below h (by simp <;> omega); simpa using this
  · have := (((Blk.new (w.alloc (.cells c1 t1)) t2 c2).alloc _).alloc _).below h (by simp <;> omega); simpa using this
  · have := ((Blk.new ((w.alloc (.cells c1 t1)).alloc (.cells c2 t2)) t3 c3).alloc _).below h (by simp <;> omega); simpa using this
  · have := (Blk.new (((w.alloc (.cells c1 t1)).alloc (.cells c2 t2)).alloc (.cells c3 t3)) t4 c4).below h (by simp <;> omega); simpa using this
theorem blks5 {c1 c2 c3 c4 c5 : Array Value} {t1 t2 t3 t4 t5 : TypeId} (h : Below (((((w.alloc (.cells c1 t1)).alloc (.cells c2 t2)).alloc (.cells c3 t3)).alloc (.cells c4 t4)).alloc (.cells c5 t5)).heap.size (((((w.alloc (.cells c1 t1)).alloc (.cells c2 t2)).alloc (.cells c3 t3)).alloc (.cells c4 t4)).alloc (.cells c5 t5)) u) :
    Blk u (w.heap.size) t1 c1 ∧ Blk u (w.heap.size + 1) t2 c2 ∧ Blk u (w.heap.size + 1 + 1) t3 c3 ∧ Blk u (w.heap.size + 1 + 1 + 1) t4 c4 ∧ Blk u (w.heap.size + 1 + 1 + 1 + 1) t5 c5 ∧ Below w.heap.size w u ∧ w.heap.size + 1 + 1 + 1 + 1 + 1 ≤ u.heap.size := by
  refine ⟨?_, ?_, ?_, ?_, ?_, Below.trans (by go_grown) (h.mono (by simp <;> omega)), by have := h.size; simpa using this⟩
  · have := (((((Blk.new w t1 c1).alloc _).alloc _).alloc _).alloc _).below h (by simp <;> omega); simpa using this
  · have := ((((Blk.new (w.alloc (.cells c1 t1)) t2 c2).alloc _).alloc _).alloc _).below h (by simp <;> omega); simpa using this
  · have := (((Blk.new ((w.alloc (.cells c1 t1)).alloc (.cells c2 t2)) t3 c3).alloc _).alloc _).below h (by simp <;> omega); simpa using this
  · have := ((Blk.new (((w.alloc (.cells c1 t1)).alloc (.cells c2 t2)).alloc (.cells c3 t3)) t4 c4).alloc _).below h (by simp <;> omega); simpa using this
  · have := (Blk.new ((((w.alloc (.cells c1 t1)).alloc (.cells c2 t2)).alloc (.cells c3 t3)).alloc (.cells c4 t4)) t5 c5).below h (by simp <;> omega); simpa using this
theorem blks6 {c1 c2 c3 c4 c5 c6 : Array Value} {t1 t2 t3 t4 t5 t6 : TypeId} (h : Below ((((((w.alloc (.cells c1 t1)).alloc (.cells c2 t2)).alloc (.cells c3 t3)).alloc (.cells c4 t4)).alloc (.cells c5 t5)).alloc (.cells c6 t6)).heap.size ((((((w.alloc (.cells c1 t1)).alloc (.cells c2 t2)).alloc (.cells c3 t3)).alloc (.cells c4 t4)).alloc (.cells c5 t5)).alloc (.cells c6 t6)) u) :
    Blk u (w.heap.size) t1 c1 ∧ Blk u (w.heap.size + 1) t2 c2 ∧ Blk u (w.heap.size + 1 + 1) t3 c3 ∧ Blk u (w.heap.size + 1 + 1 + 1) t4 c4 ∧ Blk u (w.heap.size + 1 + 1 + 1 + 1) t5 c5 ∧ Blk u (w.heap.size + 1 + 1 + 1 + 1 + 1) t6 c6 ∧ Below w.heap.size w u ∧ w.heap.size + 1 + 1 + 1 + 1 + 1 + 1 ≤ u.heap.size := by
  refine ⟨?_, ?_, ?_, ?_, ?_, ?_, Below.trans (by go_grown) (h.mono (by simp <;> omega)), by have := h.size; simpa using this⟩
  · have := ((((((Blk.new w t1 c1).alloc _).alloc _).alloc _).alloc _).alloc _).below h (by simp <;> omega); simpa using this
  · have := (((((Blk.new (w.alloc (.cells c1 t1)) t2 c2).alloc _).alloc _).alloc _).alloc _).below h (by simp <;> omega); simpa using this
  · have := ((((Blk.new ((w.alloc (.cells c1 t1)).alloc (.cells c2 t2)) t3 c3).alloc _).alloc _).alloc _).below h (by simp <;> omega); simpa using this
  · have := (((Blk.new (((w.alloc (.cells c1 t1)).alloc (.cells c2 t2)).alloc (.cells c3 t3)) t4 c4).alloc _).alloc _).below h (by simp <;> omega); simpa using this
  · have := ((Blk.new ((((w.alloc (.cells c1 t1)).alloc (.cells c2 t2)).alloc (.cells c3 t3)).alloc (.cells c4 t4)) t5 c5).alloc _).below h (by simp <;> omega); simpa using this
  · have := (Blk.new (((((w.alloc (.cells c1 t1)).alloc (.cells c2 t2)).alloc (.cells c3 t3)).alloc (.cells c4 t4)).alloc (.cells c5 t5)) t6 c6).below h (by simp <;> omega); simpa using this
theorem blks7 {c1 c2 c3 c4 c5 c6 c7 : Array Value} {t1 t2 t3 t4 t5 t6 t7 : TypeId} (h : Below (((((((w.alloc (.cells c1 t1)).alloc (.cells c2 t2)).alloc (.cells c3 t3)).alloc (.cells c4 t4)).alloc (.cells c5 t5)).alloc (.cells c6 t6)).alloc (.cells c7 t7)).heap.size (((((((w.alloc (.cells c1 t1)).alloc (.cells c2 t2)).alloc (.cells c3 t3)).alloc (.cells c4 t4)).alloc (.cells c5 t5)).alloc (.cells c6 t6)).alloc (.cells c7 t7)) u) :
    Blk u (w.heap.size) t1 c1 ∧ Blk u (w.heap.size + 1) t2 c2 ∧ Blk u (w.heap.size + 1 + 1) t3 c3 ∧ Blk u (w.heap.size + 1 + 1 + 1) t4 c4 ∧ Blk u (w.heap.size + 1 + 1 + 1 + 1) t5 c5 ∧ Blk u (w.heap.size + 1 + 1 + 1 + 1 + 1) t6 c6 ∧ Blk u (w.heap.size + 1 + 1 + 1 + 1 + 1 + 1) t7 c7 ∧ Below w.heap.size w u ∧ w.heap.size + 1 + 1 + 1 + 1 + 1 + 1 + 1 ≤ u.heap.size := by
  refine ⟨?_, ?_, ?_, ?_, ?_, ?_, ?_, Below.trans (by go_grown) (h.mono (by simp <;> omega)), by have := h.size; simpa using this⟩
  · have := (((((((Blk.new w t1 c1).alloc _).alloc _).alloc _).alloc _).alloc _).alloc _).below h (by simp <;> omega); simpa using this
  · have := ((((((Blk.new (w.alloc (.cells c1 t1)) t2 c2).alloc _).alloc _).alloc _).alloc _).alloc _).below h (by simp <;> omega); simpa using this
  · have := (((((Blk.new ((w.alloc (.cells c1 t1)).alloc (.cells c2 t2)) t3 c3).alloc _).alloc _).alloc _).alloc _).below h (by simp <;> omega); simpa using this
  · have := ((((Blk.new (((w.alloc (.cells c1 t1)).alloc (.cells c2 t2)).alloc (.cells c3 t3)) t4 c4).alloc _).alloc _).alloc _).below h (by simp <;> omega); simpa using this
  · have := (((Blk.new ((((w.alloc (.cells c1 t1)).alloc (.cells c2 t2)).alloc (.cells c3 t3)).alloc (.cells c4 t4)) t5 c5).alloc _).alloc _).below h (by simp <;> omega); simpa using this
  · have := ((Blk.new (((((w.alloc (.cells c1 t1)).alloc (.cells c2 t2)).alloc (.cells c3 t3)).alloc (.cells c4 t4)).alloc (.cells c5 t5)) t6 c6).alloc _).below h (by simp <;> omega); simpa using this
  · have := (Blk.new ((((((w.alloc (.cells c1 t1)).alloc (.cells c2 t2)).alloc (.cells c3 t3)).alloc (.cells c4 t4)).alloc (.cells c5 t5)).alloc (.cells c6 t6)) t7 c7).below h (by simp <;> omega); simpa using this
end
/-! ### whole structs: load, store, return -/
section
variable {P : Program} {ops : Array Oper} {rest : List Oper} {o : Oper} {a : Act} {w : World} {Q : Exit → Act → World → Prop}
/-- what a struct type's row of the table says -/
structure Whole (P : Program) (ty : TypeId) (n : Nat) : Prop where
  desc : ((P.underlying ty).map fun d => match d with | .struct _ | .array _ _ => true | _ => false) = some true
  info : (P.info? ty).map (·.size) = some n
theorem Whole.parts {ty : TypeId} {n : Nat} (h : Whole P ty n) : ∃ d, P.underlying ty = some d ∧ (match d with | .struct _ | .array _ _ => true | _ => false) = true := by
  have := h.desc
  rw [Option.map_eq_some_iff] at this
  exact this
theorem wpList_store_blk (hgd : o.guard = none) (ty : TypeId) (x y : Operand) (ho : o.op = .store ty x y) (g : Nat)
    (hx : a.eval x = .pointer (some ⟨g, 0, none⟩)) {t : TypeId} {old : Array Value} (hb : Blk w g t old) (hy : a.eval y = .agg (a.eval y).cells) (hi : (P.info? ty).map (·.size) = some (a.eval y).cells.size)
    (hold : old.size = (a.eval y).cells.size) (h1 : (a.eval y).cells.toList.all (·.oneCell') = true)
    (h : ∀ w', Blk w' g t (a.eval y).cells → w.grownBy w' (some g) → wpList P ops Q rest (a.put o.dst undef) w') : wpList P ops Q (o :: rest) a w :=
  wpList_store_row hgd ty x y ho g (a.eval y).cells hx hy t old hb hi hold (by simpa using h1)
    (h _ (setRow_heap w g old _ t (0, 0) hb) ⟨rfl, rfl, rfl, by simp, fun k _ hk => setRow_other w g k _ (fun e => hk (by rw [e]))⟩)
theorem wpList_load_blk (hgd : o.guard = none) (ty : TypeId) (x : Operand) (ho : o.op = .load ty x) (g : Nat) (hx : a.eval x = .pointer (some ⟨g, 0, none⟩)) {t : TypeId} {cs : Array Value}
    (hb : Blk w g t cs) (hw : Whole P ty cs.size) (h : wpList P ops Q rest (a.put o.dst (.agg cs)) w) : wpList P ops Q (o :: rest) a w := by
  obtain ⟨d, hu, hd⟩ := hw.parts
  exact wpList_load_row hgd ty x ho g hx t cs (0, 0) d hb hu (by revert hd; cases d <;> simp) hw.info h
theorem ret_blk {fn : Func} {R : Ending → World → Prop} {p : Tmp} {ty : TypeId} {g : Nat} {t : TypeId} {cs : Array Value} (hres : fn.results = #[.cell p ty]) (hp : a.tmps.getD p undef = .pointer (some ⟨g, 0, none⟩))
    (hb : Blk w g t cs) (hw : Whole P ty cs.size) (hdef : a.defers = []) (hR : R (.returned (.agg cs)) w) : bodyPost P fn R .ret a w := by
  obtain ⟨d, hu, hd⟩ := hw.parts
  exact bodyPost_ret (results_cell_row hres a.tmps w g t cs (0, 0) d hp hb hu (by revert hd; cases d <;> simp) hw.info) hdef hR
end
end Go.Proofs.YtnadldcdckjifaaDoor
