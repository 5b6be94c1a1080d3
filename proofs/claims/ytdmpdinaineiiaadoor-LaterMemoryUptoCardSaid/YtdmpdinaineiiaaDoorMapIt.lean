/- A range over a map, as over a list of pairs in whatever order; and delete. No condition. -/
import Derived.Test.YtdmpdinaineiiaaDoorMap
import Derived.Maps.RangeWalk
set_option linter.unusedSectionVars false
set_option linter.unusedVariables false
set_option linter.unusedSimpArgs false
namespace Go.Proofs.YtdmpdinaineiiaaDoor
open Go.RowKit Go.ChangeMaps

section
variable {P : Program} {κ β : Type} [DecidableEq κ] {cv : β → Value}
/-- a range over the map b is under way: the iterator in block r; the pairs 'left' are still to come -/
def MapIt (K : KeyKind P κ) (cv : β → Value) (w : World) (r b : Nat) (kv left : List (κ × β)) : Prop :=
  ∃ es clock since seen c0, w.heap[b]? = some (.map es clock) ∧ es.toList.map (fun e => (e.key, e.val)) = kv.map (fun p => (K.kf p.1, cv p.2)) ∧ (kv.map (·.1)).Nodup ∧ Stamped es clock ∧
    w.heap[r]? = some (.mapIter (some b) since seen c0) ∧ (∀ x ∈ es.toList, x.born < since) ∧ since ≤ c0 ∧ since ≤ clock ∧
    (leftOf es seen).toList.map (fun e => (e.key, e.val)) = left.map (fun p => (K.kf p.1, cv p.2))
variable {K : KeyKind P κ} {w w' : World} {b r : Nat} {kv left : List (κ × β)}
theorem MapIt.isMap (h : MapIt K cv w r b kv left) : IsMap K cv w b kv := by
  obtain ⟨es, c, _, _, _, h1, h2, h3, h4, _⟩ := h
  exact ⟨es, c, h1, h2, h3, h4⟩
theorem MapIt.lt (h : MapIt K cv w r b kv left) : r < w.heap.size := by
  obtain ⟨_, _, _, _, _, _, _, _, _, hr, _⟩ := h
  exact (Array.getElem?_eq_some_iff.1 hr).1
theorem MapIt.ne (h : MapIt K cv w r b kv left) : r ≠ b := by
  obtain ⟨_, _, _, _, _, hb, _, _, _, hr, _⟩ := h
  rintro rfl
  rw [hb] at hr
  cases hr
theorem MapIt.of_blocks (h : MapIt K cv w r b kv left) (e : w'.heap[b]? = w.heap[b]?) (e' : w'.heap[r]? = w.heap[r]?) : MapIt K cv w' r b kv left := by
  obtain ⟨es, c, since, seen, c0, hb, h1, h2, h3, hr, rest⟩ := h
  exact ⟨es, c, since, seen, c0, e.trans hb, h1, h2, h3, e'.trans hr, rest⟩
theorem MapIt.keeps {M : Nat → Prop} (h : MapIt K cv w r b kv left) (hk : Keeps M w w') (hb : M b) (hr : M r) : MapIt K cv w' r b kv left := h.of_blocks (hk b hb) (hk r hr)
theorem MapIt.alloc (h : MapIt K cv w r b kv left) (o : Obj) : MapIt K cv (w.alloc o) r b kv left := h.of_blocks (Below.heap_alloc w o b h.isMap.lt) (Below.heap_alloc w o r h.lt)
theorem MapIt.over_ (h : MapIt K cv w r b kv left) (δ : World) : MapIt K cv (over w δ) r b kv left := h.of_blocks (over_heap_lt h.isMap.lt) (over_heap_lt h.lt)
theorem MapIt.grown {row : Option Nat} (h : MapIt K cv w r b kv left) (hb : w.grownBy w' row) (hg : some b ≠ row) (hr : some r ≠ row) : MapIt K cv w' r b kv left := h.of_blocks (hb.block b h.isMap.lt hg) (hb.block r h.lt hr)

theorem leftOf_nil (es : Array MapEntry) : leftOf es #[] = es := by simp [leftOf]
theorem range_start {t e : TypeId} (ht : P.underlying t = some (.map K.ty e)) (h : IsMap K cv w b kv) :
    ∃ w', (Instr.range t (.map (some b))).run P w = .ok (.pointer (some ⟨w.heap.size, 0, none⟩)) w' ∧ MapIt K cv w' w.heap.size b kv kv ∧ w.grownBy w' none ∧ w'.heap.size = w.heap.size + 1 := by
  have hlt := h.lt
  obtain ⟨es, clock, hb, h1, h2, h3⟩ := h
  refine ⟨_, run_range_map w t K.ty e b es clock ht hb, ⟨es, clock, clock, #[], clock, ((MapKept.heap_alloc w _).2 b hlt).trans hb, h1, h2, h3, (MapKept.heap_alloc w _).1, h3.1, Nat.le_refl _, Nat.le_refl _, by rw [leftOf_nil]; exact h1⟩, World.grownBy_alloc w _ none, by simp⟩
theorem leftOf_push {es : Array MapEntry} (seen : Array Nat) (n : Nat) : leftOf es (seen.push n) = (leftOf es seen).filter fun x => !(x.born == n) := by
  unfold leftOf
  rw [Array.filter_filter]
  congr 1
  funext x
  rw [contains_push]
  cases seen.contains x.born <;> cases (x.born == n) <;> rfl
theorem filter_pairs : ∀ (l : List MapEntry) (left : List (κ × β)) (e : MapEntry), (l.map (·.born)).Nodup → e ∈ l → l.map (fun e => (e.key, e.val)) = left.map (fun p => (K.kf p.1, cv p.2)) →
    ∃ p left', e.key = K.kf p.1 ∧ e.val = cv p.2 ∧ left.Perm (p :: left') ∧ (l.filter fun x => !(x.born == e.born)).map (fun e => (e.key, e.val)) = left'.map (fun p => (K.kf p.1, cv p.2))
  | [], _, e, _, he, _ => by simp at he
  | x :: l, left, e, hn, he, h => by
    cases left with
    | nil => simp at h
    | cons q left =>
      simp only [List.map_cons, List.cons.injEq, Prod.mk.injEq] at h
      obtain ⟨⟨h1, h2⟩, h3⟩ := h
      simp only [List.map_cons, List.nodup_cons] at hn
      by_cases hx : x.born = e.born
      · have hex : e = x := by
          rcases List.mem_cons.1 he with rfl | he
          · rfl
          · exact absurd (hx ▸ List.mem_map_of_mem he) hn.1
        subst hex
        refine ⟨q, left, h1, h2, List.Perm.refl _, ?_⟩
        rw [List.filter_cons]
        simp only [beq_self_eq_true, Bool.not_true, Bool.false_eq_true, if_false]
        rw [← h3]
        congr 1
        rw [List.filter_eq_self]
        intro y hy
        have : y.born ≠ e.born := fun ee => hn.1 (ee ▸ List.mem_map_of_mem hy)
        simpa using this
      · have he' : e ∈ l := by
          rcases List.mem_cons.1 he with rfl | he
          · exact absurd rfl hx
          · exact he
        obtain ⟨p, left', g1, g2, g3, g4⟩ := filter_pairs l left e hn.2 he' h3
        refine ⟨p, q :: left', g1, g2, (List.Perm.cons q g3).trans (List.Perm.swap p q left'), ?_⟩
        rw [List.filter_cons]
        have : (x.born == e.born) = false := by simpa using hx
        simp only [this, Bool.not_false, if_true, List.map_cons, h1, h2, g4]
theorem MapIt.step (h : MapIt K cv w r b kv left) (ty : TypeId) :
    (left = [] ∧ (Instr.next (.pointer (some ⟨r, 0, none⟩)) false ty).run P w = .ok (.tuple #[.bool false]) w) ∨
    ∃ p left' w', left.Perm (p :: left') ∧ (Instr.next (.pointer (some ⟨r, 0, none⟩)) false ty).run P w = .ok (.tuple #[.bool true, K.kf p.1, cv p.2]) w' ∧ MapIt K cv w' r b kv left' ∧ w.grownBy w' (some r) ∧ w'.heap.size = w.heap.size ∧
      (Instr.entry (.pointer (some ⟨r, 0, none⟩))).run P w' = .ok (.tuple #[K.kf p.1, cv p.2]) w' := by
  have hne := h.ne
  obtain ⟨es, clock, since, seen, c0, hb, hes, hnd, hst, hr, hold, hsc, hsk, hleft⟩ := h
  rcases run_next_at (P := P) w ty r b since c0 seen es clock hr hb hold hsc with ⟨h0, hrun⟩ | ⟨e, he, w1, hal, hrun⟩
  · refine Or.inl ⟨?_, hrun⟩
    have := congrArg List.length hleft
    simp at this
    exact List.eq_nil_of_length_eq_zero (by omega)
  · obtain ⟨hem, hesn⟩ := mem_left he
    have hnl : ((leftOf es seen).toList.map (·.born)).Nodup := by
      unfold leftOf
      rw [Array.toList_filter]
      exact List.Nodup.sublist (List.Sublist.map _ List.filter_sublist) hst.2
    obtain ⟨p, left', g1, g2, g3, g4⟩ := filter_pairs (K := K) (cv := cv) _ left e hnl he hleft
    have hr1 : w1.heap[r]? = some (.mapIter (some b) since seen c0) := by rcases hal with rfl | rfl <;> exact hr
    have hb1 : w1.heap[b]? = some (.map es clock) := by rcases hal with rfl | rfl <;> exact hb
    have hset := MapKept.heap_set (o' := .mapIter (some b) since (seen.push e.born) clock) hr1
    have hb' : (setBlock w1 r (.mapIter (some b) since (seen.push e.born) clock)).heap[b]? = some (.map es clock) := (hset.2 b (fun e1 => hne e1.symm)).trans hb1
    rw [g1, g2] at hrun
    refine Or.inr ⟨p, left', _, g3, hrun, ⟨es, clock, since, seen.push e.born, clock, hb', hes, hnd, hst, hset.1, hold, hsk, hsk, ?_⟩, ?_, ?_, ?_⟩
    · rw [leftOf_push, Array.toList_filter]; exact g4
    · rcases hal with rfl | rfl <;> exact ⟨rfl, rfl, rfl, by simp [setBlock], fun i _ hi => hset.2 i (fun e1 => hi (by rw [e1]))⟩
    · rcases hal with rfl | rfl <;> simp [setBlock]
    · have := run_entry_at (P := P) _ r b since seen es clock e hset.1 hb' hem hst.2
      rw [g1, g2] at this
      exact this
/-- how many are still to come: for a loop's measure -/
theorem MapIt.left_eq (h : MapIt K cv w r b kv left) : w.rangeLeft b r = left.length := by
  obtain ⟨es, clock, since, seen, c0, hb, _, _, _, hr, _, _, _, hl⟩ := h
  simp only [World.rangeLeft, hb, hr]
  have := congrArg List.length hl
  simpa using this
end
section
variable {P : Program} {κ β : Type} [DecidableEq κ] {cv : β → Value} {K : KeyKind P κ} {w : World} {ops : Array Oper} {rest : List Oper} {o : Oper} {a : Act} {Q : Exit → Act → World → Prop} {b r : Nat} {kv left : List (κ × β)}
theorem wpList_range_kv (hg : o.guard = none) (m : Operand) (t : TypeId) (hop : o.op = Op.range t m) {e : TypeId} (ht : P.underlying t = some (.map K.ty e)) (h : IsMap K cv w b kv) (hm : a.eval m = .map (some b))
    (hK : ∀ w', MapIt K cv w' w.heap.size b kv kv → w.grownBy w' none → w'.heap.size = w.heap.size + 1 → wpList P ops Q rest (a.put o.dst (.pointer (some ⟨w.heap.size, 0, none⟩))) w') : wpList P ops Q (o :: rest) a w := by
  refine wpList_plain hg fun K' hK' => ?_
  obtain ⟨w', hrun, r1, r2, r3⟩ := range_start ht h
  unfold Oper.wp
  simp [execOp, hop, hm, hrun, Result.andThen]
  exact hK' _ _ (hK w' r1 r2 r3)
theorem wpList_next_kv (hg : o.guard = none) (it : Operand) (hop : o.op = Op.next it false) (hit : a.eval it = .pointer (some ⟨r, 0, none⟩)) (h : MapIt K cv w r b kv left)
    (hDone : left = [] → wpList P ops Q rest (a.put o.dst (.tuple #[.bool false])) w)
    (hMore : ∀ k v left' w', left.Perm ((k, v) :: left') → MapIt K cv w' r b kv left' → w.grownBy w' (some r) → w'.heap.size = w.heap.size → (Instr.entry (.pointer (some ⟨r, 0, none⟩))).run P w' = .ok (.tuple #[K.kf k, cv v]) w' →
      wpList P ops Q rest (a.put o.dst (.tuple #[.bool true, K.kf k, cv v])) w') : wpList P ops Q (o :: rest) a w := by
  refine wpList_plain hg fun K' hK' => ?_
  unfold Oper.wp
  rcases h.step o.type with ⟨h0, hrun⟩ | ⟨⟨k, v⟩, left', w', h1, hrun, h2, h3, h4, h5⟩
  · simp [execOp, hop, hit, hrun, Result.andThen]
    exact hK' _ _ (hDone h0)
  · simp [execOp, hop, hit, hrun, Result.andThen]
    exact hK' _ _ (hMore k v left' w' h1 h2 h3 h4 h5)
end
section
variable {P : Program} {κ β α : Type} [DecidableEq κ] {cv : β → Value} {K : KeyKind P κ} {w : World} {b r : Nat} {kv left : List (κ × β)} {s : Shape α} {e : TypeId} {base : Nat} {M : Nat → Prop} {v : Value} {l : List α}
theorem Own.at_block (h : Own s e w base M v l) {g : Nat} (hg : v.ownBlock = some g) : ∃ cs fr, w.heap[g]? = some (.cells cs e fr) := by
  obtain ⟨xs, h, _⟩ := h
  rcases h.2 with ⟨rfl, _⟩ | ⟨g', cap, cur, rfl, _, hh, _⟩
  · cases hg
  · have : g' = g := by simpa [Value.ownBlock] using hg
    subst this
    exact ⟨_, _, hh⟩
theorem IsMap.ne_own (h : IsMap K cv w b kv) (ho : Own s e w base M v l) : some b ≠ v.ownBlock := by
  intro hb
  obtain ⟨cs, fr, hh⟩ := ho.at_block hb.symm
  obtain ⟨es, c, hm, _⟩ := h
  rw [hm] at hh; cases hh
theorem MapIt.ne_own (h : MapIt K cv w r b kv left) (ho : Own s e w base M v l) : some r ≠ v.ownBlock := by
  intro hb
  obtain ⟨cs, fr, hh⟩ := ho.at_block hb.symm
  obtain ⟨_, _, _, _, _, _, _, _, _, hr, _⟩ := h
  rw [hr] at hh; cases hh
theorem MapIt.ne_map {b' : Nat} {kv' : List (κ × β)} (h : MapIt K cv w r b kv left) (hm : IsMap K cv w b' kv') : r ≠ b' := by
  rintro rfl
  obtain ⟨_, _, _, _, _, _, _, _, _, hr, _⟩ := h
  obtain ⟨es, c, hb, _⟩ := hm
  rw [hr] at hb; cases hb
theorem perm_next {γ : Type} {done left left' kv : List γ} {p : γ} (h : (done ++ left).Perm kv) (h' : left.Perm (p :: left')) : ((done ++ [p]) ++ left').Perm kv := by
  refine List.Perm.trans ?_ h
  rw [List.append_assoc]
  exact List.Perm.append_left _ h'.symm
end
end Go.Proofs.YtdmpdinaineiiaaDoor
