/- delete during a range over a map, of a key that has been met. No condition. -/
import Derived.Test.YtdmpdinaineiiaaDoorMapIt
import Derived.Test.YtdmpdinaineiiaaDoorMapDel
set_option linter.unusedSectionVars false
set_option linter.unusedVariables false
set_option linter.unusedSimpArgs false
namespace Go.Proofs.YtdmpdinaineiiaaDoor
open Go.RowKit Go.ChangeMaps
theorem grown_trans {a b c : World} {row : Option Nat} (h : a.grownBy b row) (k : b.grownBy c row) : a.grownBy c row :=
  ⟨k.os.trans h.os, k.tape.trans h.tape, k.output.trans h.output, Nat.le_trans h.size k.size, fun n hn hne => (k.block n (Nat.lt_of_lt_of_le hn h.size) hne).trans (h.block n hn hne)⟩
/-- what is written is new -/
theorem grown_new {a b c : World} {row row' : Option Nat} (h : a.grownBy b row) (k : b.grownBy c row') (hr : ∀ n, row' = some n → a.heap.size ≤ n) : a.grownBy c row :=
  ⟨k.os.trans h.os, k.tape.trans h.tape, k.output.trans h.output, Nat.le_trans h.size k.size, fun n hn hne => (k.block n (Nat.lt_of_lt_of_le hn h.size) (fun e => by have := hr n e.symm; omega)).trans (h.block n hn hne)⟩
theorem grown_below {a b c : World} {row : Option Nat} (h : a.grownBy b row) (k : Below b.heap.size b c) : a.grownBy c row :=
  ⟨k.os.trans h.os, k.tape.trans h.tape, k.output.trans h.output, Nat.le_trans h.size k.size, fun n hn hne => (k.block n (Nat.lt_of_lt_of_le hn h.size)).trans (h.block n hn hne)⟩
theorem grown_refl (w : World) (row : Option Nat) : w.grownBy w row := ⟨rfl, rfl, rfl, Nat.le_refl _, fun _ _ _ => rfl⟩
section
variable {P : Program} {κ β : Type} [DecidableEq κ] {cv : β → Value} {K : KeyKind P κ} {w w' : World} {b r : Nat} {kv left : List (κ × β)}
theorem KeyKind.inj (K : KeyKind P κ) {a b : κ} (h : K.kf a = K.kf b) : a = b := by
  rw [← K.same a b, ← h, K.same]
theorem IsMap.nodup_keys (h : IsMap K cv w b kv) : (kv.map (·.1)).Nodup := by obtain ⟨_, _, _, _, h, _⟩ := h; exact h
theorem MapIt.nodup (h : MapIt K cv w r b kv left) : (left.map (·.1)).Nodup := by
  obtain ⟨es, clock, since, seen, c0, hb, hes, hnd, hst, hr, hold, hsc, hsk, hleft⟩ := h
  have h1 : (es.toList.map (·.key)).Nodup := by
    have e : es.toList.map (·.key) = kv.map (fun p => K.kf p.1) := by
      have := congrArg (List.map (fun x : Value × Value => x.1)) hes
      rw [List.map_map, List.map_map] at this
      exact this
    rw [e]
    have : kv.map (fun p => K.kf p.1) = (kv.map (·.1)).map K.kf := by rw [List.map_map]; rfl
    rw [this, List.nodup_iff_pairwise_ne, List.pairwise_map]
    exact (List.nodup_iff_pairwise_ne.1 hnd).imp fun hne e => hne (K.inj e)
  have h2 : ((leftOf es seen).toList.map (·.key)).Nodup := by
    unfold leftOf
    rw [Array.toList_filter]
    exact h1.sublist (List.filter_sublist.map _)
  have e : (leftOf es seen).toList.map (·.key) = (left.map (·.1)).map K.kf := by
    have := congrArg (List.map (fun x : Value × Value => x.1)) hleft
    rw [List.map_map, List.map_map] at this
    rw [List.map_map]
    exact this
  rw [e, List.nodup_iff_pairwise_ne, List.pairwise_map] at h2
  rw [List.nodup_iff_pairwise_ne]
  exact h2.imp fun hne e => hne (by rw [e])
theorem MapIt.below (h : MapIt K cv w r b kv left) (hb : Below w.heap.size w w') : MapIt K cv w' r b kv left := h.of_blocks (hb.block b h.isMap.lt) (hb.block r h.lt)
theorem filter_erase {α : Type} (p : α → Bool) : ∀ (l : List α) (j : Nat) (x : α), l[j]? = some x → p x = false → (l.eraseIdx j).filter p = l.filter p
  | [], _, _, h, _ => by simp at h
  | y :: l, 0, x, h, hp => by
    simp only [List.getElem?_cons_zero, Option.some.injEq] at h
    subst h
    rw [List.eraseIdx_cons_zero, List.filter_cons_of_neg (by simp [hp])]
  | y :: l, j + 1, x, h, hp => by
    rw [List.eraseIdx_cons_succ, List.filter_cons, List.filter_cons, filter_erase p l j x (by simpa using h) hp]
theorem MapIt.delete {t e kt ty : TypeId} (ht : P.underlying t = some (.map K.ty e)) (h : MapIt K cv w r b kv left) (k : κ) (hk : k ∉ left.map (·.1)) :
    ∃ w', (Builtin.delete_ #[t, kt] ty #[.map (some b), K.kf k]).run P w = .ok (.tuple #[]) w' ∧ MapIt K cv w' r b (delKv kv k) left ∧ Only b w w' := by
  have hlt := h.isMap.lt
  have hne := h.ne
  obtain ⟨es, clock, since, seen, c0, hb, hes, hnd, hst, hr, hold, hsc, hsk, hleft⟩ := h
  have ho := setMap_only w b (erasedAt kv k es) clock
  refine ⟨_, run_delete_raw ht hb hes k, ⟨erasedAt kv k es, clock, since, seen, c0, setMap_at _ _ hlt, erase_pairs hes hnd k, delKv_nodup hnd k, ?_, (ho.block r hne).trans hr, ?_, hsc, hsk, ?_⟩, ho⟩
  · unfold erasedAt
    split
    · exact hst.erase _
    · exact hst
  · intro x hx
    unfold erasedAt at hx
    split at hx
    · rename_i j _
      have e : (es.eraseIdxIfInBounds j).toList = es.toList.eraseIdx j := by simp
      rw [e] at hx
      exact hold x (List.mem_of_mem_eraseIdx hx)
    · exact hold x hx
  · rw [← hleft]
    congr 1
    unfold erasedAt leftOf
    rw [Array.toList_filter, Array.toList_filter]
    cases hi : kv.findIdx? fun p => decide (p.1 = k) with
    | none => rfl
    | some j =>
      have e : (es.eraseIdxIfInBounds j).toList = es.toList.eraseIdx j := by simp
      simp only
      rw [e]
      obtain ⟨hj, hjk, _⟩ := List.findIdx?_eq_some_iff_getElem.1 hi
      have hlen : es.toList.length = kv.length := by have := congrArg List.length hes; simpa using this
      have hje : j < es.toList.length := by omega
      refine filter_erase _ es.toList j es.toList[j] (List.getElem?_eq_getElem hje) ?_
      cases hs : seen.contains es.toList[j].born with
      | true => rfl
      | false =>
        exfalso
        have hkey : es.toList[j].key = K.kf k := by
          have h1 := congrArg (fun l => l[j]?) hes
          simp only [List.getElem?_map, List.getElem?_eq_getElem hje, List.getElem?_eq_getElem hj, Option.map_some, Option.some.injEq, Prod.mk.injEq] at h1
          rw [h1.1]
          congr 1
          simpa using hjk
        have hin : es.toList[j] ∈ (leftOf es seen).toList := by
          unfold leftOf
          rw [Array.toList_filter]
          exact List.mem_filter.2 ⟨List.getElem_mem hje, by rw [hs]; rfl⟩
        have h2 : (es.toList[j].key, es.toList[j].val) ∈ left.map (fun p => (K.kf p.1, cv p.2)) := by rw [← hleft]; exact List.mem_map_of_mem hin
        obtain ⟨p, hp, he⟩ := List.mem_map.1 h2
        injection he with he1 he2
        rw [hkey] at he1
        exact hk (List.mem_map.2 ⟨p, hp, K.inj he1⟩)
variable {ops : Array Oper} {rest : List Oper} {o : Oper} {a : Act} {Q : Exit → Act → World → Prop}
theorem wpList_delete_it (hg : o.guard = none) (m x : Operand) (t kt : TypeId) (hop : o.op = .call { callee := .builtin .delete, args := #[m, x], argTypes := #[t, kt] }) {e : TypeId} (ht : P.underlying t = some (.map K.ty e)) (h : MapIt K cv w r b kv left) (k : κ) (hk : k ∉ left.map (·.1))
    (hm : a.eval m = .map (some b)) (hx : a.eval x = K.kf k) (hK : ∀ w', MapIt K cv w' r b (delKv kv k) left → Only b w w' → wpList P ops Q rest (a.put o.dst (.tuple #[])) w') : wpList P ops Q (o :: rest) a w := by
  refine wpList_plain hg fun K' hK' => ?_
  obtain ⟨w', hrun, r1, r2⟩ := MapIt.delete (kt := kt) (ty := o.type) ht h k hk
  unfold Oper.wp execOp
  simp only [hop, resolve, invoke, builtin, Sem.run_bind, Sem.run_pure, Result.andThen_ok, List.map_toArray, List.map_cons, List.map_nil, hm, hx, hrun]
  exact hK' _ _ (hK w' r1 r2)
end
end Go.Proofs.YtdmpdinaineiiaaDoor
