/- delete at a map, as at a list of pairs. No condition. -/
import Derived.Test.YtdmpdinaineiiaaDoorMap
set_option linter.unusedSectionVars false
set_option linter.unusedVariables false
set_option linter.unusedSimpArgs false
namespace Go.Proofs.YtdmpdinaineiiaaDoor
open Go.RowKit
section
variable {κ β : Type} [DecidableEq κ]
theorem del_erase (k : κ) : ∀ (kv : List (κ × β)) (j : Nat), (kv.map (·.1)).Nodup → (kv.findIdx? fun p => decide (p.1 = k)) = some j → kv.eraseIdx j = delKv kv k
  | [], j, _, h => by simp at h
  | p :: kv, j, hn, h => by
    rw [List.findIdx?_cons] at h
    simp only [List.map_cons, List.nodup_cons] at hn
    by_cases hp : p.1 = k
    · simp only [hp, decide_true, if_true, Option.some.injEq] at h
      subst h
      unfold delKv
      rw [List.eraseIdx_cons_zero, List.filter_cons_of_neg (by simpa using hp), eq_comm]
      apply List.filter_eq_self.2
      intro q hq
      have hqk : q.1 ≠ k := fun e => hn.1 (by rw [hp, ← e]; exact List.mem_map_of_mem hq)
      simpa using hqk
    · simp only [hp, decide_false, Bool.false_eq_true, if_false, Option.map_eq_some_iff] at h
      obtain ⟨j', h, rfl⟩ := h
      have ih := del_erase k kv j' hn.2 h
      unfold delKv at *
      rw [List.eraseIdx_cons_succ, ih, List.filter_cons_of_pos (by simpa using hp)]
theorem del_none (k : κ) (kv : List (κ × β)) (h : (kv.findIdx? fun p => decide (p.1 = k)) = none) : delKv kv k = kv := by
  unfold delKv
  apply List.filter_eq_self.2
  intro q hq
  have := List.findIdx?_eq_none_iff.1 h q hq
  simpa using this
theorem delKv_nodup {kv : List (κ × β)} (h : (kv.map (·.1)).Nodup) (k : κ) : ((delKv kv k).map (·.1)).Nodup :=
  h.sublist (List.filter_sublist.map _)
end
theorem Stamped.erase {es : Array MapEntry} {clock : Nat} (h : Stamped es clock) (j : Nat) : Stamped (es.eraseIdxIfInBounds j) clock := by
  have e : (es.eraseIdxIfInBounds j).toList = es.toList.eraseIdx j := by simp
  unfold Stamped
  rw [e]
  refine ⟨fun x hx => h.1 x (List.mem_of_mem_eraseIdx hx), ?_⟩
  exact h.2.sublist ((List.eraseIdx_sublist _ _).map _)
section
variable {P : Program} {κ β : Type} [DecidableEq κ] {cv : β → Value} {K : KeyKind P κ} {w w' : World} {b : Nat} {kv : List (κ × β)}
def erasedAt (kv : List (κ × β)) (k : κ) (es : Array MapEntry) : Array MapEntry := match kv.findIdx? fun p => decide (p.1 = k) with | some j => es.eraseIdxIfInBounds j | none => es
theorem run_delete_raw {t e kt ty : TypeId} (ht : P.underlying t = some (.map K.ty e)) {es : Array MapEntry} {c : Nat} (hb : w.heap[b]? = some (.map es c)) (hes : es.toList.map (fun e => (e.key, e.val)) = kv.map (fun p => (K.kf p.1, cv p.2))) (k : κ) :
    (Builtin.delete_ #[t, kt] ty #[.map (some b), K.kf k]).run P w = .ok (.tuple #[]) (setMap w b (erasedAt kv k es) c) := by
  unfold erasedAt
  have hg : (Instr.checkKey es.isEmpty 10000 K.ty (K.kf k)).run P w = .ok () w := K.plain k w 9999 _
  have hf := run_findKey (P := P) (K := K) es hes k w
  cases hi : kv.findIdx? fun p => decide (p.1 = k) with
  | none =>
    rw [hi] at hf
    simp only [Option.bind_none] at hf
    simp [Builtin.delete_, run_underlying ht, Sem.run_bind, getObj, setObj, Sem.run, hb, setMap, hg, hf]
  | some j =>
    have hj : j < kv.length := by
      have := List.findIdx?_eq_some_iff_getElem.1 hi
      exact this.1
    rw [hi] at hf
    simp only [Option.bind_some, List.getElem?_eq_getElem hj, Option.map_some] at hf
    simp [Builtin.delete_, run_underlying ht, Sem.run_bind, getObj, setObj, Sem.run, hb, setMap, hg, hf]
theorem map_erase {α γ : Type} (f : α → γ) : ∀ (l : List α) (j : Nat), (l.eraseIdx j).map f = (l.map f).eraseIdx j
  | [], _ => rfl
  | _ :: _, 0 => rfl
  | a :: l, j + 1 => by rw [List.eraseIdx_cons_succ, List.map_cons, map_erase f l j]; rfl
theorem erase_pairs {es : Array MapEntry} (hes : es.toList.map (fun e => (e.key, e.val)) = kv.map (fun p => (K.kf p.1, cv p.2))) (hnd : (kv.map (·.1)).Nodup) (k : κ) :
    (erasedAt kv k es).toList.map (fun e => (e.key, e.val)) = (delKv kv k).map (fun p => (K.kf p.1, cv p.2)) := by
  unfold erasedAt
  cases hi : kv.findIdx? fun p => decide (p.1 = k) with
  | none => rw [del_none k kv hi]; exact hes
  | some j =>
    rw [← del_erase k kv j hnd hi]
    have e : (es.eraseIdxIfInBounds j).toList = es.toList.eraseIdx j := by simp
    simp only
    rw [e, map_erase, map_erase, hes]
theorem run_delete_map {t e kt ty : TypeId} (ht : P.underlying t = some (.map K.ty e)) (h : IsMap K cv w b kv) (k : κ) :
    ∃ w', (Builtin.delete_ #[t, kt] ty #[.map (some b), K.kf k]).run P w = .ok (.tuple #[]) w' ∧ IsMap K cv w' b (delKv kv k) ∧ Only b w w' := by
  have hlt := h.lt
  obtain ⟨es, c, hb, hes, hnd, hst⟩ := h
  refine ⟨_, run_delete_raw ht hb hes k, ⟨_, _, setMap_at _ _ hlt, erase_pairs hes hnd k, delKv_nodup hnd k, ?_⟩, setMap_only _ _ _ _⟩
  unfold erasedAt
  split
  · exact hst.erase _
  · exact hst
end
section
variable {P : Program} {κ β : Type} [DecidableEq κ] {cv : β → Value} {K : KeyKind P κ} {w : World} {ops : Array Oper} {rest : List Oper} {o : Oper} {a : Act} {Q : Exit → Act → World → Prop} {b : Nat} {kv : List (κ × β)}
theorem wpList_delete_kv (hg : o.guard = none) (m x : Operand) (t kt : TypeId) (hop : o.op = .call { callee := .builtin .delete, args := #[m, x], argTypes := #[t, kt] }) {e : TypeId} (ht : P.underlying t = some (.map K.ty e)) (h : IsMap K cv w b kv) (k : κ)
    (hm : a.eval m = .map (some b)) (hx : a.eval x = K.kf k) (hK : ∀ w', IsMap K cv w' b (delKv kv k) → Only b w w' → wpList P ops Q rest (a.put o.dst (.tuple #[])) w') : wpList P ops Q (o :: rest) a w := by
  refine wpList_plain hg fun K' hK' => ?_
  obtain ⟨w', hrun, r1, r2⟩ := run_delete_map (kt := kt) (ty := o.type) ht h k
  unfold Oper.wp execOp
  simp only [hop, resolve, invoke, builtin, Sem.run_bind, Sem.run_pure, Result.andThen_ok, List.map_toArray, List.map_cons, List.map_nil, hm, hx, hrun]
  exact hK' _ _ (hK w' r1 r2)
end
end Go.Proofs.YtdmpdinaineiiaaDoor
