/- Items whose parts are memory of the call's own. No condition. -/
import Derived.Test.YtdmpdinaineiiaaDoorSortG
import Derived.Test.YtdmpdinaineiiaaDoorOrder
import Derived.Test.YtdmpdinaineiiaaDoorQDropLaw
namespace Go.Proofs.YtdmpdinaineiiaaDoor
open Go.RowKit
set_option linter.unusedVariables false
set_option linter.unusedSimpArgs false
structure OV where
  v : Value
  d : ItemD
  deriving Inhabited
theorem Own.keepsM {α : Type} {s : Shape α} {e : TypeId} {w w' : World} {base : Nat} {v : Value} {l : List α} (h : Own s e w base (fun _ => False) v l) {N : Nat → Prop} (k : Keeps N w w') (hN : ∀ n, v.ownBlock = some n → N n) : Own s e w' base (fun _ => False) v l := by
  obtain ⟨xs, ⟨hx, hr⟩, hcs, hM⟩ := h
  refine ⟨xs, ⟨hx, ?_⟩, hcs.keep (k.mono fun n hn => hn.elim), fun _ h => h.elim⟩
  rcases hr with h | ⟨g, cap, cur, rfl, h1, h2, h3⟩
  · exact .inl h
  · exact .inr ⟨g, cap, cur, rfl, h1, (k g (hN g rfl)).trans h2, h3⟩
def OV.okB (o : OV) (w : World) (M : Nat → Prop) : Prop := Own Shape.str 9 w 0 (fun _ => False) o.v o.d.parts ∧ (∀ k, o.v.ownBlock = some k → M k) ∧ I64 o.d.v ∧ sizeAll o.d.parts ≤ 1048576
theorem OV.okB.keep {o : OV} {w w' : World} {M : Nat → Prop} (h : o.okB w M) (k : Keeps M w w') : o.okB w' M := ⟨h.1.keepsM k h.2.1, h.2⟩
theorem OV.okB.more {o : OV} {w : World} {M M' : Nat → Prop} (h : o.okB w M) (k : ∀ n, M n → M' n) : o.okB w M' := ⟨h.1, fun n hn => k n (h.2.1 n hn), h.2.2⟩
theorem OV.okB.slice {o : OV} {w : World} {M : Nat → Prop} (h : o.okB w M) : ∃ A c, o.v = .slice A o.d.parts.length c ∧ Row Shape.str w M A o.d.parts.length o.d.parts ∧ o.d.parts.length ≤ 1048576 ∧ o.d.parts.length ≤ c ∧ c ≤ maxLen := by
  obtain ⟨A, n, c, e, h1, h2, hr⟩ := h.1.rd
  have := hr.1
  subst this
  refine ⟨A, c, e, hr.more fun n hn => hn.elim (fun h => h.elim) (fun hk => h.2.1 n hk.symm), ?_, h1, h2⟩
  have h3 := len_bulk Shape.str o.d.parts
  have h4 : bulkAll Shape.str.bulk o.d.parts ≤ 1048576 := h.2.2.2
  exact Nat.le_trans h3 h4
theorem OV.okB.one {o : OV} {w : World} {M : Nat → Prop} (h : o.okB w M) : o.v.oneCell' = true := by
  obtain ⟨A, c, e, _⟩ := h.slice
  rw [e]; rfl
def blkOf (lo : List OV) (n : Nat) : Prop := ∃ o ∈ lo, o.v.ownBlock = some n
theorem blkOf_snoc (lo : List OV) (o : OV) (n : Nat) : blkOf (lo ++ [o]) n ↔ blkOf lo n ∨ o.v.ownBlock = some n := by
  unfold blkOf
  constructor
  · rintro ⟨x, hx, e⟩
    rcases List.mem_append.1 hx with hx | hx
    · exact .inl ⟨x, hx, e⟩
    · rw [List.mem_singleton] at hx; subst hx; exact .inr e
  · rintro (⟨x, hx, e⟩ | e)
    · exact ⟨x, List.mem_append_left _ hx, e⟩
    · exact ⟨o, by simp, e⟩
theorem blkOf_perm {lo lo' : List OV} (h : lo.Perm lo') : blkOf lo = blkOf lo' := by
  funext n
  apply propext
  exact ⟨fun ⟨o, ho, e⟩ => ⟨o, h.subset ho, e⟩, fun ⟨o, ho, e⟩ => ⟨o, h.symm.subset ho, e⟩⟩
/-- no two of them share memory -/
def Apart (lo : List OV) : Prop := lo.Pairwise fun x y => ∀ n, x.v.ownBlock = some n → y.v.ownBlock ≠ some n
theorem Apart.perm {lo lo' : List OV} (h : Apart lo) (hp : lo.Perm lo') : Apart lo' :=
  (hp.pairwise_iff (fun {x y} hxy n hn e => hxy n e hn)).1 h
theorem Apart.snoc {lo : List OV} (h : Apart lo) {o : OV} (ho : ∀ n, o.v.ownBlock = some n → ¬ blkOf lo n) : Apart (lo ++ [o]) := by
  refine List.pairwise_append.2 ⟨h, by simp, fun x hx y hy n hn e => ?_⟩
  rw [List.mem_singleton] at hy
  subst hy
  exact ho n e ⟨x, hx, hn⟩
/-- texts of the call's own, whose slice is known by its shape -/
def madeOwnT (l : List ByteArray) (n : Nat) : Made := ⟨Option Addr × Nat, (none, 0), fun x => .slice x.1 l.length x.2, fun x W => Own Shape.str 9 W n (fun _ => False) (.slice x.1 l.length x.2) l⟩
theorem own_below {α : Type} {s : Shape α} {e : TypeId} {w w' : World} {base : Nat} {v : Value} {l : List α} (h : Own s e w base (fun _ => False) v l) (hb : Below w.heap.size w w') : Own s e w' base (fun _ => False) v l :=
  h.keepsM (N := fun n => n < w.heap.size) (Keeps.of_below hb) fun n hn => (h.lt n hn).2
theorem ownT_stays (l : List ByteArray) (n : Nat) : ∀ x W W', Gr W W' → (madeOwnT l n).Fact x W → (madeOwnT l n).Fact x W' := fun x W W' h k => own_below (w := W) k h
theorem ownT_of {w : World} {base n : Nat} {v : Value} {l : List ByteArray} (h : Own Shape.str 9 w base (fun _ => False) v l) (hn : n ≤ base) : ∃ x, v = (madeOwnT l n).enc x ∧ (madeOwnT l n).Fact x w := by
  have h' := h.low hn
  obtain ⟨A, m, c, rfl, h1, h2, hr⟩ := h.rd
  have := hr.1
  subst this
  exact ⟨(A, c), rfl, h'⟩
theorem enc_ownT (l : List ByteArray) (n : Nat) (A : Option Addr) (c : Nat) : (madeOwnT l n).enc (A, c) = .slice A l.length c := rfl
/-- a new block with one item -/
def madeElem (ty : TypeId) (vc : List Value) (l : List ByteArray) (n : Nat) : Made :=
  ⟨Nat, 0, fun g => .slice (some ⟨g, 0, none⟩) 1 1, fun g W => ∃ A c, Blk W g ty (.slice A l.length c :: vc).toArray ∧ Own Shape.str 9 W n (fun _ => False) (.slice A l.length c) l ∧ n ≤ g ∧ ∀ k, (Value.slice A l.length c).ownBlock = some k → k ≠ g⟩
theorem elem_stays (ty : TypeId) (vc : List Value) (l : List ByteArray) (n : Nat) : ∀ x W W', Gr W W' → (madeElem ty vc l n).Fact x W → (madeElem ty vc l n).Fact x W' := fun g W W' h k => by
  obtain ⟨A, c, h1, h2, h3⟩ := k
  exact ⟨A, c, Blk.below (g := g) h1 h h1.lt, own_below h2 h, h3⟩
theorem src_blk {α : Type} {s : Shape α} {w : World} {M : Nat → Prop} {g : Nat} {t : TypeId} {cs : List Value} {a : α} (hb : Blk w g t cs.toArray) (hr : s.rd w M cs a) : Src s w M (some ⟨g, 0, none⟩) 1 [a] := by
  refine ⟨rfl, (fun e => by cases e), cs, Cells.single hr, fun ad e j u hu => ?_⟩
  injection e with e
  subst e
  unfold Addr.add
  by_cases h0 : j = 0
  · subst h0
    have := hb.cell 0
    rw [List.getElem?_toArray, hu] at this
    simpa using this
  · rw [if_neg h0]
    have := hb.cell j
    rw [List.getElem?_toArray, hu] at this
    simpa using this
theorem endT_append {P : Program} {md : Region.Mode} {ops : Array Oper} {a : Act} {ot : Oper} {Q : Act → World → Prop} {tail : List (Nat × Oper)} {W : World} {α : Type} {s : Shape α} {base : Nat} {M M' : Nat → Prop} {v : Value} {l k : List α} {e t : TypeId} {bytes : Nat} (el : Elem P t e s bytes) (sv x : Operand) (ho : ot.op = .call { callee := .builtin .append, args := #[sv, x], argTypes := #[t, t] })
    (hs : a.eval sv = v) (h : Own s e W base M v l) {A : Option Addr} {m c : Nat} (hx : a.eval x = .slice A m c) (hk : Src s W M' A m k) (h3' : ∀ n, M' n → n < W.heap.size ∧ some n ≠ v.ownBlock)
    (hroom : (l.length + k.length) * bytes ≤ 140737488355328) (h63 : l.length + k.length ≤ maxLen) (hbase : base ≤ W.heap.size)
    (K : ∀ v' W', Own s e W' base (fun n => M n ∨ M' n) v' (l ++ k) → W.grownBy W' v.ownBlock → (v'.ownBlock = v.ownBlock ∨ v'.ownBlock = some W.heap.size) → wpG P md ops Eq W' [] none Q tail (fun _ _ => True) (a.put ot.dst v')) : EndT P md ops ot Q tail a W := by
  obtain ⟨v', w', hrun, h2, h3, h4⟩ := run_append_list (P := P) (ty := ot.type) (c := c) el h hk h3' hroom h63 hbase
  refine endT_of v' w' ?_ (K v' w' h2 h3 h4)
  unfold execOp
  refine .inl ?_
  simp only [ho, resolve, invoke, builtin, Sem.run_bind, Sem.run_pure, Result.andThen_ok, List.map_toArray, List.map_cons, List.map_nil, hs, hx, hrun]
end Go.Proofs.YtdmpdinaineiiaaDoor
