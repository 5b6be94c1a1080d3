/- A queue of later's in memory: a map from keys to items. No condition. -/
import Derived.Test.YtdmpdinaineiiaaDoorKeyLaw
import Derived.Test.YtdmpdinaineiiaaDoorMapIt
import Derived.Test.YtdmpdinaineiiaaDoorMapDel
import Derived.Test.YtdmpdinaineiiaaDoorDataLt
namespace Go.Proofs.YtdmpdinaineiiaaDoor
open Go.RowKit
set_option linter.unusedVariables false
set_option linter.unusedSimpArgs false
/-- what an entry holds: where the parts lie, and the item -/
structure QV where
  A : Option Addr
  n : Nat
  c : Nat
  d : ItemD
  deriving Inhabited
def QV.ok (x : QV) (w : World) (M : Nat → Prop) : Prop := Row Shape.str w M x.A x.n x.d.parts ∧ x.n ≤ x.c ∧ x.c ≤ maxLen ∧ I64 x.d.v ∧ sizeAll x.d.parts ≤ 1048576
theorem QV.ok.keep {x : QV} {w w' : World} {M : Nat → Prop} (h : x.ok w M) (k : Keeps M w w') : x.ok w' M := ⟨h.1.keep k, h.2⟩
theorem QV.ok.more {x : QV} {w : World} {M M' : Nat → Prop} (h : x.ok w M) (k : ∀ n, M n → M' n) : x.ok w M' := ⟨h.1.more k, h.2⟩
abbrev KV := List (ByteArray × QV)
abbrev keyK : KeyKind Tryd.prog ByteArray := strKind Tryd.underlying9
def Out (X : List Nat) (w : World) (n : Nat) : Prop := n < w.heap.size ∧ n ∉ X
structure Qu (cv : QV → Value) (qt : TypeId) (w : World) (X : List Nat) (q b : Nat) (kv : KV) : Prop where
  blk : Blk w q qt #[.map (some b)]
  map : IsMap keyK cv w b kv
  rows : ∀ p ∈ kv, p.1 = keyS p.2.d.parts ∧ p.2.ok w (Out X w)
  bX : b ∈ X
  low : ∀ k ∈ X, k < w.heap.size
section
variable {cv : QV → Value} {qt : TypeId} {w w' : World} {X : List Nat} {q b : Nat} {kv : KV}
theorem Qu.grown {row : Option Nat} (h : Qu cv qt w X q b kv) (hg : w.grownBy w' row) (hr : ∀ k, row = some k → k ∈ X) (hq : some q ≠ row) (hb : some b ≠ row) : Qu cv qt w' X q b kv := by
  have hk : Keeps (Out X w) w w' := (Keeps.of_grown hg).mono fun n hn => ⟨hn.1, fun e => hn.2 (hr n e.symm)⟩
  refine ⟨h.blk.grown hg hq, h.map.grown hg hb, fun p hp => ⟨(h.rows p hp).1, ((h.rows p hp).2.keep hk).more fun n hn => ⟨Nat.lt_of_lt_of_le hn.1 hg.size, hn.2⟩⟩, h.bX, fun k hk => Nat.lt_of_lt_of_le (h.low k hk) hg.size⟩
theorem Qu.below (h : Qu cv qt w X q b kv) (hb : Below w.heap.size w w') : Qu cv qt w' X q b kv := h.grown (grownBy_of_below hb) (fun _ e => by cases e) (by simp) (by simp)
theorem Qu.excl (h : Qu cv qt w X q b kv) (hb : Below w.heap.size w w') {g : Nat} (hg : w.heap.size ≤ g) (hg' : g < w'.heap.size) : Qu cv qt w' (g :: X) q b kv := by
  have h' := h.below hb
  refine ⟨h'.blk, h'.map, fun p hp => ⟨(h'.rows p hp).1, ?_⟩, List.mem_cons_of_mem _ h.bX, fun k hk => ?_⟩
  · have hk : Keeps (Out X w) w w' := Keeps.of_below hb |>.mono fun n hn => hn.1
    exact ((h.rows p hp).2.keep hk).more fun n hn => ⟨Nat.lt_of_lt_of_le hn.1 hb.size, fun e => by
      rcases List.mem_cons.1 e with rfl | e
      · have := hn.1; omega
      · exact hn.2 e⟩
  · rcases List.mem_cons.1 hk with rfl | hk
    · exact hg'
    · exact h'.low k hk
theorem Qu.less {g : Nat} (h : Qu cv qt w (g :: X) q b kv) (hb : b ∈ X) : Qu cv qt w X q b kv :=
  ⟨h.blk, h.map, fun p hp => ⟨(h.rows p hp).1, (h.rows p hp).2.more fun n hn => ⟨hn.1, fun e => hn.2 (List.mem_cons_of_mem _ e)⟩⟩, hb, fun k hk => h.low k (List.mem_cons_of_mem _ hk)⟩
theorem Qu.get {k : ByteArray} {x : QV} (h : Qu cv qt w X q b kv) (hg : getKv kv k = some x) : keyS x.d.parts = k ∧ x.ok w (Out X w) := by
  unfold getKv at hg
  cases hf : kv.find? fun p => decide (p.1 = k) with
  | none => rw [hf] at hg; cases hg
  | some p =>
    rw [hf] at hg
    injection hg with hg
    subst hg
    have hp := List.mem_of_find?_eq_some hf
    have he := List.find?_some hf
    rw [decide_eq_true_eq] at he
    exact ⟨by rw [← he]; exact (h.rows p hp).1.symm, (h.rows p hp).2⟩
theorem mem_putKv {k : ByteArray} {x : QV} {kv : KV} {p : ByteArray × QV} (h : p ∈ putKv kv k x) : p = (k, x) ∨ p ∈ kv := by
  unfold putKv at h
  split at h
  · obtain ⟨y, hy, e⟩ := List.mem_map.1 h
    split at e
    · exact .inl e.symm
    · exact .inr (e ▸ hy)
  · rcases List.mem_append.1 h with h | h
    · exact .inr h
    · rw [List.mem_singleton] at h; exact .inl h
theorem Qu.put (h : Qu cv qt w X q b kv) (ho : Only b w w') {k : ByteArray} {x : QV} (hm : IsMap keyK cv w' b (putKv kv k x)) (hk : k = keyS x.d.parts) (hx : x.ok w (Out X w)) (hq : q ≠ b) : Qu cv qt w' X q b (putKv kv k x) := by
  have hg := ho.grown
  have hkp : Keeps (Out X w) w w' := (Keeps.of_grown hg).mono fun n hn => ⟨hn.1, fun e => hn.2 (by injection e with e; rw [e]; exact h.bX)⟩
  refine ⟨h.blk.grown hg (fun e => hq (by injection e)), hm, fun p hp => ?_, h.bX, fun k hk => Nat.lt_of_lt_of_le (h.low k hk) hg.size⟩
  rcases mem_putKv hp with rfl | hp
  · exact ⟨hk, (hx.keep hkp).more fun n hn => ⟨Nat.lt_of_lt_of_le hn.1 hg.size, hn.2⟩⟩
  · exact ⟨(h.rows p hp).1, ((h.rows p hp).2.keep hkp).more fun n hn => ⟨Nat.lt_of_lt_of_le hn.1 hg.size, hn.2⟩⟩
theorem Qu.qb (h : Qu cv qt w X q b kv) : q ≠ b := fun e => h.map.ne_blk h.blk e.symm
end
/-- a list of texts of the call's own, its room known -/
def madeTxt (l : List ByteArray) (n : Nat) : Made := ⟨Option Addr × Nat, (none, 0), fun x => .slice x.1 l.length x.2, fun x W => l.length ≤ x.2 ∧ x.2 ≤ maxLen ∧ Row Shape.str W (From n W) x.1 l.length l⟩
theorem txt_stays (l : List ByteArray) (n : Nat) : ∀ x W W', Gr W W' → (madeTxt l n).Fact x W → (madeTxt l n).Fact x W' := fun x W W' h k =>
  ⟨k.1, k.2.1, (k.2.2.keep ((Keeps.of_below h).mono fun b hb => hb.2)).more fun b hb => ⟨hb.1, Nat.lt_of_lt_of_le hb.2 h.size⟩⟩
theorem txt_of_own {e : TypeId} {w : World} {base n : Nat} {v : Value} {l : List ByteArray} (h : Own Shape.str e w base (fun _ => False) v l) (hn : n ≤ base) : ∃ x, v = (madeTxt l n).enc x ∧ (madeTxt l n).Fact x w := by
  obtain ⟨A, m, c, rfl, h1, h2, hr⟩ := h.rd_from (B := n) hn (fun _ h => h.elim)
  have := hr.1
  subst this
  exact ⟨(A, c), rfl, h1, h2, hr⟩
theorem enc_txt (l : List ByteArray) (n : Nat) (A : Option Addr) (c : Nat) : (madeTxt l n).enc (A, c) = .slice A l.length c := rfl
theorem endT_mapUpdate {P : Program} {md : Region.Mode} {ops : Array Oper} {a : Act} {ot : Oper} {Q : Act → World → Prop} {tail : List (Nat × Oper)} {W : World} {κ β : Type} [DecidableEq κ] {cv : β → Value} {K : KeyKind P κ} {b : Nat} {kv : List (κ × β)} (m x v : Operand) (t : TypeId) (ho : ot.op = .mapUpdate t m x v) {e : TypeId} (ht : P.underlying t = some (.map K.ty e)) (h : IsMap K cv W b kv) (k : κ) (y : β)
    (hm : a.eval m = .map (some b)) (hx : a.eval x = K.kf k) (hv : a.eval v = cv y) (hK : ∀ W', IsMap K cv W' b (putKv kv k y) → Only b W W' → wpG P md ops Eq W' [] none Q tail (fun _ _ => True) (a.put ot.dst undef)) : EndT P md ops ot Q tail a W := by
  obtain ⟨w', hrun, r1, r2⟩ := run_mapUpdate ht h k y
  refine endT_of undef w' ?_ (hK w' r1 r2)
  unfold execOp
  simp only [ho, hm, hx, hv, Sem.run_bind, hrun, Result.andThen_ok, Sem.run_pure]
  first | exact .inl rfl | exact .inr ⟨rfl, rfl⟩ | exact .inr ⟨trivial, trivial⟩ | simp
end Go.Proofs.YtdmpdinaineiiaaDoor
