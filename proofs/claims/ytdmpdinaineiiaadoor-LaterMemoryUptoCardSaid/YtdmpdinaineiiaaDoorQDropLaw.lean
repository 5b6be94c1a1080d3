/- What a range that deletes leaves; plain. No condition. -/
import Derived.Test.YtdmpdinaineiiaaDoorQueue
import Derived.Test.YtdmpdinaineiiaaDoorMapDelIt
namespace Go.Proofs.YtdmpdinaineiiaaDoor
open Go.RowKit
set_option linter.unusedVariables false
set_option linter.unusedSimpArgs false
def wi (dir : List ByteArray) (p : ByteArray × QV) : Bool := within dir p.2.d.parts
def nw (dir : List ByteArray) (p : ByteArray × QV) : Bool := !within dir p.2.d.parts
theorem del_perm {kvc V left : KV} {k : ByteArray} {v : QV} (hp : kvc.Perm (V ++ (k, v) :: left)) (hn : (kvc.map (·.1)).Nodup) : (delKv kvc k).Perm (V ++ left) := by
  have h1 : (delKv kvc k).Perm ((V ++ (k, v) :: left).filter fun p => !decide (p.1 = k)) := hp.filter _
  have hn' : ((V ++ (k, v) :: left).map (·.1)).Nodup := (List.Perm.nodup_iff (hp.map _)).1 hn
  rw [List.map_append, List.map_cons] at hn'
  have hmid := List.nodup_append.1 hn'
  obtain ⟨n1, n2, n3⟩ := hmid
  rw [List.nodup_cons] at n2
  have e1 : V.filter (fun p => !decide (p.1 = k)) = V := List.filter_eq_self.2 fun p hp => by
    have : p.1 ≠ k := n3 p.1 (List.mem_map_of_mem hp) k (by simp)
    simpa using this
  have e2 : left.filter (fun p => !decide (p.1 = k)) = left := List.filter_eq_self.2 fun p hp => by
    have : p.1 ≠ k := fun e => n2.1 (List.mem_map.2 ⟨p, hp, e⟩)
    simpa using this
  rw [List.filter_append, List.filter_cons_of_neg (by simp), e1, e2] at h1
  exact h1
structure DropI {cv : QV → Value} (dir : List ByteArray) (kv : KV) (w : World) (r b : Nat) (v : Value) (wr : World) (vis left kvc : KV) : Prop where
  v : v = .int .i64 ((vis.filter (wi dir)).length : Nat)
  it : MapIt (@keyK) cv wr r b kvc left
  perm : (vis ++ left).Perm kv
  cur : kvc.Perm (vis.filter (nw dir) ++ left)
  g : w.grownBy wr (some b)
section
variable {cv : QV → Value} {qt : TypeId} {w wr : World} {X : List Nat} {q b r : Nat} {kv kv' : KV} {dir : List ByteArray} {v : Value} {vis left kvc : KV}
/-- the rows of what is left -/
theorem Qu.sub (h : Qu cv qt w X q b kv) (hg : w.grownBy wr (some b)) (hm : IsMap keyK cv wr b kv') (hs : ∀ p ∈ kv', p ∈ kv) : Qu cv qt wr X q b kv' := by
  have hkp : Keeps (Out X w) w wr := (Keeps.of_grown hg).mono fun n hn => ⟨hn.1, fun e => hn.2 (by injection e with e; rw [e]; exact h.bX)⟩
  exact ⟨h.blk.grown hg (fun e => h.qb (by injection e)), hm, fun p hp => ⟨(h.rows p (hs p hp)).1, ((h.rows p (hs p hp)).2.keep hkp).more fun n hn => ⟨Nat.lt_of_lt_of_le hn.1 hg.size, hn.2⟩⟩, h.bX, fun k hk => Nat.lt_of_lt_of_le (h.low k hk) hg.size⟩
theorem DropI.done (h : DropI (cv := cv) dir kv w r b v wr vis [] kvc) : kvc.Perm (kv.filter (nw dir)) ∧ v = .int .i64 ((kv.filter (wi dir)).length : Nat) := by
  have hp : vis.Perm kv := by simpa using h.perm
  refine ⟨by have := h.cur; rw [List.append_nil] at this; exact this.trans (hp.filter _), ?_⟩
  rw [h.v, (hp.filter (wi dir)).length_eq]
end
def DropP (cv : QV → Value) (qt : TypeId) (w : World) (X : List Nat) (q b : Nat) (kv : KV) (dir : List ByteArray) (e : Ending) (w' : World) : Prop :=
  ∃ kv' : KV, kv'.Perm (kv.filter (nw dir)) ∧ e = .returned (.int .i64 ((kv.filter (wi dir)).length : Nat)) ∧ w.grownBy w' (some b) ∧ Qu cv qt w' X q b kv'
end Go.Proofs.YtdmpdinaineiiaaDoor
