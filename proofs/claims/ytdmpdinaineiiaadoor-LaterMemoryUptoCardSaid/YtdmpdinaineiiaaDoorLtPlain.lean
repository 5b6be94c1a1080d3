/- A queue's entries and the document's list; plain. No condition. -/
import Derived.Test.YtdmpdinaineiiaaDoorOV
import Derived.Test.YtdmpdinaineiiaaDoorMapLaw
namespace Go.Proofs.YtdmpdinaineiiaaDoor
open Go.RowKit
set_option linter.unusedVariables false
set_option linter.unusedSimpArgs false
def SortedI (r : List ItemD) : Prop := r.Pairwise fun x y => aheadL x.parts y.parts = true
theorem sortedI_unique {r r' : List ItemD} (h : SortedI r) (h' : SortedI r') (hp : r.Perm r') : r = r' :=
  List.Perm.eq_of_pairwise (fun a b _ _ h1 h2 => by rw [aheadL_asymm h1] at h2; cases h2) h h' hp
/-- the queue's entries are the items r, whose paths are unlike and in order -/
structure Rep (kv : KV) (r : List ItemD) : Prop where
  perm : (kv.map (·.2.d)).Perm r
  sorted : SortedI r
theorem sortedI_nodup {r : List ItemD} (h : SortedI r) : (r.map (·.parts)).Nodup := by
  rw [List.nodup_iff_pairwise_ne, List.pairwise_map]
  exact List.Pairwise.imp (fun {x y} hxy e => by rw [e, aheadL_irrefl] at hxy; cases hxy) h
def insertI (d : ItemD) : List ItemD → List ItemD
  | [] => [d]
  | x :: r => if aheadL d.parts x.parts then d :: x :: r else x :: insertI d r
theorem insertI_perm (d : ItemD) : ∀ r, (insertI d r).Perm (d :: r)
  | [] => List.Perm.refl _
  | x :: r => by
    unfold insertI
    split
    · exact List.Perm.refl _
    · exact ((insertI_perm d r).cons x).trans (List.Perm.swap d x r)
theorem insertI_sorted {d : ItemD} : ∀ {r : List ItemD}, SortedI r → (∀ x ∈ r, x.parts ≠ d.parts) → SortedI (insertI d r)
  | [], _, _ => by simp [insertI, SortedI]
  | x :: r, h, hne => by
    unfold SortedI at h
    rw [List.pairwise_cons] at h
    unfold insertI
    split
    · rename_i hd
      refine List.pairwise_cons.2 ⟨fun y hy => ?_, List.pairwise_cons.2 h⟩
      rcases List.mem_cons.1 hy with rfl | hy
      · exact hd
      · exact aheadL_trans hd (h.1 y hy)
    · rename_i hd
      have hx : aheadL x.parts d.parts = true := by
        cases hc : aheadL x.parts d.parts with
        | true => rfl
        | false => exact absurd (aheadL_tri hc (by simpa using hd)) (hne x (by simp))
      refine List.pairwise_cons.2 ⟨fun y hy => ?_, insertI_sorted h.2 fun y hy => hne y (List.mem_cons_of_mem _ hy)⟩
      rcases List.mem_cons.1 ((insertI_perm d r).subset hy) with rfl | hy
      · exact hx
      · exact h.1 y hy
/-- the document's Put -/
def putI' (r : List ItemD) (d : ItemD) : List ItemD := insertI d (r.filter fun x => !decide (x.parts = d.parts))
theorem putI_sorted {r : List ItemD} (h : SortedI r) (d : ItemD) : SortedI (putI' r d) :=
  insertI_sorted (List.Pairwise.sublist List.filter_sublist h) fun x hx => by have := (List.mem_filter.1 hx).2; simpa using this
/-- entries under the keys of their paths, each once -/
structure Keyed (kv : KV) : Prop where
  key : ∀ p ∈ kv, p.1 = keyS p.2.d.parts
  nd : (kv.map (·.1)).Nodup
theorem Qu.keyed {cv : QV → Value} {qt : TypeId} {w : World} {X : List Nat} {q b : Nat} {kv : KV} (h : Qu cv qt w X q b kv) : Keyed kv := ⟨fun p hp => (h.rows p hp).1, h.map.nodup_keys⟩
theorem putKv_perm {kv : KV} (h : Keyed kv) {x : QV} : ((putKv kv (keyS x.d.parts) x).map (·.2.d)).Perm (x.d :: (kv.map (·.2.d)).filter fun y => !decide (y.parts = x.d.parts)) := by
  obtain ⟨hk, hn⟩ := h
  unfold putKv
  have hdec : ∀ p ∈ kv, decide (p.2.d.parts = x.d.parts) = decide (p.1 = keyS x.d.parts) := fun p hp => by
    rw [Bool.eq_iff_iff, decide_eq_true_eq, decide_eq_true_eq, hk p hp]
    exact ⟨fun e => by rw [e], fun e => keyS_inj e⟩
  split
  · rename_i hh
    clear hk
    induction kv with
    | nil => simp [hasKv] at hh
    | cons p kv ih =>
      rw [List.map_cons, List.nodup_cons] at hn
      by_cases hp : p.1 = keyS x.d.parts
      · have hrest : kv.map (fun p => if p.1 = keyS x.d.parts then (keyS x.d.parts, x) else p) = kv := by
          conv => rhs; rw [← List.map_id kv]
          apply List.map_congr_left
          intro y hy
          have : y.1 ≠ keyS x.d.parts := fun e => hn.1 (by rw [hp, ← e]; exact List.mem_map_of_mem hy)
          simp [this]
        have hfil : (kv.map (·.2.d)).filter (fun y => !decide (y.parts = x.d.parts)) = kv.map (·.2.d) := List.filter_eq_self.2 fun y hy => by
          obtain ⟨z, hz, rfl⟩ := List.mem_map.1 hy
          have h1 := hdec z (List.mem_cons_of_mem _ hz)
          have : z.1 ≠ keyS x.d.parts := fun e => hn.1 (by rw [hp, ← e]; exact List.mem_map_of_mem hz)
          rw [h1]; simpa using this
        rw [List.map_cons, if_pos hp, hrest, List.map_cons, List.map_cons, List.filter_cons_of_neg (by have := hdec p (by simp); rw [this]; simpa using hp), hfil]
      · have hh' : hasKv kv (keyS x.d.parts) = true := by
          unfold hasKv at hh ⊢
          rw [List.any_cons] at hh
          simpa [hp] using hh
        have := ih hn.2 (fun p hp => hdec p (List.mem_cons_of_mem _ hp)) hh'
        rw [List.map_cons, if_neg hp, List.map_cons, List.map_cons, List.filter_cons_of_pos (by have := hdec p (by simp); rw [this]; simpa using hp)]
        exact (this.cons _).trans (List.Perm.swap _ _ _)
  · rename_i hh
    have hfil : (kv.map (·.2.d)).filter (fun y => !decide (y.parts = x.d.parts)) = kv.map (·.2.d) := List.filter_eq_self.2 fun y hy => by
      obtain ⟨z, hz, rfl⟩ := List.mem_map.1 hy
      have h1 := hdec z hz
      have : z.1 ≠ keyS x.d.parts := fun e => hh ((hasKv_iff kv _).2 (List.mem_map.2 ⟨z, hz, e⟩))
      rw [h1]; simpa using this
    rw [hfil, List.map_append]
    exact List.perm_append_comm
theorem Rep.put {kv : KV} {r : List ItemD} (h : Rep kv r) (hk : Keyed kv) (x : QV) : Rep (putKv kv (keyS x.d.parts) x) (putI' r x.d) := by
  refine ⟨(putKv_perm hk).trans ?_, putI_sorted h.sorted x.d⟩
  exact ((h.perm.filter _).cons _).trans (insertI_perm _ _).symm
theorem Rep.nil : Rep [] [] := ⟨List.Perm.refl _, List.Pairwise.nil⟩
/-- the document's Get -/
def getI' (r : List ItemD) (l : List ByteArray) : Option Int := (r.find? fun x => decide (x.parts = l)).map (·.v)
theorem find_perm {r r' : List ItemD} (hp : r.Perm r') (hn : (r.map (·.parts)).Nodup) (l : List ByteArray) : r.find? (fun x => decide (x.parts = l)) = r'.find? fun x => decide (x.parts = l) := by
  cases h : r.find? fun x => decide (x.parts = l) with
  | none =>
    rw [List.find?_eq_none] at h
    rw [eq_comm, List.find?_eq_none]
    exact fun x hx => h x (hp.symm.subset hx)
  | some x =>
    have hx := List.mem_of_find?_eq_some h
    have hxl := List.find?_some h
    rw [decide_eq_true_eq] at hxl
    cases h' : r'.find? fun x => decide (x.parts = l) with
    | none =>
      rw [List.find?_eq_none] at h'
      exact absurd (decide_eq_true hxl) (h' x (hp.subset hx))
    | some y =>
      have hy := hp.symm.subset (List.mem_of_find?_eq_some h')
      have hyl := List.find?_some h'
      rw [decide_eq_true_eq] at hyl
      congr 1
      have : ∀ {r : List ItemD}, (r.map (·.parts)).Nodup → ∀ x ∈ r, ∀ y ∈ r, x.parts = y.parts → x = y := by
        intro r
        induction r with
        | nil => intro _ x hx; cases hx
        | cons a r ih =>
          intro hn x hx y hy e
          rw [List.map_cons, List.nodup_cons] at hn
          rcases List.mem_cons.1 hx with rfl | hx2
          · rcases List.mem_cons.1 hy with rfl | hy2
            · rfl
            · exact (hn.1 (by rw [e]; exact List.mem_map_of_mem (f := fun x : ItemD => x.parts) hy2)).elim
          · rcases List.mem_cons.1 hy with rfl | hy2
            · exact (hn.1 (by rw [← e]; exact List.mem_map_of_mem (f := fun x : ItemD => x.parts) hx2)).elim
            · exact ih hn.2 x hx2 y hy2 e
      exact this hn x hx y hy (hxl.trans hyl.symm)
theorem getKv_find {kv : KV} (hk : Keyed kv) (l : List ByteArray) : (getKv kv (keyS l)).map (·.d) = (kv.map (·.2.d)).find? fun x => decide (x.parts = l) := by
  obtain ⟨hk1, hn1⟩ := hk
  clear hn1
  unfold getKv
  induction kv with
  | nil => rfl
  | cons p kv ih =>
    have hp := hk1 p (by simp)
    have e : decide (p.1 = keyS l) = decide (p.2.d.parts = l) := by
      rw [Bool.eq_iff_iff, decide_eq_true_eq, decide_eq_true_eq, hp]
      exact ⟨fun e => keyS_inj e, fun e => by rw [e]⟩
    rw [List.map_cons, List.find?_cons, List.find?_cons, e]
    cases decide (p.2.d.parts = l) with
    | true => rfl
    | false => exact ih fun p hp => hk1 p (List.mem_cons_of_mem _ hp)
theorem Rep.get {kv : KV} {r : List ItemD} (h : Rep kv r) (hk : Keyed kv) (l : List ByteArray) : (getKv kv (keyS l)).map (·.d.v) = getI' r l := by
  have h1 := getKv_find hk l
  have hn : ((kv.map (·.2.d)).map (·.parts)).Nodup := (List.Perm.nodup_iff (h.perm.map _)).2 (sortedI_nodup h.sorted)
  rw [find_perm h.perm hn] at h1
  unfold getI'
  rw [← h1]
  cases getKv kv (keyS l) <;> rfl
theorem getKv_put {kv : KV} {k : ByteArray} {x : QV} : getKv (putKv kv k x) k = some x := by rw [getKv_putKv, if_pos rfl]
/-- the document's Drop -/
def dropI' (r : List ItemD) (dir : List ByteArray) : List ItemD := r.filter fun x => !within dir x.parts
theorem Rep.drop {kv kv' : KV} {r : List ItemD} (h : Rep kv r) {dir : List ByteArray} (hp : kv'.Perm (kv.filter (nw dir))) : Rep kv' (dropI' r dir) ∧ (kv.filter (wi dir)).length + (dropI' r dir).length = r.length := by
  have e1 : (kv.filter (nw dir)).map (·.2.d) = (kv.map (·.2.d)).filter fun x => !within dir x.parts := by
    rw [List.filter_map]; rfl
  refine ⟨⟨(hp.map _).trans (by rw [e1]; exact h.perm.filter _), List.Pairwise.sublist List.filter_sublist h.sorted⟩, ?_⟩
  have h1 : (dropI' r dir).length = (kv.filter (nw dir)).length := by
    have := (h.perm.filter fun x => !within dir x.parts).length_eq
    rw [← e1, List.length_map] at this
    exact this.symm
  rw [h1, ← h.perm.length_eq, List.length_map]
  have : ∀ kv : KV, (kv.filter (wi dir)).length + (kv.filter (nw dir)).length = kv.length := by
    intro kv
    induction kv with
    | nil => rfl
    | cons p kv ih =>
      rw [List.filter_cons, List.filter_cons]
      unfold wi nw at *
      cases within dir p.2.d.parts <;> simp <;> omega
  exact this kv
theorem Rep.items {kv : KV} {r : List ItemD} (h : Rep kv r) {lo : List OV} (hp : (lo.map (·.d)).Perm (kv.map (·.2.d))) (hs : lo.Pairwise fun x y => aheadL y.d.parts x.d.parts = false) : lo.map (·.d) = r := by
  have hpr := hp.trans h.perm
  have hn : ((lo.map (·.d)).map (·.parts)).Nodup := (List.Perm.nodup_iff (hpr.map _)).2 (sortedI_nodup h.sorted)
  refine sortedI_unique ?_ h.sorted hpr
  unfold SortedI
  rw [List.pairwise_map]
  rw [List.nodup_iff_pairwise_ne, List.pairwise_map, List.pairwise_map] at hn
  refine (hs.and hn).imp fun {x y} hxy => ?_
  cases hc : aheadL x.d.parts y.d.parts with
  | true => rfl
  | false => exact absurd (aheadL_tri hc hxy.1) hxy.2
theorem Rep.length {kv : KV} {r : List ItemD} (h : Rep kv r) : kv.length = r.length := by have := h.perm.length_eq; rwa [List.length_map] at this
end Go.Proofs.YtdmpdinaineiiaaDoor
