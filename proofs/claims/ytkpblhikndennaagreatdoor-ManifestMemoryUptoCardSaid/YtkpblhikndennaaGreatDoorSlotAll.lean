/- Byte lists that lie at the head of a block of their own: looked at, written into, grown; what stands beside them stays. No condition. Lines whose data lie in blocks of their own. No condition. valiseref00.Apart answers true of lists that lie in blocks of their own, no two in one. No condition but room. -/
import Derived.Test.YtkpblhikndennaaGreatDoorEscAll
import Derived.Deep.AppendSrc
import Derived.Lib.AppendZerosOnto
import Derived.Test.YtkpblhikndennaaGreatDoorDataAll
namespace Go.Proofs.YtkpblhikndennaaGreatDoor
open Go.RowKit
set_option linter.unusedVariables false
set_option linter.unusedSimpArgs false
set_option linter.unusedSectionVars false
abbrev U8 : TypeId := 5
/-- a byte list's value: nothing, or a block from its head on: so many elements, so much room -/
structure Slot where
  g : Option Nat
  n : Nat
  c : Nat
def slotV (s : Slot) : Value := .slice (s.g.map fun g => ⟨g, 0, none⟩) s.n s.c
/-- the slot holds the cells ms, and its room may be written -/
def SlotOk (w : World) (e : TypeId) (s : Slot) (ms : List Value) : Prop :=
  ms.length = s.n ∧ match s.g with
    | none => s.n = 0 ∧ s.c = 0
    | some g => s.n ≤ s.c ∧ s.c ≤ maxLen ∧ ∃ (cur : Array Value) (fz : Nat × Nat), w.heap[g]? = some (.cells cur e fz) ∧ (∀ j, j < s.c → ¬ (fz.1 ≤ j ∧ j < fz.2)) ∧ cur.size = s.c ∧ cur.toList.take s.n = ms
section
variable {w w' : World} {e : TypeId} {s : Slot} {ms : List Value}
theorem SlotOk.keep (h : SlotOk w e s ms) (hk : ∀ g, s.g = some g → w'.heap[g]? = w.heap[g]?) : SlotOk w' e s ms := by
  obtain ⟨h1, h2⟩ := h
  refine ⟨h1, ?_⟩
  revert h2
  cases hs : s.g with
  | none => exact id
  | some g =>
    rintro ⟨a, b, cur, fz, c, d⟩
    exact ⟨a, b, cur, fz, (hk g hs).trans c, d⟩
theorem SlotOk.lt (h : SlotOk w e s ms) {g : Nat} (hs : s.g = some g) : g < w.heap.size := by
  obtain ⟨_, h2⟩ := h
  rw [hs] at h2
  obtain ⟨_, _, cur, fz, c, _⟩ := h2
  exact (Array.getElem?_eq_some_iff.1 c).1
theorem SlotOk.shorter {u : Slot} {ks : List Value} (h : SlotOk w e u (ms ++ ks)) (hg : s.g = u.g) (hc : s.c = u.c) (hn : ms.length = s.n) : SlotOk w e s ms := by
  obtain ⟨h1, h2⟩ := h
  refine ⟨hn, ?_⟩
  rw [hg]
  revert h2
  cases u.g with
  | none => rintro ⟨a, b⟩; rw [List.length_append] at h1; exact ⟨by omega, by omega⟩
  | some g =>
    rintro ⟨a, b, cur, fz, c, d, f, k⟩
    rw [List.length_append] at h1
    refine ⟨by omega, by omega, cur, fz, c, fun j hj => d j (by omega), by omega, ?_⟩
    have := congrArg (List.take s.n) k
    rw [List.take_take, ← hn, List.take_left', Nat.min_eq_left (by omega)] at this
    · rw [← hn]; exact this
    · rfl
theorem frozen_no {w : World} {e : TypeId} {g k : Nat} {cur : Array Value} {fz : Nat × Nat} (c : w.heap[g]? = some (.cells cur e fz)) (d : ¬ (fz.1 ≤ k ∧ k < fz.2)) : w.frozen? ⟨g, k, none⟩ = false := by
  obtain ⟨a, b⟩ := fz
  unfold World.frozen?
  rw [c]
  show (decide (a ≤ k) && decide (k < b)) = false
  rw [← Bool.decide_and]
  exact decide_eq_false d
/-- a cell of a slot -/
theorem SlotOk.cell (h : SlotOk w e s ms) {g : Nat} (hs : s.g = some g) {k : Nat} {v : Value} (hv : ms[k]? = some v) : w.cell? ⟨g, k, none⟩ = some v ∧ w.frozen? ⟨g, k, none⟩ = false := by
  obtain ⟨h1, h2⟩ := h
  rw [hs] at h2
  obtain ⟨a, b, cur, fz, c, d, f, q⟩ := h2
  have hk : k < ms.length := (List.getElem?_eq_some_iff.1 hv).1
  have hq : cur[k]? = some v := by rw [← q, List.getElem?_take, if_pos (by omega), Array.getElem?_toList] at hv; exact hv
  constructor
  · simp only [World.cell?, c, Option.bind_some]
    first
      | exact hq
      | simpa using hq
  · exact frozen_no c (d k (by omega))
/-- a cell of a slot is written -/
theorem SlotOk.set_ (h : SlotOk w e s ms) {g : Nat} (hs : s.g = some g) (k : Nat) (v : Value) : SlotOk (w.setCell ⟨g, k, none⟩ v) e s (ms.set k v) := by
  obtain ⟨h1, h2⟩ := h
  rw [hs] at h2
  obtain ⟨a, b, cur, fz, c, d, f, q⟩ := h2
  refine ⟨by rw [List.length_set]; exact h1, ?_⟩
  rw [hs]
  exact ⟨a, b, cur.setIfInBounds k v, fz, by simp [World.setCell, Array.getElem?_modify, c], d, by simpa using f, by rw [Array.toList_setIfInBounds, List.take_set, q]⟩
theorem SlotOk.far (h : SlotOk w e s ms) {p : Addr} (hp : s.g ≠ some p.block) (v : Value) : SlotOk (w.setCell p v) e s ms :=
  h.keep fun g hg => Below.heap_setCell w p v g (by intro e; apply hp; rw [hg, e])
end
/-! ### cells in a row written -/
def setL (cur : Array Value) : Nat → List Value → Array Value
  | _, [] => cur
  | o, v :: r => setL (cur.setIfInBounds o v) (o + 1) r
theorem setL_size : ∀ (vs : List Value) (cur : Array Value) (o : Nat), (setL cur o vs).size = cur.size
  | [], _, _ => rfl
  | v :: r, cur, o => by rw [setL, setL_size r]; simp
theorem setL_take : ∀ (vs : List Value) (cur : Array Value) (o : Nat), o + vs.length ≤ cur.size → (setL cur o vs).toList.take (o + vs.length) = cur.toList.take o ++ vs
  | [], cur, o, _ => by simp [setL]
  | v :: r, cur, o, h => by
    have hl : o < cur.toList.length := by simp at h ⊢; omega
    rw [setL, show o + (v :: r).length = o + 1 + r.length from by simp; omega, setL_take r _ (o + 1) (by simp at h ⊢; omega), Array.toList_setIfInBounds, List.take_set, List.take_succ_eq_append_getElem hl]
    rw [List.set_append_right _ _ (by rw [List.length_take]; omega), List.length_take, Nat.min_eq_left (by omega), Nat.sub_self]
    simp
theorem heap_setCells {g : Nat} {t : TypeId} {fz : Nat × Nat} : ∀ (vs : List Value) (w : World) (cur : Array Value) (o : Nat), w.heap[g]? = some (.cells cur t fz) → (w.setCells g o vs).heap[g]? = some (.cells (setL cur o vs) t fz)
  | [], w, cur, o, h => h
  | v :: r, w, cur, o, h => by
    rw [World.setCells, setL]
    exact heap_setCells r _ _ _ (by simp [World.setCell, Array.getElem?_modify, h])
theorem heap_setCells_far {g b : Nat} (hb : b ≠ g) : ∀ (vs : List Value) (w : World) (o : Nat), (w.setCells g o vs).heap[b]? = w.heap[b]?
  | [], _, _ => rfl
  | v :: r, w, o => by rw [World.setCells, heap_setCells_far hb r]; exact Below.heap_setCell w _ v b hb
theorem setCells_size (g : Nat) : ∀ (vs : List Value) (w : World) (o : Nat), (w.setCells g o vs).heap.size = w.heap.size
  | [], _, _ => rfl
  | v :: r, w, o => by rw [World.setCells, setCells_size g r]; simp
theorem setCells_rest (g : Nat) : ∀ (vs : List Value) (w : World) (o : Nat), (w.setCells g o vs).os = w.os ∧ (w.setCells g o vs).tape = w.tape ∧ (w.setCells g o vs).output = w.output
  | [], _, _ => ⟨rfl, rfl, rfl⟩
  | v :: r, w, o => by rw [World.setCells]; exact setCells_rest g r _ _
/-- what an append to a slot leaves -/
structure Grew (w w' : World) (e : TypeId) (s s' : Slot) (ms ks : List Value) : Prop where
  new_ : SlotOk w' e s' (ms ++ ks)
  old_ : SlotOk w' e s ms
  size : w.heap.size ≤ w'.heap.size
  os : w'.os = w.os
  tape : w'.tape = w.tape
  output : w'.output = w.output
  block : ∀ b, b < w.heap.size → some b ≠ s.g → w'.heap[b]? = w.heap[b]?
  at_ : (s'.g = s.g ∧ s'.c = s.c) ∨ (∃ g, s'.g = some g ∧ w.heap.size ≤ g)
theorem grew_room {w : World} {e : TypeId} {s : Slot} {ms ks : List Value} {g : Nat} (h : SlotOk w e s ms) (hs : s.g = some g) (hr : s.n + ks.length ≤ s.c) : Grew w (w.setCells g s.n ks) e s { s with n := s.n + ks.length } ms ks := by
  obtain ⟨h1, h2⟩ := h
  have h2' := h2
  rw [hs] at h2
  obtain ⟨a, b, cur, fz, c, d, f, q⟩ := h2
  have hh := heap_setCells ks w cur s.n c
  have hz := setL_size ks cur s.n
  have ht := setL_take ks cur s.n (by omega)
  rw [q] at ht
  have hnew : SlotOk (w.setCells g s.n ks) e { s with n := s.n + ks.length } (ms ++ ks) := by
    refine ⟨by rw [List.length_append, h1], ?_⟩
    show match s.g with | none => _ | some g => _
    rw [hs]
    exact ⟨hr, b, _, fz, hh, d, hz.trans f, ht⟩
  refine ⟨hnew, hnew.shorter rfl rfl h1, by rw [setCells_size]; exact Nat.le_refl _, (setCells_rest g ks w s.n).1, (setCells_rest g ks w s.n).2.1, (setCells_rest g ks w s.n).2.2, fun b' hb hne => heap_setCells_far (fun e => hne (by rw [e, hs])) ks w s.n, .inl ⟨rfl, rfl⟩⟩
theorem grew_none {w : World} {e : TypeId} {s : Slot} {ms ks : List Value} {cap : Nat} {Z : Array Value} (h : SlotOk w e s ms) (hc : s.n + ks.length ≤ cap) (hm : cap ≤ maxLen) (hZ : Z.size = cap - (s.n + ks.length)) :
    Grew w (w.drew.alloc (.cells ((ms ++ ks).toArray ++ Z) e)) e s ⟨some w.heap.size, s.n + ks.length, cap⟩ ms ks := by
  have h1 := h.1
  refine ⟨⟨by rw [List.length_append, h1], hc, hm, _, (0, 0), heap_alloc_new w.drew _, fun j hj h => Nat.not_lt_zero _ h.2, ?_, ?_⟩, h.keep fun g hg => ?_, by simp, rfl, rfl, rfl, fun b hb _ => Below.heap_alloc w.drew _ b hb, .inr ⟨_, rfl, Nat.le_refl _⟩⟩
  · show ((ms ++ ks).toArray ++ Z).size = cap
    rw [Array.size_append, hZ, List.size_toArray, List.length_append]; omega
  · show (((ms ++ ks).toArray ++ Z).toList.take (s.n + ks.length)) = ms ++ ks
    rw [Array.toList_append]; simp only [List.toList_toArray]; rw [← h1, ← List.length_append]; exact List.take_left' rfl
  · exact Below.heap_alloc w.drew _ g (h.lt hg)
theorem zeroCells_size (z : Array Value) (n : Nat) : (Builtin.zeroCells z n).size = n * z.size := by unfold Builtin.zeroCells; simp
theorem zeroCells_one {z : Array Value} {n : Nat} (h : ∀ v ∈ z, v.oneCell' = true) {v : Value} (hv : v ∈ (Builtin.zeroCells z n).toList) : v.oneCell' = true := by
  unfold Builtin.zeroCells at hv
  rw [Array.mem_toList_iff, Array.mem_map] at hv
  obtain ⟨i, hi, rfl⟩ := hv
  rw [Array.mem_range] at hi
  have hz : 0 < z.size := by
    rcases Nat.eq_zero_or_pos z.size with h0 | h0
    · rw [h0, Nat.mul_zero] at hi; omega
    · exact h0
  have hlt : i % z.size < z.size := Nat.mod_lt _ hz
  rw [getElem!_pos z (i % z.size) hlt]
  exact h _ (Array.getElem_mem hlt)
section
variable {P : Program} {w : World} {e : TypeId} {s : Slot} {ms : List Value}
theorem slot_first {i : TypeInfo} (hi : i.size = 1) (h : SlotOk w e s ms) (w' : World) (hw : ∀ g, s.g = some g → w'.heap[g]? = w.heap[g]?) : (Builtin.firstCells i.size s.n (slotV s)).run P w' = .ok ms.toArray w' := by
  have h' := h.keep hw
  have h1 := h.1
  unfold slotV
  cases hs : s.g with
  | none =>
    have h2 := h.2
    rw [hs] at h2
    obtain rfl : ms = [] := List.eq_nil_of_length_eq_zero (by rw [h1, h2.1])
    exact run_firstCells_none w' _ _ _ _
  | some g =>
    rw [hi]
    exact run_firstCells_some w' 1 s.n ⟨g, 0, none⟩ s.n s.c ms (by omega) fun j u hu => by
      have := (h'.cell hs hu).1
      unfold Addr.add
      by_cases hj : j = 0
      · subst hj; simpa using this
      · rw [if_neg hj]; simpa using this
/-- append of cells that lie somewhere -/
theorem slot_append {t tx ty : TypeId} {i : TypeInfo} {z : Value} (ht : P.underlying t = some (.slice e)) (hi : P.info? e = some i) (hz : i.zero = some z) (hs1 : i.size = 1) (hzs : z.cells.size = 1) (hb1 : i.bytes = 1) (h : SlotOk w e s ms) {x : Value} {n : Nat} {news : List Value} (hx : Go.Src P i.size tx x n news w) (hroom : s.n + n ≤ 100000000000) :
    ∃ s' w', (Builtin.append_ #[t, tx] ty #[slotV s, x]).run P w = .ok (slotV s') w' ∧ Grew w w' e s s' ms news ∧ s'.n = s.n + n := by
  have hn : news.length = n := by rw [hx.newsLen, hs1, Nat.mul_one]
  have h1 := h.1
  by_cases hr : s.n + n ≤ s.c
  · cases hg : s.g with
    | none =>
      have h2 := h.2
      rw [hg] at h2
      have hn0 : n = 0 := by omega
      have hs0 : s.n = 0 := h2.1
      have hk : news = [] := List.eq_nil_of_length_eq_zero (by omega)
      subst hk hn0
      refine ⟨s, w, ?_, ⟨by simpa using h, h, Nat.le_refl _, rfl, rfl, rfl, fun _ _ _ => rfl, ?_⟩, by omega⟩
      · unfold slotV
        rw [hg]
        have hc := hx.cells
        have hr' : s.n ≤ s.c := by omega
        rcases hx.kind with ⟨e', hk⟩ | hk <;> simp [Builtin.append_, run_underlying ht, run_underlying hk, sizeOf, typeInfo, hi, hx.len, hr', hc]
      · exact .inl ⟨rfl, rfl⟩
    | some g =>
      have hq := run_append_room_src (P := P) w t tx ty e i ht hi g 0 s.n s.c x n news hx hr (fun j hj => ?_) (fun j hj => ?_)
      · rw [hs1, Nat.mul_one, Nat.zero_add] at hq
        refine ⟨{ s with n := s.n + n }, _, ?_, by rw [← hn]; exact grew_room h hg (by omega), rfl⟩
        unfold slotV
        rw [hg]
        exact hq
      · obtain ⟨_, h2⟩ := h
        rw [hg] at h2
        obtain ⟨a, b, cur, fz, c, d, f, q⟩ := h2
        have hlt : s.n + j < cur.size := by omega
        rw [hs1, Nat.mul_one, Nat.zero_add]
        simp only [World.cell?, c, Option.bind_some]
        simp [hlt]
      · obtain ⟨_, h2⟩ := h
        rw [hg] at h2
        obtain ⟨a, b, cur, fz, c, d, f, q⟩ := h2
        rw [hs1, Nat.mul_one, Nat.zero_add]
        exact frozen_no c (d (s.n + j) (by omega))
  · have hold : (Builtin.firstCells i.size s.n (.slice (s.g.map fun g => ⟨g, 0, none⟩) s.n s.c)).run P w.drew = .ok ms.toArray w.drew := slot_first hs1 h w.drew (fun g hg => rfl)
    have hq := run_append_grow_src (P := P) w t tx ty e i z ht hi hz (s.g.map fun g => ⟨g, 0, none⟩) s.n s.c ms hold x n news hx (by omega) (by omega) (by
      have := nextslicecap_le (need := s.n + n) (old := s.c) (by omega)
      rw [hb1]; omega)
    have hcap := grownCap_ge w (s.n + n) s.c e
    have hmx := grownCap_le_maxLen w (s.n + n) s.c e (by simp [maxLen]; omega)
    refine ⟨⟨some w.heap.size, s.n + n, grownCap w (s.n + n) s.c e⟩, _, hq, ?_, rfl⟩
    have := grew_none (ks := news) (cap := grownCap w (s.n + n) s.c e) (Z := Builtin.zeroCells z.cells (grownCap w (s.n + n) s.c e - (s.n + n))) h (by omega) hmx (by rw [zeroCells_size, hzs, hn, Nat.mul_one])
    rw [hn] at this
    exact this
/-- append of n noughts -/
theorem slot_zeros {t tn ty : TypeId} {i : TypeInfo} {z : Value} {kq kn : IntKind} (ht : P.underlying t = some (.slice e)) (htn : P.underlying tn = some (.int kn)) (hi : P.info? e = some i) (hz : i.zero = some z) (hs1 : i.size = 1) (hzs : z.cells.size = 1) (hb1 : i.bytes = 1) (hz1 : ∀ v ∈ z.cells, v.oneCell' = true) (h : SlotOk w e s ms) {k : Nat} (h0 : 0 < k) (hroom : s.n + k ≤ 100000000000) :
    ∃ s' w' ks, (Builtin.append_ #[t, tn] ty #[slotV s, .int kq k]).run P w = .ok (slotV s') w' ∧ Grew w w' e s s' ms ks ∧ s'.n = s.n + k := by
  have h1 := h.1
  have hn : (Builtin.zeroCells z.cells k).toList.length = k := by rw [Array.length_toList, zeroCells_size, hzs, Nat.mul_one]
  by_cases hr : s.n + k ≤ s.c
  · cases hg : s.g with
    | none =>
      have h2 := h.2
      rw [hg] at h2
      omega
    | some g =>
      have hw1 : IntKind.i64.wrap (k : Int) = k := by rw [IntKind.wrap_i64]; omega
      have hneg : ¬ ((k : Int) < 0) := by omega
      have hns : ¬ (k = 0) := by omega
      have h48i : ¬ (281474976710656 < (k : Int)) := by omega
      have hc : ∀ j, j < (Builtin.zeroCells z.cells k).toList.length → (w.cell? ⟨g, s.n + j, none⟩).isSome = true ∧ w.frozen? ⟨g, s.n + j, none⟩ = false := by
        intro j hj
        obtain ⟨_, h2⟩ := h
        rw [hg] at h2
        obtain ⟨a, b, cur, fz, c, d, f, q⟩ := h2
        have hlt : s.n + j < cur.size := by omega
        refine ⟨?_, frozen_no c (d (s.n + j) (by omega))⟩
        simp only [World.cell?, c, Option.bind_some]
        simp [hlt]
      have hst := run_storeCells_cells (P := P) g s.n (Builtin.zeroCells z.cells k).toList 0 w (fun j hj => by simpa using (hc j hj).1) (fun j hj => by simpa using (hc j hj).2) (fun v hv => zeroCells_one hz1 hv)
      simp only [Nat.add_zero] at hst
      refine ⟨{ s with n := s.n + k }, w.setCells g s.n (Builtin.zeroCells z.cells k).toList, (Builtin.zeroCells z.cells k).toList, ?_, by have := grew_room (ks := (Builtin.zeroCells z.cells k).toList) h hg (by omega); rw [hn] at this; exact this, rfl⟩
      unfold slotV
      rw [hg]
      simp [Builtin.append_, run_underlying ht, run_underlying htn, sizeOf, typeInfo, zeroValue, hi, hz, hs1, hb1, asInt, asIntOf, hw1, hns, hneg, h48i, hr, Addr.add_lit, hst]
  · have hold : (Builtin.firstCells i.size s.n (.slice (s.g.map fun g => ⟨g, 0, none⟩) s.n s.c)).run P w.drew = .ok ms.toArray w.drew := slot_first hs1 h w.drew (fun g hg => rfl)
    have hq := Lib.run_append_grow_zeros (P := P) w t tn ty e i z kq kn ht htn hi hz (s.g.map fun g => ⟨g, 0, none⟩) s.n s.c ms hold k h0 (by omega) (by omega) (by omega) (by rw [hb1]; omega) (by
      have := nextslicecap_le (need := s.n + k) (old := s.c) (by omega)
      rw [hb1]; omega)
    have hcap := grownCap_ge w (s.n + k) s.c e
    have hmx := grownCap_le_maxLen w (s.n + k) s.c e (by simp [maxLen]; omega)
    refine ⟨⟨some w.heap.size, s.n + k, grownCap w (s.n + k) s.c e⟩, _, (Builtin.zeroCells z.cells k).toList, hq, ?_, rfl⟩
    have := grew_none (ks := (Builtin.zeroCells z.cells k).toList) (cap := grownCap w (s.n + k) s.c e) (Z := Builtin.zeroCells z.cells (grownCap w (s.n + k) s.c e - (s.n + k))) h (by omega) hmx (by rw [zeroCells_size, hzs, hn, Nat.mul_one])
    rw [hn] at this
    have e1 : (ms ++ (Builtin.zeroCells z.cells k).toList).toArray = ms.toArray ++ Builtin.zeroCells z.cells k := by apply Array.ext'; simp
    rw [e1] at this
    exact this
end
end Go.Proofs.YtkpblhikndennaaGreatDoor
namespace Go.Proofs.YtkpblhikndennaaGreatDoor
open Go.RowKit
set_option linter.unusedVariables false
set_option linter.unusedSimpArgs false
def bV (b : UInt8) : Value := .int .u8 b.toNat
/-- a line, and where its data lie -/
def LineG.rd (w : World) (M : Nat → Prop) (cs : List Value) (p : LineD × Slot) : Prop :=
  LineD.rd w M cs p.1 ∧ cs[7]? = some (slotV p.2) ∧ SlotOk w U8 p.2 (p.1.data.map bV) ∧ ∀ g, p.2.g = some g → M g
abbrev LineS : Type := LineD × Slot
def Shape.LineG : Shape LineS where
  size := 10
  pos := by decide
  rd := LineG.rd
  bulk p := Shape.LineD.bulk p.1
  bpos p := Shape.LineD.bpos p.1
  len := fun {w M cs d} h => Shape.LineD.len h.1
  keep := fun {w w' M cs d} h k => ⟨Shape.LineD.keep h.1 k, h.2.1, h.2.2.1.keep fun g hg => k g (h.2.2.2 g hg), h.2.2.2⟩
  more := fun {w M M' cs d} h k => ⟨Shape.LineD.more h.1 k, h.2.1, h.2.2.1, fun g hg => k g (h.2.2.2 g hg)⟩
  one := fun {w M cs d} h v hv => Shape.LineD.one h.1 v hv
theorem elem_LineG : Elem Tryz.prog 23 46 Shape.LineG 120 := ⟨elem_LineD.ty, elem_LineD.info⟩
theorem Row.plain {w : World} {M : Nat → Prop} {A : Option Addr} {n : Nat} {l : List (LineD × Slot)} (h : Row Shape.LineG w M A n l) : Row Shape.LineD w M A n (l.map (·.1)) := by
  refine ⟨by rw [List.length_map]; exact h.1, fun hn => ?_⟩
  obtain ⟨b, off, e, hb, hi⟩ := h.2 hn
  refine ⟨b, off, e, hb, fun i hil => ?_⟩
  rw [List.length_map] at hil
  obtain ⟨es, hc, hr⟩ := hi i hil
  exact ⟨es, hc, by rw [List.getElem_map]; exact hr.1⟩
def slot0 : Slot := ⟨none, 0, 0⟩
theorem slot0_ok (w : World) (e : TypeId) : SlotOk w e slot0 [] := ⟨rfl, rfl, rfl⟩
theorem lineG_nil {w : World} {M : Nat → Prop} {cs : List Value} {d : LineD} (h : LineD.rd w M cs d) (h7 : cs[7]? = some (.slice none 0 0)) (hd : d.data = []) : Shape.LineG.rd w M cs (d, slot0) :=
  ⟨h, h7, by show SlotOk w U8 slot0 (d.data.map bV); rw [hd]; exact slot0_ok _ _, fun g hg => by cases hg⟩
theorem bytesRow_take (s : ByteArray) (cap : Nat) : (bytesRow s cap).toList.take s.size = s.data.toList.map bV := by
  unfold bytesRow
  rw [Array.toList_append, Array.toList_map]
  exact List.take_left' (by rw [List.length_map, Array.length_toList]; rfl)
theorem run_bytes_slot {P : Program} (src dst : TypeId) (hs : P.underlying src = some .string) (hd : P.underlying dst = some (.slice U8)) (he : P.underlying U8 = some (.int .u8)) (w : World) (l : List UInt8) (hl : l.length ≤ maxLen) :
    ∃ c w', (convert src dst (.string ⟨l.toArray⟩)).run P w = .ok (.slice (some ⟨w.heap.size, 0, none⟩) l.length c) w' ∧ w.grownBy w' none ∧ w'.heap.size = w.heap.size + 1 ∧ l.length ≤ c ∧ c ≤ maxLen ∧
      Row Shape.byte w' (fun n => n = w.heap.size) (some ⟨w.heap.size, 0, none⟩) l.length l ∧ SlotOk w' U8 ⟨some w.heap.size, l.length, c⟩ (l.map bV) := by
  have hsz : (⟨l.toArray⟩ : ByteArray).size = l.length := by simp [ByteArray.size]
  have hrun := run_bytes_of_string (P := P) w src dst U8 ⟨l.toArray⟩ hs hd he
  rw [hsz] at hrun
  have hge := grownCap_ge w l.length 0 U8
  have hle := grownCap_le_maxLen w l.length 0 U8 hl
  have hsize : (bytesRow ⟨l.toArray⟩ (grownCap w l.length 0 U8)).size = grownCap w l.length 0 U8 := by
    unfold bytesRow
    rw [Array.size_append, Array.size_map, Array.size_replicate, hsz]
    show l.toArray.size + _ = _
    rw [List.size_toArray]
    omega
  refine ⟨_, _, hrun, ⟨rfl, rfl, rfl, by simp, fun k hk _ => Below.heap_alloc w.drew _ k hk⟩, by simp, hge, hle, ⟨rfl, fun _ => ⟨_, 0, rfl, rfl, fun i hi => ⟨[.int .u8 l[i].toNat], fun j hj => ?_, rfl⟩⟩⟩, ⟨by simp, hge, hle, _, _, heap_alloc_new w.drew _, fun j hj => ?_, hsize, ?_⟩⟩
  · have e13 : Shape.byte.size = 1 := rfl
    have : j = 0 := by omega
    subst this
    have h := World.cell?_alloc_mark w.drew (bytesRow ⟨l.toArray⟩ (grownCap w l.length 0 U8)) U8 ((bytesRow ⟨l.toArray⟩ (grownCap w l.length 0 U8)).size, (bytesRow ⟨l.toArray⟩ (grownCap w l.length 0 U8)).size + 1) i
    rw [bytesRow_at ⟨l.toArray⟩ _ i (by simpa using hi)] at h
    simpa [e13] using h
  · show ¬ ((bytesRow _ _).size ≤ j ∧ j < _)
    rw [hsize]
    intro h
    have : j < grownCap w l.length 0 U8 := hj
    omega
  · have := bytesRow_take ⟨l.toArray⟩ (grownCap w l.length 0 U8)
    rw [hsz] at this
    exact this
end Go.Proofs.YtkpblhikndennaaGreatDoor
namespace Go.Proofs.YtkpblhikndennaaGreatDoor
open Go.RowKit
set_option linter.unusedVariables false
set_option linter.unusedSimpArgs false
set_option linter.unusedSectionVars false
attribute [local go_sem] cell?_over frozen?_over lt_over le_over
/-- lists in blocks of their own: their values lie in a row, no two share a block, none lies in the row's -/
structure Ap (w : World) (b off B N : Nat) (ss : List Slot) (f : Nat → List Value) : Prop where
  row : ∀ i (hi : i < ss.length), w.cell? ⟨b, off + i, none⟩ = some (slotV ss[i])
  ok : ∀ i (hi : i < ss.length), SlotOk w U8 ss[i] (f i)
  blt : b < N
  size : N ≤ w.heap.size
  base : B ≤ N
  dist : ∀ i j (hi : i < ss.length) (hj : j < ss.length) g, ss[i].g = some g → ss[j].g = some g → i = j
  away : ∀ i (hi : i < ss.length) g, ss[i].g = some g → g ≠ b ∧ B ≤ g ∧ g < N
def RelS (N : Nat) (s u : Slot) : Prop := (u.g = s.g ∧ u.c = s.c) ∨ ∃ g, u.g = some g ∧ N ≤ g
section
variable {w w' : World} {b off B N : Nat} {ss : List Slot} {f : Nat → List Value}
theorem Ap.alloc (h : Ap w b off B N ss f) (o : Obj) : Ap (w.alloc o) b off B N ss f :=
  ⟨fun i hi => by
      have hb : b < w.heap.size := Nat.lt_of_lt_of_le h.blt h.size
      rw [World.cell?_of_block (w := w) (Below.heap_alloc w o b hb)]; exact h.row i hi, fun i hi => (h.ok i hi).keep fun g hg => Below.heap_alloc w o g ((h.ok i hi).lt hg), h.blt, by have := h.size; simp; omega, h.base, h.dist, h.away⟩
theorem Ap.set_ (h : Ap w b off B N ss f) {i : Nat} (hi : i < ss.length) {g : Nat} (hg : ss[i].g = some g) (k : Nat) (v : Value) : Ap (w.setCell ⟨g, k, none⟩ v) b off B N ss (fun j => if j = i then (f i).set k v else f j) := by
  refine ⟨fun j hj => ?_, fun j hj => ?_, h.blt, by simpa using h.size, h.base, h.dist, h.away⟩
  · rw [World.cell?_of_block (w := w) (Below.heap_setCell w ⟨g, k, none⟩ v b (fun e => (h.away i hi g hg).1 e.symm))]
    exact h.row j hj
  · by_cases hj' : j = i
    · subst hj'
      rw [if_pos rfl]
      exact (h.ok j hj).set_ hg k v
    · rw [if_neg hj']
      exact (h.ok j hj).far (fun e => hj' (h.dist j i hj hi g e hg)) v
theorem Ap.grow (h : Ap w b off B N ss f) {i : Nat} (hi : i < ss.length) {u u' : Slot} {ks news : List Value} (hr : RelS N ss[i] u) (hg : Grew w w' U8 u u' (f i ++ ks) news) : Ap w' b off B N ss f ∧ RelS N ss[i] u' ∧ Below B w w' := by
  have hsz := h.size
  have hb := h.blt
  have hne : ∀ n, n < N → n ≠ b → True := fun _ _ _ => trivial
  refine ⟨⟨fun j hj => ?_, fun j hj => ?_, h.blt, Nat.le_trans h.size hg.size, h.base, h.dist, h.away⟩, ?_, ⟨hg.os, hg.tape, hg.output, hg.size, fun n hn => ?_⟩⟩
  · refine (World.cell?_of_block (w := w) (hg.block b (by omega) ?_)).trans (h.row j hj)
    intro e
    rcases hr with ⟨e1, _⟩ | ⟨g, e1, e2⟩
    · exact (h.away i hi b (e1.symm.trans e.symm)).1 rfl
    · rw [e1] at e; injection e with e; omega
  · by_cases hj' : j = i
    · subst hj'
      rcases hr with ⟨e1, e2⟩ | ⟨g, e1, e2⟩
      · exact hg.old_.shorter e1.symm e2.symm (h.ok j hj).1
      · exact (h.ok j hj).keep fun g' hg' => hg.block g' ((h.ok j hj).lt hg') (by intro e; rw [e1] at e; injection e with e; have := (h.away j hj g' hg').2.2; omega)
    · refine (h.ok j hj).keep fun g' hg' => hg.block g' ((h.ok j hj).lt hg') ?_
      intro e
      rcases hr with ⟨e1, _⟩ | ⟨g, e1, e2⟩
      · exact hj' (h.dist j i hj hi g' hg' (e1.symm.trans e.symm))
      · rw [e1] at e; injection e with e; have := (h.away j hj g' hg').2.2; omega
  · rcases hg.at_ with ⟨e1, e2⟩ | ⟨g, e1, e2⟩
    · rcases hr with ⟨e3, e4⟩ | ⟨g, e3, e4⟩
      · exact .inl ⟨e1.trans e3, e2.trans e4⟩
      · exact .inr ⟨g, e1.trans e3, e4⟩
    · exact .inr ⟨g, e1, by omega⟩
  · have := h.base
    refine hg.block n (by omega) ?_
    intro e
    rcases hr with ⟨e1, _⟩ | ⟨g, e1, e2⟩
    · have := (h.away i hi n (e1.symm.trans e.symm)).2.1; omega
    · rw [e1] at e; injection e with e; omega
theorem Ap.to {f' : Nat → List Value} (h : Ap w b off B N ss f) (hf : ∀ i, i < ss.length → f i = f' i) : Ap w b off B N ss f' :=
  ⟨h.row, fun i hi => by rw [← hf i hi]; exact h.ok i hi, h.blt, h.size, h.base, h.dist, h.away⟩
end
theorem info_byte : ∃ i, Tryz.prog.info? U8 = some i ∧ i.zero = some (.int .u8 0) ∧ i.size = 1 ∧ i.bytes = 1 := by
  have h : (Tryz.prog.info? U8).map (fun i => (i.size, i.bytes, i.zero)) = some (1, 1, some (.int .u8 0)) := by kernel_rfl
  rw [Option.map_eq_some_iff] at h
  obtain ⟨i, hi, hx⟩ := h
  simp only [Prod.mk.injEq] at hx
  exact ⟨i, hi, hx.2.2, hx.1, hx.2.1⟩
/-- one byte more, out of the next block -/
theorem slot_byte {w : World} {s : Slot} {ms : List Value} (h : SlotOk w U8 s ms) (x : Int) (hroom : s.n ≤ 90000000000) :
    ∃ s' w', (Builtin.append_ #[44, 44] 44 #[slotV s, .slice (some ⟨w.heap.size, 0, none⟩) 1 1]).run Tryz.prog (w.alloc (.cells #[.int .u8 x] U8)) = .ok (slotV s') w' ∧ Grew (w.alloc (.cells #[.int .u8 x] U8)) w' U8 s s' ms [.int .u8 x] ∧ s'.n = s.n + 1 := by
  obtain ⟨i, hi, hz, h1, h2⟩ := info_byte
  refine slot_append (P := Tryz.prog) Tryz.underlying44 hi hz h1 rfl h2 (h.keep fun g hg => Below.heap_alloc w _ g (h.lt hg)) ?_ (by omega)
  rw [h1]
  refine Src.ofSlice (P := Tryz.prog) _ Tryz.underlying44 ⟨w.heap.size, 0, none⟩ 1 1 [.int .u8 x] rfl (fun j u hu => ?_) (by simp; rfl)
  have hj : j = 0 := by
    have := (List.getElem?_eq_some_iff.1 hu).1
    simp at this; exact this
  subst hj
  have hu' : Value.int .u8 x = u := by simpa using hu
  subst hu'
  have h0 : (⟨w.heap.size, 0, none⟩ : Addr).add 0 = ⟨w.heap.size, 0, none⟩ := rfl
  rw [h0]
  exact (Blk.new w U8 #[.int .u8 x]).cell 0
theorem slot_many {w : World} {s : Slot} {ms : List Value} (h : SlotOk w U8 s ms) (hroom : s.n ≤ 90000000000) :
    ∃ s' w' ks, (Builtin.append_ #[44, 3] 44 #[slotV s, .int .i64 600]).run Tryz.prog w = .ok (slotV s') w' ∧ Grew w w' U8 s s' ms ks ∧ s'.n = s.n + 600 := by
  obtain ⟨i, hi, hz, h1, h2⟩ := info_byte
  exact slot_zeros (P := Tryz.prog) (k := 600) Tryz.underlying44 Tryz.underlying3 hi hz h1 rfl h2 (by simp [Value.cells]; rfl) h (by omega) (by omega)
/-- a list's mark -/
def mk (i : Nat) : Value := .int .u8 (IntKind.u8.wrap (7 * (i : Int) + 1))
theorem slotV_some {s : Slot} {g : Nat} (h : s.g = some g) : slotV s = .slice (some ⟨g, 0, none⟩) s.n s.c := by unfold slotV; rw [h]; rfl
theorem slot_pos {w : World} {e : TypeId} {s : Slot} {ms : List Value} (h : SlotOk w e s ms) (hn : 0 < s.n) : ∃ g, s.g = some g := by
  have h2 := h.2
  cases hg : s.g with
  | none => rw [hg] at h2; omega
  | some g => exact ⟨g, rfl⟩
set_option maxHeartbeats 1000000 in
set_option maxRecDepth 100000 in
theorem apart {w : World} {b off B cap : Nat} {ss : List Slot} {f0 : Nat → List Value} (h : Ap w b off B w.heap.size ss f0) (hl : ss.length ≤ 100) (hz : ∀ i (hi : i < ss.length), ss[i].n ≤ 1000000000) :
    Calls Tryz.prog 17 #[.slice (some ⟨b, off, none⟩) ss.length cap] w fun e w' => e = .returned (.bool true) ∧ Below B w w' := by
  obtain ⟨N, hN⟩ : ∃ N, N = w.heap.size := ⟨_, rfl⟩
  rw [← hN] at h
  have HH := Lib.hid h; have HZ := Lib.hid hz
  obtain ⟨L, hL⟩ : ∃ L, L = ss.length := ⟨_, rfl⟩
  rw [← hL] at hl ⊢
  have HL := Lib.hid hL
  clear h hz hN hL
  go_enter Tryz.func17, Tryz.ntmps17
  go_wp2_with fail
  go_loopw [3, 4] (fun i t4 wr => ∃ (k : Nat) (f : Nat → List Value), k ≤ L ∧ i = .int .i64 k ∧ Ap wr b off B N ss f ∧ (∀ j (hj : j < ss.length), j < k → f j = List.replicate ss[j].n (mk j)) ∧ Below B w wr) (fun i _ _ => L - (intOf i).toNat)
  case atStart => exact ⟨0, f0, Nat.zero_le _, rfl, HH.out, fun j _ hj => absurd hj (Nat.not_lt_zero _), Below.refl _ _⟩
  case round =>
    obtain ⟨k, f, hk, rfl, hap, hf, hbel⟩ := hrel
    have AP := Lib.hid hap; have HF := Lib.hid hf; have HB := Lib.hid hbel
    clear hap hf hbel HH
    by_cases hlt : k < L
    · have hks : (k : Int) < L := by omega
      have hki : k < ss.length := by rw [← HL.out]; exact hlt
      have hrow := AP.out.row k hki
      obtain ⟨sl, hsl⟩ : ∃ s, s = ss[k] := ⟨_, rfl⟩
      have hnk := HZ.out k hki
      rw [← hsl] at hrow hnk
      have HSL := Lib.hid hsl
      unfold slotV at hrow
      have lb : b < wr.heap.size := Nat.lt_of_lt_of_le AP.out.blt AP.out.size
      clear hsl
      go_wp2_with fail
      go_loopw [4] (fun i wq => ∃ (q : Nat) (f' : Nat → List Value), q ≤ sl.n ∧ i = .int .i64 q ∧ Ap wq b off B N ss f' ∧ (∀ j (hj : j < ss.length), j < k → f' j = List.replicate ss[j].n (mk j)) ∧ (f' k).take q = List.replicate q (mk k) ∧ Below B w wq) (fun i _ => sl.n - (intOf i).toNat)
      case atStart => exact ⟨0, f, Nat.zero_le _, rfl, AP.out, HF.out, rfl, HB.out⟩
      case round =>
        obtain ⟨q, f', hq, rfl, hap, hf, hfq, hbel⟩ := hrel
        clear hrow lb AP HF HB
        have AP := Lib.hid hap; have HF := Lib.hid hf; have HFQ := Lib.hid hfq; have HB := Lib.hid hbel
        clear hap hf hfq hbel
        have hrow := AP.out.row k hki
        rw [← HSL.out] at hrow
        have lb : b < wr.heap.size := Nat.lt_of_lt_of_le AP.out.blt AP.out.size
        by_cases hlq : q < sl.n
        · have hqs : (q : Int) < sl.n := by omega
          have hok := AP.out.ok k hki
          rw [← HSL.out] at hok
          obtain ⟨g, hg⟩ := slot_pos hok (by omega)
          have hqn : q < (f' k).length := by rw [hok.1]; exact hlq
          obtain ⟨c0, c1⟩ := hok.cell hg (List.getElem?_eq_getElem hqn)
          rw [slotV_some hg] at hrow
          have lg := hok.lt hg
          have HG := Lib.hid hg
          clear hok hg
          have e7 : IntKind.i64.wrap (7 * (k : Int)) = 7 * (k : Int) := by rw [IntKind.wrap_i64]; omega
          have e8 : IntKind.i64.wrap (7 * (k : Int) + 1) = 7 * (k : Int) + 1 := by rw [IntKind.wrap_i64]; omega
          go_wp2_with fail
          go_roundw
          case rel =>
            refine ⟨q + 1, _, by omega, by go_num, AP.out.set_ hki (HSL.out ▸ HG.out) q (mk k), ?_, ?_, ?_⟩
            · intro j hj hjk
              rw [if_neg (by omega)]
              exact HF.out j hj hjk
            · rw [if_pos rfl, List.take_set, List.take_succ_eq_append_getElem hqn, HFQ.out, List.set_append_right _ _ (by simp), List.length_replicate, Nat.sub_self, List.replicate_succ']
              rfl
            · exact HB.out.setCell (p := ⟨g, q, none⟩) (AP.out.away k hki g (HSL.out ▸ HG.out)).2.1 _
          case measure => simp [intOf]; omega
        · unfold slotV at hrow
          have hqs : ¬ (q : Int) < sl.n := by omega
          have hqe : q = sl.n := by omega
          go_wp2_with fail
          go_roundw
          case rel =>
            refine ⟨k + 1, f', by omega, by go_num, AP.out, ?_, HB.out⟩
            intro j hj hjk
            by_cases hjk' : j = k
            · subst hjk'
              have h1 := (AP.out.ok j hj).1
              have h2 := HFQ.out
              rw [hqe, HSL.out, ← h1, List.take_length] at h2
              rw [h2, h1]
            · exact HF.out j hj (by omega)
          case measure => simp [intOf]; omega
    · have hke : L = k := by omega
      clear hk hlt
      subst hke
      have AP1 := Lib.hid (AP.out.to (f' := fun j => if h : j < ss.length then List.replicate ss[j].n (mk j) else []) fun j hj => by rw [dif_pos hj]; exact HF.out j hj (by rw [HL.out]; exact hj))
      have HFR : Hid (∀ j (hj : j < ss.length), (if h : j < ss.length then List.replicate ss[j].n (mk j) else []) = List.replicate ss[j].n (mk j)) := Lib.hid fun j hj => dif_pos hj
      generalize hF : (fun j => if h : j < ss.length then List.replicate ss[j].n (mk j) else []) = F at AP1
      have HFR2 : Hid (∀ j (hj : j < ss.length), F j = List.replicate ss[j].n (mk j)) := Lib.hid fun j hj => by rw [← hF]; exact HFR.out j hj
      clear AP HF HFR hF
      go_wp2_with fail
      go_loopw [5, 6, 7, 8] (fun i t6 t7 t8 wq => ∃ k : Nat, k ≤ L ∧ i = .int .i64 k ∧ Ap wq b off B N ss F ∧ Below B w wq) (fun i _ _ _ _ => L - (intOf i).toNat)
      case atStart => exact ⟨0, Nat.zero_le _, rfl, AP1.out, HB.out⟩
      case round =>
        obtain ⟨k, hk, rfl, hap, hbel⟩ := hrel
        clear AP1 HB
        have AP := Lib.hid hap; have HB := Lib.hid hbel
        clear hap hbel
        by_cases hlt : k < L
        · have hks : (k : Int) < L := by omega
          have hki : k < ss.length := by rw [← HL.out]; exact hlt
          have hrow := AP.out.row k hki
          obtain ⟨sl, hsl⟩ : ∃ s, s = ss[k] := ⟨_, rfl⟩
          have hnk := HZ.out k hki
          rw [← hsl] at hrow hnk
          have HSL := Lib.hid hsl
          unfold slotV at hrow
          have lb : b < wr.heap.size := Nat.lt_of_lt_of_le AP.out.blt AP.out.size
          clear hsl
          go_wp2_with fail
          go_loopw [6, 7] (fun one i wq => ∃ (q : Nat) (u : Slot) (ks : List Value), q ≤ 16 ∧ i = .int .i64 q ∧ one = slotV u ∧ SlotOk wq U8 u (F k ++ ks) ∧ u.n = sl.n + q ∧ RelS N sl u ∧ Ap wq b off B N ss F ∧ Below B w wq) (fun _ i _ => 16 - (intOf i).toNat)
          case atStart => exact ⟨0, sl, [], Nat.zero_le _, rfl, rfl, by rw [List.append_nil, HSL.out]; exact AP.out.ok k hki, rfl, .inl ⟨rfl, rfl⟩, AP.out, HB.out⟩
          case round =>
            obtain ⟨q, u, ks, hq, rfl, rfl, hok, hun, hrel, hap, hbel⟩ := hrel
            clear hrow lb AP HB
            have AP := Lib.hid hap; have HB := Lib.hid hbel; have HOK := Lib.hid hok; have HREL := Lib.hid hrel; have HUN := Lib.hid hun
            clear hap hbel hok hrel hun
            by_cases hlq : q < 16
            · have hqs : (q : Int) < 16 := by omega
              have e8 : IntKind.i64.wrap (128 + (k : Int)) = 128 + (k : Int) := by rw [IntKind.wrap_i64]; omega
              obtain ⟨u', w2, hrun, hgrew, hn'⟩ := slot_byte HOK.out (128 + (k : Int)) (by have := HUN.out; omega)
              have HR := Lib.hid hrun; have HG := Lib.hid hgrew; have HN' := Lib.hid hn'
              clear hrun hgrew hn'
              go_wp2_with (first | (at_builtin; go_loud (refine Lib.wpList_append_run _ rfl (.tmp 50) (.tmp 54) _ _ rfl _ _ rfl rfl _ _ HR.out ?_)))
              go_roundw
              case rel =>
                obtain ⟨a1, a2, a3⟩ := (AP.out.alloc (.cells #[.int .u8 (128 + (k : Int))] U8)).grow hki (HSL.out ▸ HREL.out) HG.out
                refine ⟨q + 1, u', ks ++ [.int .u8 (128 + (k : Int))], by omega, by go_num, rfl, by rw [← List.append_assoc]; exact HG.out.new_, by have := HN'.out; have := HUN.out; omega, HSL.out ▸ a2, a1, ?_⟩
                have hB : B ≤ wr.heap.size := Nat.le_trans AP.out.base AP.out.size
                exact (HB.out.alloc hB _).trans a3
              case measure => simp [intOf]; omega
            · have hqs : ¬ (q : Int) < 16 := by omega
              have hq16 : q = 16 := by omega
              subst hq16
              have hrow := AP.out.row k hki
              rw [← HSL.out] at hrow
              unfold slotV at hrow
              have lb : b < wr.heap.size := Nat.lt_of_lt_of_le AP.out.blt AP.out.size
              have hokk := AP.out.ok k hki
              rw [← HSL.out] at hokk
              obtain ⟨m, w2, ks2, hrun, hgrew, hn'⟩ := slot_many hokk (by omega)
              have hone : slotV u = .slice (u.g.map fun g => ⟨g, 0, none⟩) (sl.n + 16) u.c := by unfold slotV; rw [HUN.out]
              rw [hone]
              have hm : slotV m = .slice (m.g.map fun g => ⟨g, 0, none⟩) (sl.n + 600) m.c := by unfold slotV; rw [hn']
              rw [hm] at hrun
              clear hone hm
              have w6 : IntKind.i64.wrap ((sl.n : Int) + 600) = (sl.n : Int) + 600 := by rw [IntKind.wrap_i64]; omega
              have w16 : IntKind.i64.wrap ((sl.n : Int) + 16) = (sl.n : Int) + 16 := by rw [IntKind.wrap_i64]; omega
              have hgr := AP.out.grow (u := sl) (ks := []) hki (HSL.out ▸ .inl ⟨rfl, rfl⟩) (by rw [List.append_nil]; exact hgrew)
              obtain ⟨a1, a2, a3⟩ := hgr
              have AP2 := Lib.hid a1
              have HB2 := Lib.hid (HB.out.trans a3)
              have hrow2 := AP2.out.row k hki
              rw [← HSL.out] at hrow2
              unfold slotV at hrow2
              have lb2 : b < w2.heap.size := Nat.lt_of_lt_of_le AP2.out.blt AP2.out.size
              clear a1 a2 a3
              have HR := Lib.hid hrun; have HG := Lib.hid hgrew; have HN' := Lib.hid hn'
              clear hrun hgrew hn' hokk
              go_wp2_with (first | (at_builtin; go_loud (refine Lib.wpList_append_run _ rfl (.tmp 60) (.const (.int .i64 600)) _ _ rfl _ _ rfl rfl _ _ HR.out ?_)))
              go_roundw
              case rel => exact ⟨k + 1, by omega, by go_num, AP2.out, HB2.out⟩
              case measure => simp [intOf]; omega
        · go_wp2_with fail
          go_loopw [9, 10] (fun i t wq => ∃ k : Nat, k ≤ L ∧ i = .int .i64 k ∧ wq = wr) (fun i _ _ => L - (intOf i).toNat)
          case atStart => exact ⟨0, Nat.zero_le _, rfl, rfl⟩
          case round =>
            obtain ⟨k2, hk2, rfl, rfl⟩ := hrel
            by_cases hlt2 : k2 < L
            · have hks : (k2 : Int) < L := by omega
              have hki : k2 < ss.length := by rw [← HL.out]; exact hlt2
              have hrow := AP.out.row k2 hki
              obtain ⟨sl, hsl⟩ : ∃ s, s = ss[k2] := ⟨_, rfl⟩
              have hnk := HZ.out k2 hki
              rw [← hsl] at hrow hnk
              have HSL := Lib.hid hsl
              unfold slotV at hrow
              have hfr := HFR2.out k2 hki
              rw [← hsl] at hfr
              have hok := AP.out.ok k2 hki
              rw [hfr, ← hsl] at hok
              have HOK := Lib.hid hok
              clear hsl hfr hok
              go_wp2_with fail
              go_loopw [10] (fun i wq => ∃ q : Nat, q ≤ sl.n ∧ i = .int .i64 q ∧ wq = wr) (fun i _ => sl.n - (intOf i).toNat)
              case atStart => exact ⟨0, Nat.zero_le _, rfl, rfl⟩
              case round =>
                obtain ⟨q, hq, rfl, rfl⟩ := hrel
                by_cases hlq : q < sl.n
                · have hqs : (q : Int) < sl.n := by omega
                  obtain ⟨g, hg⟩ := slot_pos HOK.out (by omega)
                  obtain ⟨c0, c1⟩ := HOK.out.cell hg (show (List.replicate sl.n (mk k2))[q]? = some (mk k2) by rw [List.getElem?_replicate, if_pos hlq])
                  have hrow2 : wr.cell? ⟨b, off + k2, none⟩ = some (.slice (some ⟨g, 0, none⟩) sl.n sl.c) := by have := AP.out.row k2 hki; rw [← HSL.out, slotV_some hg] at this; exact this
                  unfold mk at c0
                  have e7 : IntKind.i64.wrap (7 * (k2 : Int)) = 7 * (k2 : Int) := by rw [IntKind.wrap_i64]; omega
                  have e8 : IntKind.i64.wrap (7 * (k2 : Int) + 1) = 7 * (k2 : Int) + 1 := by rw [IntKind.wrap_i64]; omega
                  clear hrow
                  go_wp2_with fail
                  go_roundw
                  case rel => exact ⟨q + 1, by omega, by go_num, trivial⟩
                  case measure => simp [intOf]; omega
                · have hqs : ¬ (q : Int) < sl.n := by omega
                  go_wp2_with fail
                  go_roundw
                  case rel => exact ⟨k2 + 1, by omega, by go_num, trivial⟩
                  case measure => simp [intOf]; omega
            · go_wp2_with fail
              go_ret
              exact ⟨rfl, HB.out⟩
end Go.Proofs.YtkpblhikndennaaGreatDoor
