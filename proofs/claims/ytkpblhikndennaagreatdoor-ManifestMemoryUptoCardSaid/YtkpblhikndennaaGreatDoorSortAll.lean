/- The sort of changes by path. No condition but room. A list of changes of the call's own, sorted in place. No condition but room. -/
import Derived.Test.YtkpblhikndennaaGreatDoorLaySort
import Derived.Test.YtkpblhikndennaaGreatDoorDiffAll
import Derived.Test.YtkpblhikndennaaGreatDoorRefDiffAll
import Derived.Shelf.SlSortCmp.WholeK
namespace Go.Proofs.YtkpblhikndennaaGreatDoor
open Go.RowKit Go.Sort
set_option linter.unusedVariables false
set_option linter.unusedSimpArgs false
attribute [local go_sem] cell?_over frozen?_over lt_over le_over

theorem isNaN_str (x : ByteArray) (w : World) : Calls Tryz.prog 79 #[.string x] w fun e w' => e = .returned (.bool false) ∧ w = w' := by
  go_enter Tryz.func79, Tryz.ntmps79
  go_wp2
  go_ret
  exact ⟨by simp, rfl⟩
def cmpS (a b : ByteArray) : Int := if pl a b then -1 else if pl b a then 1 else 0
theorem cmp_str (x y : ByteArray) (w : World) : Calls Tryz.prog 43 #[.string x, .string y] w fun e w' => e = .returned (.int .i64 (cmpS x y)) ∧ w = w' := by
  cases h1 : pl x y with
  | true =>
    have k1 : Op.bytesLess x.toList y.toList = true := h1
    have E := Lib.hid (show -1 = cmpS x y by simp [cmpS, h1]); clear h1
    go_enter Tryz.func43, Tryz.ntmps43
    go_wp2_with (first | (go_at_call 79; refine (isNaN_str _ _).mono ?_; rintro e w' ⟨rfl, rfl⟩))
    go_ret
    exact ⟨ret_int E.out, rfl⟩
  | false =>
    have k1 : Op.bytesLess x.toList y.toList = false := h1
    cases h2 : pl y x with
    | true =>
      have k2 : Op.bytesLess y.toList x.toList = true := h2
      have kne : (x.toList == y.toList) = false := str_ne (by rintro rfl; rw [pl_irrefl] at h2; cases h2)
      have E := Lib.hid (show 1 = cmpS x y by simp [cmpS, h1, h2]); clear h1 h2
      go_enter Tryz.func43, Tryz.ntmps43
      go_wp2_with (first | (go_at_call 79; refine (isNaN_str _ _).mono ?_; rintro e w' ⟨rfl, rfl⟩))
      go_ret
      exact ⟨ret_int E.out, rfl⟩
    | false =>
      have hxy := pl_tri h1 h2
      have kne : (x.toList == y.toList) = true := str_eq hxy
      have E := Lib.hid (show 0 = cmpS x y by simp [cmpS, h1, h2]); clear h1 h2 hxy
      go_enter Tryz.func43, Tryz.ntmps43
      go_wp2_with (first | (go_at_call 79; refine (isNaN_str _ _).mono ?_; rintro e w' ⟨rfl, rfl⟩))
      go_ret
      exact ⟨ret_int E.out, rfl⟩
def encC (x : ChangeD) : List Value := [.string x.path, .int .i64 x.what]
def cfC (x y : ChangeD) : Int := cmpS x.path y.path
theorem ltC (x y : ChangeD) : ltOf cfC x y = pl x.path y.path := by
  unfold ltOf cfC cmpS
  cases h1 : pl x.path y.path
  · cases h2 : pl y.path x.path <;> simp
  · simp
theorem swoC : SWO (ltOf cfC) where
  irrefl x := by rw [ltC]; exact pl_irrefl _
  trans x y z h1 h2 := by rw [ltC] at *; exact pl_trans h1 h2
  ntrans x y z h1 h2 := by
    rw [ltC] at *
    cases h : pl x.path z.path with
    | false => rfl
    | true =>
      cases hzy : pl z.path y.path with
      | true => rw [pl_trans h hzy] at h1; cases h1
      | false => have := pl_tri h2 hzy; rw [this] at h1; rw [h1] at h; cases h
set_option maxHeartbeats 1000000 in
theorem closureC (x y : ChangeD) (W : World) : Calls Tryz.prog 42 #[.agg #[.string x.path, .int .i64 x.what], .agg #[.string y.path, .int .i64 y.what]] W fun e w' => e = .returned (.int .i64 (cfC x y)) ∧ ∃ q os', w' = grow (W.drewN q) os' := by
  have hcon := fun W' => cmp_str x.path y.path W'
  unfold cfC
  generalize cmpS x.path y.path = r at hcon ⊢
  go_enter Tryz.func42, Tryz.ntmps42
  go_wp2_with (go_at_call 43; refine (hcon _).mono ?_; rintro e w' ⟨rfl, rfl⟩)
  go_ret
  exact ⟨rfl, 0, _, by rw [alloc_eq_grow, alloc_eq_grow, grow_grow]; rfl⟩
theorem cmpLaysC (blk off size : Nat) (w : World) : CmpLays Tryz.prog 42 #[] encC 2 cfC blk off size w :=
  fun _ _ _ _ x y => closureC x y _
theorem sort_calls (blk off cap : Nat) (d : Array ChangeD) (w : World) (hH : HoldsK encC 2 w blk off d) (hblk : blk < w.heap.size) (hsz : d.size < 4611686018427387904) :
    Calls Tryz.prog 41 #[.slice (some ⟨blk, off, none⟩) d.size cap, .func (.func 42) #[] #[]] w fun e w' => e = .returned (.tuple #[]) ∧ ∃ d' n os, PermIn 0 d.size d d' ∧ SortedIn (ltOf cfC) 0 d.size d' ∧ w' = sortWorldK encC 2 w blk off n d' os := by
  have eg : ∀ args w, (callFunc 42 args).run Tryz.prog w = .ok (.enter 42 args) w := enters_of Tryz.func42 (by kernel_rfl) rfl
  have hcon := AnyQ.slices_SortFunc Tryz.sortCh 2 Tryz.isAgg52 Tryz.sizeOf52 encC (fun _ => rfl) (fun x v hv => by simp [encC] at hv; rcases hv with rfl | rfl <;> rfl) cfC swoC 42 #[] blk off cap d w eg (cmpLaysC blk off d.size w) hH hblk hsz
  exact hcon
end Go.Proofs.YtkpblhikndennaaGreatDoor
namespace Go.Proofs.YtkpblhikndennaaGreatDoor
open Go.RowKit Go.Sort
set_option linter.unusedVariables false
set_option linter.unusedSimpArgs false

def okC (x : ChangeD) : Prop := x.path.size ≤ maxLen ∧ I64 x.what
theorem rdC {w : World} {M : Nat → Prop} {cs : List Value} {x : ChangeD} : Shape.ChangeD.rd w M cs x ↔ cs = encC x ∧ okC x := Iff.rfl
theorem cellsC {w : World} {M : Nat → Prop} {xs : List Value} {l : List ChangeD} (h : Cells Shape.ChangeD w M xs l) : xs = l.flatMap encC ∧ ∀ x ∈ l, okC x := by
  induction l generalizing xs with
  | nil => exact ⟨h, fun _ h => by cases h⟩
  | cons a l ih =>
    obtain ⟨es, rest, e, h1, h2⟩ := h
    obtain ⟨k1, k2⟩ := rdC.1 h1
    obtain ⟨i1, i2⟩ := ih h2
    refine ⟨by rw [e, k1, i1]; rfl, fun x hx => ?_⟩
    rcases List.mem_cons.1 hx with rfl | hx
    · exact k2
    · exact i2 x hx
theorem cellsC_mk {w : World} {M : Nat → Prop} {l : List ChangeD} (h : ∀ x ∈ l, okC x) : Cells Shape.ChangeD w M (l.flatMap encC) l := by
  induction l with
  | nil => rfl
  | cons a l ih => exact ⟨encC a, l.flatMap encC, rfl, rdC.2 ⟨rfl, h a (by simp)⟩, ih fun x hx => h x (by simp [hx])⟩
theorem flat_len (l : List ChangeD) : (l.flatMap encC).length = l.length * 2 := by
  induction l with
  | nil => rfl
  | cons a l ih => rw [List.flatMap_cons, List.length_append, ih, List.length_cons]; simp [encC]; omega
theorem flat_get (l : List ChangeD) (t : Nat) (ht : t < l.length * 2) : (l.flatMap encC)[t]? = some ((flatK encC 2 l.toArray)[t]!) := by
  rw [get_flatK _ _ _ _ (by simpa using ht)]
  induction l generalizing t with
  | nil => simp at ht
  | cons a l ih =>
    rw [List.flatMap_cons]
    by_cases h2 : t < 2
    · rw [List.getElem?_append_left (by simpa [encC] using h2)]
      have h0 : t / 2 = 0 := by omega
      have h1 : t % 2 = t := by omega
      rw [h0, h1]
      rcases (by omega : t = 0 ∨ t = 1) with rfl | rfl <;> simp [encC]
    · rw [List.getElem?_append_right (by simpa [encC] using h2)]
      have hl : (encC a).length = 2 := rfl
      rw [hl]
      have := ih (t - 2) (by simp at ht; omega)
      rw [this]
      have h0 : t / 2 = (t - 2) / 2 + 1 := by omega
      have h1 : t % 2 = (t - 2) % 2 := by omega
      rw [h0, h1]
      simp only [List.getElem!_toArray, List.getElem!_cons_succ]
theorem own_holds {w : World} {base g cap : Nat} {l : List ChangeD} (h : Own Shape.ChangeD 52 w base (fun _ => False) (.slice (some ⟨g, 0, none⟩) l.length cap) l) : HoldsK encC 2 w g 0 l.toArray := by
  obtain ⟨xs, hrow, hcs, -⟩ := h
  obtain ⟨rfl, -⟩ := cellsC hcs
  intro t ht
  have ht' : t < l.length * 2 := by simpa using ht
  have hc := hrow.cells (g := g) rfl t _ (flat_get l t ht')
  refine ⟨?_, ?_⟩
  · show w.cell? ⟨g, 0 + t, none⟩ = some (id ((flatK encC 2 l.toArray)[t]!))
    unfold Addr.add at hc
    by_cases h0 : t = 0
    · subst h0; simpa using hc
    · rw [if_neg h0] at hc; exact hc
  · rcases hrow.2 with ⟨hv, _⟩ | ⟨g', cap', cur, hv, _, hh, _⟩
    · cases hv
    · cases hv
      simp [World.frozen?, hh]
theorem sortWorld_grown (w : World) (g n : Nat) (d : Array ChangeD) (os : Array Obj) : w.grownBy (sortWorldK encC 2 w g 0 n d os) (some g) := by
  refine ⟨rfl, rfl, rfl, by simp [sortWorldK, putRowK, putRow, mapBlock, ahead], fun k hk hne => ?_⟩
  simp only [sortWorldK, grow, putRowK, putRow, mapBlock, ahead]
  rw [Array.getElem?_append_left (by simpa using hk), Array.getElem?_modify, if_neg (fun e => hne (by rw [e]))]
  rfl
theorem sortWorld_at (w : World) (g n : Nat) (d : Array ChangeD) (os : Array Obj) {cur : Array Value} {e : TypeId} (h : w.heap[g]? = some (.cells cur e (0, 0))) :
    (sortWorldK encC 2 w g 0 n d os).heap[g]? = some (.cells (putCells id 0 (flatK encC 2 d) cur) e (0, 0)) := by
  have hlt : g < w.heap.size := (Array.getElem?_eq_some_iff.1 h).1
  simp only [sortWorldK, grow, putRowK, putRow, mapBlock, ahead]
  rw [Array.getElem?_append_left (by simpa using hlt), Array.getElem?_modify, if_pos rfl, show (Sort.ahead w n).heap[g]? = _ from h]
  rfl
theorem sort_own {w : World} {base g cap n : Nat} {l : List ChangeD} {d : Array ChangeD} {os : Array Obj} (h : Own Shape.ChangeD 52 w base (fun _ => False) (.slice (some ⟨g, 0, none⟩) l.length cap) l) (hp : d.toList.Perm l) :
    Own Shape.ChangeD 52 (sortWorldK encC 2 w g 0 n d os) base (fun _ => False) (.slice (some ⟨g, 0, none⟩) l.length cap) d.toList := by
  obtain ⟨xs, hrow, hcs, -⟩ := h
  obtain ⟨rfl, hok⟩ := cellsC hcs
  have hdl : d.toList.length = l.length := hp.length_eq
  have hds : d.size = l.length := by rw [← hdl, Array.length_toList]
  refine ⟨d.toList.flatMap encC, ⟨by rw [flat_len]; rfl, ?_⟩, cellsC_mk fun x hx => hok x (hp.subset hx), fun _ h => h.elim⟩
  rcases hrow.2 with ⟨hv, _⟩ | ⟨g', cap', cur, hv, hbg, hh, hnc, hcm, hcz, htake⟩
  · cases hv
  · cases hv
    have hcz' : cur.size = cap * 2 := hcz
    refine .inr ⟨g, cap, _, by rw [hdl], hbg, sortWorld_at w g n d os hh, by rw [hdl]; exact hnc, hcm, by simp [putCells]; exact hcz', ?_⟩
    apply List.ext_getElem?
    intro t
    have hs2 : Shape.ChangeD.size = 2 := rfl
    rw [hdl, hs2]
    by_cases ht : t < l.length * 2
    · rw [List.getElem?_take_of_lt ht, Array.getElem?_toList]
      rw [flat_get d.toList t (by rw [hdl]; exact ht)]
      have htc : t < cur.size := by omega
      simp only [putCells, Array.getElem?_mapIdx, Array.getElem?_eq_getElem htc, Option.map_some]
      rw [if_pos ⟨Nat.zero_le _, by rw [size_flatK, hds]; omega⟩]
      simp
    · rw [List.getElem?_eq_none (by rw [List.length_take]; omega), List.getElem?_eq_none (by rw [flat_len, hdl]; omega)]
theorem permIn_perm {d d' : Array ChangeD} (h : PermIn 0 d.size d d') : d'.toList.Perm d.toList := by
  obtain ⟨h1, _, h3⟩ := h
  have e1 : d.extract 0 d.size = d := by simp
  have e2 : d'.extract 0 d.size = d' := by rw [← h1]; simp
  rw [e1, e2] at h3
  exact h3
theorem sortedIn_pairwise {d : Array ChangeD} (hnd : (d.toList.map (·.path)).Nodup) (h : SortedIn (ltOf cfC) 0 d.size d) : SortedC d.toList := by
  unfold SortedC
  rw [List.pairwise_iff_getElem]
  intro i j hi hj hij
  rw [Array.length_toList] at hi hj
  have := h i j (Nat.zero_le _) hij hj
  rw [ltC, getElem!_pos d i hi, getElem!_pos d j hj] at this
  rw [Array.getElem_toList, Array.getElem_toList]
  cases hp : pl d[i].path d[j].path with
  | true => rfl
  | false =>
    have he := pl_tri hp this
    rw [List.nodup_iff_pairwise_ne, List.pairwise_map, List.pairwise_iff_getElem] at hnd
    have := hnd i j (by rw [Array.length_toList]; exact hi) (by rw [Array.length_toList]; exact hj) hij
    rw [Array.getElem_toList, Array.getElem_toList] at this
    exact absurd he this
/-- the sort of an own list whose paths are unlike -/
theorem sort_list {w : World} {base g cap : Nat} {l : List ChangeD} (h : Own Shape.ChangeD 52 w base (fun _ => False) (.slice (some ⟨g, 0, none⟩) l.length cap) l) (hnd : (l.map (·.path)).Nodup) (hl : l.length ≤ 1000000000) :
    Calls Tryz.prog 41 #[.slice (some ⟨g, 0, none⟩) l.length cap, .func (.func 42) #[] #[]] w fun e w' => e = .returned (.tuple #[]) ∧ ∃ l' : List ChangeD, l'.Perm l ∧ SortedC l' ∧ Own Shape.ChangeD 52 w' base (fun _ => False) (.slice (some ⟨g, 0, none⟩) l.length cap) l' ∧ w.grownBy w' (some g) := by
  have hlt : g < w.heap.size := (h.lt g rfl).2
  have := sort_calls g 0 cap l.toArray w (own_holds h) hlt (by simp; omega)
  simp only [List.size_toArray] at this
  refine this.mono ?_
  rintro e w' ⟨rfl, d', n, os, hp, hs, rfl⟩
  have hpp := permIn_perm (d := l.toArray) (by simpa using hp)
  simp only [] at hpp
  refine ⟨rfl, d'.toList, hpp, sortedIn_pairwise ?_ ?_, sort_own h hpp, sortWorld_grown w g n d' os⟩
  · exact (List.Perm.nodup_iff (hpp.map _)).2 hnd
  · have : d'.size = l.length := by rw [← Array.length_toList]; exact hpp.length_eq
    rw [this]; exact hs
end Go.Proofs.YtkpblhikndennaaGreatDoor
