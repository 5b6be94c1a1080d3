/- The sieve's set of places: begin, done. No condition but room. -/
import Derived.Test.YtjknjmlpnjifkaaDoorSvF
import Derived.Laws.MakeOwn
namespace Go.Proofs.YtjknjmlpnjifkaaDoor
open Go.RowKit
set_option linter.unusedVariables false
set_option linter.unusedSimpArgs false
attribute [local go_sem] cell?_over frozen?_over lt_over le_over
theorem bool_info : ∃ i, Tryd.prog.info? 4 = some i ∧ i.zero = some (.bool false) ∧ i.size = 1 ∧ i.bytes = 1 := by
  have h : (Tryd.prog.info? 4).map (fun i => (i.size, i.bytes, i.zero)) = some (1, 1, some (.bool false)) := by kernel_rfl
  rw [Option.map_eq_some_iff] at h
  obtain ⟨i, hi, hx⟩ := h
  simp only [Prod.mk.injEq] at hx
  exact ⟨i, hi, hx.2.2, hx.1, hx.2.1⟩
theorem made_bools (n : Nat) : madeCells (Value.bool false).cells (n * 1) = ((List.replicate n false).map Value.bool).toArray := by
  unfold madeCells
  apply Array.ext'
  apply List.ext_getElem?
  intro j
  simp [Value.cells]
  by_cases hj : j < n
  · simp [hj, Nat.mod_one]
  · simp [hj]
theorem make_bools (n : Nat) (hn : n ≤ 140737488355328) (W : World) : (Instr.makeSlice 108 (.int .i64 n) (.int .i64 n)).run Tryd.prog W = .ok (.slice (some ⟨W.heap.size, 0, none⟩) n n) (W.alloc (.cells ((List.replicate n false).map Value.bool).toArray 4)) := by
  obtain ⟨i, hi, hz, h1, h2⟩ := bool_info
  have := run_make (P := Tryd.prog) W 108 4 i _ Tryd.underlying108 hi hz .i64 .i64 n n (by omega) (Int.le_refl _) (by rw [h2]; omega) (by omega)
  rw [h1, Int.toNat_natCast, made_bools] at this
  exact this
theorem getD_replicate (n k : Nat) : (List.replicate n false).getD k false = false := by
  rw [List.getD_eq_getElem?_getD, List.getElem?_replicate]
  split <;> rfl
set_option maxHeartbeats 1000000 in
set_option maxRecDepth 100000 in
theorem svBegin {A : Option Addr} {n c : Nat} {ts : List Tok} (w : World) (h : Row Shape.Tok w (Old w) A n ts) (hn : n ≤ 100000) :
    Calls Tryd.prog 50 #[.slice A n c] w fun e w' => ∃ gr go on, e = .returned (.pointer (some ⟨gr, 0, none⟩)) ∧ RunAt w' gr go w.heap.size A n c ts on ∧ (∀ k, k ≤ n → on.getD k false = skipRow ts (fun k => k == 0) k) ∧ Below w.heap.size w w' := by
  have H := Lib.hid h
  have hmk := make_bools (n + 1) (by omega)
  have e1 : ((n + 1 : Nat) : Int) = (n : Int) + 1 := by omega
  simp only [e1] at hmk
  clear h e1
  go_enter Tryd.func50, Tryd.ntmps50
  go_wp2_with fail
  have RA : Hid (RunAt ((w.alloc (.cells ((Array.replicate (n + 1) (Value.bool false)).setIfInBounds 0 (.bool true)) 4)).alloc (.cells #[.slice A n c, .slice (some ⟨w.heap.size, 0, none⟩) (n + 1) (n + 1)] 110)) (w.heap.size + 1) w.heap.size w.heap.size A n c ts ((List.replicate (n + 1) false).set 0 true)) := Lib.hid (by
    refine ⟨?_, ?_, ?_, by simp, by omega, Nat.le_refl _, by omega⟩
    · have := Blk.new (w.alloc (.cells ((Array.replicate (n + 1) (Value.bool false)).setIfInBounds 0 (.bool true)) 4)) 110 #[.slice A n c, .slice (some ⟨w.heap.size, 0, none⟩) (n + 1) (n + 1)]
      simpa using this
    · exact (H.out.keep fun b hb => Below.heap_alloc w _ b hb).keep fun b hb => Below.heap_alloc _ _ b (by simp; have : b < w.heap.size := hb; omega)
    · exact ((Blk.new w 4 _).alloc _).to (by apply Array.ext'; simp))
  have hb := Lib.hid (((below_alloc' w (.cells ((Array.replicate (n + 1) (Value.bool false)).setIfInBounds 0 (.bool true)) 4))).alloc (by simp) (.cells #[.slice A n c, .slice (some ⟨w.heap.size, 0, none⟩) (n + 1) (n + 1)] 110))
  refine (svSkip _ RA.out hn).mono ?_
  rintro e w2 ⟨rfl, on', hr, hon, hg⟩
  have R2 := Lib.hid hr; have ON := Lib.hid hon
  have HB := Lib.hid (hb.out.grown hg hb.out.size (fun k hk => by injection hk; omega))
  clear hr hon hg RA hb
  go_wp2_with fail
  go_ret
  refine ⟨_, _, on', rfl, R2.out, fun k hk => ?_, HB.out⟩
  rw [ON.out k hk]
  congr 1
  funext k
  rw [List.getD_eq_getElem?_getD, List.getElem?_set]
  by_cases hk0 : k = 0
  · subst hk0; simp
  · rw [if_neg (by omega)]
    have := getD_replicate (n + 1) k
    rw [List.getD_eq_getElem?_getD] at this
    rw [this]
    simpa using (by simpa using hk0 : (k == 0) = false).symm
set_option maxHeartbeats 400000 in
theorem svDone {gr go B : Nat} {A : Option Addr} {n c : Nat} {ts : List Tok} {on : List Bool} (w : World) (h : RunAt w gr go B A n c ts on) (hn : n ≤ 100000) :
    Calls Tryd.prog 51 #[.pointer (some ⟨gr, 0, none⟩)] w fun e w' => e = .returned (.bool (on.getD n false)) ∧ Below w.heap.size w w' := by
  have k0 := h.cells.1; have k1 := h.cells.2; have q := h.at_ (i := n) (Nat.le_refl _)
  obtain ⟨v, hv⟩ : ∃ v, v = on.getD n false := ⟨_, rfl⟩
  rw [← hv] at q ⊢
  clear hv h
  go_enter Tryd.func51, Tryd.ntmps51
  go_wp2_with fail
  go_quiet ((fail))
  go_wp2_with fail
  go_ret
  exact ⟨rfl, below_drewN (Below.refl _ _) _⟩
end Go.Proofs.YtjknjmlpnjifkaaDoor
