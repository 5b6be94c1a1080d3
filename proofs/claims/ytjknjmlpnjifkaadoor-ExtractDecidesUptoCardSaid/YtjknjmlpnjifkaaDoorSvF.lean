/- The sieve's set of places: skip. No condition but room. -/
import Derived.Test.YtjknjmlpnjifkaaDoorSvE
namespace Go.Proofs.YtjknjmlpnjifkaaDoor
open Go.RowKit
set_option linter.unusedVariables false
set_option linter.unusedSimpArgs false
/-- a run in memory: its tokens (blocks below B), its places -/
structure RunAt (w : World) (gr go B : Nat) (A : Option Addr) (n c : Nat) (ts : List Tok) (on : List Bool) : Prop where
  blk : Blk w gr 110 #[.slice A n c, .slice (some ⟨go, 0, none⟩) (n + 1) (n + 1)]
  row : Row Shape.Tok w (fun b => b < B) A n ts
  onb : Blk w go 4 (on.map Value.bool).toArray
  len : on.length = n + 1
  hr : B ≤ gr
  ho : B ≤ go
  ne : gr ≠ go
section
variable {w w' : World} {gr go B : Nat} {A : Option Addr} {n c : Nat} {ts : List Tok} {on : List Bool}
theorem RunAt.lenT (h : RunAt w gr go B A n c ts on) : ts.length = n := h.row.1
theorem RunAt.grown {row : Option Nat} (h : RunAt w gr go B A n c ts on) (hg : w.grownBy w' row) (h1 : some gr ≠ row) (h2 : some go ≠ row) (h3 : ∀ k, row = some k → B ≤ k) : RunAt w' gr go B A n c ts on :=
  ⟨h.blk.grown hg h1, h.row.keep fun b hb => hg.block b (Nat.lt_of_lt_of_le (Nat.lt_of_lt_of_le hb h.hr) (Nat.le_of_lt h.blk.lt)) (fun e => by have := h3 b e.symm; omega), h.onb.grown hg h2, h.len, h.hr, h.ho, h.ne⟩
theorem RunAt.below (h : RunAt w gr go B A n c ts on) (hb : Below w.heap.size w w') : RunAt w' gr go B A n c ts on :=
  h.grown (grown_bel (row := none) hb) (by simp) (by simp) (fun _ h => by cases h)
theorem map_set_bool (on : List Bool) (i : Nat) (v : Bool) : ((on.map Value.bool).toArray.setIfInBounds i (.bool v)) = ((on.set i v).map Value.bool).toArray := by
  apply Array.ext'
  simp
theorem RunAt.set (h : RunAt w gr go B A n c ts on) (i : Nat) (v : Bool) : RunAt (w.setCell ⟨go, i, none⟩ (.bool v)) gr go B A n c ts (on.set i v) := by
  refine ⟨h.blk.far (by simp; exact h.ne) _, h.row.keep fun b hb => Below.heap_setCell _ _ _ b (by simp; have := h.ho; omega), ?_, by simpa using h.len, h.hr, h.ho, h.ne⟩
  have := h.onb.set_ i (.bool v)
  rwa [map_set_bool] at this
theorem RunAt.cells (h : RunAt w gr go B A n c ts on) : w.cell? ⟨gr, 0, none⟩ = some (.slice A n c) ∧ w.cell? ⟨gr, 1, none⟩ = some (.slice (some ⟨go, 0, none⟩) (n + 1) (n + 1)) := ⟨h.blk.cell 0, h.blk.cell 1⟩
theorem RunAt.at_ (h : RunAt w gr go B A n c ts on) {i : Nat} (hi : i ≤ n) : w.cell? ⟨go, i, none⟩ = some (.bool (on.getD i false)) := by
  have hl := h.len
  rw [h.onb.cell i]
  simp only [List.getElem?_toArray, List.getElem?_map]
  rw [List.getElem?_eq_getElem (by omega)]
  simp [List.getD_eq_getElem?_getD, List.getElem?_eq_getElem (show i < on.length by omega)]
end
theorem tk_at {ts : List Tok} {i : Nat} (h : i < ts.length) : tk ts i = ts[i] := by unfold tk; rw [getElem!_pos ts i h]
theorem grown_alloc_one (w : World) (o : Obj) (row : Option Nat) : w.grownBy (w.alloc o) row := ⟨rfl, rfl, rfl, by simp, fun n hn _ => Below.heap_alloc w o n hn⟩
theorem skip_keep {ts : List Tok} {p : Nat → Bool} {i : Nat} (h : skipRow ts p i = false ∨ (tk ts i).one = true) (k : Nat) : (if k ≤ i then skipRow ts p k else p k) = if k ≤ i + 1 then skipRow ts p k else p k := by
  by_cases h1 : k ≤ i
  · rw [if_pos h1, if_pos (by omega)]
  · rw [if_neg h1]
    by_cases h2 : k ≤ i + 1
    · have : k = i + 1 := by omega
      subst this
      rw [if_pos (Nat.le_refl _)]
      show _ = (p (i + 1) || (skipRow ts p i && !(tk ts i).one))
      rcases h with h | h <;> simp [h]
    · rw [if_neg h2]
theorem skip_set {ts : List Tok} {p : Nat → Bool} {on : List Bool} {i n : Nat} (h : ∀ k, k ≤ n → on.getD k false = if k ≤ i then skipRow ts p k else p k) (hl : i + 1 < on.length) (hs : true = skipRow ts p i) (ho : (tk ts i).one = false) (k : Nat) (hk : k ≤ n) :
    (on.set (i + 1) true).getD k false = if k ≤ i + 1 then skipRow ts p k else p k := by
  by_cases h1 : k = i + 1
  · subst h1
    rw [if_pos (Nat.le_refl _)]
    show _ = (p (i + 1) || (skipRow ts p i && !(tk ts i).one))
    rw [← hs, ho]
    simp [List.getD_eq_getElem?_getD, hl]
  · have e : (on.set (i + 1) true).getD k false = on.getD k false := by
      simp [List.getD_eq_getElem?_getD, List.getElem?_set, Ne.symm h1]
    rw [e, h k hk]
    by_cases h2 : k ≤ i
    · rw [if_pos h2, if_pos (by omega)]
    · rw [if_neg h2, if_neg (by omega)]
attribute [local go_sem] cell?_over frozen?_over lt_over le_over
set_option maxHeartbeats 1000000 in
set_option maxRecDepth 100000 in
theorem svSkip {gr go B : Nat} {A : Option Addr} {n c : Nat} {ts : List Tok} {on : List Bool} (w : World) (h : RunAt w gr go B A n c ts on) (hn : n ≤ 100000) :
    Calls Tryd.prog 67 #[.pointer (some ⟨gr, 0, none⟩)] w fun e w' => e = .returned (.tuple #[]) ∧ ∃ on', RunAt w' gr go B A n c ts on' ∧ (∀ k, k ≤ n → on'.getD k false = skipRow ts (fun k => on.getD k false) k) ∧ w.grownBy w' (some go) := by
  have H := Lib.hid h
  have k0 := h.cells.1
  have l0 := h.blk.lt
  clear h
  go_enter Tryd.func67, Tryd.ntmps67
  go_wp2_with fail
  go_loopw [9] (fun it wr => ∃ (i : Nat) (on' : List Bool), it = .int .i64 i ∧ i ≤ n ∧ RunAt wr gr go B A n c ts on' ∧ (∀ k, k ≤ n → on'.getD k false = if k ≤ i then skipRow ts (fun k => on.getD k false) k else on.getD k false) ∧ w.grownBy wr (some go)) (fun it _ => n - (intOf it).toNat)
  case atStart => exact ⟨0, on, rfl, Nat.zero_le _, H.out, fun k hk => by
    by_cases hk0 : k ≤ 0
    · have : k = 0 := by omega
      subst this; simp [skipRow]
    · rw [if_neg hk0], ⟨rfl, rfl, rfl, Nat.le_refl _, fun _ _ _ => rfl⟩⟩
  case round =>
    obtain ⟨i, on', rfl, hi, hrun, hon, hg⟩ := hrel
    have R := Lib.hid hrun; have ON := Lib.hid hon; have G := Lib.hid hg
    clear hrun hg k0 l0
    by_cases hlt : i < n
    · obtain ⟨b, off, es, hl, hA, hb, hc, hc0, hrd⟩ := R.out.row.elem (Keeps.refl _ _) hlt
      subst hA
      obtain ⟨V, hes, hs4, hbits⟩ := hrd
      have e5 : Shape.Tok.size = 5 := rfl
      rw [e5] at hc hc0
      subst hes
      have c1 := hc 1 (by omega); have c2 := hc 2 (by omega); have c3 := hc 3 (by omega); have c4 := hc 4 (by omega)
      simp only [tokCs, List.getElem?_cons_zero, List.getElem?_cons_succ] at hc0 c1 c2 c3 c4
      have q0 := R.out.cells.1; have q1 := R.out.cells.2; have qi := R.out.at_ (i := i) (by omega)
      have lb : b < wr.heap.size := by have := R.out.hr; have := R.out.blk.lt; omega
      have lr := R.out.blk.lt; have lo := R.out.onb.lt
      obtain ⟨K, hK⟩ : ∃ K, K = ts[i].kind := ⟨_, rfl⟩
      rw [← hK] at hc0
      have HK := Lib.hid hK
      obtain ⟨p, hp⟩ : ∃ p, p = on'.getD i false := ⟨_, rfl⟩
      rw [← hp] at qi
      have HP := Lib.hid hp
      have HS := Lib.hid (show on'.getD i false = skipRow ts (fun k => on.getD k false) i by rw [hon i (by omega), if_pos (Nat.le_refl _)])
      clear hc hK hp hbits hon
      have qj := R.out.at_ (i := i + 1) (by omega)
      have fj := R.out.onb.frozen (i + 1)
      cases p with
      | false =>
        go_wp2_with fail
        go_roundw
        case rel => exact ⟨i + 1, on', by go_num, by omega, (RunAt.grown R.out (grown_alloc_one _ _ none) (by simp) (by simp) (fun _ h => by cases h)), fun k hk => (ON.out k hk).trans (skip_keep (.inl (by rw [← HS.out, ← HP.out])) k), (grownBy_trans G.out (grown_alloc_one _ _ _))⟩
        case measure => simp [intOf]; omega
      | true =>
        by_cases hK0 : K = 0
        · have ck : ((K : Int) != 0) = false := by rw [hK0]; rfl
          go_wp2_with fail
          go_roundw
          case rel => exact ⟨i + 1, on', by go_num, by omega, (RunAt.grown R.out (grown_alloc_one _ _ none) (by simp) (by simp) (fun _ h => by cases h)), fun k hk => (ON.out k hk).trans (skip_keep (.inr (by unfold Tok.one; rw [tk_at hl, ← HK.out, hK0]; rfl)) k), (grownBy_trans G.out (grown_alloc_one _ _ _))⟩
          case measure => simp [intOf]; omega
        · have ck : ((K : Int) != 0) = true := by rw [bne_iff_ne]; omega
          go_wp2_with fail
          go_roundw
          case rel => exact ⟨i + 1, on'.set (i + 1) true, by go_num, by omega, (RunAt.grown (R.out.set (i + 1) true) (grown_alloc_one _ _ none) (by simp) (by simp) (fun _ h => by cases h)), fun k hk => (skip_set (ON.out) (by have := R.out.len; omega) (by rw [← HS.out, ← HP.out]) (by unfold Tok.one; rw [tk_at hl, ← HK.out]; simpa using hK0) k hk), (grownBy_trans (grown_cell G.out) (grown_alloc_one _ _ _))⟩
          case measure => simp [intOf]; omega
    · clear hon
      go_wp2_with fail
      refine bodyPost_end (v := .tuple #[]) (by simp [results, Tryd.results67, go_sem]) rfl ⟨rfl, on', R.out, fun k hk => ?_, G.out⟩
      rw [ON.out k hk, if_pos (by omega)]
end Go.Proofs.YtjknjmlpnjifkaaDoor
