/- The sieve: a pattern as a list of tokens. No condition but room. -/
import Derived.Test.YtjknjmlpnjifkaaDoorSvD
import Derived.Test.YtjknjmlpnjifkaaDoorByt
namespace Go.Proofs.YtjknjmlpnjifkaaDoor
open Go.RowKit
set_option linter.unusedVariables false
set_option linter.unusedSimpArgs false
/-- a token in memory -/
def Shape.Tok : Shape Tok where
  size := 5
  pos := by decide
  rd _ _ cs t := ∃ W, cs = (tokCs t.kind W).toList ∧ Small4 W ∧ ∀ b, hasN W b = t.has b
  bulk _ := 1
  bpos _ := Nat.le_refl _
  len := fun ⟨W, h, _⟩ => by rw [h]; rfl
  keep h _ := h
  more h _ := h
  one := fun ⟨W, h, _⟩ v hv => by
    rw [h] at hv
    simp only [tokCs, List.mem_cons, List.not_mem_nil, or_false] at hv
    rcases hv with rfl | rfl | rfl | rfl | rfl <;> rfl
theorem flat_tok : Shape.Tok.Flat := fun h => h
theorem elem_tok : Elem Tryd.prog 66 84 Shape.Tok 40 := ⟨Tryd.underlying66, by kernel_rfl⟩
/-- how far the reading has come -/
def ReadAt (s : ByteArray) (ii : Nat) (bad : Bool) (l : List Tok) : Prop :=
  if bad = true then readB s.data.toList 0 = none ∧ ii ≤ s.size + 5 else ii ≤ s.size ∧ readB s.data.toList 0 = (readB s.data.toList ii).map (l ++ ·)
/-- what compile answers -/
def CompEnd (s : ByteArray) (w : World) (e : Ending) (w' : World) : Prop :=
  Below w.heap.size w w' ∧ if 4096 < s.size then e = .returned (.tuple #[.slice none 0 0, .int .i64 21]) else match readB s.data.toList 0 with
  | none => e = .returned (.tuple #[.slice none 0 0, .int .i64 110])
  | some ts => ∃ v, e = .returned (.tuple #[v, .int .i64 0]) ∧ Own Shape.Tok 84 w' w.heap.size (fun _ => False) v ts
theorem tok_parts {s : ByteArray} {g i : Nat} {e : Ending} {w w' : World} (h : TokEnd s g i w e w') : w.grownBy w' (some g) ∧ ∃ (t : Tok) (W : Nat → Nat) (j : Nat) (bad : Bool), e = .returned (.agg #[.int .i64 t.kind, .int .u64 (W 0), .int .u64 (W 1), .int .u64 (W 2), .int .u64 (W 3)]) ∧ Shape.Tok.rd w' (fun _ => False) [.int .i64 t.kind, .int .u64 (W 0), .int .u64 (W 1), .int .u64 (W 2), .int .u64 (W 3)] t ∧ Rdr w' g s j bad ∧
    ((bad = false ∧ tokB s.data.toList i = some (t, j)) ∨ (bad = true ∧ tokB s.data.toList i = none ∧ j ≤ s.size + 5)) := by
  obtain ⟨hg, k, W, he, hs, hm⟩ := h
  refine ⟨hg, ?_⟩
  cases ht : tokB s.data.toList i with
  | none =>
    rw [ht] at hm
    obtain ⟨j, h1, h2⟩ := hm
    exact ⟨⟨k, hasN W⟩, W, j, true, he, ⟨W, rfl, hs, fun _ => rfl⟩, h2, .inr ⟨rfl, rfl, h1⟩⟩
  | some x =>
    rw [ht] at hm
    obtain ⟨h1, h2, h3⟩ := hm
    subst h1
    exact ⟨x.1, W, x.2, false, he, ⟨W, rfl, hs, h2⟩, h3, .inl ⟨rfl, rfl⟩⟩
theorem ReadAt.good {s : ByteArray} {ii : Nat} {l : List Tok} (h : ReadAt s ii false l) : ii ≤ s.size ∧ readB s.data.toList 0 = (readB s.data.toList ii).map (l ++ ·) := by
  unfold ReadAt at h; rw [if_neg (by decide)] at h; exact h
theorem readAt_0 (s : ByteArray) : ReadAt s 0 false [] := by
  unfold ReadAt
  rw [if_neg (by decide)]
  refine ⟨Nat.zero_le _, ?_⟩
  cases readB s.data.toList 0 <;> simp
theorem read_step {s : ByteArray} {ii j : Nat} {bad : Bool} {l : List Tok} {t : Tok} (h : ReadAt s ii false l) (hl : ii < s.size) (hit : (bad = false ∧ tokB s.data.toList ii = some (t, j)) ∨ (bad = true ∧ tokB s.data.toList ii = none ∧ j ≤ s.size + 5)) : ReadAt s j bad (l ++ [t]) := by
  obtain ⟨h1, h2⟩ := h.good
  have hl' : ii < s.data.toList.length := by rw [len_data']; exact hl
  unfold ReadAt
  rcases hit with ⟨rfl, hit⟩ | ⟨rfl, hit, hj⟩
  · rw [if_neg (by decide)]
    have h3 := tokB_lt hit
    rw [len_data'] at h3
    refine ⟨h3.2, ?_⟩
    rw [h2, readB_some hl' hit]
    cases readB s.data.toList j <;> simp
  · rw [if_pos rfl]
    exact ⟨by rw [h2, readB_none hl' hit]; rfl, hj⟩
def rdrM (w : World) (g n : Nat) : Nat := match w.cell? ⟨g, 2, none⟩ with
  | some (.bool true) => 0
  | _ => n - cellNat w g
theorem rdrM_eq {w : World} {g n : Nat} {s : ByteArray} {i : Nat} {bad : Bool} (h : Rdr w g s i bad) : rdrM w g n = if bad = true then 0 else n - i := by
  unfold rdrM
  rw [h.cells.2.2, Rdr.at_ h]
  cases bad <;> rfl
set_option maxHeartbeats 1000000 in
set_option maxRecDepth 100000 in
theorem svCompile (s : ByteArray) (w : World) (hs : s.size ≤ 9223372036854775807) :
    Calls Tryd.prog 36 #[.string s] w (CompEnd s w) := by
  by_cases h4 : 4096 < s.size
  · go_enter Tryd.func36, Tryd.ntmps36
    have c1 : decide ((s.size : Int) > 4096) = true := by simp; omega
    go_wp2_with fail
    go_ret2
    refine ⟨Below.refl _ _, ?_⟩
    rw [if_pos h4]
    rfl
  · have HE : Hid (∀ e w', Below w.heap.size w w' → (match readB s.data.toList 0 with
      | none => e = .returned (.tuple #[.slice none 0 0, .int .i64 110])
      | some ts => ∃ v, e = .returned (.tuple #[v, .int .i64 0]) ∧ Own Shape.Tok 84 w' w.heap.size (fun _ => False) v ts) → CompEnd s w e w') := Lib.hid fun e w' h1 h2 => by
      refine ⟨h1, ?_⟩
      rw [if_neg h4]
      exact h2
    have c1 : decide ((s.size : Int) > 4096) = false := by simp; omega
    have H4 := Lib.hid h4
    clear h4
    go_enter Tryd.func36, Tryd.ntmps36
    go_wp2_with ((with_reducible refine at_store (ty := 79) (x := .tmp 4) (y := .tmp 10) ?_ ?_); exact rfl; refine wpList_store_blk rfl 79 (.tmp 4) (.tmp 10) rfl _ rfl (Blk.new w _ _) rfl (by kernel_rfl) rfl rfl ?_; intro w1 b1 g1)
    have B1 : Hid (Below w.heap.size w w1) := Lib.hid (((Below.refl _ _).alloc (Nat.le_refl _) (.cells #[.string ⟨#[]⟩, .int .i64 0, .bool false] 79)).grown g1 (by simp) (fun k hk => by injection hk; omega))
    have R1 : Hid (Rdr w1 w.heap.size s 0 false) := Lib.hid b1
    have hsz1 : w.heap.size + 1 ≤ w1.heap.size := by have := g1.size; simp at this; omega
    clear b1 g1
    go_loopw [5] (fun v wr => ∃ (ii : Nat) (bad : Bool) (l : List Tok), Rdr wr w.heap.size s ii bad ∧ (bad = false → l.length ≤ ii) ∧ l.length ≤ s.size + 1 ∧ ii ≤ s.size + 5 ∧ Own Shape.Tok 84 wr (w.heap.size + 1) (fun _ => False) v l ∧ Below w.heap.size w wr ∧ w.heap.size + 1 ≤ wr.heap.size ∧ ReadAt s ii bad l) (fun _ wr => rdrM wr w.heap.size (s.size + 20))
    case atStart => exact ⟨0, false, [], R1.out, fun _ => Nat.le_refl _, Nat.zero_le _, by omega, Own.start _ _ _ _, B1.out, hsz1, readAt_0 s⟩
    case round =>
      obtain ⟨ii, bad, l, hr, hll', hll, hii, hown, hbel, hsz, hrd⟩ := hrel
      have CN := Lib.hid (rdrM_eq (n := s.size + 20) hr)
      have R : Hid (Rdr wr w.heap.size s ii bad) := Lib.hid hr
      have O := Lib.hid hown; have B := Lib.hid hbel; have RA := Lib.hid hrd; have LL := Lib.hid hll'
      have hs4 : s.size ≤ 4096 := by have := H4.out; omega
      clear hr hown hbel hrd R1 B1 hll'
      go_wp2_with fail
      refine (svMore s w.heap.size ii bad _ R.out (by omega) (by omega)).mono ?_
      rintro e w2 ⟨rfl, hb⟩
      have R2 : Hid (Rdr w2 w.heap.size s ii bad) := Lib.hid (R.out.below hb (by omega))
      have O2 := Lib.hid (O.out.kept (grownBy_of_below hb) (by cases hv : u5.ownBlock <;> simp) (fun _ _ => by simp))
      have B2 := Lib.hid (below_old B.out hb)
      have hsz2 : w.heap.size + 1 ≤ w2.heap.size := Nat.le_trans hsz hb.size
      clear hb R O B
      cases bad with
      | true =>
        rw [show (decide (ii < s.size) && !true) = false by simp]
        have k2 := R2.out.cells.2.2
        go_wp2_with fail
        go_ret2
        refine HE.out _ _ B2.out ?_
        have := RA.out
        unfold ReadAt at this
        rw [if_pos rfl] at this
        rw [this.1]
        rfl
      | false =>
        rw [show (decide (ii < s.size) && !false) = decide (ii < s.size) by simp]
        by_cases hlt : ii < s.size
        · rw [decide_eq_true hlt]
          go_wp2_with fail
          refine (svToken s w.heap.size ii _ R2.out (by omega) hlt).mono ?_
          rintro e w3 hte
          obtain ⟨hg, t, W, j, bad, rfl, hrt, hr3, hit⟩ := tok_parts hte
          have hlts := O2.out.lt
          have R3 : Hid (Rdr w3 w.heap.size s j bad) := Lib.hid hr3
          have O3 := Lib.hid (O2.out.kept hg (by right; intro e; have := (hlts _ e).1; omega) (fun _ h => h.elim))
          have B3 := Lib.hid (B2.out.grown hg B2.out.size (fun k hk => by injection hk; omega))
          have hsz3 : w.heap.size + 1 ≤ w3.heap.size := Nat.le_trans hsz2 hg.size
          have RT := Lib.hid hrt; have IT := Lib.hid hit
          have hj5 : j ≤ s.size + 5 := by
            rcases hit with ⟨_, h⟩ | ⟨_, _, h⟩
            · have := tokB_lt h; rw [len_data'] at this; omega
            · exact h
          have hjm : bad = false → ii < j := fun hb => by
            rcases hit with ⟨_, h⟩ | ⟨h, _⟩
            · exact (tokB_lt h).1
            · rw [hb] at h; cases h
          have HJM := Lib.hid hjm
          clear hjm
          clear hg hte hr3 hrt hit R2 O2 B2
          have hl5 : l.length ≤ ii := LL.out trivial
          go_wp2_with (at_builtin; go_loud (refine wpList_append_one (v := u5) flat_tok rfl (.tmp 12) (.tmp 14) _ rfl elem_tok rfl O3.out (es := [.int .i64 t.kind, .int .u64 (W 0), .int .u64 (W 1), .int .u64 (W 2), .int .u64 (W 3)]) (b := t) rfl RT.out (by omega) (by unfold maxLen; omega) (by omega) ?_))
          intro v' w4 hown4 hg4 hsz4 hat4
          have R4 : Hid (Rdr w4 w.heap.size s j bad) := Lib.hid (R3.out.grown hg4 (by intro e; have := (O3.out.lt _ e.symm).1; omega))
          have O4 := Lib.hid hown4
          have B4 := Lib.hid (B3.out.grown hg4 B3.out.size (fun k hk => by have := (O3.out.lt k hk).1; omega))
          clear hown4 hg4 hat4
          go_wp2_with fail
          go_roundw
          case rel => exact ⟨j, bad, l ++ [t], R4.out, fun hb => by have := HJM.out hb; simp; omega, by simp; omega, hj5, O4.out, B4.out, by omega, read_step RA.out hlt IT.out⟩
          case measure =>
            have h1 := CN.out
            have h2 := rdrM_eq (n := s.size + 20) R4.out
            have h3 := HJM.out
            rw [h1, h2]
            cases bad with
            | true => simp; omega
            | false => have := h3 rfl; simp; omega
        · rw [decide_eq_false hlt]
          have k2 := R2.out.cells.2.2
          go_wp2_with fail
          go_ret2
          refine HE.out _ _ B2.out ?_
          have h1 := RA.out.good.2
          rw [readB_end (p := s.data.toList) (i := ii) (by rw [len_data']; exact fun h => hlt h)] at h1
          have h2 : readB s.data.toList 0 = some l := by rw [h1]; simp
          rw [h2]
          exact ⟨u5, rfl, O2.out.low (by omega)⟩
end Go.Proofs.YtjknjmlpnjifkaaDoor
