/- The sieve's reader: one token. No condition but room. -/
import Derived.Test.YtjknjmlpnjifkaaDoorSvC
namespace Go.Proofs.YtjknjmlpnjifkaaDoor
open Go.RowKit
set_option linter.unusedVariables false
set_option linter.unusedSimpArgs false
attribute [local go_sem] cell?_over frozen?_over lt_over le_over
/-- what token answers -/
def TokEnd (s : ByteArray) (g i : Nat) (w : World) (e : Ending) (w' : World) : Prop :=
  w.grownBy w' (some g) ∧ ∃ (k : Nat) (W : Nat → Nat), e = .returned (.agg (tokCs k W)) ∧ Small4 W ∧ match tokB s.data.toList i with
  | some (t, nx) => k = t.kind ∧ (∀ b, hasN W b = t.has b) ∧ Rdr w' g s nx false
  | none => ∃ j : Nat, j ≤ s.size + 5 ∧ Rdr w' g s j true
theorem tokEnd_some {s : ByteArray} {g i nx : Nat} {w w' : World} {k : Nat} {W : Nat → Nat} {t : Tok} (ht : tokB s.data.toList i = some (t, nx)) (hg : w.grownBy w' (some g)) (hs : Small4 W) (hk : k = t.kind) (hb : ∀ b, hasN W b = t.has b) (hr : Rdr w' g s nx false) :
    TokEnd s g i w (.returned (.agg (tokCs k W))) w' := by
  refine ⟨hg, k, W, rfl, hs, ?_⟩
  rw [ht]; exact ⟨hk, hb, hr⟩
theorem tokEnd_none {s : ByteArray} {g i j : Nat} {w w' : World} {k : Nat} {W : Nat → Nat} (ht : tokB s.data.toList i = none) (hg : w.grownBy w' (some g)) (hs : Small4 W) (hj : j ≤ s.size + 5) (hr : Rdr w' g s j true) :
    TokEnd s g i w (.returned (.agg (tokCs k W))) w' := by
  refine ⟨hg, k, W, rfl, hs, ?_⟩
  rw [ht]; exact ⟨j, hj, hr⟩
def StopT (p : Prop) : Prop := p
theorem StopT.mk {p : Prop} (h : StopT p) : p := h
theorem peek_eq {s : ByteArray} {i : Nat} {b : UInt8} {v : Bool} (h : peekB s i b = v) : (s.data.toList[i]? = some b) = (v = true) := by
  rw [← h]; unfold peekB; simp
theorem tok_A {s : ByteArray} {i : Nat} (h1 : peekB s i 42 = true) (h2 : peekB s (i + 1) 42 = true) : tokB s.data.toList i = some (⟨2, fun _ => false⟩, i + 2) := by
  unfold tokB; simp only [peek_eq h1, peek_eq h2, if_true]
theorem tok_B {s : ByteArray} {i : Nat} (h1 : peekB s i 42 = true) (h2 : peekB s (i + 1) 42 = false) : tokB s.data.toList i = some (⟨1, fun _ => false⟩, i + 1) := by
  unfold tokB; simp only [peek_eq h1, peek_eq h2, if_true, Bool.false_eq_true, if_false]
theorem tok_C {s : ByteArray} {i : Nat} (h1 : peekB s i 42 = false) (h2 : peekB s i 63 = true) : tokB s.data.toList i = some (⟨0, fun b => b != 47⟩, i + 1) := by
  unfold tokB; simp only [peek_eq h1, peek_eq h2, if_true, Bool.false_eq_true, if_false]
theorem tok_D {s : ByteArray} {i : Nat} (h1 : peekB s i 42 = false) (h2 : peekB s i 63 = false) (h3 : peekB s i 91 = true) : tokB s.data.toList i = (classB s.data.toList (i + 1)).map fun x => (⟨0, x.1⟩, x.2) := by
  unfold tokB; simp only [peek_eq h1, peek_eq h2, peek_eq h3, if_true, Bool.false_eq_true, if_false]
theorem tok_E {s : ByteArray} {i : Nat} (h1 : peekB s i 42 = false) (h2 : peekB s i 63 = false) (h3 : peekB s i 91 = false) : tokB s.data.toList i = (itemB s.data.toList i).map fun x => (⟨0, fun b => b == x.1⟩, x.2) := by
  unfold tokB; simp only [peek_eq h1, peek_eq h2, peek_eq h3, Bool.false_eq_true, if_false]
theorem any_but (b : UInt8) : orS (orS (hasN zero4) (inR 0 46)) (inR 48 255) b = (b != 47) := by
  have hb : b.toNat < 256 := b.toNat_lt
  have e0 : (0 : UInt8).toNat = 0 := rfl
  have e1 : (46 : UInt8).toNat = 46 := rfl
  have e2 : (48 : UInt8).toNat = 48 := rfl
  have e3 : (255 : UInt8).toNat = 255 := rfl
  have e4 : (47 : UInt8).toNat = 47 := rfl
  unfold orS inR
  rw [has_zero, e0, e1, e2, e3, Bool.eq_iff_iff, bne_iff_ne, ne_eq, ← UInt8.toNat_inj, e4]
  simp
  omega
theorem just_one (c b : UInt8) : orS (hasN zero4) (inR c c) b = (b == c) := by
  unfold orS inR
  rw [has_zero, Bool.eq_iff_iff, beq_iff_eq, ← UInt8.toNat_inj]
  simp
  omega
set_option maxHeartbeats 4000000 in
set_option maxRecDepth 100000 in
theorem svToken (s : ByteArray) (g i : Nat) (w : World) (h : Rdr w g s i false) (hs : s.size ≤ 140737488355328) (hi : i < s.size) :
    Calls Tryd.prog 49 #[.pointer (some ⟨g, 0, none⟩)] w (TokEnd s g i w) := by
  have H := Lib.hid h
  clear h
  go_enter Tryd.func49, Tryd.ntmps49
  go_wp2_with fail
  have hg0 := H.out.lt
  have P0 := Lib.hid (peek_lit (w := (w.alloc (.cells #[.int .i64 0, .int .u64 0, .int .u64 0, .int .u64 0, .int .u64 0] 84)).alloc (.cells #[.int .i64 0, .int .u64 0, .int .u64 0, .int .u64 0, .int .u64 0] 84)) ((Blk.alloc (Blk.alloc H.out _) _)) hs (by omega) 0 42 0 42 rfl rfl (by omega))
  refine P0.out.mono ?_
  rintro e w1 ⟨rfl, hb1⟩
  obtain ⟨b1, b2, hb, hsz⟩ := blks2 hb1
  have R1 : Hid (Rdr w1 g s i false) := Lib.hid (H.out.below hb hg0)
  have G1 : Hid (w.grownBy w1 (some g)) := Lib.hid (grown_bel hb)
  have Z1 : Hid (Blk w1 w.heap.size 84 (tokCs 0 zero4)) := Lib.hid b1
  have T1 : Hid (TokB w1 (w.heap.size + 1) 0 zero4) := Lib.hid b2
  have hsz1 : w.heap.size + 2 ≤ w1.heap.size := by omega
  clear P0 hb1 b1 b2 hb hsz
  rw [Nat.add_zero]
  cases hp42 : peekB s i 42 with
  | true =>
    have P42 := Lib.hid hp42
    clear hp42
    go_wp2_with fail
    refine (peek_lit R1.out hs (by omega) 1 42 1 42 rfl rfl (by omega)).mono ?_
    rintro e w2 ⟨rfl, hb⟩
    have hgl : g < w1.heap.size := R1.out.lt
    have R2 : Hid (Rdr w2 g s i false) := Lib.hid (R1.out.below hb hgl)
    have T2 : Hid (TokB w2 (w.heap.size + 1) 0 zero4) := Lib.hid (T1.out.below hb (by omega))
    have Z2 : Hid (Blk w2 w.heap.size 84 (tokCs 0 zero4)) := Lib.hid (Z1.out.below hb (by omega))
    have G2 : Hid (w.grownBy w2 (some g)) := Lib.hid (grownBy_trans G1.out (grown_bel hb))
    have hsz2 : w.heap.size + 2 ≤ w2.heap.size := Nat.le_trans hsz1 hb.size
    clear hb hgl R1 T1 Z1 G1 hsz1
    cases hq42 : peekB s (i + 1) 42 with
    | true =>
      have TK := Lib.hid (tok_A P42.out hq42)
      clear hq42
      have k1 := R2.out.cells.2.1; have f1 := R2.out.frozen 1; have l1 := R2.out.lt
      go_upto_region 6 with (fail)
      have R3 : Hid (Rdr (w2.setCell ⟨g, 1, none⟩ (.int .i64 ((i : Int) + 2))) g s (i + 2) false) := Lib.hid ((R2.out.set_ 1 (.int .i64 ((i : Int) + 2))).to rfl)
      have T3 : Hid (TokB (w2.setCell ⟨g, 1, none⟩ (.int .i64 ((i : Int) + 2))) (w.heap.size + 1) 0 zero4) := Lib.hid (T2.out.far (by simp; omega) _)
      have Z3 : Hid (Blk (w2.setCell ⟨g, 1, none⟩ (.int .i64 ((i : Int) + 2))) w.heap.size 84 (tokCs 0 zero4)) := Lib.hid (Z2.out.far (by simp; omega) _)
      have G3 : Hid (w.grownBy (w2.setCell ⟨g, 1, none⟩ (.int .i64 ((i : Int) + 2))) (some g)) := Lib.hid (grown_cell G2.out)
      have hsz3 : w.heap.size + 2 ≤ (w2.setCell ⟨g, 1, none⟩ (.int .i64 ((i : Int) + 2))).heap.size := by simp; omega
      clear k1 f1 l1 R2 T2 Z2 G2
      generalize w2.setCell ⟨g, 1, none⟩ (.int .i64 ((i : Int) + 2)) = w3 at R3 T3 Z3 G3 hsz3 ⊢
      have c := T3.out.cell 0
      simp only [List.getElem?_toArray, List.getElem?_cons_succ, List.getElem?_cons_zero] at c
      have f1 := T3.out.frozen 0; have l1 := T3.out.lt
      go_upto_region 17 with (fail)
      have R4 : Hid (Rdr (w3.setCell ⟨w.heap.size + 1, 0, none⟩ (.int .i64 2)) g s (i + 2) false) := Lib.hid (R3.out.far (by simp; omega) _)
      have T4 : Hid (TokB (w3.setCell ⟨w.heap.size + 1, 0, none⟩ (.int .i64 2)) (w.heap.size + 1) 2 zero4) := Lib.hid ((T3.out.set_ 0 (.int .i64 2)).to rfl)
      have Z4 : Hid (Blk (w3.setCell ⟨w.heap.size + 1, 0, none⟩ (.int .i64 2)) w.heap.size 84 (tokCs 0 zero4)) := Lib.hid (Z3.out.far (by simp) _)
      have G4 : Hid (w.grownBy (w3.setCell ⟨w.heap.size + 1, 0, none⟩ (.int .i64 2)) (some g)) := Lib.hid (grown_step G3.out (grown_one _ _ _) (by show w.heap.size ≤ w.heap.size + 1; omega))
      clear c f1 l1 R3 T3 Z3 G3
      generalize w3.setCell ⟨w.heap.size + 1, 0, none⟩ (.int .i64 2) = w4 at R4 T4 Z4 G4 ⊢
      go_wp2_with (first
        | ((with_reducible refine at_load (ty := 84) (x := .tmp 3) ?_ ?_); exact rfl; refine wpList_load_blk rfl 84 (.tmp 3) rfl _ rfl T4.out whole_tok ?_)
        | ((with_reducible refine at_store (ty := 84) (x := .tmp 2) (y := .tmp 60) ?_ ?_); exact rfl; refine wpList_store_blk rfl 84 (.tmp 2) (.tmp 60) rfl _ rfl Z4.out rfl (by kernel_rfl) rfl rfl ?_; intro w99 b99 g99))
      have R99 : Rdr w99 g s (i + 2) false := R4.out.grown g99 (by intro e; injection e; omega)
      refine ret_blk rfl rfl b99 whole_tok rfl ?_
      exact tokEnd_some (k := 2) TK.out (grown_step G4.out g99 (Nat.le_refl _)) (fun _ => by simp [zero4]) rfl has_zero R99
    | false =>
      have TK := Lib.hid (tok_B P42.out hq42)
      clear hq42
      go_wp2_with fail
      refine (peek_lit R2.out hs (by omega) 0 42 0 42 rfl rfl (by omega)).mono ?_
      rintro e w3 ⟨rfl, hb⟩
      have hgl : g < w2.heap.size := R2.out.lt
      have R3 : Hid (Rdr w3 g s i false) := Lib.hid (R2.out.below hb hgl)
      have T3 : Hid (TokB w3 (w.heap.size + 1) 0 zero4) := Lib.hid (T2.out.below hb (by omega))
      have Z3 : Hid (Blk w3 w.heap.size 84 (tokCs 0 zero4)) := Lib.hid (Z2.out.below hb (by omega))
      have G3 : Hid (w.grownBy w3 (some g)) := Lib.hid (grownBy_trans G2.out (grown_bel hb))
      have hsz3 : w.heap.size + 2 ≤ w3.heap.size := Nat.le_trans hsz2 hb.size
      clear hb hgl R2 T2 Z2 G2 hsz2
      rw [Nat.add_zero]
      rw [P42.out]
      have k1 := R3.out.cells.2.1; have f1 := R3.out.frozen 1; have l1 := R3.out.lt
      go_upto_region 9 with (fail)
      have R4 : Hid (Rdr (w3.setCell ⟨g, 1, none⟩ (.int .i64 ((i : Int) + 1))) g s (i + 1) false) := Lib.hid ((R3.out.set_ 1 (.int .i64 ((i : Int) + 1))).to rfl)
      have T4 : Hid (TokB (w3.setCell ⟨g, 1, none⟩ (.int .i64 ((i : Int) + 1))) (w.heap.size + 1) 0 zero4) := Lib.hid (T3.out.far (by simp; omega) _)
      have Z4 : Hid (Blk (w3.setCell ⟨g, 1, none⟩ (.int .i64 ((i : Int) + 1))) w.heap.size 84 (tokCs 0 zero4)) := Lib.hid (Z3.out.far (by simp; omega) _)
      have G4 : Hid (w.grownBy (w3.setCell ⟨g, 1, none⟩ (.int .i64 ((i : Int) + 1))) (some g)) := Lib.hid (grown_cell G3.out)
      have hsz4 : w.heap.size + 2 ≤ (w3.setCell ⟨g, 1, none⟩ (.int .i64 ((i : Int) + 1))).heap.size := by simp; omega
      clear k1 f1 l1 R3 T3 Z3 G3
      generalize w3.setCell ⟨g, 1, none⟩ (.int .i64 ((i : Int) + 1)) = w4 at R4 T4 Z4 G4 hsz4 ⊢
      have c := T4.out.cell 0
      simp only [List.getElem?_toArray, List.getElem?_cons_succ, List.getElem?_cons_zero] at c
      have f1 := T4.out.frozen 0; have l1 := T4.out.lt
      go_upto_region 17 with (fail)
      have R5 : Hid (Rdr (w4.setCell ⟨w.heap.size + 1, 0, none⟩ (.int .i64 1)) g s (i + 1) false) := Lib.hid (R4.out.far (by simp; omega) _)
      have T5 : Hid (TokB (w4.setCell ⟨w.heap.size + 1, 0, none⟩ (.int .i64 1)) (w.heap.size + 1) 1 zero4) := Lib.hid ((T4.out.set_ 0 (.int .i64 1)).to rfl)
      have Z5 : Hid (Blk (w4.setCell ⟨w.heap.size + 1, 0, none⟩ (.int .i64 1)) w.heap.size 84 (tokCs 0 zero4)) := Lib.hid (Z4.out.far (by simp) _)
      have G5 : Hid (w.grownBy (w4.setCell ⟨w.heap.size + 1, 0, none⟩ (.int .i64 1)) (some g)) := Lib.hid (grown_step G4.out (grown_one _ _ _) (by show w.heap.size ≤ w.heap.size + 1; omega))
      clear c f1 l1 R4 T4 Z4 G4
      generalize w4.setCell ⟨w.heap.size + 1, 0, none⟩ (.int .i64 1) = w5 at R5 T5 Z5 G5 ⊢
      go_wp2_with (first
        | ((with_reducible refine at_load (ty := 84) (x := .tmp 3) ?_ ?_); exact rfl; refine wpList_load_blk rfl 84 (.tmp 3) rfl _ rfl T5.out whole_tok ?_)
        | ((with_reducible refine at_store (ty := 84) (x := .tmp 2) (y := .tmp 60) ?_ ?_); exact rfl; refine wpList_store_blk rfl 84 (.tmp 2) (.tmp 60) rfl _ rfl Z5.out rfl (by kernel_rfl) rfl rfl ?_; intro w99 b99 g99))
      have R99 : Rdr w99 g s (i + 1) false := R5.out.grown g99 (by intro e; injection e; omega)
      refine ret_blk rfl rfl b99 whole_tok rfl ?_
      exact tokEnd_some (k := 1) TK.out (grown_step G5.out g99 (Nat.le_refl _)) (fun _ => by simp [zero4]) rfl has_zero R99
  | false =>
    have P42 := Lib.hid hp42
    clear hp42
    go_wp2_with fail
    refine (peek_lit R1.out hs (by omega) 0 42 0 42 rfl rfl (by omega)).mono ?_
    rintro e w2 ⟨rfl, hb⟩
    have hgl : g < w1.heap.size := R1.out.lt
    have R2 : Hid (Rdr w2 g s i false) := Lib.hid (R1.out.below hb hgl)
    have T2 : Hid (TokB w2 (w.heap.size + 1) 0 zero4) := Lib.hid (T1.out.below hb (by omega))
    have Z2 : Hid (Blk w2 w.heap.size 84 (tokCs 0 zero4)) := Lib.hid (Z1.out.below hb (by omega))
    have G2 : Hid (w.grownBy w2 (some g)) := Lib.hid (grownBy_trans G1.out (grown_bel hb))
    have hsz2 : w.heap.size + 2 ≤ w2.heap.size := Nat.le_trans hsz1 hb.size
    clear hb hgl R1 T1 Z1 G1 hsz1
    rw [Nat.add_zero]
    rw [P42.out]
    go_wp2_with fail
    refine (peek_lit R2.out hs (by omega) 0 63 0 63 rfl rfl (by omega)).mono ?_
    rintro e w3 ⟨rfl, hb⟩
    have hgl : g < w2.heap.size := R2.out.lt
    have R3 : Hid (Rdr w3 g s i false) := Lib.hid (R2.out.below hb hgl)
    have T3 : Hid (TokB w3 (w.heap.size + 1) 0 zero4) := Lib.hid (T2.out.below hb (by omega))
    have Z3 : Hid (Blk w3 w.heap.size 84 (tokCs 0 zero4)) := Lib.hid (Z2.out.below hb (by omega))
    have G3 : Hid (w.grownBy w3 (some g)) := Lib.hid (grownBy_trans G2.out (grown_bel hb))
    have hsz3 : w.heap.size + 2 ≤ w3.heap.size := Nat.le_trans hsz2 hb.size
    clear hb hgl R2 T2 Z2 G2 hsz2
    rw [Nat.add_zero]
    cases hp63 : peekB s i 63 with
    | true =>
      have TK := Lib.hid (tok_C P42.out hp63)
      clear hp63
      have k1 := R3.out.cells.2.1; have f1 := R3.out.frozen 1; have l1 := R3.out.lt
      go_upto_region 12 with (fail)
      have R4 : Hid (Rdr (w3.setCell ⟨g, 1, none⟩ (.int .i64 ((i : Int) + 1))) g s (i + 1) false) := Lib.hid ((R3.out.set_ 1 (.int .i64 ((i : Int) + 1))).to rfl)
      have T4 : Hid (TokB (w3.setCell ⟨g, 1, none⟩ (.int .i64 ((i : Int) + 1))) (w.heap.size + 1) 0 zero4) := Lib.hid (T3.out.far (by simp; omega) _)
      have Z4 : Hid (Blk (w3.setCell ⟨g, 1, none⟩ (.int .i64 ((i : Int) + 1))) w.heap.size 84 (tokCs 0 zero4)) := Lib.hid (Z3.out.far (by simp; omega) _)
      have G4 : Hid (w.grownBy (w3.setCell ⟨g, 1, none⟩ (.int .i64 ((i : Int) + 1))) (some g)) := Lib.hid (grown_cell G3.out)
      have hsz4 : w.heap.size + 2 ≤ (w3.setCell ⟨g, 1, none⟩ (.int .i64 ((i : Int) + 1))).heap.size := by simp; omega
      clear k1 f1 l1 R3 T3 Z3 G3
      generalize w3.setCell ⟨g, 1, none⟩ (.int .i64 ((i : Int) + 1)) = w4 at R4 T4 Z4 G4 hsz4 ⊢
      go_wp2_with fail
      refine (svAdd (w.heap.size + 1) 0 zero4 0 46 _ T4.out (fun _ => by simp [zero4])).mono ?_
      rintro e w5 ⟨rfl, V1, ht, hs4, hb4, hg⟩
      have R5 : Hid (Rdr w5 g s (i + 1) false) := Lib.hid (R4.out.grown hg (by intro e; injection e; omega))
      have T5 : Hid (TokB w5 (w.heap.size + 1) 0 V1) := Lib.hid ht
      have Z5 : Hid (Blk w5 w.heap.size 84 (tokCs 0 zero4)) := Lib.hid (Z4.out.grown hg (by intro e; injection e; omega))
      have G5 : Hid (w.grownBy w5 (some g)) := Lib.hid (grown_step G4.out hg (by omega))
      have hsz5 : w.heap.size + 2 ≤ w5.heap.size := Nat.le_trans hsz4 hg.size
      have SV1 := Lib.hid hs4; have BV1 := Lib.hid hb4
      clear ht hs4 hb4 hg R4 T4 Z4 G4
      go_wp2_with fail
      refine (svAdd (w.heap.size + 1) 0 V1 48 255 _ T5.out SV1.out).mono ?_
      rintro e w6 ⟨rfl, V2, ht, hs4, hb4, hg⟩
      have R6 : Hid (Rdr w6 g s (i + 1) false) := Lib.hid (R5.out.grown hg (by intro e; injection e; omega))
      have T6 : Hid (TokB w6 (w.heap.size + 1) 0 V2) := Lib.hid ht
      have Z6 : Hid (Blk w6 w.heap.size 84 (tokCs 0 zero4)) := Lib.hid (Z5.out.grown hg (by intro e; injection e; omega))
      have G6 : Hid (w.grownBy w6 (some g)) := Lib.hid (grown_step G5.out hg (by omega))
      have hsz6 : w.heap.size + 2 ≤ w6.heap.size := Nat.le_trans hsz5 hg.size
      have SV2 := Lib.hid hs4; have BV2 := Lib.hid hb4
      clear ht hs4 hb4 hg R5 T5 Z5 G5
      go_upto_region 17 with (fail)
      go_wp2_with (first
        | ((with_reducible refine at_load (ty := 84) (x := .tmp 3) ?_ ?_); exact rfl; refine wpList_load_blk rfl 84 (.tmp 3) rfl _ rfl T6.out whole_tok ?_)
        | ((with_reducible refine at_store (ty := 84) (x := .tmp 2) (y := .tmp 60) ?_ ?_); exact rfl; refine wpList_store_blk rfl 84 (.tmp 2) (.tmp 60) rfl _ rfl Z6.out rfl (by kernel_rfl) rfl rfl ?_; intro w99 b99 g99))
      have R99 : Rdr w99 g s (i + 1) false := R6.out.grown g99 (by intro e; injection e; omega)
      refine ret_blk rfl rfl b99 whole_tok rfl ?_
      exact tokEnd_some (k := 0) TK.out (grown_step G6.out g99 (Nat.le_refl _)) SV2.out rfl (fun b => by rw [BV2.out b]; unfold orS; rw [BV1.out b]; exact any_but b) R99
    | false =>
      have P63 := Lib.hid hp63
      clear hp63
      go_wp2_with fail
      refine (peek_lit R3.out hs (by omega) 0 91 0 91 rfl rfl (by omega)).mono ?_
      rintro e w4 ⟨rfl, hb⟩
      have hgl : g < w3.heap.size := R3.out.lt
      have R4 : Hid (Rdr w4 g s i false) := Lib.hid (R3.out.below hb hgl)
      have T4 : Hid (TokB w4 (w.heap.size + 1) 0 zero4) := Lib.hid (T3.out.below hb (by omega))
      have Z4 : Hid (Blk w4 w.heap.size 84 (tokCs 0 zero4)) := Lib.hid (Z3.out.below hb (by omega))
      have G4 : Hid (w.grownBy w4 (some g)) := Lib.hid (grownBy_trans G3.out (grown_bel hb))
      have hsz4 : w.heap.size + 2 ≤ w4.heap.size := Nat.le_trans hsz3 hb.size
      clear hb hgl R3 T3 Z3 G3 hsz3
      rw [Nat.add_zero]
      cases hp91 : peekB s i 91 with
      | true =>
        have TK := Lib.hid (tok_D P42.out P63.out hp91)
        clear hp91
        have k1 := R4.out.cells.2.1; have f1 := R4.out.frozen 1; have l1 := R4.out.lt
        go_upto_region 16 with (fail)
        have R5 : Hid (Rdr (w4.setCell ⟨g, 1, none⟩ (.int .i64 ((i : Int) + 1))) g s (i + 1) false) := Lib.hid ((R4.out.set_ 1 (.int .i64 ((i : Int) + 1))).to rfl)
        have T5 : Hid (TokB (w4.setCell ⟨g, 1, none⟩ (.int .i64 ((i : Int) + 1))) (w.heap.size + 1) 0 zero4) := Lib.hid (T4.out.far (by simp; omega) _)
        have Z5 : Hid (Blk (w4.setCell ⟨g, 1, none⟩ (.int .i64 ((i : Int) + 1))) w.heap.size 84 (tokCs 0 zero4)) := Lib.hid (Z4.out.far (by simp; omega) _)
        have G5 : Hid (w.grownBy (w4.setCell ⟨g, 1, none⟩ (.int .i64 ((i : Int) + 1))) (some g)) := Lib.hid (grown_cell G4.out)
        have hsz5 : w.heap.size + 2 ≤ (w4.setCell ⟨g, 1, none⟩ (.int .i64 ((i : Int) + 1))).heap.size := by simp; omega
        clear k1 f1 l1 R4 T4 Z4 G4
        generalize w4.setCell ⟨g, 1, none⟩ (.int .i64 ((i : Int) + 1)) = w5 at R5 T5 Z5 G5 hsz5 ⊢
        go_wp2_with fail
        refine (svClass s g (i + 1) _ R5.out hs (by omega)).mono ?_
        rintro e w6 ⟨hg, V, rfl, hsv, hcl⟩
        have T6 : Hid (TokB w6 (w.heap.size + 1) 0 zero4) := Lib.hid (T5.out.grown hg (by intro e; injection e; omega))
        have Z6 : Hid (Blk w6 w.heap.size 84 (tokCs 0 zero4)) := Lib.hid (Z5.out.grown hg (by intro e; injection e; omega))
        have G6 : Hid (w.grownBy w6 (some g)) := Lib.hid (grownBy_trans G5.out hg)
        have hsz6 : w.heap.size + 2 ≤ w6.heap.size := Nat.le_trans hsz5 hg.size
        have SV := Lib.hid hsv
        have CL : Hid (∃ j bad, Rdr w6 g s j bad ∧ ((bad = false ∧ ∃ f, classB s.data.toList (i + 1) = some (f, j) ∧ ∀ b, hasN V b = f b) ∨ (bad = true ∧ classB s.data.toList (i + 1) = none ∧ j ≤ s.size + 5))) := Lib.hid (by
          cases hc : classB s.data.toList (i + 1) with
          | none => rw [hc] at hcl; obtain ⟨j, h1, h2⟩ := hcl; exact ⟨j, true, h2, .inr ⟨rfl, rfl, h1⟩⟩
          | some x => rw [hc] at hcl; exact ⟨x.2, false, hcl.2, .inl ⟨rfl, x.1, rfl, hcl.1⟩⟩)
        clear hg hsv hcl R5 T5 Z5 G5
        obtain ⟨j, bad, hr, hcl⟩ := CL.out
        have R6 : Hid (Rdr w6 g s j bad) := Lib.hid hr
        have CC := Lib.hid hcl
        clear hr hcl CL
        go_wp2_with ((with_reducible refine at_store (ty := 84) (x := .tmp 3) (y := .tmp 59) ?_ ?_); exact rfl; refine wpList_store_blk rfl 84 (.tmp 3) (.tmp 59) rfl _ rfl T6.out rfl (by kernel_rfl) rfl rfl ?_; intro w7 b7 g7; refine StopT.mk ?_)
        have T7 : Hid (TokB w7 (w.heap.size + 1) 0 V) := Lib.hid b7
        have R7 : Hid (Rdr w7 g s j bad) := Lib.hid (R6.out.grown g7 (by intro e; injection e; omega))
        have Z7 : Hid (Blk w7 w.heap.size 84 (tokCs 0 zero4)) := Lib.hid (Z6.out.grown g7 (by intro e; injection e; omega))
        have G7 : Hid (w.grownBy w7 (some g)) := Lib.hid (grown_step G6.out g7 (by omega))
        clear b7 g7 R6 T6 Z6 G6
        unfold StopT
        go_wp2_with (first
          | ((with_reducible refine at_load (ty := 84) (x := .tmp 3) ?_ ?_); exact rfl; refine wpList_load_blk rfl 84 (.tmp 3) rfl _ rfl T7.out whole_tok ?_)
          | ((with_reducible refine at_store (ty := 84) (x := .tmp 2) (y := .tmp 60) ?_ ?_); exact rfl; refine wpList_store_blk rfl 84 (.tmp 2) (.tmp 60) rfl _ rfl Z7.out rfl (by kernel_rfl) rfl rfl ?_; intro w99 b99 g99))
        have R99 : Rdr w99 g s j bad := R7.out.grown g99 (by intro e; injection e; omega)
        refine ret_blk rfl rfl b99 whole_tok rfl ?_
        rcases CC.out with ⟨rfl, f, hf, hbf⟩ | ⟨rfl, hf, hj⟩
        · exact tokEnd_some (k := 0) (TK.out.trans (by rw [hf]; rfl)) (grown_step G7.out g99 (Nat.le_refl _)) SV.out rfl hbf R99
        · exact tokEnd_none (k := 0) (TK.out.trans (by rw [hf]; rfl)) (grown_step G7.out g99 (Nat.le_refl _)) SV.out hj R99
      | false =>
        have TK := Lib.hid (tok_E P42.out P63.out hp91)
        clear hp91
        go_wp2_with fail
        refine (svPlain s g i _ R4.out hs (by omega)).mono ?_
        rintro e w5 ⟨hg, hpe⟩
        obtain ⟨c0, j, bad, rfl, hr, hit⟩ := plain_parts hpe
        have R5 : Hid (Rdr w5 g s j bad) := Lib.hid hr
        have T5 : Hid (TokB w5 (w.heap.size + 1) 0 zero4) := Lib.hid (T4.out.grown hg (by intro e; injection e; omega))
        have Z5 : Hid (Blk w5 w.heap.size 84 (tokCs 0 zero4)) := Lib.hid (Z4.out.grown hg (by intro e; injection e; omega))
        have G5 : Hid (w.grownBy w5 (some g)) := Lib.hid (grownBy_trans G4.out hg)
        have hsz5 : w.heap.size + 2 ≤ w5.heap.size := Nat.le_trans hsz4 hg.size
        have IT := Lib.hid hit
        clear hg hpe hr hit R4 T4 Z4 G4
        go_wp2_with fail
        refine (svAdd (w.heap.size + 1) 0 zero4 c0 c0 _ T5.out (fun _ => by simp [zero4])).mono ?_
        rintro e w6 ⟨rfl, V1, ht, hs4, hb4, hg⟩
        have R6 : Hid (Rdr w6 g s j bad) := Lib.hid (R5.out.grown hg (by intro e; injection e; omega))
        have T6 : Hid (TokB w6 (w.heap.size + 1) 0 V1) := Lib.hid ht
        have Z6 : Hid (Blk w6 w.heap.size 84 (tokCs 0 zero4)) := Lib.hid (Z5.out.grown hg (by intro e; injection e; omega))
        have G6 : Hid (w.grownBy w6 (some g)) := Lib.hid (grown_step G5.out hg (by omega))
        have hsz6 : w.heap.size + 2 ≤ w6.heap.size := Nat.le_trans hsz5 hg.size
        have SV1 := Lib.hid hs4; have BV1 := Lib.hid hb4
        clear ht hs4 hb4 hg R5 T5 Z5 G5
        go_upto_region 17 with (fail)
        go_wp2_with (first
          | ((with_reducible refine at_load (ty := 84) (x := .tmp 3) ?_ ?_); exact rfl; refine wpList_load_blk rfl 84 (.tmp 3) rfl _ rfl T6.out whole_tok ?_)
          | ((with_reducible refine at_store (ty := 84) (x := .tmp 2) (y := .tmp 60) ?_ ?_); exact rfl; refine wpList_store_blk rfl 84 (.tmp 2) (.tmp 60) rfl _ rfl Z6.out rfl (by kernel_rfl) rfl rfl ?_; intro w99 b99 g99))
        have R99 : Rdr w99 g s j bad := R6.out.grown g99 (by intro e; injection e; omega)
        refine ret_blk rfl rfl b99 whole_tok rfl ?_
        rcases IT.out with ⟨rfl, hit⟩ | ⟨rfl, hit, hj1, hj2⟩
        · exact tokEnd_some (k := 0) (TK.out.trans (by rw [hit]; rfl)) (grown_step G6.out g99 (Nat.le_refl _)) SV1.out rfl (fun b => by rw [BV1.out b]; exact just_one c0 b) R99
        · exact tokEnd_none (k := 0) (TK.out.trans (by rw [hit]; rfl)) (grown_step G6.out g99 (Nat.le_refl _)) SV1.out (by omega) R99
end Go.Proofs.YtjknjmlpnjifkaaDoor
