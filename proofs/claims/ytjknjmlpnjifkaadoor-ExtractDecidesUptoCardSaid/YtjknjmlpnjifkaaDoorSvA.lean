/- The sieve's reader of patterns: more, peek, plain. No condition but room. -/
import Derived.Test.YtjknjmlpnjifkaaDoorSievePat
namespace Go.Proofs.YtjknjmlpnjifkaaDoor
open Go.RowKit
set_option linter.unusedVariables false
set_option linter.unusedSimpArgs false
/-- the reader in memory: the pattern, the place, is it ill-formed -/
abbrev Rdr (w : World) (g : Nat) (s : ByteArray) (i : Nat) (bad : Bool) : Prop := Blk w g 79 #[.string s, .int .i64 i, .bool bad]
theorem Rdr.cells {w : World} {g : Nat} {s : ByteArray} {i : Nat} {bad : Bool} (h : Rdr w g s i bad) : w.cell? ⟨g, 0, none⟩ = some (.string s) ∧ w.cell? ⟨g, 1, none⟩ = some (.int .i64 i) ∧ w.cell? ⟨g, 2, none⟩ = some (.bool bad) :=
  ⟨h.cell 0, h.cell 1, h.cell 2⟩
def peekB (s : ByteArray) (i : Nat) (b : UInt8) : Bool := s.data.toList[i]? == some b
theorem peek_no {s : ByteArray} {i : Nat} {b : UInt8} (h : ¬ i < s.size) : peekB s i b = false := by
  unfold peekB
  rw [List.getElem?_eq_none (by rw [Array.length_toList]; show s.size ≤ i; omega)]; rfl
theorem peek_at {s : ByteArray} {i : Nat} {b : UInt8} (h : i < s.size) : peekB s i b = ((s[i].toNat : Int) == b.toNat) := by
  unfold peekB
  have e : s.data.toList[i]? = some s[i] := by rw [Array.getElem?_toList, Array.getElem?_eq_getElem h]; rfl
  rw [e, Bool.eq_iff_iff, beq_iff_eq, beq_iff_eq, Option.some.injEq, ← UInt8.toNat_inj]
  omega
set_option maxHeartbeats 400000 in
theorem svPeek (s : ByteArray) (g i k : Nat) (b : UInt8) (bad : Bool) (w : World) (h : Rdr w g s i bad) (hs : s.size ≤ 140737488355328) (hi : i ≤ s.size + 10) (hk : k ≤ 1) :
    Calls Tryd.prog 63 #[.pointer (some ⟨g, 0, none⟩), .int .i64 k, .int .u8 b.toNat] w fun e w' => e = .returned (.bool (peekB s (i + k) b)) ∧ Below w.heap.size w w' := by
  obtain ⟨k0, k1, k2⟩ := h.cells
  obtain ⟨j, hj⟩ : ∃ j, j = i + k := ⟨_, rfl⟩
  rw [← hj]
  have ew : IntKind.i64.wrap ((i : Int) + k) = (j : Int) := by rw [IntWalk.i64_in _ (by omega)]; omega
  have ew2 : (i : Int) + k = (j : Int) := by omega
  clear hj
  go_enter Tryd.func63, Tryd.ntmps63
  by_cases hlt : j < s.size
  · rw [peek_at hlt]
    go_wp2_with fail
    go_quiet ((fail))
    go_wp2_with fail
    go_ret
    exact ⟨rfl, below_drewN (Below.refl _ _) _⟩
  · rw [peek_no hlt]
    go_wp2_with fail
    go_quiet ((fail))
    go_wp2_with fail
    go_ret
    exact ⟨rfl, below_drewN (Below.refl _ _) _⟩
set_option maxHeartbeats 400000 in
theorem svMore (s : ByteArray) (g i : Nat) (bad : Bool) (w : World) (h : Rdr w g s i bad) (hs : s.size ≤ 140737488355328) (hi : i ≤ s.size + 10) :
    Calls Tryd.prog 48 #[.pointer (some ⟨g, 0, none⟩)] w fun e w' => e = .returned (.bool (decide (i < s.size) && !bad)) ∧ Below w.heap.size w w' := by
  obtain ⟨k0, k1, k2⟩ := h.cells
  go_enter Tryd.func48, Tryd.ntmps48
  by_cases hlt : i < s.size
  · rw [decide_eq_true hlt, Bool.true_and]
    go_wp2_with fail
    go_quiet ((fail))
    go_wp2_with fail
    go_ret
    exact ⟨rfl, below_drewN (Below.refl _ _) _⟩
  · rw [decide_eq_false hlt, Bool.false_and]
    go_wp2_with fail
    go_quiet ((fail))
    go_wp2_with fail
    go_ret
    exact ⟨rfl, below_drewN (Below.refl _ _) _⟩
/-- what plain answers -/
def PlainEnd (s : ByteArray) (g i : Nat) (w : World) (e : Ending) (w' : World) : Prop :=
  w.grownBy w' (some g) ∧ match itemB s.data.toList i with
  | some (c, nx) => e = .returned (.int .u8 c.toNat) ∧ Rdr w' g s nx false
  | none => ∃ j : Nat, s.size ≤ j ∧ j ≤ s.size + 1 ∧ e = .returned (.int .u8 0) ∧ Rdr w' g s j true
theorem data_at {s : ByteArray} {i : Nat} (h : i < s.size) : s.data.toList[i]? = some s[i] := by rw [Array.getElem?_toList, Array.getElem?_eq_getElem h]; rfl
theorem data_out {s : ByteArray} {i : Nat} (h : ¬ i < s.size) : s.data.toList[i]? = none := List.getElem?_eq_none (by rw [Array.length_toList]; show s.size ≤ i; omega)
theorem item_esc {s : ByteArray} {i x : Nat} (h : i < s.size) (h92 : s[i] = 92) (h2 : x < s.size) (hx : x = i + 1) : itemB s.data.toList i = some (s[x], x + 1) := by
  subst hx
  unfold itemB
  rw [data_at h, h92]
  simp only [ne_eq, not_true, if_false, data_at h2]
theorem item_esc0 {s : ByteArray} {i : Nat} (h : i < s.size) (h92 : s[i] = 92) (h2 : ¬ i + 1 < s.size) : itemB s.data.toList i = none := by
  unfold itemB
  rw [data_at h, h92]
  simp only [ne_eq, not_true, if_false, data_out h2]
theorem item_at {s : ByteArray} {i x : Nat} (h : i < s.size) (h92 : ¬ s[i] = 92) (hx : x = i) (h2 : x < s.size := by omega) : itemB s.data.toList i = some (s[x], x + 1) := by
  subst hx
  unfold itemB
  rw [data_at h]
  simp only [ne_eq, h92, not_false_eq_true, if_true]
theorem item_out {s : ByteArray} {i : Nat} (h : ¬ i < s.size) : itemB s.data.toList i = none := by
  unfold itemB
  rw [data_out h]
theorem plain_yes {s : ByteArray} {g i nx : Nat} {c : UInt8} {w w' : World} (h : itemB s.data.toList i = some (c, nx)) (hg : w.grownBy w' (some g)) (hr : Rdr w' g s nx false) : PlainEnd s g i w (.returned (.int .u8 c.toNat)) w' := by
  unfold PlainEnd; rw [h]; exact ⟨hg, rfl, hr⟩
theorem plain_no {s : ByteArray} {g i j : Nat} {w w' : World} (h : itemB s.data.toList i = none) (h1 : s.size ≤ j) (h2 : j ≤ s.size + 1) (hg : w.grownBy w' (some g)) (hr : Rdr w' g s j true) : PlainEnd s g i w (.returned (.int .u8 0)) w' := by
  unfold PlainEnd; rw [h]; exact ⟨hg, j, h1, h2, rfl, hr⟩
theorem grown_drewN {w w' : World} {row : Option Nat} (h : w.grownBy w' row) (n : Nat) : w.grownBy (w'.drewN n) row := ⟨h.os, h.tape, h.output, h.size, h.block⟩
theorem grown_cell {w w' : World} {g i : Nat} {v : Value} (h : w.grownBy w' (some g)) : w.grownBy (w'.setCell ⟨g, i, none⟩ v) (some g) :=
  ⟨h.os, h.tape, h.output, by simpa using h.size, fun n hn hne => (Below.heap_setCell _ _ _ n (fun e => hne (by rw [e]))).trans (h.block n hn hne)⟩
theorem grown_bel {w w' : World} {row : Option Nat} (h : Below w.heap.size w w') : w.grownBy w' row := ⟨h.os, h.tape, h.output, h.size, fun n hn _ => h.block n hn⟩
set_option maxHeartbeats 1000000 in
theorem svPlain (s : ByteArray) (g i : Nat) (w : World) (h : Rdr w g s i false) (hs : s.size ≤ 140737488355328) (hi : i ≤ s.size + 1) :
    Calls Tryd.prog 66 #[.pointer (some ⟨g, 0, none⟩)] w (PlainEnd s g i w) := by
  have hb0 := svPeek s g i 0 92 false w h hs (by omega) (by omega)
  have e92 : ((92 : UInt8).toNat : Int) = 92 := rfl
  have e00 : ((0 : Nat) : Int) = 0 := rfl
  rw [e92, e00, Nat.add_zero] at hb0
  have HB0 := Lib.hid hb0
  have H := Lib.hid h
  clear hb0 h e92 e00
  go_enter Tryd.func66, Tryd.ntmps66
  go_wp2_with fail
  refine HB0.out.mono ?_
  rintro e w1 ⟨rfl, hb1⟩
  have H1 : Hid (Rdr w1 g s i false) := Lib.hid (Blk.below H.out hb1 H.out.lt)
  have G1 : Hid (w.grownBy w1 (some g)) := Lib.hid (grown_bel hb1)
  clear hb1
  have k1 := H1.out.cells.2.1; have f1 := H1.out.frozen 1; have l1 := H1.out.lt
  by_cases hlt : i < s.size
  · by_cases h92 : s[i] = 92
    · have hp : peekB s i 92 = true := by rw [peek_at hlt, h92]; rfl
      have H92 := Lib.hid h92
      rw [hp]
      clear hp h92
      go_wp2_with fail
      have h2 : Rdr (w1.setCell ⟨g, 1, none⟩ (.int .i64 ((i : Int) + 1))) g s (i + 1) false := (H1.out.set_ 1 (.int .i64 ((i : Int) + 1))).to rfl
      have g2 := grown_cell (i := 1) (v := .int .i64 ((i : Int) + 1)) G1.out
      clear k1 f1 l1
      generalize w1.setCell ⟨g, 1, none⟩ (.int .i64 ((i : Int) + 1)) = w2 at h2 g2 ⊢
      have H2 : Hid (Rdr w2 g s (i + 1) false) := Lib.hid h2
      have G2 := Lib.hid g2
      clear h2 g2
      by_cases hl2 : i + 1 < s.size
      · obtain ⟨x, hx⟩ : ∃ x, x = i + 1 := ⟨_, rfl⟩
        rw [← hx] at hl2
        have H2' : Hid (Rdr w2 g s x false) := Lib.hid (by rw [hx]; exact H2.out)
        have HX := Lib.hid hx
        have k0 := H2'.out.cells.1; have k1 := H2'.out.cells.2.1; have f1 := H2'.out.frozen 1; have l1 := H2'.out.lt
        have c1 : decide (s.size ≤ x) = false := decide_eq_false (by omega)
        have hxs : x ≤ s.size := by omega
        clear hx
        go_quiet ((fail))
        go_wp2_with fail
        have h3 : Rdr ((w2.drewN nq).setCell ⟨g, 1, none⟩ (.int .i64 ((x : Int) + 1))) g s (x + 1) false := ((Blk.drewN H2'.out nq).set_ 1 (.int .i64 ((x : Int) + 1))).to rfl
        have g3 := grown_cell (i := 1) (v := .int .i64 ((x : Int) + 1)) (grown_drewN G2.out nq)
        clear k0 k1 f1 l1 c1
        generalize (w2.drewN nq).setCell ⟨g, 1, none⟩ (.int .i64 ((x : Int) + 1)) = w3 at h3 g3 ⊢
        have k0 := h3.cells.1
        have k1 : w3.cell? ⟨g, 1, none⟩ = some (.int .i64 ((x : Int) + 1)) := h3.cells.2.1
        have ew : IntKind.i64.wrap ((x : Int) + 1 - 1) = (x : Int) := by rw [IntWalk.i64_in _ (by omega)]; omega
        have H3 := Lib.hid h3; have G3 := Lib.hid g3
        clear h3 g3
        go_quiet ((fail))
        go_wp2_with fail
        go_ret
        exact plain_yes (item_esc hlt H92.out hl2 HX.out) (grown_drewN G3.out _) (Blk.drewN H3.out _)
      · have k0 := H2.out.cells.1; have k2 := H2.out.cells.2.2; have f2 := H2.out.frozen 2; have l1 := H2.out.lt
        have k1 : w2.cell? ⟨g, 1, none⟩ = some (.int .i64 ((i : Int) + 1)) := H2.out.cells.2.1
        have c1 : decide ((s.size : Int) ≤ (i : Int) + 1) = true := by simp; omega
        go_quiet ((fail))
        go_wp2_with fail
        go_ret
        exact plain_no (item_esc0 hlt H92.out hl2) (by omega) (by omega) (grown_cell (grown_drewN G2.out _)) (((Blk.drewN H2.out _).set_ 2 (.bool true)).to rfl)
    · have hp : peekB s i 92 = false := by
        rw [peek_at hlt, beq_eq_false_iff_ne]
        intro e
        exact h92 (UInt8.toNat_inj.1 (by have e92 : (92 : UInt8).toNat = 92 := rfl; omega))
      have H92 := Lib.hid h92
      rw [hp]
      clear hp h92 k1 f1 l1
      go_wp2_with fail
      obtain ⟨w2, hw2⟩ : ∃ w2, w2 = w1 := ⟨_, rfl⟩
      rw [← hw2] at H1 G1 ⊢
      have H2 := H1; have G2 := G1
      clear hw2 H1 G1
      have hl2 := hlt
      obtain ⟨x, hx⟩ : ∃ x, x = i := ⟨_, rfl⟩
      rw [← hx] at hl2
      have H2' : Hid (Rdr w2 g s x false) := Lib.hid (by rw [hx]; exact H2.out)
      have HX := Lib.hid hx
      have k0 := H2'.out.cells.1; have k1 := H2'.out.cells.2.1; have f1 := H2'.out.frozen 1; have l1 := H2'.out.lt
      have c1 : decide (s.size ≤ x) = false := decide_eq_false (by omega)
      have hxs : x ≤ s.size := by omega
      clear hx
      go_quiet ((fail))
      go_wp2_with fail
      have h3 : Rdr ((w2.drewN nq).setCell ⟨g, 1, none⟩ (.int .i64 ((x : Int) + 1))) g s (x + 1) false := ((Blk.drewN H2'.out nq).set_ 1 (.int .i64 ((x : Int) + 1))).to rfl
      have g3 := grown_cell (i := 1) (v := .int .i64 ((x : Int) + 1)) (grown_drewN G2.out nq)
      clear k0 k1 f1 l1 c1
      generalize (w2.drewN nq).setCell ⟨g, 1, none⟩ (.int .i64 ((x : Int) + 1)) = w3 at h3 g3 ⊢
      have k0 := h3.cells.1
      have k1 : w3.cell? ⟨g, 1, none⟩ = some (.int .i64 ((x : Int) + 1)) := h3.cells.2.1
      have ew : IntKind.i64.wrap ((x : Int) + 1 - 1) = (x : Int) := by rw [IntWalk.i64_in _ (by omega)]; omega
      have H3 := Lib.hid h3; have G3 := Lib.hid g3
      clear h3 g3
      go_quiet ((fail))
      go_wp2_with fail
      go_ret
      exact plain_yes (item_at hlt H92.out HX.out) (grown_drewN G3.out _) (Blk.drewN H3.out _)
  · rw [peek_no hlt]
    have k0 := H1.out.cells.1; have k2 := H1.out.cells.2.2; have f2 := H1.out.frozen 2
    have c1 : decide (s.size ≤ i) = true := decide_eq_true (by omega)
    go_wp2_with fail
    go_quiet ((fail))
    go_wp2_with fail
    go_ret
    exact plain_no (item_out hlt) (by omega) (by omega) (grown_cell (grown_drewN G1.out _)) (((Blk.drewN H1.out _).set_ 2 (.bool true)).to rfl)
end Go.Proofs.YtjknjmlpnjifkaaDoor
