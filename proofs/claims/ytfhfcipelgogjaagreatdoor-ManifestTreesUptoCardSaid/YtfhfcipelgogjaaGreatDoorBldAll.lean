/- A strings.Builder of the call's own: copyCheck, WriteByte, String. No condition but room. manifest's Escape: what it computes. No condition but room. A strings.Builder of the call's own: WriteString. No condition but room. manifest's Unescape: what it computes. No condition but room. -/
import Derived.Test.YtfhfcipelgogjaaGreatDoorEscAll
import Derived.Lib.Builder
import Derived.Lib.UnsafeStr
import Derived.Lib.AppendStr
import Derived.RegionTactic
import Derived.Lib.Strings
namespace Go.Proofs.YtfhfcipelgogjaaGreatDoor
open Go.RowKit
set_option linter.unusedSectionVars false
set_option linter.unusedVariables false
set_option linter.unusedSimpArgs false

/-- only block b, the row of v and new blocks have turned -/
structure Turned (b : Nat) (v : Value) (w w' : World) : Prop where
  os : w'.os = w.os
  tape : w'.tape = w.tape
  output : w'.output = w.output
  size : w.heap.size ≤ w'.heap.size
  block : ∀ n, n < w.heap.size → n ≠ b → some n ≠ v.ownBlock → w'.heap[n]? = w.heap[n]?
/-- a builder in block b: its buffer v, its bytes l -/
structure Bld (w : World) (base b : Nat) (v : Value) (l : List UInt8) : Prop where
  hb : base ≤ b
  blk : ∃ p, (p = .pointer none ∨ p = .pointer (some ⟨b, 0, none⟩)) ∧ Blk w b 83 #[p, v]
  own : OwnB 5 w base v l
  ne : v.ownBlock ≠ some b
section
variable {w w' w1 : World} {base b : Nat} {v v' : Value} {l : List UInt8}
theorem Turned.refl (b : Nat) (v : Value) (w : World) : Turned b v w w := ⟨rfl, rfl, rfl, Nat.le_refl _, fun _ _ _ _ => rfl⟩
theorem Turned.below {B : Nat} {W : World} (h : Turned b v w w') (hw : Below B W w) (hB : B ≤ w.heap.size) (hb : B ≤ b) (hv : ∀ k, v.ownBlock = some k → B ≤ k) : Below B W w' :=
  ⟨h.os.trans hw.os, h.tape.trans hw.tape, h.output.trans hw.output, Nat.le_trans hw.size h.size, fun n hn =>
    (h.block n (by omega) (by omega) (fun e => by have := hv n e.symm; omega)).trans (hw.block n hn)⟩
theorem Turned.grown (h : Turned b v w w') {row : Option Nat} (hg : w'.grownBy w1 row) (hr : ∀ k, row = some k → k = b ∨ some k = v.ownBlock ∨ w.heap.size ≤ k) : Turned b v w w1 :=
  ⟨hg.os.trans h.os, hg.tape.trans h.tape, hg.output.trans h.output, Nat.le_trans h.size hg.size, fun n hn h1 h2 =>
    (hg.block n (Nat.lt_of_lt_of_le hn h.size) (fun e => by rcases hr n e.symm with h' | h' | h' <;> first | exact h1 h' | exact h2 h' | omega)).trans (h.block n hn h1 h2)⟩
theorem grown_setCell (w : World) (p : Addr) (u : Value) : w.grownBy (w.setCell p u) (some p.block) :=
  ⟨rfl, rfl, rfl, by simp [World.setCell], fun n _ hn => Below.heap_setCell w p u n (fun e => hn (by rw [e]))⟩
theorem Bld.lt (h : Bld w base b v l) : b < w.heap.size := by
  obtain ⟨_, ⟨p, _, hk⟩, _, _⟩ := h
  exact hk.lt
theorem Bld.keep (h : Bld w base b v l) {row : Option Nat} (hg : w.grownBy w' row) (h1 : some b ≠ row) (h2 : v.ownBlock = none ∨ v.ownBlock ≠ row) : Bld w' base b v l := by
  obtain ⟨hb, ⟨p, hp, hk⟩, ho, hn⟩ := h
  exact ⟨hb, ⟨p, hp, (hg.block b hk.lt h1).trans hk⟩, ho.kept hg h2 (fun _ h => h.elim), hn⟩
theorem Bld.over_ (h : Bld w base b v l) (δ : World) : Bld (over w δ) base b v l := h.keep (grownBy_over w δ) (by simp) (by cases hv : v.ownBlock <;> simp)
theorem Bld.alloc (h : Bld w base b v l) (o : Obj) : Bld (w.alloc o) base b v l := h.keep (World.grownBy_alloc w o none) (by simp) (by cases hv : v.ownBlock <;> simp)
/-- 'var b strings.Builder' -/
theorem Bld.new (w : World) : Bld (w.alloc (.cells #[.pointer none, .slice none 0 0] 83)) w.heap.size w.heap.size (.slice none 0 0) [] :=
  ⟨Nat.le_refl _, ⟨_, .inl rfl, Blk.new w _ _⟩, (Own.start Shape.byte 5 _ _), by simp [Value.ownBlock]⟩
theorem sizeBuilder : (Tryz.prog.info? 83).map (·.size) = some 2 := by kernel_rfl
theorem liesBuilder : liesAt Tryz.prog Tryz.prog.depth 83 (2 / Tryz.prog.cellsOf 83) 0 83 1 = true := by kernel_rfl
set_option maxRecDepth 100000 in
theorem copyCheck_used (b : Nat) (w : World) (h0 : w.cell? ⟨b, 0, none⟩ = some (.pointer (some ⟨b, 0, none⟩))) :
    Calls Tryz.prog 61 #[.pointer (some ⟨b, 0, none⟩)] w fun e w' => e = .returned (.tuple #[]) ∧ w' = w := by
  obtain ⟨j, hj, _⟩ := Option.map_eq_some_iff.1 sizeBuilder
  go_enter Tryz.func61, Tryz.ntmps61
  go_wp2
  rw [Lib.run_neq_ptr_same w _ Tryz.underlying81 hj]
  go_wp2
  go_end0
  exact ⟨rfl, rfl⟩
set_option maxRecDepth 100000 in
theorem copyCheck_fresh (b : Nat) (w : World) (h0 : w.cell? ⟨b, 0, none⟩ = some (.pointer none)) (hsh : w.shape? b = some (83, 2)) (hfz : w.frozen? ⟨b, 0, none⟩ = false) :
    Calls Tryz.prog 61 #[.pointer (some ⟨b, 0, none⟩)] w fun e w' => e = .returned (.tuple #[]) ∧ w' = w.setCell ⟨b, 0, none⟩ (.pointer (some ⟨b, 0, none⟩)) := by
  obtain ⟨j, hj, hjs⟩ := Option.map_eq_some_iff.1 sizeBuilder
  go_enter Tryz.func61, Tryz.ntmps61
  go_wp2
  rw [Lib.run_to_unsafe w ⟨b, 0, none⟩ Tryz.underlying81 Tryz.underlying183 hj (by rw [hjs]; decide) hsh (Nat.zero_lt_succ 1)]
  simp only [Result.andThen]
  rw [Oper.upon_value]
  go_wp2
  rw [run_callFunc_extern Tryz.func96 (by kernel_rfl) (by kernel_rfl) (by kernel_rfl) (e := Extern.AbiNoEscape.same) (by kernel_rfl)]
  rw [Lib.run_noEscape]
  simp only [Result.andThen]
  rw [Oper.upon_value]
  go_wp2
  rw [Lib.run_from_unsafe w ⟨b, 0, none⟩ Tryz.underlying183 Tryz.underlying81 hj hsh liesBuilder]
  simp only [Result.andThen]
  rw [Oper.upon_value]
  go_wp2
  go_end0
  exact ⟨rfl, rfl⟩
theorem Bld.used (h : Bld w base b v l) : Bld (w.setCell ⟨b, 0, none⟩ (.pointer (some ⟨b, 0, none⟩))) base b v l ∧ (w.setCell ⟨b, 0, none⟩ (.pointer (some ⟨b, 0, none⟩))).heap[b]? = some (.cells #[.pointer (some ⟨b, 0, none⟩), v] 83 (0, 0)) := by
  obtain ⟨hb, ⟨p, hp, hk⟩, ho, hn⟩ := h
  have hk' := hk.set_ 0 (.pointer (some ⟨b, 0, none⟩))
  refine ⟨⟨hb, ⟨_, .inr rfl, hk'⟩, ho.kept (grown_setCell w ⟨b, 0, none⟩ _) (Or.inr hn) (fun _ h => h.elim), hn⟩, hk'⟩
theorem copyCheck (h : Bld w base b v l) :
    Calls Tryz.prog 61 #[.pointer (some ⟨b, 0, none⟩)] w fun e w' => e = .returned (.tuple #[]) ∧ Bld w' base b v l ∧ w'.heap[b]? = some (.cells #[.pointer (some ⟨b, 0, none⟩), v] 83 (0, 0)) ∧ Turned b v w w' := by
  have H := h
  obtain ⟨hb, ⟨p, hp, hk⟩, ho, hn⟩ := h
  have c0 : w.cell? ⟨b, 0, none⟩ = some p := by rw [Lib.cell_of_heap hk]; rfl
  rcases hp with rfl | rfl
  · refine (copyCheck_fresh b w c0 (by unfold World.shape?; rw [show w.heap[b]? = _ from hk]; rfl) (Lib.frozen_of_heap hk 0)).mono ?_
    rintro e w' ⟨rfl, rfl⟩
    exact ⟨rfl, H.used.1, H.used.2, (Turned.refl b v w).grown (grown_setCell w ⟨b, 0, none⟩ _) (fun k e => .inl (by injection e with e; exact e.symm))⟩
  · refine (copyCheck_used b w c0).mono ?_
    rintro e w' ⟨rfl, rfl⟩
    exact ⟨rfl, H, hk, Turned.refl b v _⟩
set_option maxHeartbeats 1000000 in
set_option maxRecDepth 100000 in
theorem writeByte (h : Bld w base b v l) (n : Int) (c : UInt8) (hn : n = (c.toNat : Int)) (hlen : l.length ≤ 1000000000000) (hbase : base ≤ w.heap.size) :
    Calls Tryz.prog 31 #[.pointer (some ⟨b, 0, none⟩), .int .u8 n] w fun e w' => e = .returned .nilIface ∧ ∃ v', Bld w' base b v' (l ++ [c]) ∧ Turned b v w w' ∧ (v'.ownBlock = v.ownBlock ∨ ∀ k, v'.ownBlock = some k → w.heap.size ≤ k) := by
  subst hn
  go_enter Tryz.func31, Tryz.ntmps31
  go_wp2_with (go_at_call 61; refine (copyCheck h).mono ?_)
  rintro e w1 ⟨rfl, h1, hbk, t1⟩
  have c1 : w1.cell? ⟨b, 1, none⟩ = some v := by rw [Lib.cell_of_heap hbk]; rfl
  have hsz := t1.size
  have B1 := Lib.hid h1; have T1 := Lib.hid t1; have HB := Lib.hid hbk
  have hown := h1.own
  have hlt := h1.lt
  clear h1 t1 hbk h
  go_wp2_with (at_builtin; refine wpList_append_list (v := v) rfl (.tmp 11) (.tmp 13) _ rfl (⟨Tryz.underlying58, by kernel_rfl⟩ : Elem Tryz.prog 58 5 Shape.byte 1) rfl (hown.alloc _) rfl (Src.single (s := Shape.byte) (es := [.int .u8 c.toNat]) (a := c) 5 (M := fun _ => False) (fun _ h => h.elim) rfl) (fun _ h => h.elim) ?c1 ?c2 ?c3 ?_)
  case c1 => simp; omega
  case c2 => simp [maxLen]; omega
  case c3 => simp; omega
  intro v' w2 hown' hg hat
  have hg2 := hg.size
  simp at hg2
  have hb2 : w2.heap[b]? = some (.cells #[.pointer (some ⟨b, 0, none⟩), v] 83 (0, 0)) := by
    rw [hg.block b (by simp; omega) (fun e => B1.out.ne e.symm), Below.heap_alloc _ _ _ hlt]
    exact HB.out
  have d0 : w2.cell? ⟨b, 0, none⟩ = some (.pointer (some ⟨b, 0, none⟩)) := by rw [Lib.cell_of_heap hb2]; rfl
  have d1 : w2.cell? ⟨b, 1, none⟩ = some v := by rw [Lib.cell_of_heap hb2]; rfl
  have f1 : w2.frozen? ⟨b, 1, none⟩ = false := Lib.frozen_of_heap hb2 1
  have hown2 : OwnB 5 w2 base v' (l ++ [c]) := by first | exact hown' | exact hown'.ff
  have hne' : v'.ownBlock ≠ some b := by
    rcases hat with e | e <;> rw [e]
    · exact B1.out.ne
    · intro e'; injection e' with e'; first | omega | (simp at e'; omega)
  have hfin : Bld (w2.setCell ⟨b, 1, none⟩ v') base b v' (l ++ [c]) :=
    ⟨B1.out.hb, ⟨_, .inr rfl, (show Blk w2 b _ _ from hb2).set_ 1 v'⟩, hown2.kept (grown_setCell w2 ⟨b, 1, none⟩ v') (Or.inr hne') (fun _ h => h.elim), hne'⟩
  have htur : Turned b v w (w2.setCell ⟨b, 1, none⟩ v') := by
    refine ((T1.out.grown (World.grownBy_alloc w1 _ none) (fun k e => by cases e)).grown hg (fun k e => .inr (.inl e.symm))).grown (grown_setCell w2 ⟨b, 1, none⟩ v') (fun k e => .inl (by injection e with e; exact e.symm))
  have hat' : v'.ownBlock = v.ownBlock ∨ ∀ k, v'.ownBlock = some k → w.heap.size ≤ k := by
    rcases hat with e | e
    · exact .inl e
    · refine .inr fun k hk => ?_
      rw [e] at hk; injection hk with hk; first | omega | (simp at hk; omega)
  have F := Lib.hid hfin; have T := Lib.hid htur; have A' := Lib.hid hat'
  have hform := hown'.form
  clear hfin htur hat' hat hne' hown' hg hb2
  obtain ⟨ao, n', cap, rfl⟩ : ∃ ao n' cap, v' = .slice ao n' cap := by
    rcases hform with ⟨h, _⟩ | ⟨g, cap, h, _⟩
    · exact ⟨_, _, _, h⟩
    · exact ⟨_, _, _, h⟩
  clear hform
  go_wp2
  go_ret
  exact ⟨rfl, _, F.out, T.out, A'.out⟩
theorem cells_bytes {w : World} {M : Nat → Prop} {xs : List Value} {l : List UInt8} (h : Cells Shape.byte w M xs l) : xs = l.map fun b => Value.int .u8 b.toNat := by
  induction l generalizing xs with
  | nil => exact h
  | cons a l ih => obtain ⟨es, rest, e, h1, h2⟩ := h; have h1' : es = [.int .u8 a.toNat] := h1; rw [e, h1', ih h2]; rfl
theorem unsafeString_none (q : Option Addr) (w : World) : (Builtin.unsafeString_ #[134, 3] 9 #[.pointer q, .int .i64 0]).run Tryz.prog w = .ok (strV []) w :=
  Lib.run_unsafeString_none w _ _ _ q
theorem freeze_turned {g : Nat} {n c : Nat} (w : World) (k : Nat) : Turned b (.slice (some ⟨g, 0, none⟩) n c) w (w.freeze ⟨g, 0, none⟩ k) := by
  unfold World.freeze
  split
  · exact Turned.refl _ _ w
  · refine ⟨rfl, rfl, rfl, by simp, fun j hj h1 h2 => ?_⟩
    simp only [Array.getElem?_modify]
    rw [if_neg (fun e => h2 (by simp [Value.ownBlock, e]))]
theorem Turned.drew (h : Turned b v w w') : Turned b v w w'.drew := ⟨h.os, h.tape, h.output, h.size, h.block⟩
theorem Turned.trans_ (h : Turned b v w w') (k : Turned b v w' w1) : Turned b v w w1 :=
  ⟨k.os.trans h.os, k.tape.trans h.tape, k.output.trans h.output, Nat.le_trans h.size k.size, fun n hn h1 h2 => (k.block n (Nat.lt_of_lt_of_le hn h.size) h1 h2).trans (h.block n hn h1 h2)⟩
set_option maxHeartbeats 2000000 in
set_option maxRecDepth 100000 in
theorem bldString (h : Bld w base b v l) (hbase : base ≤ w.heap.size) :
    Calls Tryz.prog 32 #[.pointer (some ⟨b, 0, none⟩)] w fun e w' => e = .returned (strV l) ∧ Turned b v w w' := by
  obtain ⟨hb, ⟨p, hp, hk⟩, ⟨xs, hrow, hcs, _⟩, hne⟩ := h
  have hxs := cells_bytes hcs
  subst hxs
  have hlt := hk.lt
  rcases hrow.2 with ⟨rfl, hl0⟩ | ⟨g, cap, cur, rfl, hbg, hg, hnc, hcm, hcz, htake⟩
  · have hl : l = [] := List.eq_nil_of_length_eq_zero hl0
    subst hl
    have hUS := fun W q => unsafeString_none q W
    have c1 : w.drew.cell? ⟨b, 1, none⟩ = some (.slice none 0 0) := by
      have : w.drew.heap[b]? = _ := hk
      rw [Lib.cell_of_heap this]; rfl
    have hSD : (Builtin.unsafeSliceData_ #[58] 134 #[.slice none 0 0]).run Tryz.prog w.drew = .ok (.pointer none) w.drew := rfl
    clear hrow hcs
    have T := Lib.hid (Turned.refl b (.slice none 0 0) w).drew
    go_enter Tryz.func32, Tryz.ntmps32
    go_wp2
    go_region
    all_goals (go_wp2; go_ret; exact ⟨rfl, T.out⟩)
  · by_cases hl0 : l = []
    · subst hl0
      by_cases hc0 : cap = 0
      · subst hc0
        have hUS := fun W q => unsafeString_none q W
        have hSD : (Builtin.unsafeSliceData_ #[58] 134 #[.slice (some ⟨g, 0, none⟩) 0 0]).run Tryz.prog w.drew = .ok (.pointer (some ⟨w.drew.heap.size, 0, none⟩)) (w.drew.alloc (.view ⟨g, 0, none⟩ 5)) :=
          Lib.run_unsafeSliceData_zero w.drew _ _ 5 Tryz.underlying134 ⟨g, 0, none⟩ 0 (5, cur.size) (by have hg' : w.drew.heap[g]? = some (.cells cur 5 (0, 0)) := hg; simp [World.shape?, hg'])
        have c2 : (w.drew.alloc (.view ⟨g, 0, none⟩ 5)).cell? ⟨b, 1, none⟩ = some (.slice (some ⟨g, 0, none⟩) 0 0) := by
          have : (w.drew.alloc (.view ⟨g, 0, none⟩ 5)).heap[b]? = _ := (Lib.alloc_old w.drew _ b hlt).trans hk
          rw [Lib.cell_of_heap this]; rfl
        have c3 : (w.alloc (.view ⟨g, 0, none⟩ 5)).drew.cell? ⟨b, 1, none⟩ = some (.slice (some ⟨g, 0, none⟩) 0 0) := c2
        have c0 : w.cell? ⟨b, 1, none⟩ = some (.slice (some ⟨g, 0, none⟩) 0 0) := by rw [Lib.cell_of_heap hk]; rfl
        have T := Lib.hid ((Turned.refl b (.slice (some ⟨g, 0, none⟩) 0 0) w).drew.grown (World.grownBy_alloc w.drew (.view ⟨g, 0, none⟩ 5) none) (fun k e => by cases e))
        clear hrow hcs
        go_enter Tryz.func32, Tryz.ntmps32
        go_wp2
        go_region
        all_goals (go_wp2; go_ret; exact ⟨rfl, T.out⟩)
      · have hUS := unsafeString_none
        have c1 : w.drew.cell? ⟨b, 1, none⟩ = some (.slice (some ⟨g, 0, none⟩) 0 cap) := by
          have : w.drew.heap[b]? = _ := hk
          rw [Lib.cell_of_heap this]; rfl
        have hSD : (Builtin.unsafeSliceData_ #[58] 134 #[.slice (some ⟨g, 0, none⟩) 0 cap]).run Tryz.prog w.drew = .ok (.pointer (some ⟨g, 0, none⟩)) w.drew :=
          Lib.run_unsafeSliceData_row _ _ _ _ _ _ hc0
        have T := Lib.hid (Turned.refl b (.slice (some ⟨g, 0, none⟩) 0 cap) w).drew
        clear hc0 hrow hcs
        go_enter Tryz.func32, Tryz.ntmps32
        go_wp2
        go_region
        all_goals (go_wp2; go_ret; exact ⟨rfl, T.out⟩)
    · have hl1 : l.length ≠ 0 := by simpa using hl0
      have c1 : w.drew.cell? ⟨b, 1, none⟩ = some (.slice (some ⟨g, 0, none⟩) l.length cap) := by
        have : w.drew.heap[b]? = _ := hk
        rw [Lib.cell_of_heap this]; rfl
      have hSD : (Builtin.unsafeSliceData_ #[58] 134 #[.slice (some ⟨g, 0, none⟩) l.length cap]).run Tryz.prog w.drew = .ok (.pointer (some ⟨g, 0, none⟩)) w.drew :=
        Lib.run_unsafeSliceData_row _ _ _ _ _ _ (by omega)
      have hUS : (Builtin.unsafeString_ #[134, 3] 9 #[.pointer (some ⟨g, 0, none⟩), .int .i64 l.length]).run Tryz.prog w.drew = .ok (strV l) (w.drew.freeze ⟨g, 0, none⟩ l.length) := by
        refine Lib.run_unsafeString_row w.drew 134 3 9 5 Tryz.underlying134 (by kernel_rfl) g cur.size (by have hg' : w.drew.heap[g]? = some (.cells cur 5 (0, 0)) := hg; simp [World.shape?, hg']) l hl0 (by simp [Shape.byte] at hcz; omega) (by unfold maxLen at hcm; simp [Shape.byte] at hcz; omega) ?_
        intro j x hx
        exact hrow.cells (g := g) rfl j (.int .u8 x.toNat) (by simp [hx])
      have T := Lib.hid ((Turned.refl b (.slice (some ⟨g, 0, none⟩) l.length cap) w).drew.trans_ (freeze_turned w.drew l.length))
      clear hrow hcs hl1
      go_enter Tryz.func32, Tryz.ntmps32
      go_wp2
      go_region
      all_goals (go_wp2; go_ret; exact ⟨rfl, T.out⟩)
/-- a builder of the call's own (blocks from base on) that holds l; all below base stands as in W -/
def BW (W : World) (base b : Nat) (l : List UInt8) (w : World) : Prop := ∃ v, Bld w base b v l ∧ Below base W w ∧ base ≤ w.heap.size
theorem BW.new (w : World) : BW w w.heap.size w.heap.size [] (w.alloc (.cells #[.pointer none, .slice none 0 0] 83)) :=
  ⟨_, Bld.new w, (Below.refl _ _).alloc (Nat.le_refl _) _, by simp⟩
theorem BW.below {W w : World} {base b : Nat} {l : List UInt8} (h : BW W base b l w) : Below base W w := by obtain ⟨_, _, h, _⟩ := h; exact h
theorem BW.sz {W w : World} {base b : Nat} {l : List UInt8} (h : BW W base b l w) : base ≤ w.heap.size := by obtain ⟨_, _, _, h⟩ := h; exact h
theorem BW.lt {W w : World} {base b : Nat} {l : List UInt8} (h : BW W base b l w) : b < w.heap.size := by obtain ⟨_, h, _, _⟩ := h; exact h.lt
theorem BW.alloc {W w : World} {base b : Nat} {l : List UInt8} (h : BW W base b l w) (o : Obj) : BW W base b l (w.alloc o) := by
  obtain ⟨v, h1, h2, h3⟩ := h
  exact ⟨v, h1.alloc o, h2.alloc h3 _, by simp; omega⟩
theorem BW.grown {W w w' : World} {base b : Nat} {l : List UInt8} (h : BW W base b l w) (hg : w.grownBy w' none) : BW W base b l w' := by
  obtain ⟨v, h1, h2, h3⟩ := h
  exact ⟨v, h1.keep hg (by simp) (by cases hv : v.ownBlock <;> simp), h2.grown hg h3 (fun k e => by cases e), Nat.le_trans h3 hg.size⟩
theorem BW.over_ {W w : World} {base b : Nat} {l : List UInt8} (h : BW W base b l w) (δ : World) : BW W base b l (over w δ) := by
  obtain ⟨v, h1, h2, h3⟩ := h
  exact ⟨v, h1.over_ δ, below_trans_over h2 h3 δ, le_over h3⟩
theorem writeByteW {W w : World} {base b : Nat} {l : List UInt8} (h : BW W base b l w) (n : Int) (c : UInt8) (hn : n = (c.toNat : Int)) (hlen : l.length ≤ 1000000000000) :
    Calls Tryz.prog 31 #[.pointer (some ⟨b, 0, none⟩), .int .u8 n] w fun e w' => e = .returned .nilIface ∧ BW W base b (l ++ [c]) w' := by
  obtain ⟨v, h1, h2, h3⟩ := h
  refine (writeByte h1 n c hn hlen h3).mono ?_
  rintro e w' ⟨rfl, v', k1, k2, k3⟩
  exact ⟨rfl, v', k1, k2.below h2 h3 h1.hb (fun k hk => (h1.own.lt k hk).1), Nat.le_trans h3 k2.size⟩
theorem bldStringW {W w : World} {base b : Nat} {l : List UInt8} (h : BW W base b l w) :
    Calls Tryz.prog 32 #[.pointer (some ⟨b, 0, none⟩)] w fun e w' => e = .returned (strV l) ∧ Below base W w' := by
  obtain ⟨v, h1, h2, h3⟩ := h
  refine (bldString h1 h3).mono ?_
  rintro e w' ⟨rfl, k2⟩
  exact ⟨rfl, k2.below h2 h3 h1.hb (fun k hk => (h1.own.lt k hk).1)⟩
end
end Go.Proofs.YtfhfcipelgogjaaGreatDoor
namespace Go.Proofs.YtfhfcipelgogjaaGreatDoor
open Go.RowKit
set_option linter.unusedVariables false
set_option linter.unusedSimpArgs false
attribute [local go_sem] cell?_over frozen?_over lt_over le_over

set_option maxRecDepth 100000 in
theorem bare_c (c : UInt8) (w : World) (b : Bool) (hb : bareB c = b) : Calls Tryz.prog 94 #[.int .u8 (c.toNat : Int)] w fun e w' => e = .returned (.bool b) ∧ w = w' := by
  subst hb
  go_enter Tryz.func94, Tryz.ntmps94
  go_wp2
  all_goals (go_ret; refine ⟨ret_bool ?_, rfl⟩)
  · by_cases h : (c.toNat : Int) = 92
    · rw [bareB_out (.inr (by simpa using h))]; simpa using h
    · rw [bareB_true (by omega) (by omega) (by simpa using h)]; simpa using h
  · rw [bareB_out (.inl (.inr (by omega)))]
  · rw [bareB_out (.inl (.inl (by omega)))]
theorem u8_e1 (c : UInt8) : (48 + bits BinOp.and IntKind.u8 ((c.toNat : Int) / 64) 7) % 256 = ((48 + c / 64 : UInt8).toNat : Int) := by
  have := all_bytes (fun c => decide ((48 + bits BinOp.and IntKind.u8 ((c.toNat : Int) / 64) 7) % 256 = ((48 + c / 64 : UInt8).toNat : Int))) (by decide +kernel) c
  simpa only [decide_eq_true_eq] using this
theorem u8_e2 (c : UInt8) : (48 + bits BinOp.and IntKind.u8 ((c.toNat : Int) / 8) 7) % 256 = ((48 + c / 8 % 8 : UInt8).toNat : Int) := by
  have := all_bytes (fun c => decide ((48 + bits BinOp.and IntKind.u8 ((c.toNat : Int) / 8) 7) % 256 = ((48 + c / 8 % 8 : UInt8).toNat : Int))) (by decide +kernel) c
  simpa only [decide_eq_true_eq] using this
theorem u8_e3 (c : UInt8) : (48 + bits BinOp.and IntKind.u8 (c.toNat : Int) 7) % 256 = ((48 + c % 8 : UInt8).toNat : Int) := by
  have := all_bytes (fun c => decide ((48 + bits BinOp.and IntKind.u8 (c.toNat : Int) 7) % 256 = ((48 + c % 8 : UInt8).toNat : Int))) (by decide +kernel) c
  simpa only [decide_eq_true_eq] using this
set_option maxHeartbeats 1000000 in
set_option maxRecDepth 100000 in
theorem manEscape (s : ByteArray) (w : World) (hs : s.size ≤ 100000000000) :
    Calls Tryz.prog 58 #[.string s] w fun e w' => e = .returned (strV (esc s.data.toList)) ∧ ∃ δ, w' = over w δ := by
  have hsz : s.size = s.data.toList.length := by rw [Array.length_toList]; rfl
  have HS := Lib.hid hsz; clear hsz
  go_enter Tryz.func58, Tryz.ntmps58
  go_wp2_with fail
  go_loopw [9] (fun i wr => ∃ k : Nat, k ≤ s.size ∧ i = .int .i64 k ∧ BW w w.heap.size w.heap.size (esc (s.data.toList.take k)) wr) (fun i _ => s.size - (intOf i).toNat)
  case atStart => exact ⟨0, Nat.zero_le _, rfl, BW.new w⟩
  case round =>
    obtain ⟨k, hk, rfl, hbw⟩ := hrel
    have O := Lib.hid hbw; clear hbw
    by_cases hlt : k < s.size
    · have hkl : k < s.data.toList.length := by rw [← HS.out]; exact hlt
      have hE := Lib.hid (esc_take hkl)
      have hsk : s.data.toList[k] = s[k] := rfl
      rw [hsk] at hE
      have hlen := (esc_len (s.data.toList.take k)).2
      have hlen2 := List.length_take_le k s.data.toList
      have hle : (esc (s.data.toList.take k)).length ≤ 400000000000 := by omega
      clear hlen hlen2 hsk
      generalize esc (s.data.toList.take k) = acc at *
      by_cases hb : bareB s[k] = true
      · have HB := Lib.hid hb; clear hb
        go_wp2_with (first
          | (go_at_call 94; refine (bare_c _ _ _ HB.out).mono ?_; rintro e w' ⟨rfl, rfl⟩)
          | (go_at_call 31; refine (writeByteW O.out _ s[k] rfl (by omega)).mono ?_; rintro e w1 ⟨rfl, h1⟩))
        go_roundw
        case rel => exact ⟨k + 1, by omega, by go_num, by rw [hE.out, show escB s[k] = [s[k]] from if_pos HB.out]; exact h1⟩
        case measure => simp [intOf]; omega
      · have HB := Lib.hid (Bool.eq_false_iff.2 hb); clear hb
        go_wp2_with (first
          | (go_at_call 94; refine (bare_c _ _ _ HB.out).mono ?_; rintro e w' ⟨rfl, rfl⟩)
          | (go_at_call 31; refine (writeByteW O.out _ 92 rfl (by omega)).mono ?_; rintro e w1 ⟨rfl, h1⟩))
        obtain ⟨wo, rfl⟩ : ∃ wo : World, wo = wr := ⟨_, rfl⟩
        go_loopw [6] (fun t wr => (t = .int .i64 6 ∧ BW w w.heap.size w.heap.size (acc ++ [92]) wr) ∨ (t = .int .i64 3 ∧ BW w w.heap.size w.heap.size (acc ++ [92] ++ [48 + s[k] / 64]) wr) ∨
          (t = .int .i64 0 ∧ BW w w.heap.size w.heap.size (acc ++ [92] ++ [48 + s[k] / 64] ++ [48 + s[k] / 8 % 8]) wr) ∨ (t = .int .i64 (-3) ∧ BW w w.heap.size w.heap.size (acc ++ [92] ++ [48 + s[k] / 64] ++ [48 + s[k] / 8 % 8] ++ [48 + s[k] % 8]) wr)) (fun t _ => (9 + intOf t).toNat)
        case atStart => exact .inl ⟨rfl, h1⟩
        case round =>
          have h1 : True := trivial
          rcases hrel with ⟨rfl, h2⟩ | ⟨rfl, h2⟩ | ⟨rfl, h2⟩ | ⟨rfl, h2⟩
          · have O2 := Lib.hid h2; clear h2 h1
            go_wp2_with (first
              | (go_at_call 31; refine (writeByteW O2.out _ (48 + s[k] / 64) (u8_e1 s[k]) (by simp; omega)).mono ?_; rintro e w1 ⟨rfl, h3⟩))
            go_roundw
            case rel => exact .inr (.inl ⟨rfl, h3⟩)
            case measure => simp [intOf]
          · have O2 := Lib.hid h2; clear h2 h1
            go_wp2_with (first
              | (go_at_call 31; refine (writeByteW O2.out _ (48 + s[k] / 8 % 8) (u8_e2 s[k]) (by simp; omega)).mono ?_; rintro e w1 ⟨rfl, h3⟩))
            go_roundw
            case rel => exact .inr (.inr (.inl ⟨rfl, h3⟩))
            case measure => simp [intOf]
          · have O2 := Lib.hid h2; clear h2 h1
            go_wp2_with (first
              | (go_at_call 31; refine (writeByteW O2.out _ (48 + s[k] % 8) (u8_e3 s[k]) (by simp; omega)).mono ?_; rintro e w1 ⟨rfl, h3⟩))
            go_roundw
            case rel => exact .inr (.inr (.inr ⟨rfl, h3⟩))
            case measure => simp [intOf]
          · have O2 := Lib.hid h2; clear h2 h1
            go_wp2
            go_roundw
            case rel =>
              refine ⟨k + 1, by omega, by go_num, ?_⟩
              rw [hE.out, show escB s[k] = [92, 48 + s[k] / 64, 48 + s[k] / 8 % 8, 48 + s[k] % 8] from if_neg (by rw [HB.out]; decide)]
              simpa only [List.append_assoc, List.cons_append, List.nil_append] using O2.out
            case measure => simp [intOf]; omega
    · have htk : s.data.toList.take k = s.data.toList := List.take_of_length_le (by rw [← HS.out]; omega)
      rw [htk] at O
      clear htk
      go_wp2_with (go_at_call 32; refine (bldStringW O.out).mono ?_; rintro e w1 ⟨rfl, h1⟩)
      go_ret
      exact ⟨rfl, exists_over h1⟩
end Go.Proofs.YtfhfcipelgogjaaGreatDoor
namespace Go.Proofs.YtfhfcipelgogjaaGreatDoor
open Go.RowKit
set_option linter.unusedSectionVars false
set_option linter.unusedVariables false
set_option linter.unusedSimpArgs false

section
variable {w w' w1 : World} {base b : Nat} {v v' : Value} {l : List UInt8}
theorem bytes_cells (w : World) (M : Nat → Prop) (l : List UInt8) : Cells Shape.byte w M (l.map fun b => Value.int .u8 b.toNat) l := by
  induction l with
  | nil => rfl
  | cons a l ih => exact ⟨[.int .u8 a.toNat], _, rfl, rfl, ih⟩
theorem builder_u8 : 5 ≠ 83 := by decide
set_option maxHeartbeats 1000000 in
set_option maxRecDepth 100000 in
theorem writeString (h : Bld w base b v l) (s : ByteArray) (hlen : l.length + s.size ≤ 1000000000000) (hbase : base ≤ w.heap.size) :
    Calls Tryz.prog 30 #[.pointer (some ⟨b, 0, none⟩), .string s] w fun e w' => e = .returned (.tuple #[.int .i64 s.size, .nilIface]) ∧ ∃ v', Bld w' base b v' (l ++ s.data.toList) ∧ Turned b v w w' := by
  go_enter Tryz.func30, Tryz.ntmps30
  go_wp2_with (go_at_call 61; refine (copyCheck h).mono ?_)
  rintro e w1 ⟨rfl, h1, hbk, t1⟩
  have c1 : w1.cell? ⟨b, 1, none⟩ = some v := by rw [Lib.cell_of_heap hbk]; rfl
  have hsz := t1.size
  have B1 := Lib.hid h1; have T1 := Lib.hid t1; have HB := Lib.hid hbk
  obtain ⟨xs, hrow, hcs, _⟩ := h1.own
  have hxs := cells_bytes hcs
  subst hxs
  have hlt := h1.lt
  clear h1 t1 hbk h hcs
  obtain ⟨i, hi, hi2⟩ := Option.map_eq_some_iff.1 (show (Tryz.prog.info? 5).map (fun i => (i.zero, i.size, i.bytes)) = some (some (.int .u8 0), 1, 1) by kernel_rfl)
  injection hi2 with e1 e2; injection e2 with e2 e3
  have I1 := Lib.hid e1; have I2 := Lib.hid e2; have I3 := Lib.hid e3; have I4 := Lib.hid hi
  clear e1 e2 e3 hi
  go_wp2_with (at_builtin; refine Lib.wpList_append_own_string w1 rfl (.tmp 12) (.tmp 13) 58 9 rfl base 5 i (by kernel_rfl) (by kernel_rfl) I4.out I1.out I2.out I3.out v l.length _ rfl hrow s rfl ?c1 ?c2 ?c3 ?_)
  case c1 => simp [maxLen]; omega
  case c2 => omega
  case c3 => omega
  intro v' w2 hown' hg _
  have hg2 := hg.size
  have hb2 : w2.heap[b]? = some (.cells #[.pointer (some ⟨b, 0, none⟩), v] 83 (0, 0)) := by
    rw [hg.block b hlt (fun e => B1.out.ne e.symm)]
    exact HB.out
  have d0 : w2.cell? ⟨b, 0, none⟩ = some (.pointer (some ⟨b, 0, none⟩)) := by rw [Lib.cell_of_heap hb2]; rfl
  have d1 : w2.cell? ⟨b, 1, none⟩ = some v := by rw [Lib.cell_of_heap hb2]; rfl
  have f1 : w2.frozen? ⟨b, 1, none⟩ = false := Lib.frozen_of_heap hb2 1
  have hne' : v'.ownBlock ≠ some b := by
    rcases hown'.2 with ⟨rfl, _⟩ | ⟨g, cap, cur, rfl, _, hcur, _⟩
    · simp [Value.ownBlock]
    · intro e'
      have e' : g = b := by injection e'
      subst e'
      rw [hb2] at hcur
      injection hcur with hcur
      injection hcur with _ hcur _
      exact builder_u8 hcur.symm
  have hown2 : OwnB 5 w2 base v' (l ++ s.data.toList) := by
    refine ⟨_, ?_, bytes_cells w2 _ _, fun _ h => h.elim⟩
    have := hown'
    simp only [Lib.strCells] at this
    rw [List.map_append, List.length_append]
    first
      | exact this
      | (simpa using this)
  have hfin : Bld (w2.setCell ⟨b, 1, none⟩ v') base b v' (l ++ s.data.toList) :=
    ⟨B1.out.hb, ⟨_, .inr rfl, (show Blk w2 b _ _ from hb2).set_ 1 v'⟩, hown2.kept (grown_setCell w2 ⟨b, 1, none⟩ v') (Or.inr hne') (fun _ h => h.elim), hne'⟩
  have htur : Turned b v w (w2.setCell ⟨b, 1, none⟩ v') := by
    refine (T1.out.grown hg (fun k e => .inr (.inl e.symm))).grown (grown_setCell w2 ⟨b, 1, none⟩ v') (fun k e => .inl (by injection e with e; exact e.symm))
  have F := Lib.hid hfin; have T := Lib.hid htur
  have hform : (∃ ao n c, v' = .slice ao n c) := by
    rcases hown'.2 with ⟨h, _⟩ | ⟨g, cap, cur, h, _⟩
    · exact ⟨_, _, _, h⟩
    · exact ⟨_, _, _, h⟩
  clear hfin htur hne' hown' hown2 hg hb2
  obtain ⟨ao, n', cap, rfl⟩ := hform
  go_wp2
  go_ret2
  exact ⟨rfl, _, F.out, T.out⟩
theorem writeStringW {W w : World} {base b : Nat} {l : List UInt8} (h : BW W base b l w) (s : ByteArray) (hlen : l.length + s.size ≤ 1000000000000) :
    Calls Tryz.prog 30 #[.pointer (some ⟨b, 0, none⟩), .string s] w fun e w' => e = .returned (.tuple #[.int .i64 s.size, .nilIface]) ∧ BW W base b (l ++ s.data.toList) w' := by
  obtain ⟨v, h1, h2, h3⟩ := h
  refine (writeString h1 s hlen h3).mono ?_
  rintro e w' ⟨rfl, v', k1, k2⟩
  exact ⟨rfl, v', k1, k2.below h2 h3 h1.hb (fun k hk => (h1.own.lt k hk).1), Nat.le_trans h3 k2.size⟩
end
end Go.Proofs.YtfhfcipelgogjaaGreatDoor
namespace Go.Proofs.YtfhfcipelgogjaaGreatDoor
open Go.RowKit
set_option linter.unusedVariables false
set_option linter.unusedSimpArgs false
attribute [local go_sem] cell?_over frozen?_over lt_over le_over

theorem data_cons (r : ByteArray) (k : Nat) (h : k < r.size) : r.data.toList.drop k = r[k] :: r.data.toList.drop (k + 1) := by
  rw [List.drop_eq_getElem_cons (by rw [Array.length_toList]; exact h)]; rfl
theorem data_from (r : ByteArray) (k : Nat) : (r.extract k r.size).data.toList = r.data.toList.drop k := by
  rw [Lib.extract_data, List.take_of_length_le]
  rw [List.length_drop, Array.length_toList]; exact Nat.le_refl _
theorem data_ext (r : ByteArray) (a b j : Nat) (h : j < (r.extract a b).data.size) (h' : a + j < r.size) : (r.extract a b).data[j] = r[a + j] := by
  have h1 : (r.extract a b).data.toList[j]? = some (r.extract a b).data[j] := by
    rw [Array.getElem?_toList, Array.getElem?_eq_getElem h]
  have h2 : j < b - a := by
    have := congrArg List.length (Lib.extract_data r a b)
    rw [Array.length_toList, List.length_take] at this
    omega
  rw [Lib.extract_data, List.getElem?_take_of_lt h2, List.getElem?_drop, Array.getElem?_toList, Array.getElem?_eq_getElem (by exact h')] at h1
  exact (Option.some.inj h1).symm
def v1 (a : UInt8) : Nat := a.toNat - 48
def v2 (a b : UInt8) : Nat := (a.toNat - 48) * 8 + (b.toNat - 48)
theorem v1_lt {a : UInt8} (h : octB a = true) : v1 a < 8 := by have := octB_iff.1 h; unfold v1; omega
theorem v2_lt {a b : UInt8} (h : octB a = true) (h' : octB b = true) : v2 a b < 64 := by have := octB_iff.1 h; have := octB_iff.1 h'; unfold v2; omega
theorem four (r : ByteArray) (h : ¬ r.size < 4) : r.data.toList = r[0] :: r[1] :: r[2] :: r[3] :: r.data.toList.drop 4 := by
  have h0 := data_cons r 0 (by omega)
  rw [List.drop_zero] at h0
  exact h0.trans (congrArg (r[0] :: ·) ((data_cons r 1 (by omega)).trans (congrArg (r[1] :: ·) ((data_cons r 2 (by omega)).trans (congrArg (r[2] :: ·) (data_cons r 3 (by omega)))))))
theorem unesc_no {r : ByteArray} (h : ¬ r.size < 4) (hb : bareB r[0] = false) (hc : ¬ (r[0] = 92 ∧ octB r[1] = true ∧ octB r[2] = true ∧ octB r[3] = true ∧ r[1].toNat ≤ 51 ∧ bareB (UInt8.ofNat (val3 r[1] r[2] r[3])) = false)) : unesc r.data.toList = none := by
  rw [four r h, unesc_four _ hb, if_neg hc]
theorem unesc_yes {r : ByteArray} (h : ¬ r.size < 4) (hb : bareB r[0] = false) (hc : r[0] = 92 ∧ octB r[1] = true ∧ octB r[2] = true ∧ octB r[3] = true ∧ r[1].toNat ≤ 51 ∧ bareB (UInt8.ofNat (val3 r[1] r[2] r[3])) = false) :
    unesc r.data.toList = (unesc (r.extract 4 r.size).data.toList).map (UInt8.ofNat (val3 r[1] r[2] r[3]) :: ·) := by
  rw [data_from, four r h, unesc_four _ hb, if_pos hc]
  rfl
theorem unesc_few {r : ByteArray} (h : r.size < 4) (h0 : 0 < r.size) (hb : bareB r[0] = false) : unesc r.data.toList = none := by
  have := data_cons r 0 h0
  rw [List.drop_zero] at this
  rw [this, unesc_short hb]
  rw [List.length_drop, Array.length_toList]; change r.size - 1 < 3; omega
theorem val3_eq {a b d : UInt8} : val3 a b d = v2 a b * 8 + (d.toNat - 48) := by unfold val3 v2; omega
theorem val3_lt {a b d : UInt8} (ha : octB a = true) (hb : octB b = true) (hd : octB d = true) (h : a.toNat ≤ 51) : val3 a b d < 256 := by
  have := octB_iff.1 ha; have := octB_iff.1 hb; have := octB_iff.1 hd; unfold val3; omega
theorem or_small (x y : Nat) (hx : x < 64) (hy : y < 8) : bits BinOp.or IntKind.i64 ((x : Int) * 8) (y : Int) = ((x * 8 + y : Nat) : Int) := by
  have h : ((List.range 64).all fun x => (List.range 8).all fun y => decide (bits BinOp.or IntKind.i64 ((x : Int) * 8) (y : Int) = ((x * 8 + y : Nat) : Int))) = true := by decide +kernel
  rw [List.all_eq_true] at h
  have h1 := h x (by simpa using hx)
  rw [List.all_eq_true] at h1
  simpa using h1 y (by simpa using hy)
theorem or_dig (x : Nat) (d : UInt8) (hx : x < 64) (hd : octB d = true) : bits BinOp.or IntKind.i64 ((x : Int) * 8) ((d.toNat : Int) - 48) = ((x * 8 + (d.toNat - 48) : Nat) : Int) := by
  have := octB_iff.1 hd
  rw [show (d.toNat : Int) - 48 = ((d.toNat - 48 : Nat) : Int) by omega]
  exact or_small x _ hx (by omega)
theorem int_val {a b : Int} (h : a = b) : Value.int .i64 a = Value.int .i64 b := by rw [h]
/-- how Unescape ends -/
def unescEnd (o : Option (List UInt8)) : Ending :=
  match o with
  | some t => .returned (.tuple #[strV t, .int .i64 0])
  | none => .returned (.tuple #[strV [], .int .i64 150])
theorem bare_n (n : Int) (c : UInt8) (b : Bool) (hn : n = (c.toNat : Int)) (w : World) (hb : bareB c = b) : Calls Tryz.prog 94 #[.int .u8 n] w fun e w' => e = .returned (.bool b) ∧ w = w' := by
  subst hn; exact bare_c c w b hb
set_option maxHeartbeats 4000000 in
set_option maxRecDepth 100000 in
theorem manUnescape (s : ByteArray) (w : World) (hs : s.size ≤ 100000000000) :
    Calls Tryz.prog 69 #[.string s] w fun e w' => e = unescEnd (unesc s.data.toList) ∧ ∃ δ, w' = over w δ := by
  go_enter Tryz.func69, Tryz.ntmps69
  go_wp2_with fail
  go_loopw [0] (fun t wr => ∃ (r : ByteArray) (acc : List UInt8), t = .string r ∧ r.size + acc.length ≤ s.size ∧ unesc s.data.toList = (unesc r.data.toList).map (acc ++ ·) ∧ BW w w.heap.size w.heap.size acc wr) (fun t _ => (match t with | .string r => r.size | _ => 0))
  case atStart => exact ⟨s, [], rfl, by simp, by simp, BW.new w⟩
  case round =>
    obtain ⟨r, acc, rfl, hle, hun, hbw⟩ := hrel
    have O := Lib.hid hbw; clear hbw
    have U := Lib.hid hun; clear hun
    by_cases h0 : r.data.toList = []
    · have hne : (!r.toList.isEmpty) = false := by rw [ByteArray.toList_eq, h0]; rfl
      rw [h0] at U
      have h0' := Lib.hid h0; clear h0
      go_wp2_with (go_at_call 32; refine (bldStringW O.out).mono ?_; rintro e w1 ⟨rfl, h1⟩)
      go_ret2
      refine ⟨?_, exists_over h1⟩
      rw [U.out]; simp [unesc]; rfl
    · have hpos : 0 < r.size := by
        rcases Nat.eq_zero_or_pos r.size with h | h
        · exact absurd (List.eq_nil_of_length_eq_zero (by rw [Array.length_toList]; exact h)) h0
        · exact h
      have hne : (!r.toList.isEmpty) = true := by rw [ByteArray.toList_eq]; simpa using h0
      clear h0
      have hd0 := Lib.hid (data_cons r 0 hpos)
      by_cases hb : bareB r[0] = true
      · have HB := Lib.hid hb; clear hb
        go_wp2_with (first
          | (go_at_call 94; refine (bare_c _ _ _ HB.out).mono ?_; rintro e w' ⟨rfl, rfl⟩)
          | (go_at_call 31; refine (writeByteW O.out _ r[0] rfl (by omega)).mono ?_; rintro e w1 ⟨rfl, h1⟩))
        go_roundw
        case rel =>
          refine ⟨_, acc ++ [r[0]], rfl, ?_, ?_, h1⟩
          · rw [ByteArray.size_extract]; simp; omega
          · rw [U.out, ← List.drop_zero (l := r.data.toList), hd0.out, unesc_bare _ HB.out, data_from]
            cases unesc (List.drop (0 + 1) r.data.toList) <;> simp
        case measure => simp only [ByteArray.size_extract]; omega
      · have HB := Lib.hid (Bool.eq_false_iff.2 hb); clear hb
        by_cases h92 : r[0].toNat = 92
        · have k92 : ((r[0].toNat : Int) != 92) = false := by simp; omega
          have H92 := Lib.hid h92; clear h92
          by_cases h4 : r.size < 4
          · have HN := Lib.hid (unesc_few h4 hpos HB.out)
            go_wp2_with (first
              | (go_at_call 94; refine (bare_c _ _ _ HB.out).mono ?_; rintro e w' ⟨rfl, rfl⟩))
            all_goals first | (exfalso; omega) | skip
            go_ret2
            exact ⟨by rw [U.out, HN.out]; rfl, exists_over O.out.below⟩
          · by_cases h51 : r[1].toNat ≤ 51
            · obtain ⟨cap, w2, hrun, hg, hsz, hcap, hcells⟩ := run_bytes_of (P := Tryz.prog) 9 58 Tryz.underlying9 Tryz.underlying58 Tryz.underlying5 wr (r.extract 1 4)
              have h3 : (r.extract 1 4).size = 3 := by rw [ByteArray.size_extract]; omega
              rw [h3] at hrun hcap
              have c0 : w2.cell? ⟨wr.heap.size, 0, none⟩ = some (.int .u8 (r[1].toNat : Int)) := by
                rw [hcells 0 (by change 0 < (r.extract 1 4).size; omega), data_ext r 1 4 0 _ (by omega)]
              have c1 : w2.cell? ⟨wr.heap.size, 1, none⟩ = some (.int .u8 (r[2].toNat : Int)) := by
                rw [hcells 1 (by change 1 < (r.extract 1 4).size; omega), data_ext r 1 4 1 _ (by omega)]
              have c2 : w2.cell? ⟨wr.heap.size, 2, none⟩ = some (.int .u8 (r[3].toNat : Int)) := by
                rw [hcells 2 (by change 2 < (r.extract 1 4).size; omega), data_ext r 1 4 2 _ (by omega)]
              have O2 := Lib.hid (O.out.grown hg)
              clear hcells h3
              have HG := Lib.hid hg; clear hg
              have HZ := Lib.hid hsz; clear hsz
              go_wp2_with (first
                | (go_at_call 94; refine (bare_c _ _ _ HB.out).mono ?_; rintro e w' ⟨rfl, rfl⟩))
              clear hrun
              go_loop [6, 35] (fun v i => (v = .int .i64 0 ∧ i = .int .i64 0) ∨ (octB r[1] = true ∧ v = .int .i64 (v1 r[1] : Nat) ∧ i = .int .i64 1) ∨ (octB r[1] = true ∧ octB r[2] = true ∧ v = .int .i64 (v2 r[1] r[2] : Nat) ∧ i = .int .i64 2) ∨
                (octB r[1] = true ∧ octB r[2] = true ∧ octB r[3] = true ∧ v = .int .i64 (val3 r[1] r[2] r[3] : Nat) ∧ i = .int .i64 3)) (fun _ i => (3 - intOf i).toNat)
              case atStart => exact .inl ⟨rfl, rfl⟩
              case round =>
                rcases hrel with ⟨rfl, rfl⟩ | ⟨ha, rfl, rfl⟩ | ⟨ha, hb, rfl, rfl⟩ | ⟨ha, hb, hd, rfl, rfl⟩
                · by_cases ho : octB r[1] = true
                  · have ho1 := octB_iff.1 ho
                    have HO := Lib.hid ho; clear ho
                    obtain ⟨o1, o2⟩ := ho1
                    go_wp2
                    all_goals first | (exfalso; omega) | skip
                    go_round
                    case rel => exact .inr (.inl ⟨HO.out, (int_val ((or_dig 0 r[1] (by decide) HO.out).trans (by unfold v1; simp))), rfl⟩)
                    case measure => simp [intOf]
                  · have ho1 : octB r[1] = true → False := ho
                    have HN := Lib.hid (unesc_no h4 HB.out (fun hc => ho hc.2.1))
                    have HO := Lib.hid ho1; clear ho ho1
                    go_wp2
                    all_goals first
                      | (go_ret2; exact ⟨by rw [U.out, HN.out]; rfl, exists_over O2.out.below⟩)
                      | (exfalso; exact HO.out (octB_iff.2 ⟨by omega, by omega⟩))
                · have HA := Lib.hid ha; clear ha
                  by_cases ho : octB r[2] = true
                  · have ho1 := octB_iff.1 ho
                    have HO := Lib.hid ho; clear ho
                    obtain ⟨o1, o2⟩ := ho1
                    have hv1 := v1_lt HA.out
                    go_wp2
                    all_goals first | (exfalso; omega) | skip
                    go_round
                    case rel => exact .inr (.inr (.inl ⟨HA.out, HO.out, (int_val ((or_dig (v1 r[1]) r[2] (by have := v1_lt HA.out; omega) HO.out).trans (by unfold v1 v2; rfl))), rfl⟩))
                    case measure => simp [intOf]
                  · have ho1 : octB r[2] = true → False := ho
                    have HN := Lib.hid (unesc_no h4 HB.out (fun hc => ho hc.2.2.1))
                    have HO := Lib.hid ho1; clear ho ho1
                    go_wp2
                    all_goals first
                      | (go_ret2; exact ⟨by rw [U.out, HN.out]; rfl, exists_over O2.out.below⟩)
                      | (exfalso; exact HO.out (octB_iff.2 ⟨by omega, by omega⟩))
                · have HA := Lib.hid ha; have HB2 := Lib.hid hb; clear ha hb
                  by_cases ho : octB r[3] = true
                  · have ho1 := octB_iff.1 ho
                    have HO := Lib.hid ho; clear ho
                    obtain ⟨o1, o2⟩ := ho1
                    have hv2 := v2_lt HA.out HB2.out
                    go_wp2
                    all_goals first | (exfalso; omega) | skip
                    go_round
                    case rel => exact .inr (.inr (.inr ⟨HA.out, HB2.out, HO.out, (int_val ((or_dig (v2 r[1] r[2]) r[3] (v2_lt HA.out HB2.out) HO.out).trans (by rw [val3_eq]))), rfl⟩))
                    case measure => simp [intOf]
                  · have ho1 : octB r[3] = true → False := ho
                    have HN := Lib.hid (unesc_no h4 HB.out (fun hc => ho hc.2.2.2.1))
                    have HO := Lib.hid ho1; clear ho ho1
                    go_wp2
                    all_goals first
                      | (go_ret2; exact ⟨by rw [U.out, HN.out]; rfl, exists_over O2.out.below⟩)
                      | (exfalso; exact HO.out (octB_iff.2 ⟨by omega, by omega⟩))
                · have hv := val3_lt ha hb hd h51
                  have hcv : (val3 r[1] r[2] r[3] : Int) = ((UInt8.ofNat (val3 r[1] r[2] r[3])).toNat : Int) := by simp [UInt8.toNat_ofNat', Nat.mod_eq_of_lt hv]
                  have HC := Lib.hid hcv; clear hcv
                  have HA := Lib.hid ha; have HB2 := Lib.hid hb; have HD := Lib.hid hd; clear ha hb hd
                  by_cases hbv : bareB (UInt8.ofNat (val3 r[1] r[2] r[3])) = true
                  · have HV := Lib.hid hbv; clear hbv
                    have HN := Lib.hid (unesc_no h4 HB.out (fun hc => by rw [HV.out] at hc; exact absurd hc.2.2.2.2.2 (by decide)))
                    go_wp2_with (first
                      | (go_at_call 94; refine (bare_n _ _ _ (by have := HC.out; omega) _ HV.out).mono ?_; rintro e w' ⟨rfl, rfl⟩))
                    go_ret2
                    exact ⟨by rw [U.out, HN.out]; rfl, exists_over O2.out.below⟩
                  · have HV := Lib.hid (Bool.eq_false_iff.2 hbv); clear hbv
                    have HY := Lib.hid (unesc_yes h4 HB.out ⟨UInt8.toNat_inj.1 H92.out, HA.out, HB2.out, HD.out, h51, HV.out⟩)
                    go_wp2_with (first
                      | (go_at_call 94; refine (bare_n _ _ _ (by have := HC.out; omega) _ HV.out).mono ?_; rintro e w' ⟨rfl, rfl⟩)
                      | (go_at_call 31; refine (writeByteW O2.out _ (UInt8.ofNat (val3 r[1] r[2] r[3])) (by have := HC.out; omega) (by omega)).mono ?_; rintro e w3 ⟨rfl, h1⟩))
                    go_roundw
                    case rel =>
                      refine ⟨_, acc ++ [UInt8.ofNat (val3 r[1] r[2] r[3])], rfl, ?_, ?_, h1⟩
                      · rw [ByteArray.size_extract]; simp; omega
                      · rw [U.out, HY.out]
                        cases unesc (r.extract 4 r.size).data.toList <;> simp
                    case measure => simp only [ByteArray.size_extract]; omega
            · have HN := Lib.hid (unesc_no h4 HB.out (fun hc => h51 hc.2.2.2.2.1))
              go_wp2_with (first
                | (go_at_call 94; refine (bare_c _ _ _ HB.out).mono ?_; rintro e w' ⟨rfl, rfl⟩))
              all_goals first | (exfalso; omega) | skip
              go_ret2
              exact ⟨by rw [U.out, HN.out]; rfl, exists_over O.out.below⟩
        · have HN := Lib.hid (show unesc r.data.toList = none from by
            by_cases h4 : r.size < 4
            · exact unesc_few h4 hpos HB.out
            · exact unesc_no h4 HB.out (fun hc => h92 (by rw [hc.1]; rfl)))
          have k92 : ((r[0].toNat : Int) != 92) = true := by simp; omega
          have H92 := Lib.hid h92; clear h92
          go_wp2_with (first
            | (go_at_call 94; refine (bare_c _ _ _ HB.out).mono ?_; rintro e w' ⟨rfl, rfl⟩))
          all_goals first | (exfalso; omega) | skip
          go_ret2
          exact ⟨by rw [U.out, HN.out]; rfl, exists_over O.out.below⟩
end Go.Proofs.YtfhfcipelgogjaaGreatDoor
