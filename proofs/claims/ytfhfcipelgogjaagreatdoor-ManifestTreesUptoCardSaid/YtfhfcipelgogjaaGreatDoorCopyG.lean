/- Copies of nodes and graphs. No condition but room. -/
import Derived.Test.YtfhfcipelgogjaaGreatDoorDataAll
import Derived.Test.YtfhfcipelgogjaaGreatDoorSameAll
import Derived.Test.YtfhfcipelgogjaaGreatDoorRooted
import Derived.Test.YtfhfcipelgogjaaGreatDoorBaseAt
namespace Go.Proofs.YtfhfcipelgogjaaGreatDoor
open Go.RowKit
set_option linter.unusedSectionVars false
set_option linter.unusedVariables false
set_option linter.unusedSimpArgs false
attribute [local go_sem] cell?_over frozen?_over lt_over le_over
theorem flat_EntD : Shape.EntD.Flat := fun h => h
set_option maxHeartbeats 2000000 in
set_option maxRecDepth 100000 in
theorem copyNode {cs : List Value} {d : NodeD} (w : World) (h : NodeD.rd w (Old w) cs d) (hn : d.data.length ≤ 1000000000) (hm : d.ents.length ≤ 1000000000) :
    Calls Tryz.prog 28 #[.agg cs.toArray] w fun e w' => ∃ cs', e = .returned (.agg cs'.toArray) ∧ Below w.heap.size w w' ∧ NodeD.rd w' (New w w') cs' d := by
  obtain ⟨A, n, c, A2, n2, c2, rfl, i0, i1, i2, i3, i4, i5, i6, hnc, hcm, hrow, s8, h2c, hc2, hrow2⟩ := h
  have hn' : n ≤ 140737488355328 := by have := hrow.1; omega
  have HR1 := Lib.hid hrow; have HR2 := Lib.hid hrow2
  clear hrow hrow2
  go_enter Tryz.func28, Tryz.ntmps28
  go_wp2_with fail
  refine (copyBytes _ (HR1.out.below ?_) hn').mono ?_
  · go_grown
  rintro e u ⟨v, δ, rfl, hu, hown⟩
  obtain ⟨b1, b2, hbw, hsz⟩ := blks2 (below_of hu)
  have hub := below_of hu
  clear hu
  have hrd := hown.rd_from (B := w.heap.size + 2) (by simp) (fun _ h => h.elim)
  obtain ⟨A', m, c', rfl, hmc, hcm', hrow'⟩ := hrd
  have k1 := b1.cell; have k2 := b2.cell; have f1 := b1.frozen; have f2 := b2.frozen
  have HR := Lib.hid hrow'; clear hrow'
  have l1 : w.heap.size < u.heap.size := by omega
  have l2 : w.heap.size + 1 < u.heap.size := by omega
  go_wp2_with (at_builtin; refine StopR.mk ?_)
  unfold StopR
  obtain ⟨wb, hwb⟩ : ∃ x, x = u.setCell ⟨w.heap.size, 7, none⟩ (.slice A' m c') := ⟨_, rfl⟩
  have hzb : wb.heap.size = u.heap.size := by rw [hwb]; simp
  have B1 : Blk wb w.heap.size 79 #[.int .i64 d.id, .int .i64 d.kind, .int .i64 d.mode, .int .i64 d.uid, .int .i64 d.gid, .int .i64 d.mtime.sec, .int .i64 d.mtime.nano, .slice A' m c', .string d.target, .slice A2 n2 c2] := by rw [hwb]; exact b1.set_ 7 (.slice A' m c')
  have B2 : Blk wb (w.heap.size + 1) 79 #[.int .i64 0, .int .i64 0, .int .i64 0, .int .i64 0, .int .i64 0, .int .i64 0, .int .i64 0, .slice none 0 0, .string ⟨#[]⟩, .slice none 0 0] := by rw [hwb]; exact b2.far (by show w.heap.size + 1 ≠ w.heap.size; omega) _
  have HBb : Below w.heap.size w wb := by rw [hwb]; exact hbw.setCell (p := ⟨w.heap.size, 7, none⟩) (Nat.le_refl _) (.slice A' m c')
  have HRb : Row Shape.byte wb (From (w.heap.size + 2) u) A' m d.data := by rw [hwb]; exact HR.out.keep (Keeps.set u _ _ fun n hn => by have := hn.1; show n ≠ w.heap.size; omega)
  rw [← hwb, ← hzb]
  have OM := Own.made Shape.EntD 103 wb wb.heap.size (Nat.le_refl _)
  have HBa := HBb.alloc (by rw [hzb]; omega) (.cells #[] 103)
  refine wpList_append_list (v := .slice (some ⟨wb.heap.size, 0, none⟩) 0 0) rfl (.tmp 9) (.tmp 11) _ rfl elem_EntD rfl OM rfl ((HR2.out.keep HBa.block).src.flat (M' := fun _ => False) flat_EntD) (fun _ h => h.elim) (by simp only [List.length_nil]; omega) (by simp only [List.length_nil, maxLen]; omega) (by simp) ?_
  intro v' w1 hown' hg hat
  have hrd2 := hown'.rd_from (B := wb.heap.size) (Nat.le_refl _) (fun _ h => h.elim (fun h => h.elim) (fun h => h.elim))
  obtain ⟨A3, m3, c3, rfl, hmc3, hcm3, hrow3⟩ := hrd2
  have hgn : some w.heap.size ≠ (Value.slice (some ⟨wb.heap.size, 0, none⟩) 0 0).ownBlock := by intro e; have e := (show some w.heap.size = some wb.heap.size from e); injection e with e; omega
  have hgn2 : some (w.heap.size + 1) ≠ (Value.slice (some ⟨wb.heap.size, 0, none⟩) 0 0).ownBlock := by intro e; have e := (show some (w.heap.size + 1) = some wb.heap.size from e); injection e with e; omega
  have C1 := (B1.alloc (.cells #[] 103)).grown hg hgn
  have C2 := (B2.alloc (.cells #[] 103)).grown hg hgn2
  have HBc := HBa.grown hg (by simp; omega) (fun k e => by have e := (show some wb.heap.size = some k from e); injection e with e; omega)
  have HRc : Row Shape.byte w1 (From (w.heap.size + 2) u) A' m d.data := (HRb.keep (Keeps.old_alloc wb _ |>.mono (fun n hn => by have := hn.2; show n < _; omega))).keep (Keeps.grown hg fun n hn => ⟨by have := hn.2; simp; omega, fun e => by have e := (show some n = some wb.heap.size from e); injection e with e; have := hn.2; omega⟩)
  have hz1 : wb.heap.size < w1.heap.size := by have := hg.size; simp at this; omega
  have HRC := Lib.hid HRc; have HR3 := Lib.hid hrow3; have HBC := Lib.hid HBc; have CC1 := Lib.hid C1; have CC2 := Lib.hid C2
  have k1 := C1.cell; have k2 := C2.cell; have f1 := C1.frozen; have f2 := C2.frozen
  have l1' : w.heap.size < w1.heap.size := by omega
  have l2' : w.heap.size + 1 < w1.heap.size := by omega
  clear hwb B1 B2 HBb HRb OM HBa hown' hg hat hrow3 C1 C2 HBc HRc b1 b2 hub hbw hown
  have S9 := CC1.out.set_ 9 (.slice A3 m3 c3)
  go_wp2_with ((with_reducible refine at_store (ty := 79) (x := .tmp 2) (y := .tmp 15) ?_ ?_); exact rfl; go_loud (refine wpList_store_blk rfl 79 (.tmp 2) (.tmp 15) rfl _ rfl (CC2.out.far (by show w.heap.size + 1 ≠ w.heap.size; omega) _) rfl (by kernel_rfl) rfl rfl ?_); intro u2 b3 hg3)
  refine ret_blk rfl rfl b3 whole_NodeD rfl ?_
  have e := Below.trans (HBC.out.setCell (p := ⟨w.heap.size, 9, none⟩) (Nat.le_refl _) (.slice A3 m3 c3)) ((Below.refl _ _).grown hg3 (by simp; omega) (by simp))
  refine ⟨[.int .i64 d.id, .int .i64 d.kind, .int .i64 d.mode, .int .i64 d.uid, .int .i64 d.gid, .int .i64 d.mtime.sec, .int .i64 d.mtime.nano, .slice A' m c', .string d.target, .slice A3 m3 c3], rfl, e, ?_⟩
  have hk : Keeps (fun n => w.heap.size + 2 ≤ n ∧ n < w1.heap.size) w1 u2 := (Keeps.set w1 ⟨w.heap.size, 9, none⟩ (.slice A3 m3 c3) (fun n hn => by have := hn.1; show n ≠ w.heap.size; omega)).trans (Keeps.grown hg3 fun n hn => ⟨by have := hn.2; simpa [World.setCell] using this, by simp; have := hn.1; omega⟩)
  have hz2 : w1.heap.size ≤ u2.heap.size := by have := hg3.size; simpa [World.setCell] using this
  refine ⟨A', m, c', A3, m3, c3, rfl, i0, i1, i2, i3, i4, i5, i6, hmc, hcm', ?_, s8, hmc3, hcm3, ?_⟩
  · refine (HRC.out.keep (hk.mono fun n hn => ⟨hn.1, by have := hn.2; omega⟩)).more fun n hn => ⟨by have := hn.1; omega, by have := hn.2; omega⟩
  · refine (HR3.out.keep (hk.mono fun n hn => ⟨by have := hn.1; omega, hn.2⟩)).more fun n hn => ⟨by have := hn.1; omega, by have := hn.2; omega⟩
theorem own_some {α : Type} {s : Shape α} {e : TypeId} {w : World} {base : Nat} {M : Nat → Prop} {v : Value} {l : List α} (h : Own s e w base M v l) (hl : l ≠ []) : ∃ g cap, v = .slice (some ⟨g, 0, none⟩) l.length cap ∧ l.length ≤ cap := by
  rcases h.form with ⟨_, h0⟩ | ⟨g, cap, hv, _, _, h1, _⟩
  · exact absurd h0 hl
  · exact ⟨g, cap, hv, h1⟩
theorem whole_Graph : Whole Tryz.prog 24 1 := ⟨by kernel_rfl, by kernel_rfl⟩
theorem grown_setC (w : World) (b k : Nat) (u : Value) : w.grownBy (w.setCell ⟨b, k, none⟩ u) (some b) := ⟨rfl, rfl, rfl, by simp, fun n hn hne => Below.heap_setCell w _ u n (fun e => hne (by rw [e]))⟩
def SmallGG (gs : List NodeD) : Prop := ∀ d ∈ gs, d.data.length ≤ 1000000000 ∧ d.ents.length ≤ 1000000000
set_option maxHeartbeats 2000000 in
set_option maxRecDepth 100000 in
theorem copyGraph {A : Option Addr} {n c : Nat} {l : List NodeD} (w : World) (h : Row Shape.NodeD w (Old w) A n l) (hs : SmallGG l) (hn : n ≤ 1000000000) :
    Calls Tryz.prog 11 #[.agg #[.slice A n c]] w fun e w' => ∃ v M, e = .returned (.agg #[v]) ∧ Below w.heap.size w w' ∧ Own Shape.NodeD 79 w' w.heap.size M v l ∧ (∀ n, M n → w.heap.size ≤ n) ∧ v ≠ .slice none 0 0 := by
  have HL := Lib.hid h.1
  have H := Lib.hid h
  clear h
  go_enter Tryz.func11, Tryz.ntmps11
  go_wp2_with fail
  go_loopw [3, 4] (fun v i wr => ∃ (k : Nat) (M : Nat → Prop), k ≤ n ∧ i = .int .i64 k ∧ Below w.heap.size w wr ∧ Blk wr w.heap.size 24 #[.slice A n c] ∧ Blk wr (w.heap.size + 1) 24 #[.slice none 0 0] ∧ Own Shape.NodeD 79 wr (w.heap.size + 2) M v (l.take k) ∧ (∀ n, M n → w.heap.size + 2 ≤ n) ∧ v ≠ .slice none 0 0) (fun _ i _ => n - (intOf i).toNat)
  case atStart =>
    have e1 : (w.alloc (.cells #[.slice A n c] 24)).heap.size = w.heap.size + 1 := by simp
    have e2 : ((w.alloc (.cells #[.slice A n c] 24)).alloc (.cells #[.slice none 0 0] 24)).heap.size = w.heap.size + 2 := by simp
    have b1 := Blk.new w 24 #[.slice A n c]
    have b2 := Blk.new (w.alloc (.cells #[.slice A n c] 24)) 24 #[.slice none 0 0]
    rw [e1] at b2
    have om := Own.made Shape.NodeD 79 ((w.alloc (.cells #[.slice A n c] 24)).alloc (.cells #[.slice none 0 0] 24)) (w.heap.size + 2) (by rw [e2]; exact Nat.le_refl _)
    rw [e2] at om
    refine ⟨0, fun _ => False, Nat.zero_le _, rfl, ?_, (b1.alloc _).alloc _, b2.alloc _, om, fun _ h => h.elim, by simp⟩
    exact (((below_alloc' _ _).trans ((below_alloc' _ _).mono (by simp))).trans ((below_alloc' _ _).mono (by simp; omega)))
  case round =>
    obtain ⟨k, M, hk, rfl, hbel, hb1, hb2, hown, hM, hne⟩ := hrel
    have x1 := hb1.cell 0; have lx1 := hb1.lt
    simp only [List.getElem?_toArray, List.getElem?_cons_zero] at x1
    have BX1 := Lib.hid hb1; have BX2 := Lib.hid hb2
    clear hb1 hb2
    by_cases hlt : k < n
    · obtain ⟨b, off, es, hkl, rfl, hb, hc, hc0, hr⟩ := H.out.elem (Keeps.old hbel) hlt
      have hsm := hs _ (List.getElem_mem hkl)
      have hr2 : NodeD.rd wr (Old wr) es l[k] := Shape.NodeD.more hr fun _ hn => Old.below hbel hn
      have R := Lib.hid hr2; clear hr2
      obtain ⟨_, _, _, _, _, _, rfl, -⟩ := hr
      have e13 : Shape.NodeD.size = 10 := rfl
      simp only [e13] at hc hc0
      clear e13
      have hb2 := Nat.lt_of_lt_of_le hb hbel.size
      have hks : (k : Int) < n := by omega
      have hszw := hbel.size
      have O := Lib.hid hown; have HM := Lib.hid hM; have HB := Lib.hid hbel
      clear hown hM hbel
      go_wp2_with fail
      refine (copyNode _ R.out hsm.1 hsm.2).mono ?_
      rintro e u ⟨cs', rfl, hbu, hrd⟩
      have hszu := hbu.size
      have htk := List.length_take_le k l
      have hlt3 := O.out.lt
      obtain ⟨g3, cap3, hu3⟩ : ∃ g3 cap3, u3 = .slice (some ⟨g3, 0, none⟩) (l.take k).length cap3 := by
        rcases O.out.form with ⟨h0, _⟩ | ⟨g, cap, hv, _⟩
        · exact absurd h0 hne
        · exact ⟨g, cap, hv⟩
      obtain ⟨len3, hl3⟩ : ∃ x, x = (l.take k).length := ⟨_, rfl⟩
      rw [← hl3] at hu3
      have HL3' := Lib.hid hl3
      clear hl3
      subst hu3
      have O2 : Hid (Own Shape.NodeD 79 u (w.heap.size + 2) M (.slice (some ⟨g3, 0, none⟩) len3 cap3) (l.take k)) := Lib.hid (O.out.kept (grownBy_of_below hbu) (.inr (by simp [Value.ownBlock])) (fun _ _ => by simp))
      have R2 := Lib.hid hrd
      have CX1 := Lib.hid (BX1.out.below hbu BX1.out.lt); have CX2 := Lib.hid (BX2.out.below hbu BX2.out.lt)
      have HBU := Lib.hid hbu
      have HL3 := Lib.hid hlt3
      obtain ⟨_, _, _, _, _, _, rfl, -⟩ := hrd
      clear hlt3 hbu x1 lx1 hc hc0
      go_wp2_with (first
        | (at_builtin
           go_loud (refine wpList_append_list (v := .slice (some ⟨g3, 0, none⟩) len3 cap3) rfl (.tmp 13) (.tmp 20) _ rfl elem_NodeD rfl (O2.out.alloc _) rfl (Src.single (s := Shape.NodeD) _ (fun _ h => h.2) R2.out) ?_ ?_ ?_ ?_ ?_)
           · intro n hn
             refine ⟨by have := hn.2; simp; omega, fun e => ?_⟩
             have := (HL3.out n e.symm).2
             have := hn.1
             omega
           · simp only [List.length_cons, List.length_nil]; omega
           · simp only [List.length_cons, List.length_nil, maxLen]; omega
           · have := BX2.out.lt; simp; omega
           intro v' w1 hown' hg hat
           obtain ⟨g4, cap4, hv4, -⟩ := own_some hown' (List.append_ne_nil_of_right_ne_nil _ (List.cons_ne_nil _ _))
           obtain ⟨len4, hl4⟩ : ∃ x, x = (l.take k ++ [l[k]]).length := ⟨_, rfl⟩
           rw [← hl4] at hv4
           clear hl4
           subst hv4))
      go_roundw
      case rel =>
        have e : l.take (k + 1) = l.take k ++ [l[k]] := List.take_succ_eq_append_getElem hkl
        have hn1 : some w.heap.size ≠ (Value.slice (some ⟨g3, 0, none⟩) len3 cap3).ownBlock := fun e => by have := (HL3.out _ e.symm).1; omega
        have hn2 : some (w.heap.size + 1) ≠ (Value.slice (some ⟨g3, 0, none⟩) len3 cap3).ownBlock := fun e => by have := (HL3.out _ e.symm).1; omega
        refine ⟨k + 1, _, by omega, by go_num, ?_, (CX1.out.alloc _).grown hg hn1, (CX2.out.alloc _).grown hg hn2, by rw [e]; exact hown', ?_, ?_⟩
        · refine (HB.out.trans (HBU.out.mono hszw)).alloc (by omega) _ |>.grown hg (by simp; omega) (fun m hm => by have := (HL3.out m hm).1; omega)
        · rintro n (hn | hn)
          · exact HM.out n hn
          · have := hn.1; have := BX2.out.lt; omega
        · simp
      case measure => simp [intOf]; omega
    · have hks : ¬ (k : Int) < n := by omega
      have O : Hid (Own Shape.NodeD 79 wr (w.heap.size + 2) M u3 l) := Lib.hid (by rw [List.take_of_length_le (by rw [HL.out]; omega)] at hown; exact hown)
      have f2 := BX2.out.frozen 0; have x2 := BX2.out.cell 0; have lx2 := BX2.out.lt
      have HM := Lib.hid hM; have HB := Lib.hid hbel; have HNE := Lib.hid hne
      simp only [List.getElem?_toArray, List.getElem?_cons_zero] at x2
      obtain ⟨g3, cap3, hu3⟩ : ∃ g3 cap3, u3 = .slice (some ⟨g3, 0, none⟩) l.length cap3 := by
        rcases O.out.form with ⟨h0, _⟩ | ⟨g, cap, hv, _⟩
        · exact absurd h0 hne
        · exact ⟨g, cap, hv⟩
      subst hu3
      clear hown hM hbel hne
      go_wp2_with fail
      have S2 : Blk (wr.setCell ⟨w.heap.size + 1, 0, none⟩ (.slice (some ⟨g3, 0, none⟩) l.length cap3)) (w.heap.size + 1) 24 #[.slice (some ⟨g3, 0, none⟩) l.length cap3] := BX2.out.set_ 0 _
      refine ret_blk rfl rfl S2 whole_Graph rfl ?_
      refine ⟨_, rfl, HB.out.setCell (p := ⟨w.heap.size + 1, 0, none⟩) (by show w.heap.size ≤ w.heap.size + 1; omega) _, M, ?_, fun n hn => by have := HM.out n hn; omega, by simp⟩
      have hg3 := (O.out.lt g3 rfl).1
      refine (O.out.low (by omega)).kept (grown_setC _ _ _ _) (.inr ?_) (fun n hn e => ?_)
      · intro e
        have e := (show some g3 = some (w.heap.size + 1) from e)
        injection e with e; omega
      · have e := (show some n = some (w.heap.size + 1) from e)
        injection e with e
        have := HM.out n hn; omega
end Go.Proofs.YtfhfcipelgogjaaGreatDoor
