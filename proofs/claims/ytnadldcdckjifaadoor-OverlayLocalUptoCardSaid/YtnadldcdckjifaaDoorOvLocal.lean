/- OverlayLocal: its walk. No condition but room and what the library's variables hold. -/
import Derived.Test.YtnadldcdckjifaaDoorOvGiven
import Derived.Test.YtnadldcdckjifaaDoorDoor
namespace Go.Proofs.YtnadldcdckjifaaDoor
open Go.RowKit
set_option linter.unusedVariables false
set_option linter.unusedSimpArgs false
attribute [local go_sem] cell?_over frozen?_over lt_over le_over
theorem empty_of_size {s : ByteArray} (h : s.size = 0) : s = ⟨#[]⟩ := by
  cases s with
  | mk a => simp [ByteArray.size] at h; rw [h]
theorem isEmpty_size (s : ByteArray) : s.toList.isEmpty = true ↔ s.size = 0 := by
  rw [ByteArray.toList_eq, List.isEmpty_iff]
  show s.data.toList = [] ↔ s.data.size = 0
  rw [← Array.length_toList]
  exact List.length_eq_zero_iff.symm
set_option maxRecDepth 100000 in
set_option maxHeartbeats 2000000 in
theorem ovLocal_law (d : GivenD) (nm : ByteArray) {A1 A2 : Option Addr} {n1 c1 n2 c2 : Nat} (w : World) (hg : Row Shape.PairD w (Old w) A1 n1 d.global) (hl : Row Shape.PairD w (Old w) A2 n2 d.local_) (hd : GvOk d) (hnm : nm.size ≤ 1048576) (hm : MaxLenOk w) (hv : ErrRangeOk w) :
    Calls Tryd.prog 9 #[.agg (d.cells A1 n1 c1 A2 n2 c2), .string nm] w fun e w' => e = .returned (.bool true) ∧ Below w.heap.size w w' := by
  have hN1 : d.global.length ≤ 1048576 := by have := len_bulk Shape.PairD d.global; have := hd.g; omega
  have hN2 : d.local_.length ≤ 1048576 := by have := len_bulk Shape.PairD d.local_; have := hd.l; omega
  have e1 := hg.1; have e2 := hl.1
  subst e1 e2
  unfold GivenD.cells
  go_enter Tryd.func9, Tryd.ntmps9
  go_wp2_with fail
  refine (alive06 _ (hm.keep (below_alloc' w _)) (hv.keep (below_alloc' w _))).mono ?_
  rintro e w1 ⟨rfl, hb1⟩
  obtain ⟨bT, hbw1, hsz1⟩ := blks1 hb1
  have HT : Hid (Blk w1 w.heap.size 37 (d.cells A1 d.global.length c1 A2 d.local_.length c2)) := Lib.hid bT
  have HB := Lib.hid hbw1
  clear hb1 bT hbw1
  have kk := gv_cells HT.out
  obtain ⟨k0, k1, k2, k3, k4, k5, k6, k7, k8, k9, k10, k11, k12, k13, k14, k15, k16⟩ := kk
  have ltT := HT.out.lt
  go_wp2_with fail
  refine (copyPairs (c := c2) w1 (hl.below HB.out) (by omega)).mono ?_
  rintro e w2 ⟨v2, δ2, rfl, hw2, hown2⟩
  have hb2 := below_of hw2
  replace HT := Lib.hid (HT.out.below hb2 ltT)
  replace HB := Lib.hid (below_old HB.out hb2)
  clear hw2 k0 k1 k2 k3 k4 k5 k6 k7 k8 k9 k10 k11 k12 k13 k14 k15 k16 ltT
  have O2 := Lib.hid hown2
  have hsz2 := hb2.size
  clear hown2 hb2
  go_wp2_with (first
    | (at_builtin
       refine wpList_append_list (v := v2) rfl (.tmp 17) (.tmp 20) _ rfl elem_pair rfl (O2.out.alloc _) rfl (row_one w2 49 (k := ⟨#[112, 97, 116, 104]⟩) (v := nm) ⟨by show (4:Nat) ≤ maxLen; simp [maxLen], Nat.le_trans hnm (by simp [maxLen])⟩).src (fun n hn => by subst hn; exact ⟨by simp, fun e => by have := O2.out.lt _ e.symm; omega⟩) ?_ ?_ ?_ ?_
       · simp only [List.length_cons, List.length_nil]; omega
       · simp only [List.length_cons, List.length_nil, maxLen]; omega
       · simp; omega
       intro v3 w3 hown3 hg3 hat3))
  obtain ⟨A3, c3, rfl, hc3, hrow3⟩ := own_row hown3
  have hlen3 : (d.local_ ++ [(⟨⟨#[112, 97, 116, 104]⟩, nm⟩ : PairD)]).length = d.local_.length + 1 := by simp
  rw [hlen3] at hrow3 hc3 ⊢
  clear hlen3
  have R3 := Lib.hid hrow3
  replace HT := Lib.hid ((HT.out.alloc _).grown hg3 (Ne.symm (O2.out.ne_blk HT.out (by decide))))
  replace HB := Lib.hid ((HB.out.alloc HB.out.size _).grown hg3 (Nat.le_trans HB.out.size (by simp)) (fun m hm => Nat.le_trans (by omega) (O2.out.lt m hm).1))
  clear hown3 hg3 hat3 hrow3 O2 hsz2
  obtain ⟨kd, n4, lk, md, u, g, us, gr, sc, na, sz, hres, hname⟩ := res_code (onePath (gvIn d) nm)
  have HRES := Lib.hid hres; have HNAME := Lib.hid hname
  clear hres hname
  have kk := gv_cells HT.out
  obtain ⟨k0, k1, k2, k3, k4, k5, k6, k7, k8, k9, k10, k11, k12, k13, k14, k15, k16⟩ := kk
  have ltT := HT.out.lt
  refine wp_region_grow_t [(4, Made.row Shape.PairD d.global w3.heap.size), (10, Made.one (.tuple #[.agg (entCells kd n4 lk md u g us gr sc na), .int .i64 sz, .int .i64 (onePath (gvIn d) nm).code])), (15, Made.blk 41 #[.int .i64 0, .string ⟨#[]⟩, .string ⟨#[]⟩, .int .i64 0, .int .i64 0, .int .i64 0, .string ⟨#[]⟩, .string ⟨#[]⟩, .int .i64 0, .int .i64 0, .slice none 0 0] w3.heap.size)] 16 _ rfl (by kernel_rfl) [4, 10, 15] rfl (by kernel_rfl) (stays_cons (row_stays _ _ _) (stays_cons (one_stays _) (stays_cons (blk_stays _ _ _) stays_nil))) ?_
  simp only [List.take_succ_cons, List.take_zero, List.drop_succ_cons, List.drop_zero]
  repeat (first
    | (refine g_w rfl ?_ (fun W => ?_) ?_; rotate_left; (focus (go_simp; (try with_reducible rfl); done)); simp only [Act.put, List.setIfInBounds_toArray, List.set_cons_zero, List.set_cons_succ])
    | (refine g_d rfl (by kernel_rfl) ?_ (fun δ => ?_) ?_; rotate_left; (focus (go_simp; (try with_reducible rfl); done)); simp only [Act.put, List.setIfInBounds_toArray, List.set_cons_zero, List.set_cons_succ]))
  refine g_call rfl ?_ ?_ (fun W => ?_) ?_ ?_
  rotate_left 2
  · go_simp; (constructor <;> with_reducible rfl)
  · intro δ hF
    refine (copyPairs (c := c1) _ (hg.below (below_old HB.out (below_over _ _))) (by omega)).mono ?_
    rintro e u4 ⟨v4, δ4, rfl, hw4, hown4⟩
    obtain ⟨x, rfl, hx⟩ := row_of_own (n := w3.heap.size) hown4 (size_over_le _ _)
    exact ⟨x, rfl, below_of hw4, hx⟩
  rintro ⟨A4, c4⟩
  simp only [Act.put, List.setIfInBounds_toArray, List.set_cons_zero, List.set_cons_succ, enc_row]
  repeat (first
    | (refine g_w rfl ?_ (fun W => ?_) ?_; rotate_left; (focus (go_simp; (try with_reducible rfl); done)); simp only [Act.put, List.setIfInBounds_toArray, List.set_cons_zero, List.set_cons_succ])
    | (refine g_d rfl (by kernel_rfl) ?_ (fun δ => ?_) ?_; rotate_left; (focus (go_simp; (try with_reducible rfl); done)); simp only [Act.put, List.setIfInBounds_toArray, List.set_cons_zero, List.set_cons_succ]))
  refine g_call rfl ?_ ?_ (fun W => ?_) ?_ ?_
  rotate_left 2
  · go_simp; (constructor <;> with_reducible rfl)
  · intro δ hF
    have h4 : d.global.length ≤ c4 ∧ Row Shape.PairD (over w3 δ) (From w3.heap.size (over w3 δ)) A4 d.global.length d.global := hF 4 (by kernel_rfl)
    have HB' := below_old HB.out (below_over w3 δ)
    refine (ovApply (x := onePath (gvIn d) nm) (c := c4) (c' := c3) _ (ap_one hd hnm (h4.2.more fun _ h => h.2) (R3.out.below (below_over w3 δ))) (ap_str_one hd) (hm.keep HB') (hv.keep HB')).mono ?_
    rintro e u5 ⟨rfl, hb5⟩
    rw [HRES.out]
    exact ⟨(), rfl, hb5, trivial⟩
  rintro ⟨⟩
  simp only [Act.put, List.setIfInBounds_toArray, List.set_cons_zero, List.set_cons_succ, enc_one, entCells]
  repeat (first
    | (refine g_w rfl ?_ (fun W => ?_) ?_; rotate_left; (focus (go_simp; (try with_reducible rfl); done)); simp only [Act.put, List.setIfInBounds_toArray, List.set_cons_zero, List.set_cons_succ])
    | (refine g_d rfl (by kernel_rfl) ?_ (fun δ => ?_) ?_; rotate_left; (focus (go_simp; (try with_reducible rfl); done)); simp only [Act.put, List.setIfInBounds_toArray, List.set_cons_zero, List.set_cons_succ]))
  refine g_alloc rfl (Nat.le_refl _) (fun W => ?_) (fun gE => ?_)
  · go_simp
  simp only [Act.put, List.setIfInBounds_toArray, List.set_cons_zero, List.set_cons_succ]
  refine g_end fun δ hF => ?_
  have h15 : Blk (over w3 δ) gE 41 #[.int .i64 0, .string ⟨#[]⟩, .string ⟨#[]⟩, .int .i64 0, .int .i64 0, .int .i64 0, .string ⟨#[]⟩, .string ⟨#[]⟩, .int .i64 0, .int .i64 0, .slice none 0 0] ∧ w3.heap.size ≤ gE := hF 15
  clear hF
  refine endT_store 41 _ _ rfl gE rfl h15.1 rfl (by kernel_rfl) rfl rfl (fun w4 hE hgr hsz => ?_)
  simp only [Act.put, List.setIfInBounds_toArray, List.set_cons_zero, List.set_cons_succ]
  repeat (refine g_tail ?_ ?_ ?_; rotate_left; (focus (go_simp; (try with_reducible rfl); done)); simp only [Act.put, List.setIfInBounds_toArray, List.set_cons_zero, List.set_cons_succ])
  refine g_tail_end ?_
  have ne4 : w.heap.size ≠ gE := by have := h15.2; omega
  replace HT := Lib.hid ((HT.out.over_ δ).grown hgr (fun e => ne4 (by injection e)))
  have hb4 : Below w3.heap.size w3 w4 := ((Below.refl _ _).grown (w' := w4) (by
    exact ⟨(hgr.os).trans rfl, hgr.tape, hgr.output, Nat.le_trans (size_over_le w3 δ) hgr.size, fun k hk hne => (hgr.block k (Nat.lt_of_lt_of_le hk (size_over_le w3 δ)) hne).trans (over_heap_lt hk)⟩) (Nat.le_refl _) (fun m hm => by injection hm with hm; subst hm; exact h15.2))
  replace HB := Lib.hid (below_old HB.out hb4)
  have HE := Lib.hid hE
  clear h15 hE hgr hsz R3 hb4 k0 k1 k2 k3 k4 k5 k6 k7 k8 k9 k10 k11 k12 k13 k14 k15 k16 ltT
  have kk := gv_cells HT.out
  obtain ⟨k0, k1, k2, k3, k4, k5, k6, k7, k8, k9, k10, k11, k12, k13, k14, k15, k16⟩ := kk
  have ltT := HT.out.lt
  obtain ⟨kd', n4', lk', md', u', g', us', gr', sc', na', sz', hres, hname⟩ := res_code (gvIn d)
  have HRES' := Lib.hid hres
  clear hres hname
  go_wp2_with fail
  refine wp_region_grow_t [(4, Made.row Shape.PairD d.global w4.heap.size), (7, Made.row Shape.PairD d.local_ w4.heap.size), (12, Made.one (.tuple #[.agg (entCells kd' n4' lk' md' u' g' us' gr' sc' na'), .int .i64 sz', .int .i64 (gvIn d).code])), (17, Made.blk 41 #[.int .i64 0, .string ⟨#[]⟩, .string ⟨#[]⟩, .int .i64 0, .int .i64 0, .int .i64 0, .string ⟨#[]⟩, .string ⟨#[]⟩, .int .i64 0, .int .i64 0, .slice none 0 0] w4.heap.size)] 18 _ rfl (by kernel_rfl) [4, 7, 12, 17] rfl (by kernel_rfl) (stays_cons (row_stays _ _ _) (stays_cons (row_stays _ _ _) (stays_cons (one_stays _) (stays_cons (blk_stays _ _ _) stays_nil)))) ?_
  simp only [List.take_succ_cons, List.take_zero, List.drop_succ_cons, List.drop_zero]
  repeat (first
    | (refine g_w rfl ?_ (fun W => ?_) ?_; rotate_left; (focus (go_simp; (try with_reducible rfl); done)); simp only [Act.put, List.setIfInBounds_toArray, List.set_cons_zero, List.set_cons_succ])
    | (refine g_d rfl (by kernel_rfl) ?_ (fun δ => ?_) ?_; rotate_left; (focus (go_simp; (try with_reducible rfl); done)); simp only [Act.put, List.setIfInBounds_toArray, List.set_cons_zero, List.set_cons_succ]))
  refine g_call rfl ?_ ?_ (fun W => ?_) ?_ ?_
  rotate_left 2
  · go_simp; (constructor <;> with_reducible rfl)
  · intro δ hF
    refine (copyPairs (c := c1) _ (hg.below (below_old HB.out (below_over _ _))) (by omega)).mono ?_
    rintro e u4 ⟨v4, δ4, rfl, hw4, hown4⟩
    obtain ⟨x, rfl, hx⟩ := row_of_own (n := w4.heap.size) hown4 (size_over_le _ _)
    exact ⟨x, rfl, below_of hw4, hx⟩
  rintro ⟨A5, c5⟩
  simp only [Act.put, List.setIfInBounds_toArray, List.set_cons_zero, List.set_cons_succ, enc_row]
  repeat (first
    | (refine g_w rfl ?_ (fun W => ?_) ?_; rotate_left; (focus (go_simp; (try with_reducible rfl); done)); simp only [Act.put, List.setIfInBounds_toArray, List.set_cons_zero, List.set_cons_succ])
    | (refine g_d rfl (by kernel_rfl) ?_ (fun δ => ?_) ?_; rotate_left; (focus (go_simp; (try with_reducible rfl); done)); simp only [Act.put, List.setIfInBounds_toArray, List.set_cons_zero, List.set_cons_succ]))
  refine g_call rfl ?_ ?_ (fun W => ?_) ?_ ?_
  rotate_left 2
  · go_simp; (constructor <;> with_reducible rfl)
  · intro δ hF
    refine (copyPairs (c := c2) _ (hl.below (below_old HB.out (below_over _ _))) (by omega)).mono ?_
    rintro e u4 ⟨v4, δ4, rfl, hw4, hown4⟩
    obtain ⟨x, rfl, hx⟩ := row_of_own (n := w4.heap.size) hown4 (size_over_le _ _)
    exact ⟨x, rfl, below_of hw4, hx⟩
  rintro ⟨A6, c6⟩
  simp only [Act.put, List.setIfInBounds_toArray, List.set_cons_zero, List.set_cons_succ, enc_row]
  repeat (first
    | (refine g_w rfl ?_ (fun W => ?_) ?_; rotate_left; (focus (go_simp; (try with_reducible rfl); done)); simp only [Act.put, List.setIfInBounds_toArray, List.set_cons_zero, List.set_cons_succ])
    | (refine g_d rfl (by kernel_rfl) ?_ (fun δ => ?_) ?_; rotate_left; (focus (go_simp; (try with_reducible rfl); done)); simp only [Act.put, List.setIfInBounds_toArray, List.set_cons_zero, List.set_cons_succ]))
  refine g_call rfl ?_ ?_ (fun W => ?_) ?_ ?_
  rotate_left 2
  · go_simp; (constructor <;> with_reducible rfl)
  · intro δ hF
    have h4 : d.global.length ≤ c5 ∧ Row Shape.PairD (over w4 δ) (From w4.heap.size (over w4 δ)) A5 d.global.length d.global := hF 4 (by kernel_rfl)
    have h7 : d.local_.length ≤ c6 ∧ Row Shape.PairD (over w4 δ) (From w4.heap.size (over w4 δ)) A6 d.local_.length d.local_ := hF 7 (by kernel_rfl)
    have HB' := below_old HB.out (below_over w4 δ)
    refine (ovApply (x := gvIn d) (c := c5) (c' := c6) _ (ap_given hd (h4.2.more fun _ h => h.2) (h7.2.more fun _ h => h.2)) (ap_str_given hd) (hm.keep HB') (hv.keep HB')).mono ?_
    rintro e u5 ⟨rfl, hb5⟩
    rw [HRES'.out]
    exact ⟨(), rfl, hb5, trivial⟩
  rintro ⟨⟩
  simp only [Act.put, List.setIfInBounds_toArray, List.set_cons_zero, List.set_cons_succ, enc_one, entCells]
  repeat (first
    | (refine g_w rfl ?_ (fun W => ?_) ?_; rotate_left; (focus (go_simp; (try with_reducible rfl); done)); simp only [Act.put, List.setIfInBounds_toArray, List.set_cons_zero, List.set_cons_succ])
    | (refine g_d rfl (by kernel_rfl) ?_ (fun δ => ?_) ?_; rotate_left; (focus (go_simp; (try with_reducible rfl); done)); simp only [Act.put, List.setIfInBounds_toArray, List.set_cons_zero, List.set_cons_succ]))
  refine g_alloc rfl (Nat.le_refl _) (fun W => ?_) (fun gF => ?_)
  · go_simp
  simp only [Act.put, List.setIfInBounds_toArray, List.set_cons_zero, List.set_cons_succ]
  refine g_end fun δ2 hF => ?_
  have h17 : Blk (over w4 δ2) gF 41 #[.int .i64 0, .string ⟨#[]⟩, .string ⟨#[]⟩, .int .i64 0, .int .i64 0, .int .i64 0, .string ⟨#[]⟩, .string ⟨#[]⟩, .int .i64 0, .int .i64 0, .slice none 0 0] ∧ w4.heap.size ≤ gF := hF 17
  clear hF
  refine endT_store 41 _ _ rfl gF rfl h17.1 rfl (by kernel_rfl) rfl rfl (fun w5 hE hgr hsz => ?_)
  simp only [Act.put, List.setIfInBounds_toArray, List.set_cons_zero, List.set_cons_succ]
  repeat (refine g_tail ?_ ?_ ?_; rotate_left; (focus (go_simp; (try with_reducible rfl); done)); simp only [Act.put, List.setIfInBounds_toArray, List.set_cons_zero, List.set_cons_succ])
  refine g_tail_end ?_
  have ne5 : w.heap.size ≠ gF := by have := h17.2; omega
  have ne6 : gE ≠ gF := by have := h17.2; have := HE.out.lt; omega
  replace HT := Lib.hid ((HT.out.over_ δ2).grown hgr (fun e => ne5 (by injection e)))
  replace HE := Lib.hid ((HE.out.over_ δ2).grown hgr (fun e => ne6 (by injection e)))
  have hb5 : Below w4.heap.size w4 w5 := ((below_over w4 δ2).grown hgr (size_over_le _ _) (fun m hm => by injection hm with hm; subst hm; exact h17.2))
  replace HB := Lib.hid (below_old HB.out hb5)
  clear h17 hE hgr hsz hb5 ne5 ne6 ne4 k0 k1 k2 k3 k4 k5 k6 k7 k8 k9 k10 k11 k12 k13 k14 k15 k16 ltT
  have kk := gv_cells HT.out
  obtain ⟨k0, k1, k2, k3, k4, k5, k6, k7, k8, k9, k10, k11, k12, k13, k14, k15, k16⟩ := kk
  have m1 : w5.cell? ⟨gE, 1, none⟩ = some (.string n4) := HE.out.cell 1
  have ec := one_code (gvIn d) nm
  rw [ec] at HNAME ⊢
  have en := one_name (gvIn d) nm
  rw [en] at HNAME
  clear ec en
  have hnl : (gvIn d).ln = d.longName := rfl
  have hnh : (gvIn d).h.name = d.h.name := rfl
  rw [hnl, hnh] at HNAME
  clear hnl hnh HRES HRES'
  generalize (gvIn d).code = cd at HNAME ⊢
  have c0 : (cd != cd) = false := by simp
  by_cases hz : cd = 0
  · subst hz
    have hn := HNAME.out rfl
    clear HNAME c0
    by_cases h1 : nm.size = 0
    · have h1e : nm = ⟨#[]⟩ := empty_of_size h1
      subst h1e
      rw [if_neg (by decide)] at hn
      by_cases h2 : d.longName.size = 0
      · rw [if_neg (by simp [h2])] at hn
        subst hn
        have e2 : (d.longName).toList.isEmpty = true := (isEmpty_size _).2 h2
        have e3 : (d.h.name.toList == d.h.name.toList) = true := by simp
        clear h1 h2
        go_wp2_with fail
        go_ret
        exact ⟨rfl, HB.out⟩
      · rw [if_pos h2] at hn
        subst hn
        have e2 : (d.longName).toList.isEmpty = false := by rw [← Bool.not_eq_true, isEmpty_size]; exact h2
        clear h1 h2
        go_wp2_with fail
        go_ret
        exact ⟨by simp, HB.out⟩
    · rw [if_pos h1] at hn
      subst hn
      have e1 : n4.toList.isEmpty = false := by rw [← Bool.not_eq_true, isEmpty_size]; exact h1
      clear h1
      go_wp2_with fail
      go_ret
      exact ⟨by simp, HB.out⟩
  · have c1 : (cd != 0) = true := by simpa using hz
    have c2 : (cd == 0) = false := by simpa using hz
    clear hz HNAME
    go_wp2_with fail
    go_ret
    exact ⟨rfl, HB.out⟩
end Go.Proofs.YtnadldcdckjifaaDoor
