/- OverlayGlobal: its walk. No condition but room and what the library's variables hold. -/
import Derived.Test.YtnadldcdckjifaaDoorOvGiven
import Derived.Test.YtnadldcdckjifaaDoorOwnCell
import Derived.Test.YtnadldcdckjifaaDoorDoor
namespace Go.Proofs.YtnadldcdckjifaaDoor
open Go.RowKit
set_option linter.unusedVariables false
set_option linter.unusedSimpArgs false
attribute [local go_sem] cell?_over frozen?_over lt_over le_over
def seven (p : PairD) : PairD := ⟨p.key, ⟨#[55]⟩⟩
def sevK (l : List PairD) (k : Nat) : List PairD := (l.take k).map seven ++ l.drop k
theorem sevK_0 (l : List PairD) : sevK l 0 = l := rfl
theorem sevK_len (l : List PairD) (k : Nat) : (sevK l k).length = l.length := by simp [sevK]; omega
theorem sevK_at {l : List PairD} {k : Nat} (h : k < l.length) : (sevK l k)[k]'(by rw [sevK_len]; exact h) = l[k] := by
  unfold sevK
  rw [List.getElem_append_right (by simp; omega)]
  simp [List.length_take, Nat.min_eq_left (Nat.le_of_lt h)]
theorem sevK_step {l : List PairD} {k : Nat} (h : k < l.length) : (sevK l k).set k (seven l[k]) = sevK l (k + 1) := by
  unfold sevK
  rw [List.set_append, if_neg (by simp; omega), List.take_succ_eq_append_getElem h, List.map_append, List.append_assoc]
  congr 1
  rw [List.length_map, List.length_take, Nat.min_eq_left (Nat.le_of_lt h), Nat.sub_self, List.drop_eq_getElem_cons h]
  rfl
theorem sevK_end (l : List PairD) : sevK l l.length = sevens l := by simp [sevK, sevens, seven]
theorem sevens_len (l : List PairD) : (sevens l).length = l.length := by simp [sevens]
theorem ap_seven {d : GivenD} {w : World} {A A' : Option Addr} {n n' : Nat} (hd : GvOk d) (h : Row Shape.PairD w (Old w) A n (sevens d.local_)) (h' : Row Shape.PairD w (Old w) A' n' d.local_) : ApOk ⟨d.h, sevens d.local_, d.local_, d.longName, d.longLink⟩ w A A' n n' := by
  have hn' := len_bulk Shape.PairD d.local_
  have h1 := h.1; have h2 := h'.1
  have hl := hd.l
  rw [sevens_len] at h1
  refine ap_of (x := ⟨d.h, sevens d.local_, d.local_, d.longName, d.longLink⟩) ⟨hd.s.1, hd.s.2.2.2.2.1⟩ hd.i (fun p hp => ?_) (small_pairs hl) (by omega) (by omega) h h'
  unfold sevens at hp
  obtain ⟨q, _, rfl⟩ := List.mem_map.1 hp
  exact (by decide : (1 : Nat) ≤ 1048576)
theorem ap_none {d : GivenD} {w : World} {A' : Option Addr} {n' : Nat} (hd : GvOk d) (h' : Row Shape.PairD w (Old w) A' n' d.local_) : ApOk ⟨d.h, [], d.local_, d.longName, d.longLink⟩ w none A' 0 n' := by
  have hn' := len_bulk Shape.PairD d.local_
  have h2 := h'.1
  have hl := hd.l
  exact ap_of (x := ⟨d.h, [], d.local_, d.longName, d.longLink⟩) ⟨hd.s.1, hd.s.2.2.2.2.1⟩ hd.i (fun p hp => by cases hp) (small_pairs hl) (by omega) (by omega) Row.nil h'
theorem ap_str_g {d : GivenD} (hd : GvOk d) (g : List PairD) : ApStr ⟨d.h, g, d.local_, d.longName, d.longLink⟩ := ap_strs ⟨hd.s.1, hd.s.2.1, hd.s.2.2.1, hd.s.2.2.2.1, hd.s.2.2.2.2.1, hd.s.2.2.2.2.2⟩
theorem at_load' {P : Program} {ops : Array Oper} {Q : Exit → Act → World → Prop} {o : Oper} {rest : List Oper} {a : Act} {w : World} {ty : TypeId} {x : Operand} (ho : o.op = .load ty x) (h : wpList P ops Q (o :: rest) a w) : wpList P ops Q (o :: rest) a w := h
set_option maxRecDepth 100000 in
set_option maxHeartbeats 2000000 in
theorem ovGlobal_law (d : GivenD) {A1 A2 : Option Addr} {n1 c1 n2 c2 : Nat} (w : World) (hg : Row Shape.PairD w (Old w) A1 n1 d.global) (hl : Row Shape.PairD w (Old w) A2 n2 d.local_) (hd : GvOk d) (hm : MaxLenOk w) (hv : ErrRangeOk w) :
    Calls Tryd.prog 10 #[.agg (d.cells A1 n1 c1 A2 n2 c2)] w fun e w' => e = .returned (.bool true) ∧ Below w.heap.size w w' := by
  have hN2 : d.local_.length ≤ 1048576 := by have := len_bulk Shape.PairD d.local_; have := hd.l; omega
  have e1 := hg.1; have e2 := hl.1
  subst e1 e2
  unfold GivenD.cells
  go_enter Tryd.func10, Tryd.ntmps10
  go_wp2_with fail
  refine (alive06 _ (hm.keep (below_alloc' w _)) (hv.keep (below_alloc' w _))).mono ?_
  rintro e w1 ⟨rfl, hb1⟩
  obtain ⟨bT, hbw1, hsz1⟩ := blks1 hb1
  have HT : Hid (Blk w1 w.heap.size 37 (d.cells A1 d.global.length c1 A2 d.local_.length c2)) := Lib.hid bT
  have HB := Lib.hid hbw1
  clear hb1 bT hbw1
  have kk := gv_cells HT.out
  obtain ⟨k0, k1, k2, k3, k4, k5, k6, k7, k8, k9, k10, k11, k12, k13, k14, k15, k16⟩ := kk
  have ltT := HT.out.lt
  go_wp2_with fail
  refine (copyPairs (c := c2) w1 (hl.below HB.out) (by omega)).mono ?_
  rintro e w2 ⟨v2, δ2, rfl, hw2, hown2⟩
  obtain ⟨A3, c3, rfl, hc3, hrow3⟩ := own_row hown2
  have hb2 := below_of hw2
  replace HT := Lib.hid (HT.out.below hb2 ltT)
  replace HB := Lib.hid (below_old HB.out hb2)
  have O2 := Lib.hid hown2
  have hlt1 : w.heap.size < w1.heap.size := ltT
  clear hw2 hown2 hb2 hc3 hrow3 k0 k1 k2 k3 k4 k5 k6 k7 k8 k9 k10 k11 k12 k13 k14 k15 k16 ltT
  go_wp2_with fail
  go_loopw [4] (fun i wr => ∃ k : Nat, k ≤ d.local_.length ∧ i = .int .i64 k ∧ Own Shape.PairD 49 wr w1.heap.size (fun _ => False) (.slice A3 d.local_.length c3) (sevK d.local_ k) ∧ Blk wr w.heap.size 37 (d.cells A1 d.global.length c1 A2 d.local_.length c2) ∧ Below w.heap.size w wr) (fun i _ => d.local_.length - (intOf i).toNat)
  case atStart => exact ⟨0, Nat.zero_le _, rfl, by rw [sevK_0]; exact O2.out, HT.out, HB.out⟩
  case round =>
    rename_i wr
    obtain ⟨k, hk, rfl, hO, hTr, hBr⟩ := hrel
    clear HT HB O2
    have O := Lib.hid hO; have HT := Lib.hid hTr; have HB := Lib.hid hBr
    clear hO hTr hBr
    by_cases hlt : k < d.local_.length
    · obtain ⟨gA, rfl, hgA, hgB⟩ := O.out.arr (by rw [sevK_len]; omega)
      obtain ⟨es, hes, hcell, hfr⟩ := O.out.cellC rfl (i := k) (by rw [sevK_len]; exact hlt)
      obtain ⟨rfl, q1, q2⟩ := hes
      obtain ⟨old, c1'⟩ : ∃ old, wr.cell? ⟨gA, k * 2 + 1, none⟩ = some (.string old) := ⟨_, hcell 1 (by decide)⟩
      have f1 := hfr (k * 2 + 1)
      clear q1 q2 hcell hfr
      go_wp2_with fail
      refine ⟨⟨k + 1, hlt, rfl, ?_, ?_, ?_⟩, by simp [intOf]; omega⟩
      · have hset := O.out.setC rfl (i := k) (j := 1) (u := .string ⟨#[55]⟩) (a := seven d.local_[k]) (by rw [sevK_len]; exact hlt) (by decide) (fun w es h => by
          rw [sevK_at hlt] at h
          obtain ⟨rfl, h1, h2⟩ := h
          exact ⟨rfl, h1, (by decide : (1 : Nat) ≤ maxLen)⟩)
        rw [sevK_step hlt] at hset
        exact hset
      · exact HT.out.far (fun e => by have : w.heap.size = gA := e; omega) _
      · exact HB.out.setCell (by show w.heap.size ≤ gA; omega) _
    · have hke : k = d.local_.length := by omega
      subst hke
      rw [sevK_end] at O
      clear hlt hk
      have hge : ¬ (d.local_.length < d.local_.length) := by omega
      go_wp2_with fail
      obtain ⟨w3, hw3⟩ : ∃ u, u = wr := ⟨_, rfl⟩
      rw [← hw3] at O HT HB ⊢
      clear hw3
      obtain ⟨Ax, cx, hvx, hcx, hrow3⟩ := own_row O.out
      rw [sevens_len] at hvx
      injection hvx with ex1 ex2 ex3
      subst ex1 ex3
      rw [sevens_len] at hrow3
      have R3 := Lib.hid hrow3
      clear hrow3 hcx ex2 O hge
      obtain ⟨kd, n4, lk, md, u, g, us, gr, sc, na, sz, cd, hres⟩ := res_form ⟨d.h, [], d.local_, d.longName, d.longLink⟩
      have HRES' := Lib.hid hres
      rw [← sevens_res] at hres
      have HRES := Lib.hid hres
      clear hres
      have kk := gv_cells HT.out
      obtain ⟨k0, k1, k2, k3, k4, k5, k6, k7, k8, k9, k10, k11, k12, k13, k14, k15, k16⟩ := kk
      have ltT := HT.out.lt
      refine wp_region_grow_t [(5, Made.row Shape.PairD d.local_ w3.heap.size), (10, Made.one (.tuple #[.agg (entCells kd n4 lk md u g us gr sc na), .int .i64 sz, .int .i64 cd])), (15, Made.blk 41 #[.int .i64 0, .string ⟨#[]⟩, .string ⟨#[]⟩, .int .i64 0, .int .i64 0, .int .i64 0, .string ⟨#[]⟩, .string ⟨#[]⟩, .int .i64 0, .int .i64 0, .slice none 0 0] w3.heap.size)] 16 _ rfl (by kernel_rfl) [5, 10, 15] rfl (by kernel_rfl) (stays_cons (row_stays _ _ _) (stays_cons (one_stays _) (stays_cons (blk_stays _ _ _) stays_nil))) ?_
      simp only [List.take_succ_cons, List.take_zero, List.drop_succ_cons, List.drop_zero]
      repeat (first
        | (refine g_w rfl ?_ (fun W => ?_) ?_; rotate_left; (focus (go_simp; (try with_reducible rfl); done)); simp only [Act.put, List.setIfInBounds_toArray, List.set_cons_zero, List.set_cons_succ])
        | (refine g_d rfl (by kernel_rfl) ?_ (fun δ => ?_) ?_; rotate_left; (focus (go_simp; (try with_reducible rfl); done)); simp only [Act.put, List.setIfInBounds_toArray, List.set_cons_zero, List.set_cons_succ]))
      refine g_call rfl ?_ ?_ (fun W => ?_) ?_ ?_
      rotate_left 2
      · go_simp; (constructor <;> with_reducible rfl)
      · intro δ hF
        refine (copyPairs (c := c2) _ (hl.below (below_old HB.out (below_over _ _))) (by omega)).mono ?_
        rintro e u4 ⟨v4, δ4, rfl, hw4, hown4⟩
        obtain ⟨x, rfl, hx⟩ := row_of_own (n := w3.heap.size) hown4 (size_over_le _ _)
        exact ⟨x, rfl, below_of hw4, hx⟩
      rintro ⟨A5, c5⟩
      simp only [Act.put, List.setIfInBounds_toArray, List.set_cons_zero, List.set_cons_succ, enc_row]
      repeat (first
        | (refine g_w rfl ?_ (fun W => ?_) ?_; rotate_left; (focus (go_simp; (try with_reducible rfl); done)); simp only [Act.put, List.setIfInBounds_toArray, List.set_cons_zero, List.set_cons_succ])
        | (refine g_d rfl (by kernel_rfl) ?_ (fun δ => ?_) ?_; rotate_left; (focus (go_simp; (try with_reducible rfl); done)); simp only [Act.put, List.setIfInBounds_toArray, List.set_cons_zero, List.set_cons_succ]))
      refine g_call rfl ?_ ?_ (fun W => ?_) ?_ ?_
      rotate_left 2
      · go_simp; (constructor <;> with_reducible rfl)
      · intro δ hF
        have h5 : d.local_.length ≤ c5 ∧ Row Shape.PairD (over w3 δ) (From w3.heap.size (over w3 δ)) A5 d.local_.length d.local_ := hF 5 (by kernel_rfl)
        have HB' := below_old HB.out (below_over w3 δ)
        refine (ovApply (x := ⟨d.h, sevens d.local_, d.local_, d.longName, d.longLink⟩) (c := c3) (c' := c5) _ (ap_seven hd (R3.out.below (below_over w3 δ)) (h5.2.more fun _ h => h.2)) (ap_str_g hd _) (hm.keep HB') (hv.keep HB')).mono ?_
        rintro e u5 ⟨rfl, hb5⟩
        rw [HRES.out]
        exact ⟨(), rfl, hb5, trivial⟩
      rintro ⟨⟩
      simp only [Act.put, List.setIfInBounds_toArray, List.set_cons_zero, List.set_cons_succ, enc_one, entCells]
      repeat (first
        | (refine g_w rfl ?_ (fun W => ?_) ?_; rotate_left; (focus (go_simp; (try with_reducible rfl); done)); simp only [Act.put, List.setIfInBounds_toArray, List.set_cons_zero, List.set_cons_succ])
        | (refine g_d rfl (by kernel_rfl) ?_ (fun δ => ?_) ?_; rotate_left; (focus (go_simp; (try with_reducible rfl); done)); simp only [Act.put, List.setIfInBounds_toArray, List.set_cons_zero, List.set_cons_succ]))
      refine g_alloc rfl (Nat.le_refl _) (fun W => ?_) (fun gE => ?_)
      · go_simp
      simp only [Act.put, List.setIfInBounds_toArray, List.set_cons_zero, List.set_cons_succ]
      refine g_end fun δ hF => ?_
      have h15 : Blk (over w3 δ) gE 41 #[.int .i64 0, .string ⟨#[]⟩, .string ⟨#[]⟩, .int .i64 0, .int .i64 0, .int .i64 0, .string ⟨#[]⟩, .string ⟨#[]⟩, .int .i64 0, .int .i64 0, .slice none 0 0] ∧ w3.heap.size ≤ gE := hF 15
      clear hF
      refine endT_store 41 _ _ rfl gE rfl h15.1 rfl (by kernel_rfl) rfl rfl (fun w4 hE hgr hsz => ?_)
      simp only [Act.put, List.setIfInBounds_toArray, List.set_cons_zero, List.set_cons_succ]
      repeat (refine g_tail ?_ ?_ ?_; rotate_left; (focus (go_simp; (try with_reducible rfl); done)); simp only [Act.put, List.setIfInBounds_toArray, List.set_cons_zero, List.set_cons_succ])
      refine g_tail_end ?_
      have neT : w.heap.size ≠ gE := by have := h15.2; omega
      replace HT := Lib.hid ((HT.out.over_ δ).grown hgr (fun e => neT (by injection e)))
      have hb4 : Below w3.heap.size w3 w4 := ((below_over w3 δ).grown hgr (size_over_le _ _) (fun m hm => by injection hm with hm; subst hm; exact h15.2))
      replace HB := Lib.hid (below_old HB.out hb4)
      have HE := Lib.hid hE
      clear h15 hE hgr hsz hb4 neT R3 k0 k1 k2 k3 k4 k5 k6 k7 k8 k9 k10 k11 k12 k13 k14 k15 k16 ltT
      have kk := gv_cells HT.out
      obtain ⟨k0, k1, k2, k3, k4, k5, k6, k7, k8, k9, k10, k11, k12, k13, k14, k15, k16⟩ := kk
      have ltT := HT.out.lt
      go_wp2_with fail
      refine wp_region_grow_t [(4, Made.row Shape.PairD d.local_ w4.heap.size), (9, Made.one (.tuple #[.agg (entCells kd n4 lk md u g us gr sc na), .int .i64 sz, .int .i64 cd])), (14, Made.blk 41 #[.int .i64 0, .string ⟨#[]⟩, .string ⟨#[]⟩, .int .i64 0, .int .i64 0, .int .i64 0, .string ⟨#[]⟩, .string ⟨#[]⟩, .int .i64 0, .int .i64 0, .slice none 0 0] w4.heap.size)] 15 _ rfl (by kernel_rfl) [4, 9, 14] rfl (by kernel_rfl) (stays_cons (row_stays _ _ _) (stays_cons (one_stays _) (stays_cons (blk_stays _ _ _) stays_nil))) ?_
      simp only [List.take_succ_cons, List.take_zero, List.drop_succ_cons, List.drop_zero]
      repeat (first
        | (refine g_w rfl ?_ (fun W => ?_) ?_; rotate_left; (focus (go_simp; (try with_reducible rfl); done)); simp only [Act.put, List.setIfInBounds_toArray, List.set_cons_zero, List.set_cons_succ])
        | (refine g_d rfl (by kernel_rfl) ?_ (fun δ => ?_) ?_; rotate_left; (focus (go_simp; (try with_reducible rfl); done)); simp only [Act.put, List.setIfInBounds_toArray, List.set_cons_zero, List.set_cons_succ]))
      refine g_call rfl ?_ ?_ (fun W => ?_) ?_ ?_
      rotate_left 2
      · go_simp; (constructor <;> with_reducible rfl)
      · intro δ hF
        refine (copyPairs (c := c2) _ (hl.below (below_old HB.out (below_over _ _))) (by omega)).mono ?_
        rintro e u4 ⟨v4, δ4, rfl, hw4, hown4⟩
        obtain ⟨x, rfl, hx⟩ := row_of_own (n := w4.heap.size) hown4 (size_over_le _ _)
        exact ⟨x, rfl, below_of hw4, hx⟩
      rintro ⟨A5, c5⟩
      simp only [Act.put, List.setIfInBounds_toArray, List.set_cons_zero, List.set_cons_succ, enc_row]
      repeat (first
        | (refine g_w rfl ?_ (fun W => ?_) ?_; rotate_left; (focus (go_simp; (try with_reducible rfl); done)); simp only [Act.put, List.setIfInBounds_toArray, List.set_cons_zero, List.set_cons_succ])
        | (refine g_d rfl (by kernel_rfl) ?_ (fun δ => ?_) ?_; rotate_left; (focus (go_simp; (try with_reducible rfl); done)); simp only [Act.put, List.setIfInBounds_toArray, List.set_cons_zero, List.set_cons_succ]))
      refine g_call rfl ?_ ?_ (fun W => ?_) ?_ ?_
      rotate_left 2
      · go_simp; (constructor <;> with_reducible rfl)
      · intro δ hF
        have h4 : d.local_.length ≤ c5 ∧ Row Shape.PairD (over w4 δ) (From w4.heap.size (over w4 δ)) A5 d.local_.length d.local_ := hF 4 (by kernel_rfl)
        have HB' := below_old HB.out (below_over w4 δ)
        refine (ovApply (x := ⟨d.h, [], d.local_, d.longName, d.longLink⟩) (c := 0) (c' := c5) _ (ap_none hd (h4.2.more fun _ h => h.2)) (ap_str_g hd _) (hm.keep HB') (hv.keep HB')).mono ?_
        rintro e u5 ⟨rfl, hb5⟩
        rw [HRES'.out]
        exact ⟨(), rfl, hb5, trivial⟩
      rintro ⟨⟩
      simp only [Act.put, List.setIfInBounds_toArray, List.set_cons_zero, List.set_cons_succ, enc_one, entCells]
      repeat (first
        | (refine g_w rfl ?_ (fun W => ?_) ?_; rotate_left; (focus (go_simp; (try with_reducible rfl); done)); simp only [Act.put, List.setIfInBounds_toArray, List.set_cons_zero, List.set_cons_succ])
        | (refine g_d rfl (by kernel_rfl) ?_ (fun δ => ?_) ?_; rotate_left; (focus (go_simp; (try with_reducible rfl); done)); simp only [Act.put, List.setIfInBounds_toArray, List.set_cons_zero, List.set_cons_succ]))
      refine g_alloc rfl (Nat.le_refl _) (fun W => ?_) (fun gF => ?_)
      · go_simp
      simp only [Act.put, List.setIfInBounds_toArray, List.set_cons_zero, List.set_cons_succ]
      refine g_end fun δ hF => ?_
      have h14 : Blk (over w4 δ) gF 41 #[.int .i64 0, .string ⟨#[]⟩, .string ⟨#[]⟩, .int .i64 0, .int .i64 0, .int .i64 0, .string ⟨#[]⟩, .string ⟨#[]⟩, .int .i64 0, .int .i64 0, .slice none 0 0] ∧ w4.heap.size ≤ gF := hF 14
      clear hF
      refine endT_store 41 _ _ rfl gF rfl h14.1 rfl (by kernel_rfl) rfl rfl (fun w5 hE hgr hsz => ?_)
      simp only [Act.put, List.setIfInBounds_toArray, List.set_cons_zero, List.set_cons_succ]
      repeat (refine g_tail ?_ ?_ ?_; rotate_left; (focus (go_simp; (try with_reducible rfl); done)); simp only [Act.put, List.setIfInBounds_toArray, List.set_cons_zero, List.set_cons_succ])
      refine g_tail_end ?_
      have neT : w.heap.size ≠ gF := by have := h14.2; omega
      replace HT := Lib.hid ((HT.out.over_ δ).grown hgr (fun e => neT (by injection e)))
      have hb4 : Below w4.heap.size w4 w5 := ((below_over w4 δ).grown hgr (size_over_le _ _) (fun m hm => by injection hm with hm; subst hm; exact h14.2))
      replace HB := Lib.hid (below_old HB.out hb4)
      have neE : gE ≠ gF := by have := h14.2; have := HE.out.lt; omega
      replace HE := Lib.hid ((HE.out.over_ δ).grown hgr (fun e => neE (by injection e)))
      have HF := Lib.hid hE
      clear h14 hE hgr hsz hb4 neT neE k0 k1 k2 k3 k4 k5 k6 k7 k8 k9 k10 k11 k12 k13 k14 k15 k16 ltT
      have kk := gv_cells HT.out
      obtain ⟨k0, k1, k2, k3, k4, k5, k6, k7, k8, k9, k10, k11, k12, k13, k14, k15, k16⟩ := kk
      have ltT := HT.out.lt
      have gE0 := HE.out.lt
      have gF0 := HF.out.lt
      go_wp2_with (first
        | (refine at_load' (ty := 41) (x := .tmp 5) rfl ?_; refine wpList_load_blk rfl 41 (.tmp 5) rfl _ rfl HE.out whole_Ent ?_)
        | (refine at_load' (ty := 41) (x := .tmp 8) rfl ?_; refine wpList_load_blk rfl 41 (.tmp 8) rfl _ rfl HF.out whole_Ent ?_))
      refine (sameEntry kd n4 lk md u g us gr sc na w5).mono ?_
      rintro e w6 ⟨rfl, hb6⟩
      replace HB := Lib.hid (below_old HB.out hb6)
      have e1 : (sz == sz) = true := by simp
      have e2 : (cd == cd) = true := by simp
      go_wp2_with fail
      go_ret
      exact ⟨rfl, HB.out⟩
end Go.Proofs.YtnadldcdckjifaaDoor
