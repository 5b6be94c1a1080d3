/- manifest's Diff: what it computes. No condition but room. The comparison of lists of changes. No condition but room. -/
import Derived.Test.YtkpblhikndennaaGreatDoorSortAll
import Derived.Test.YtkpblhikndennaaGreatDoorManSameAll
import Derived.Test.YtkpblhikndennaaGreatDoorRefDiffAll
import Derived.Shelf.SlSortCmp.NoneTotal
import Derived.Test.YtkpblhikndennaaGreatDoorSameAll
namespace Go.Proofs.YtkpblhikndennaaGreatDoor
open Go.RowKit
set_option linter.unusedVariables false
set_option linter.unusedSimpArgs false
theorem kS_kf (s : ByteArray) : kS.kf s = .string s := rfl
theorem cvI_eq (n : Int) : cvI n = .int .i64 n := rfl
attribute [local go_sem] cell?_over frozen?_over lt_over le_over kS_kf cvI_eq

theorem sort_any {w : World} {base : Nat} {v : Value} {l : List ChangeD} (h : Own Shape.ChangeD 52 w base (fun _ => False) v l) (hnd : (l.map (·.path)).Nodup) (hl : l.length ≤ 1000000000) :
    Calls Tryz.prog 41 #[v, .func (.func 42) #[] #[]] w fun e w' => e = .returned (.tuple #[]) ∧ ∃ l' : List ChangeD, l'.Perm l ∧ SortedC l' ∧ Own Shape.ChangeD 52 w' base (fun _ => False) v l' ∧ w.grownBy w' v.ownBlock := by
  rcases h.form with ⟨rfl, rfl⟩ | ⟨g, cap, rfl, _⟩
  · have := AnyF.slices_SortFunc_none Tryz.sortCh none 0 (.func (.func 42) #[] #[]) w
    change Calls Tryz.prog 41 _ _ _ at this
    refine this.mono ?_
    rintro e w' ⟨rfl, rfl⟩
    exact ⟨rfl, [], List.Perm.refl _, List.Pairwise.nil, h, World.grownBy.refl _ _⟩
  · refine (sort_list h hnd hl).mono ?_
    rintro e w' ⟨rfl, l', h1, h2, h3, h4⟩
    exact ⟨rfl, l', h1, h2, h3, h4⟩
theorem i64_1 : I64 1 := by unfold I64; omega
theorem i64_2 : I64 2 := by unfold I64; omega
theorem i64_3 : I64 3 := by unfold I64; omega
/-- a place where a walk stops -/
def Stop (p : Prop) : Prop := p
theorem Stop.mk {p : Prop} (h : Stop p) : p := h
theorem filterMap_snoc {γ : Type} (f : γ → Option ChangeD) (done : List γ) (p : γ) (o : Option ChangeD) (ho : f p = o) : (done ++ [p]).filterMap f = done.filterMap f ++ o.toList := by
  rw [List.filterMap_append]
  congr 1
  simp only [List.filterMap_cons, ho, List.filterMap_nil]
  cases o <;> rfl
theorem byP_len (l : List LineD) (n : Nat) : (byP l n).length ≤ n := by
  unfold byP
  have := List.length_filterMap_le (fun i => if atL l (l.getD i default).path = some i then some ((l.getD i default).path, (i : Int)) else none) (List.range n)
  simpa using this
theorem progA_len {la lb : List LineD} {done left : List (ByteArray × Int)} {n : Nat} (h : (done ++ left).Perm (byP la la.length)) (hl : la.length = n) : (done.filterMap (progA la lb)).length ≤ n := by
  have h1 := List.length_filterMap_le (progA la lb) done
  have h2 := h.length_eq
  have h3 := byP_len la la.length
  rw [List.length_append] at h2
  omega
set_option maxHeartbeats 600000 in
set_option maxRecDepth 100000 in
theorem manDiff {A B : Option Addr} {n m c c' : Nat} {la lb : List LineD} (w : World) (hA : Row Shape.LineD w (Old w) A n la) (hB : Row Shape.LineD w (Old w) B m lb) (sA : SmallL la) (sB : SmallL lb) (hn : n ≤ 100000000) (hm : m ≤ 100000000) :
    Calls Tryz.prog 18 #[.slice A n c, .slice B m c'] w fun e w' => ∃ v, e = .returned v ∧ Own Shape.ChangeD 52 w' w.heap.size (fun _ => False) v (diffL la lb) ∧ Below w.heap.size w w' := by
  have HLA := Lib.hid hA.1
  have HLB := Lib.hid hB.1
  have hz : ∀ w, (zeroValue 3).run Tryz.prog w = .ok (.int .i64 0) w := fun w => Tryz.zeroValue3 w
  go_enter Tryz.func18, Tryz.ntmps18
  go_wp2_with fail
  refine (byPath (c := c) w hA (by omega)).mono ?_; rintro e w1 ⟨b1, rfl, hm1, hb1, bel1⟩
  have hm1lt := hm1.lt
  have M1 := Lib.hid hm1; have B1 := Lib.hid bel1; clear hm1 bel1
  go_wp2_with fail
  refine (byPath (c := c') w1 (hB.below B1.out) (by omega)).mono ?_; rintro e w2 ⟨b2, rfl, hm2, hb2, bel2⟩
  have hs1 := B1.out.size
  have hm2lt := hm2.lt
  have M1' := Lib.hid (M1.out.of_block (bel2.block b1 hm1lt))
  have M2 := Lib.hid hm2
  have B2 := Lib.hid (below_old B1.out bel2)
  have hs2 := bel2.size
  clear hm2 bel2 M1 B1
  go_wp2_with (first
    | (at_range; refine wpList_range_kv rfl (.tmp 19) _ rfl und_map M1'.out rfl ?_; intro w3 hit hg3 hz3))
  go_frame
  have M2' := Lib.hid (M2.out.grown hg3 (by simp))
  have B3 := Lib.hid (B2.out.grown hg3 (by omega) (fun k e => by cases e))
  have H0 := Lib.hid hit
  clear hit M2 B2 M1' hg3
  have hs3 : w2.heap.size ≤ w3.heap.size := by omega
  go_loopw [7] (fun v wr => ∃ done left, MapIt kS cvI wr w2.heap.size b1 (byP la la.length) left ∧ (done ++ left).Perm (byP la la.length) ∧ IsMap kS cvI wr b2 (byP lb lb.length) ∧ Own Shape.ChangeD 52 wr w.heap.size (fun _ => False) v (done.filterMap (progA la lb)) ∧ Below w.heap.size w wr) (fun _ wr => wr.rangeLeft b1 w2.heap.size)
  case atStart => exact ⟨[], _, H0.out, List.Perm.refl _, M2'.out, Own.start _ _ _ _, B3.out⟩
  case round =>
    clear H0 M2' B3
    obtain ⟨done, left, hit, hperm, hm2, hown, hbel⟩ := hrel
    have IT := Lib.hid hit; have PM := Lib.hid hperm; have M2 := Lib.hid hm2; have O := Lib.hid hown; have HB := Lib.hid hbel
    clear hit hperm hm2 hown
    have hbsz := hbel.size
    go_wp2_with (first
      | (at_next; refine wpList_next_kv rfl (.tmp 20) rfl rfl IT.out (fun hl0 => Stop.mk ?_) (fun k v left' w4 hpl hit4 hg4 hz4 hen => Stop.mk ?_)))
    · unfold Stop
      subst hl0
      have hdone : done.Perm (byP la la.length) := by simpa using PM.out
      have HDN := Lib.hid hdone
      have M1 := Lib.hid IT.out.isMap
      clear hdone PM
      have hz5 : w.heap.size ≤ wr.heap.size := hbel.size
      go_wp2_with (first
        | (at_range; refine wpList_range_kv rfl (.tmp 54) _ rfl und_map M2.out rfl (fun w5 hit5 hg5 hz5 => Stop.mk ?_)))
      unfold Stop
      have M5 := Lib.hid (M1.out.grown hg5 (by simp))
      have O5 := Lib.hid (O.out.kept hg5 (by cases hv : u7.ownBlock <;> simp) (fun _ h => h.elim))
      have B5 := Lib.hid (hbel.grown hg5 (by omega) (fun k e => by cases e))
      have I5 := Lib.hid hit5
      have holen := progA_len (lb := lb) (done := done) (left := []) (la := la) (n := n) (by simpa using HDN.out) HLA.out
      have HZ5 := Lib.hid hz5
      clear hit5 hg5 M1 M2 O HB hbel hz5
      obtain ⟨LA, hLA⟩ : ∃ LA, LA = done.filterMap (progA la lb) := ⟨_, rfl⟩
      rw [← hLA] at O5 holen
      have HLAe := Lib.hid hLA; clear hLA
      go_wp2_with fail
      have hs5 : wr.heap.size ≤ w5.heap.size := by have := HZ5.out; omega
      obtain ⟨wo, rfl⟩ : ∃ wo : World, wo = wr := ⟨_, rfl⟩
      go_loopw [7] (fun v wr => ∃ done2 left, MapIt kS cvI wr wo.heap.size b2 (byP lb lb.length) left ∧ (done2 ++ left).Perm (byP lb lb.length) ∧ IsMap kS cvI wr b1 (byP la la.length) ∧ Own Shape.ChangeD 52 wr w.heap.size (fun _ => False) v (LA ++ done2.filterMap (progB la)) ∧ Below w.heap.size w wr) (fun _ wr => wr.rangeLeft b2 wo.heap.size)
      case atStart => exact ⟨[], _, I5.out, List.Perm.refl _, M5.out, by simpa using O5.out, B5.out⟩
      case round =>
        clear I5 M5 O5 B5 IT
        obtain ⟨done2, left, hit, hperm, hm1, hown, hbel⟩ := hrel
        have IT := Lib.hid hit; have PM := Lib.hid hperm; have M1 := Lib.hid hm1; have O := Lib.hid hown; have HB := Lib.hid hbel
        clear hit hperm hm1 hown
        have hbsz2 := hbel.size
        have holen2 : (LA ++ done2.filterMap (progB la)).length ≤ n + m := by
          have h1 := List.length_filterMap_le (progB la) done2
          have h2 := PM.out.length_eq
          have h3 := byP_len lb lb.length
          have h4 := HLB.out
          rw [List.length_append] at h2 ⊢
          omega
        go_wp2_with (first
          | (at_next; refine wpList_next_kv rfl (.tmp 55) rfl rfl IT.out (fun hl0 => Stop.mk ?_) (fun k v left' w6 hpl hit6 hg6 hz6 hen => Stop.mk ?_)))
        · unfold Stop
          subst hl0
          have hdone2 : done2.Perm (byP lb lb.length) := by simpa using PM.out
          have hnd := prog_paths (a := la) HDN.out hdone2
          rw [← HLAe.out] at hnd
          have HND := Lib.hid hnd; have HD2 := Lib.hid hdone2
          clear hnd hdone2
          go_wp2_with fail
          refine (sort_any O.out HND.out (by omega)).mono ?_
          rintro e w7 ⟨rfl, R, hRp, hRs, hRo, hRg⟩
          have hfin : R = diffL la lb := prog_diff HDN.out HD2.out (by rw [← HLAe.out]; exact hRp) hRs
          have hb7 := hbel.grown hRg hbsz2 (fun j hj => (O.out.lt j hj).1)
          rw [hfin] at hRo
          have RO := Lib.hid hRo; have B7 := Lib.hid hb7
          clear hRo hb7 hfin hRs hRp hRg
          go_wp2_with fail
          go_ret
          exact ⟨_, rfl, RO.out, B7.out⟩
        · unfold Stop
          have hen2 : (Instr.entry (.pointer (some ⟨wo.heap.size, 0, none⟩))).run Tryz.prog w6 = .ok (.tuple #[.string k, .int .i64 v]) w6 := hen
          clear hen
          have HZ6 := Lib.hid hz6; clear hz6
          have hmem : (k, v) ∈ byP lb lb.length := PM.out.subset (List.mem_append_right _ (hpl.symm.subset (by simp)))
          obtain ⟨i, hil, rfl, hai⟩ := mem_byP.1 hmem
          have him : i < m := by have := HLB.out; omega
          have hb6 := hbel.grown hg6 hbsz2 (fun k e => by injection e with e; omega)
          have hO6 := O.out.kept hg6 (Or.inr (fun e => IT.out.ne_own O.out e.symm)) (fun _ h => h.elim)
          have hM6 := M1.out.grown hg6 (fun e => IT.out.ne_map M1.out (by injection e with e; exact e.symm))
          have hpm6 := perm_next PM.out hpl
          have hlen6 := hpl.length_eq
          obtain ⟨b, off, es, hkl, hBe, hb, hc, hc0, hr⟩ := hB.elem (Keeps.old hb6) him
          obtain ⟨_, _, _, rfl, hps, -⟩ := hr
          clear hc hc0 hBe hb
          have hgd := getD_lt hkl
          have hkp := (atL_some hai).2
          rw [hgd] at hkp
          rw [hkp] at hps
          have B6 := Lib.hid hb6; have O6 := Lib.hid hO6; have M6 := Lib.hid hM6; have P6 := Lib.hid hpm6; have IT6 := Lib.hid hit6
          have HPL := Lib.hid hlen6
          have hsz6 := hb6.size
          have hprog : ∀ o : Option ChangeD, progB la (k, (i : Int)) = o → (done2 ++ [(k, (i : Int))]).filterMap (progB la) = done2.filterMap (progB la) ++ o.toList := fun o ho => filterMap_snoc (progB la) done2 (k, (i : Int)) o ho
          have HP := Lib.hid hprog
          clear hprog hgd hkp hb6 hO6 hM6 hpm6 hit6 hlen6 hmem hai hbel hpl
          cases hj : atL la k with
          | none =>
            have hget : getKv (byP la la.length) k = none := by rw [getKv_byP, hj]; rfl
            have hpa := HP.out (some ⟨k, 1⟩) (by unfold progB; rw [if_pos hj])
            have HG := Lib.hid hget; have HPA := Lib.hid hpa; clear hget hpa hj
            go_wp2_with (first
              | (refine wpList_lookup_no rfl (.tmp 61) (.tmp 62) _ rfl (K := kS) (cv := cvI) und_map (b := b1) (kv := byP la la.length) M6.out k (hz _) rfl rfl HG.out ?_)
              | (at_builtin
                 refine wpList_append_one flat_ChangeD rfl (.tmp 68) (.tmp 71) _ rfl elem_ChangeD (v := u7) rfl O6.out (es := [.string k, .int .i64 1]) (b := ⟨k, 1⟩) rfl ⟨rfl, hps, i64_1⟩ (by omega) (by unfold maxLen; omega) (by omega) ?_
                 intro v7 w7 hown7 hg7 hz7 hat7))
            go_roundw
            case rel =>
              refine ⟨done2 ++ [(k, (i : Int))], left', IT6.out.grown hg7 (IT6.out.isMap.ne_own O6.out) (IT6.out.ne_own O6.out), P6.out, M6.out.grown hg7 (M6.out.ne_own O6.out), by rw [HPA.out, ← List.append_assoc]; exact hown7, B6.out.grown hg7 hsz6 (fun j hj => (O6.out.lt j hj).1)⟩
            case measure =>
              rw [(IT6.out.grown hg7 (IT6.out.isMap.ne_own O6.out) (IT6.out.ne_own O6.out)).left_eq, IT.out.left_eq, HPL.out]
              simp
          | some j =>
            have hget : getKv (byP la la.length) k = some (j : Int) := by rw [getKv_byP, hj]; rfl
            have hpa := HP.out none (by unfold progB; rw [if_neg (by rw [hj]; intro h; cases h)])
            have HG := Lib.hid hget; have HPA := Lib.hid hpa; clear hget hpa hj
            go_wp2_with (first
              | (refine wpList_lookup_yes rfl (.tmp 61) (.tmp 62) _ rfl (K := kS) (cv := cvI) und_map (b := b1) (kv := byP la la.length) M6.out k (hz _) rfl rfl HG.out ?_))
            go_roundw
            case rel =>
              refine ⟨done2 ++ [(k, (i : Int))], left', IT6.out, P6.out, M6.out, by rw [HPA.out]; simpa using O6.out, B6.out⟩
            case measure =>
              rw [IT6.out.left_eq, IT.out.left_eq, HPL.out]
              simp
    · unfold Stop
      have hen2 : (Instr.entry (.pointer (some ⟨w2.heap.size, 0, none⟩))).run Tryz.prog w4 = .ok (.tuple #[.string k, .int .i64 v]) w4 := hen
      clear hen
      have HZ4 := Lib.hid hz4; clear hz4
      have hmem : (k, v) ∈ byP la la.length := PM.out.subset (List.mem_append_right _ (hpl.symm.subset (by simp)))
      obtain ⟨i, hil, rfl, hai⟩ := mem_byP.1 hmem
      have hin : i < n := by have := HLA.out; omega
      have hb4 := hbel.grown hg4 hbsz (fun k e => by injection e with e; omega)
      have hO4 := O.out.kept hg4 (Or.inr (fun e => IT.out.ne_own O.out e.symm)) (fun _ h => h.elim)
      have hM4 := M2.out.grown hg4 (fun e => IT.out.ne_map M2.out (by injection e with e; exact e.symm))
      have hpm4 := perm_next PM.out hpl
      have hlen4 := hpl.length_eq
      obtain ⟨b, off, es, hkl, rfl, hb, hc, hc0, hr⟩ := hA.elem (Keeps.old hb4) hin
      have R := Lib.hid (show LineD.rd w4 (Old w4) es la[i] from Shape.LineD.more hr fun _ hn => Old.below hb4 hn)
      obtain ⟨_, _, _, rfl, hps, -⟩ := hr
      have e13 : Shape.LineD.size = 10 := rfl
      simp only [e13] at hc hc0
      clear e13 hc0
      have hbb := Nat.lt_of_lt_of_le hb hb4.size
      have hks : (i : Int) < n := by omega
      have hgd := getD_lt hkl
      have hsm := sA _ (List.getElem_mem hkl)
      have hkp := (atL_some hai).2
      rw [hgd] at hkp
      rw [hkp] at hps
      obtain ⟨d, hd⟩ : ∃ d, d = la[i] := ⟨_, rfl⟩
      rw [← hd] at hc hgd hsm R hkp
      have HC := Lib.hid hc; have HD := Lib.hid hd; have HGD := Lib.hid hgd; have HKP := Lib.hid hkp
      have B4 := Lib.hid hb4; have O4 := Lib.hid hO4; have M4 := Lib.hid hM4; have P4 := Lib.hid hpm4; have IT4 := Lib.hid hit4
      have HPL := Lib.hid hlen4
      have hsz4 := hb4.size
      have holen := progA_len (lb := lb) PM.out HLA.out
      have hprog : ∀ o : Option ChangeD, progA la lb (k, (i : Int)) = o → (done ++ [(k, (i : Int))]).filterMap (progA la lb) = done.filterMap (progA la lb) ++ o.toList := fun o ho => filterMap_snoc (progA la lb) done (k, (i : Int)) o ho
      have HP := Lib.hid hprog
      clear hprog hc hd hgd hkp hb4 hO4 hM4 hpm4 hit4 hlen4 hmem hai hbel hpl
      cases hj : atL lb k with
      | none =>
        have hget : getKv (byP lb lb.length) k = none := by rw [getKv_byP, hj]; rfl
        have hpa := HP.out (some ⟨k, 2⟩) (by unfold progA; rw [hj])
        have HG := Lib.hid hget; have HPA := Lib.hid hpa; clear hget hpa hj
        go_wp2_with (first
          | (refine wpList_lookup_no rfl (.tmp 27) (.tmp 28) _ rfl (K := kS) (cv := cvI) und_map (b := b2) (kv := byP lb lb.length) M4.out k (hz _) rfl rfl HG.out ?_)
          | (at_builtin
             refine wpList_append_one flat_ChangeD rfl (.tmp 34) (.tmp 37) _ rfl elem_ChangeD (v := u7) rfl O4.out (es := [.string k, .int .i64 2]) (b := ⟨k, 2⟩) rfl ⟨rfl, hps, i64_2⟩ (by omega) (by unfold maxLen; omega) (by omega) ?_
             intro v5 w5 hown5 hg5 hz5 hat5))
        go_roundw
        case rel =>
          refine ⟨done ++ [(k, (i : Int))], left', IT4.out.grown hg5 (IT4.out.isMap.ne_own O4.out) (IT4.out.ne_own O4.out), P4.out, M4.out.grown hg5 (M4.out.ne_own O4.out), by rw [HPA.out]; exact hown5, B4.out.grown hg5 hsz4 (fun j hj => (O4.out.lt j hj).1)⟩
        case measure =>
          rw [(IT4.out.grown hg5 (IT4.out.isMap.ne_own O4.out) (IT4.out.ne_own O4.out)).left_eq, IT.out.left_eq, HPL.out]
          simp
      | some j =>
        have hget : getKv (byP lb lb.length) k = some (j : Int) := by rw [getKv_byP, hj]; rfl
        obtain ⟨hjl, hjp⟩ := atL_some hj
        have hjm : j < m := by have := HLB.out; omega
        obtain ⟨b', off', es', _, rfl, hb', hc', hc0', hr'⟩ := hB.elem (Keeps.old B4.out) hjm
        have R' := Lib.hid (show LineD.rd w4 (Old w4) es' lb[j] from Shape.LineD.more hr' fun _ hn => Old.below B4.out hn)
        obtain ⟨_, _, _, rfl, -⟩ := hr'
        have e13 : Shape.LineD.size = 10 := rfl
        simp only [e13] at hc' hc0'
        clear e13 hc0'
        have hb2' := Nat.lt_of_lt_of_le hb' hsz4
        have hbb' := Nat.lt_of_lt_of_le hb' B4.out.size
        have hjs : (j : Int) < m := by omega
        have hsm' := sB _ (List.getElem_mem hjl)
        have hgd' := getD_lt hjl
        obtain ⟨d', hd'⟩ : ∃ d', d' = lb[j] := ⟨_, rfl⟩
        rw [hgd'] at hjp
        rw [← hd'] at hgd' hsm' hc' R' hjp
        have HC' := Lib.hid hc'; have HGD' := Lib.hid hgd'; have HD' := Lib.hid hd'
        have hpp : d.path = d'.path := by rw [HKP.out, hjp]
        have SL : ∀ δ, Calls Tryz.prog 40 _ (over w4 δ) _ := fun δ => manSame (over w4 δ) (Shape.LineD.below R.out (below_over _ _)) (Shape.LineD.below R'.out (below_over _ _)) hsm hsm' hpp
        by_cases hdd : d = d'
        · have hpa := HP.out none (by unfold progA; rw [hj]; simp only [Int.toNat_natCast]; rw [HGD.out, HGD'.out, if_pos hdd])
          simp only [decide_eq_true hdd] at SL
          have HSL := Lib.hid SL
          have HG := Lib.hid hget; have HPA := Lib.hid hpa
          clear SL hpp hdd hgd' hd' hc' hjp hget hpa hj
          go_wp2_with (first
            | (refine wpList_lookup_yes rfl (.tmp 27) (.tmp 28) _ rfl (K := kS) (cv := cvI) und_map (b := b2) (kv := byP lb lb.length) M4.out k (hz _) rfl rfl HG.out ?_))
          have hc := HC.out
          have hc' := HC'.out
          refine wp_region_over (by kernel_rfl) (by kernel_rfl) ?_
          repeat (go_big_quiet_step (first | (go_at_call 40; exact calls_over (HSL.out _))))
          refine wpQuiet_nil ?_
          rintro _ ⟨δ, rfl⟩
          clear hc hc'
          go_wp2_with fail
          go_roundw
          case rel =>
            refine ⟨done ++ [(k, (i : Int))], left', IT4.out.over_ δ, P4.out, M4.out.over_ δ, by rw [HPA.out]; simpa using O4.out.over_ δ, below_trans_over B4.out hsz4 δ⟩
          case measure =>
            rw [(IT4.out.over_ δ).left_eq, IT.out.left_eq, HPL.out]
            simp
        · have hpa := HP.out (some ⟨k, 3⟩) (by unfold progA; rw [hj]; simp only [Int.toNat_natCast]; rw [HGD.out, HGD'.out, if_neg hdd])
          simp only [decide_eq_false hdd] at SL
          have HSL := Lib.hid SL
          have HG := Lib.hid hget; have HPA := Lib.hid hpa
          clear SL hpp hdd hgd' hd' hc' hjp hget hpa hj
          go_wp2_with (first
            | (refine wpList_lookup_yes rfl (.tmp 27) (.tmp 28) _ rfl (K := kS) (cv := cvI) und_map (b := b2) (kv := byP lb lb.length) M4.out k (hz _) rfl rfl HG.out ?_))
          have hc := HC.out
          have hc' := HC'.out
          refine wp_region_over (by kernel_rfl) (by kernel_rfl) ?_
          repeat (go_big_quiet_step (first | (go_at_call 40; exact calls_over (HSL.out _))))
          refine wpQuiet_nil ?_
          rintro _ ⟨δ, rfl⟩
          clear hc hc'
          have O5 := Lib.hid (O4.out.over_ δ)
          have hsz5 := size_over_le w4 δ
          go_wp2_with (first
            | (at_builtin
               refine wpList_append_one flat_ChangeD rfl (.tmp 49) (.tmp 52) _ rfl elem_ChangeD (v := u7) rfl O5.out (es := [.string k, .int .i64 3]) (b := ⟨k, 3⟩) rfl ⟨rfl, hps, i64_3⟩ (by omega) (by unfold maxLen; omega) (by omega) ?_
               intro v5 w5 hown5 hg5 hz5 hat5))
          go_roundw
          case rel =>
            refine ⟨done ++ [(k, (i : Int))], left', (IT4.out.over_ δ).grown hg5 ((IT4.out.over_ δ).isMap.ne_own O5.out) ((IT4.out.over_ δ).ne_own O5.out), P4.out, (M4.out.over_ δ).grown hg5 ((M4.out.over_ δ).ne_own O5.out), by rw [HPA.out]; exact hown5, (below_trans_over B4.out hsz4 δ).grown hg5 (by omega) (fun j hj => (O5.out.lt j hj).1)⟩
          case measure =>
            rw [((IT4.out.over_ δ).grown hg5 ((IT4.out.over_ δ).isMap.ne_own O5.out) ((IT4.out.over_ δ).ne_own O5.out)).left_eq, IT.out.left_eq, HPL.out]
            simp
end Go.Proofs.YtkpblhikndennaaGreatDoor
namespace Go.Proofs.YtkpblhikndennaaGreatDoor
open Go.RowKit
set_option linter.unusedVariables false
set_option linter.unusedSimpArgs false
attribute [local go_sem] cell?_over frozen?_over lt_over le_over

set_option maxHeartbeats 600000 in
set_option maxRecDepth 100000 in
theorem sameChanges_eq {A A' : Option Addr} {n c c' : Nat} {l : List ChangeD} (w : World) (h : Row Shape.ChangeD w (Old w) A n l) (h' : Row Shape.ChangeD w (Old w) A' n l) (hn : n ≤ 140737488355328) :
    Calls Tryz.prog 20 #[.slice A n c, .slice A' n c'] w fun e w' => e = .returned (.bool true) ∧ ∃ δ, w' = over w δ := by
  have HL := Lib.hid h.1
  go_enter Tryz.func20, Tryz.ntmps20
  go_wp2_with fail
  go_loopw [5] (fun i wr => ∃ k : Nat, k ≤ n ∧ i = .int .i64 k ∧ Below w.heap.size w wr) (fun i _ => n - (intOf i).toNat)
  case atStart => exact ⟨0, Nat.zero_le _, rfl, Below.refl _ _⟩
  case round =>
    obtain ⟨k, hk, rfl, hbel⟩ := hrel
    by_cases hlt : k < n
    · obtain ⟨b, off, es, hkl, rfl, hb, hc, hc0, hr⟩ := h.elem (Keeps.old hbel) hlt
      obtain ⟨b', off', es', _, rfl, hb', hc', hc0', hr'⟩ := h'.elem (Keeps.old hbel) hlt
      obtain ⟨rfl, -⟩ := hr
      obtain ⟨rfl, -⟩ := hr'
      have e13 : Shape.ChangeD.size = 2 := rfl
      simp only [e13] at hc hc0 hc' hc0'
      clear e13
      have c1 := hc 1 (by omega)
      have c1' := hc' 1 (by omega)
      simp only [List.getElem?_cons_zero, List.getElem?_cons_succ] at hc0 hc0' c1 c1'
      clear hc hc'
      have hb2 := Nat.lt_of_lt_of_le hb hbel.size
      have hb2' := Nat.lt_of_lt_of_le hb' hbel.size
      have hks : (k : Int) < n := by omega
      go_wp2
      refine wp_region_over (by kernel_rfl) (by kernel_rfl) ?_
      repeat (go_big_quiet_step (fail))
      refine wpQuiet_nil ?_
      rintro _ ⟨δ', rfl⟩
      go_wp2
      go_roundw
      case rel => exact ⟨k + 1, by omega, by go_num, below_trans_over hbel hbel.size _⟩
      case measure => simp [intOf]; omega
    · go_wp2
      go_ret
      exact ⟨rfl, exists_over hbel⟩
end Go.Proofs.YtkpblhikndennaaGreatDoor
