/- ManifestTrees holds for every input of the second form's bound, its tied card. Its condition: the arguments hold at most 1048576 values and letters; the listed package-level variables hold what they are laid with. -/
import Derived.Test.YtfhfcipelgogjaaGreatDoorTreeText
import Derived.Test.YtfhfcipelgogjaaGreatDoorReadB
import Derived.Test.YtfhfcipelgogjaaGreatDoorCopyG
import Derived.Test.YtfhfcipelgogjaaGreatDoorDoorT
import Derived.Test.YtfhfcipelgogjaaGreatDoorDataGr
namespace Go.Proofs.YtfhfcipelgogjaaGreatDoor
open Go.RowKit
set_option linter.unusedSectionVars false
set_option linter.unusedVariables false
set_option linter.unusedSimpArgs false
attribute [local go_sem] cell?_over frozen?_over lt_over le_over
namespace manifestTrees
open Go.ChangeShapes Go.WideShapes Go.ChangeAt Go.RowKit
theorem line_fun : lineF restC = lineF restR := funext lineF_eq
theorem node_small {d : NodeD} (h : Shape.NodeD.bulk d ≤ 1048576) : d.data.length ≤ 1048576 ∧ d.ents.length ≤ 1048576 ∧ ∀ e ∈ d.ents, e.name.size ≤ 1048576 := by
  have h1 := len_bulk Shape.byte d.data
  have h2 := len_bulk Shape.EntD d.ents
  have h3 : bulkAll Shape.byte.bulk d.data + bulkAll Shape.EntD.bulk d.ents ≤ Shape.NodeD.bulk d := by
    simp only [Shape.NodeD, Shape.slice]; omega
  refine ⟨by omega, by omega, fun e he => ?_⟩
  have h4 := mem_bulk Shape.EntD.bulk he
  have h5 : e.name.size ≤ Shape.EntD.bulk e := by simp only [Shape.EntD, Shape.str]; omega
  omega
theorem nodes_small {gs : List NodeD} (h : bulkAll Shape.NodeD.bulk gs ≤ 1048576) : ∀ d ∈ gs, d.data.length ≤ 1048576 ∧ d.ents.length ≤ 1048576 ∧ ∀ e ∈ d.ents, e.name.size ≤ 1048576 := fun d hd => node_small (Nat.le_trans (mem_bulk Shape.NodeD.bulk hd) h)
set_option maxRecDepth 100000 in
set_option maxHeartbeats 4000000 in
theorem law {A : Option Addr} {n c : Nat} {gs : List NodeD} (root : Int) (w : World) (hA : Row Shape.NodeD w (Old w) A n gs) (hb : bulkAll Shape.NodeD.bulk gs ≤ 1048576) (hm : MaxLenOk w) (hv : ErrRangeOk w) (hp : Pow10 w) :
    Calls Tryz.prog 3 #[.agg #[.slice A n c], .int .i64 root] w fun e w' => e = .returned (.bool true) ∧ Below w.heap.size w w' := by
  have SG := Lib.hid (nodes_small hb)
  have HA := Lib.hid hA
  have hln := len_bulk Shape.NodeD gs
  have hla := hA.1
  have hn : n ≤ 1048576 := by omega
  have HM := Lib.hid hm; have HV := Lib.hid hv; have HP := Lib.hid hp
  clear hm hv hp hA hln hla hb
  have b0 := Blk.new w 24 #[.slice A n c]
  have hb0 : Below w.heap.size w (w.alloc (.cells #[.slice A n c] 24)) := below_alloc' _ _
  have B0 := Lib.hid hb0; have BX := Lib.hid b0
  have AL := Lib.hid (alive (w.alloc (.cells #[.slice A n c] 24)) (HP.out.keep hb0))
  clear b0 hb0
  go_enter Tryz.func3, Tryz.ntmps3
  go_wp2_with fail
  refine AL.out.mono ?_
  rintro e w2 ⟨rfl, hb2⟩
  have B2 := Lib.hid (below_old B0.out hb2)
  have BX2 := Lib.hid (BX.out.below hb2 BX.out.lt)
  have x0 := BX2.out.cell 0; have lx := BX2.out.lt
  simp only [List.getElem?_toArray, List.getElem?_cons_zero] at x0
  clear hb2 AL B0 BX
  go_wp2_with fail
  refine (copyGraph (c := c) w2 (HA.out.below B2.out) (fun d hd => by have := SG.out d hd; omega) (by omega)).mono ?_
  rintro e w3 ⟨v3, M3, rfl, hb3, hown3, hM3, hne3⟩
  have B3 := Lib.hid (below_old B2.out hb3)
  obtain ⟨g3, c3, hv3⟩ : ∃ g3 c3, v3 = .slice (some ⟨g3, 0, none⟩) gs.length c3 := by
    rcases hown3.form with ⟨h0, _⟩ | ⟨g, cap, hv, _⟩
    · exact absurd h0 hne3
    · exact ⟨g, cap, hv⟩
  obtain ⟨N3, hN3⟩ : ∃ x, x = gs.length := ⟨_, rfl⟩
  rw [← hN3] at hv3
  subst hv3
  obtain ⟨A3', n3', c3', e3, _, _, hrow3⟩ := hown3.rd_old
  injection e3 with e3 e4 e5
  subst e3 e4 e5
  have R3 := Lib.hid hrow3
  have hN3l : N3 ≤ 1048576 := by have := HA.out.1; omega
  have GT := Lib.hid (graphTree (c := c3) root w3 R3.out (fun d hd => ⟨by have := (SG.out d hd).2.1; omega, fun e he => by have := (SG.out d hd).2.2 e he; omega⟩) (fun d hd => by have := (SG.out d hd).1; omega) (by omega))
  clear hb3 hown3 hM3 hne3 hrow3 x0 lx hN3
  go_wp2_with fail
  refine GT.out.mono ?_
  rintro e w4 ⟨hb4, hcase⟩
  have B4 := Lib.hid (below_old B3.out hb4)
  clear hb4 GT
  rcases hcase with ⟨i4, st, v4, M4, hroot, htree, ⟨hs1, hs2⟩, rfl, hown4, hM4⟩ | ⟨err, herr, rfl, hno⟩
  · obtain ⟨hok, hsm, hbody, hlen, hne, htext, hsp, ps, hpl, hnr, htr⟩ := tree_facts hroot htree (fun d hd => (SG.out d hd).1)
    obtain ⟨l, hl⟩ : ∃ l, l = st.out := ⟨_, rfl⟩
    rw [← hl] at hok hsm hbody hlen hne htext hsp hpl htr hown4
    obtain ⟨A4, c4, rfl, _, hrow4⟩ := own_row hown4
    have R4 := Lib.hid hrow4
    have HOK := Lib.hid hok; have HSM := Lib.hid hsm; have HBODY := Lib.hid hbody; have HTX := Lib.hid htext; have HSP := Lib.hid hsp; have HPL := Lib.hid hpl; have HNR := Lib.hid hnr; have HTR := Lib.hid htr
    have SL : Hid (SmallL l) := Lib.hid (fun d hd => by have := (HSM.out d hd).2.2.2; omega)
    have hpos : 0 < l.length := List.length_pos_iff.2 hne
    have hlen' : l.length ≤ 8193 := hlen
    clear hroot htree hs1 hs2 hown4 hM4 hrow4 hok hsm hbody hlen hne htext hsp hpl hnr htr hl
    go_wp2_with fail
    refine (copyLines (c := c4) w4 R4.out SL.out (by omega)).mono ?_
    rintro e w5 ⟨v5, δ5, M5, rfl, hw5, hown5, hM5⟩
    have hb5 : Below w4.heap.size w4 w5 := by rw [hw5]; exact below_over _ _
    obtain ⟨A5, c5, rfl, _, hrow5⟩ := own_row hown5
    have B5 := Lib.hid (below_old B4.out hb5)
    have R5 := Lib.hid hrow5
    have R45 := Lib.hid (R4.out.below hb5)
    clear hw5 hown5 hM5 hb5 hrow5 R4
    go_wp2_with fail
    refine (manPrint (c := c5) w5 R5.out (HP.out.keep B5.out) HSM.out (by omega) (fun _ => by have := HTX.out l.length; rwa [List.take_length] at this) (fun k _ _ => HTX.out k)).mono ?_
    rintro e w6 ⟨rfl, hb6⟩
    rw [(print_ok HOK.out).1, (print_ok HOK.out).2]
    have B6 := Lib.hid (below_old B5.out hb6)
    have R46 := Lib.hid (R45.out.below hb6)
    have hrd := text_read HOK.out
    rw [← line_fun] at hrd
    have htw := text_words HBODY.out
    have htl : (textOf l).length ≤ 900000000000 := by have := HTX.out l.length; rwa [List.take_length] at this
    have RD := Lib.hid (manReadB ⟨(textOf l).toArray⟩ w6 (by simpa [ByteArray.size] using htl) htw (HM.out.keep B6.out) (HV.out.keep B6.out) (HP.out.keep B6.out))
    rw [show (ByteArray.mk (textOf l).toArray).data.toList = textOf l from rfl, hrd] at RD
    clear hb6 hrd htw htl R5 R45
    unfold strV
    go_wp2_with fail
    refine RD.out.mono ?_
    rintro e w7 ⟨⟨v7, M7, rfl, hown7, hM7⟩, hb7⟩
    have B7 := Lib.hid (below_old B6.out hb7)
    have R47 := Lib.hid (R46.out.below hb7)
    obtain ⟨A7, c7, rfl, _, hrow7⟩ := own_row hown7
    have R7 := Lib.hid hrow7
    have PL := Lib.hid (graphPlant (c := c7) w7 R7.out HSP.out (by omega) hpos)
    clear hb7 hown7 hM7 hrow7 RD R46
    go_wp2_with fail
    refine PL.out.mono ?_
    rintro e w8 ⟨hb8, hpe⟩
    have B8 := Lib.hid (below_old B7.out hb8)
    have R48 := Lib.hid (R47.out.below hb8)
    clear PL R47 R7
    rcases hpe with ⟨ps', A8, n8, c8, hps8, rfl, hrow8, hsg8, hn8, i8, st8, hr8, ht8, ho8⟩ | ⟨rfl, hbad⟩
    · have hpse : ps' = ps := by rw [HPL.out] at hps8; injection hps8 with h; exact h.symm
      subst hpse
      have hn8p : 0 < n8 := by
        have := hrow8.1
        have h9 := (idx_get hr8.2.1).1
        omega
      obtain ⟨bg, offg, hA8, _, _⟩ := hrow8.2 hn8p
      subst hA8
      have R8 : Hid (Row Shape.NodeD w8 (Old w8) (some ⟨bg, offg, none⟩) n8 ps'.nodes) := Lib.hid (hrow8.more fun k hk => hk.2)
      have SG8 := Lib.hid hsg8
      have DT8 : Hid (∀ d ∈ ps'.nodes, d.data.length ≤ 1000000000) := Lib.hid (by
        have := plantL_data HPL.out HSP.out
        exact this)
      clear hps8 hrow8 hsg8 ht8 ho8 hr8
      have hbA : Below w8.heap.size w8 (w8.alloc (.cells #[.slice (some ⟨bg, offg, none⟩) n8 c8] 24)) := below_alloc' _ _
      have B9 := Lib.hid (below_old B8.out hbA)
      have R49 := Lib.hid (R48.out.below hbA)
      have GT2 := Lib.hid (graphTree (c := c8) 1 _ (R8.out.below hbA) SG8.out DT8.out hn8)
      clear hbA R48
      go_wp2_with fail
      refine GT2.out.mono ?_
      rintro e w10 ⟨hb10, hcase⟩
      have B10 := Lib.hid (below_old B9.out hb10)
      have R410 := Lib.hid (R49.out.below hb10)
      clear hb10 GT2 R49 R8
      rcases hcase with ⟨j, st10, v10, M10, hroot, htree, -, rfl, hown10, hM10⟩ | ⟨err, herr, rfl, hno⟩
      · have hout : st10.out = l := by
          have h1 := HTR.out j hroot
          rw [htree] at h1
          have := congrArg (fun x : LSt × Bool => x.1.out) h1
          exact this
        rw [hout] at hown10
        obtain ⟨A10, c10, rfl, _, hrow10⟩ := own_row hown10
        have R10 := Lib.hid hrow10
        have e3 := Lib.hid (sameLines_eq (c := c10) (c' := c4) w10 R10.out R410.out SL.out (by omega))
        clear hroot htree hown10 hM10 hrow10 hout
        go_wp2_with (first | (go_at_call 16; refine e3.out.mono ?_; rintro e w11 ⟨rfl, δ11, hw11⟩; have B11 := Lib.hid (below_old B10.out (below_of hw11)); clear hw11))
        go_ret
        exact ⟨rfl, B11.out⟩
      · exfalso
        rcases hno with h | ⟨j, hj1, hj2⟩
        · exact HNR.out h
        · rw [HTR.out j hj1] at hj2
          cases hj2
    · exfalso
      rcases hbad ps HPL.out with h | ⟨j, hj1, hj2⟩
      · exact HNR.out h
      · exact hj2 (HTR.out j hj1)
  · have HNO := Lib.hid hno
    clear hno
    go_wp2_with fail
    go_ret
    exact ⟨rfl, B4.out⟩
theorem own : ownKnob Tryz.prog.godebug = none := by kernel_rfl
theorem laidOut : laidOutB Tryz.prog = true := by kernel_rfl
set_option maxRecDepth 100000 in
theorem contract (H : Type) (enc : TypeId × Value → H) (W : World) (base : Nat) (args : Array Value) (ds gs : List (DataW H)) (before : List MemPlace)
    (hval : ∀ (j : Nat) t v, Tryz.f3.params[j]? = some t → args[j]? = some v → Value.okWide Tryz.prog W .any base t v)
    (hW : DataW.Whole enc Tryz.prog Tryz.f3.params.toList Rows.manifestTreesSpec.vars false W args.toList ds gs before) (hk : Rows.uptoSmall H (ds ++ gs) = true) (hL : laidMetH Tryz.prog Rows.manifestTreesUptoRow.laid W) (hsh : W.ShapedOpen Tryz.prog) :
    Calls Tryz.prog 3 args W fun e W' => ∃ v, e = .returned v ∧ Rows.manifestTreesSpec.post enc Tryz.prog Tryz.f3 false true false false W args v W' := by
  have hW' := hW
  obtain ⟨p, q, hA0, hV, rfl, hfz, hnd⟩ := hW
  have hA : DataW.TrodAll enc Tryz.prog W 0 (fun _ => true) true Tryz.f3.params.toList args.toList ds p := hA0
  rw [Tryz.params3] at hA hval
  obtain ⟨v0, vs0, d0, ds0, p0, q0, hargs, rfl, rfl, h0, r0⟩ := trodAll_cons hA
  obtain ⟨v1, vs1, d1, ds1, p1, q1, rfl, rfl, rfl, h1, r1⟩ := trodAll_cons r0
  obtain ⟨rfl, rfl, rfl⟩ := trodAll_nil r1
  obtain rfl : args = #[v0, v1] := by cases args; simp_all
  obtain ⟨rfl, rfl⟩ := trodVars_none hV
  have k0 := h0
  have lt0 : ∀ x ∈ p0, x.block < W.heap.size := by obtain ⟨m, hm⟩ := k0; exact DataW.trod_lt m _ _ _ hm
  have k1 := h1
  have lt1 : ∀ x ∈ p1, x.block < W.heap.size := by obtain ⟨m, hm⟩ := k1; exact DataW.trod_lt m _ _ _ hm
  obtain ⟨m0, hm0⟩ := h0
  obtain ⟨m1, hm1⟩ := h1
  obtain ⟨cs0, rfl, hsz0⟩ := okWide_struct Tryz.underlying24 (hval 0 24 v0 rfl rfl)
  obtain ⟨root, rfl⟩ := okWide_int Tryz.underlying3 (hval 1 3 v1 rfl rfl)
  obtain ⟨d, hh, hbk0⟩ := opens_GraphD.2 hm0
  obtain ⟨A, n, c, hcs, hnc, hcm, hrow⟩ := hh
  obtain rfl : cs0 = #[.slice A n c] := by apply Array.ext'; exact hcs
  have hbound : Rows.uptoBulkAll [d0, d1] ≤ 1048576 := of_decide_eq_true hk
  simp only [Rows.uptoBulkAll] at hbound
  have hbk : bulkAll Shape.NodeD.bulk d.nodes + 1 + 1 ≤ Rows.uptoBulk d0 := hbk0
  clear hA0
  refine (law root W hrow (by omega) (door_max hsh) (door_err hL) (door_table hL)).mono fun e W' ⟨he, bel⟩ => ?_
  subst he
  exact ⟨_, rfl, _, _, _, [], _, [], hW', trodAll_mk1 (shut_bool Tryz.underlying4 _), (trodAll_cons_mk (Below.trod laidOut (by kernel_rfl) (of_decide_eq_true (by kernel_rfl)) k0 bel lt0) (trodAll_cons_mk (Below.trod laidOut (by kernel_rfl) (of_decide_eq_true (by kernel_rfl)) k1 bel lt1) trodAll_mk0)), rfl, bel.frame _, fun h => by cases h⟩
theorem laid_met (os : Os) : laidMetH Tryz.prog Rows.manifestTreesUptoRow.laid ((laidWorld os).forCall (fun _ _ => 0) ⟨#[], #[.agg #[.slice none 0 0], .int .i64 0], []⟩).memory := laidMetH_of_parts3 (fuel := 8) (laidMet_of_run' 8 (by kernel_rfl) (by kernel_rfl)) (by kernel_rfl) (by kernel_rfl)
theorem reads (os : Os) {H : Type} (enc : TypeId × Value → H) : ∃ places, DataW.whole enc Tryz.prog ((laidWorld os).forCall (fun _ _ => 0) ⟨#[], #[.agg #[.slice none 0 0], .int .i64 0], []⟩).memory Tryz.f3.params.toList Rows.manifestTreesSpec.vars false (#[.agg #[.slice none 0 0], .int .i64 0] : Array Value).toList 8 = some ([.agg [.nil], .lit (.int .i64 0)], [], places) := ⟨[], by kernel_rfl⟩
set_option maxRecDepth 100000 in
theorem lifted (os : Os) (started : os.Started) (H : Type) (enc : TypeId × Value → H) (F : Stop.Interp) :
    ReturnsInHanded {} Tryz.checked os 3 .any ((Rows.OpenSpec.upto Rows.manifestTreesSpec).preRow enc Tryz.prog Tryz.f3 Rows.manifestTreesUptoRow.domain false Rows.manifestTreesUptoRow.laid) (((Rows.OpenSpec.upto Rows.manifestTreesSpec).at F).post enc Tryz.prog Tryz.f3 false true false false) := by
  obtain ⟨places, hx⟩ := reads os enc
  refine returnsInHanded_of_row (C := Tryz.checked) (s := (Rows.OpenSpec.upto Rows.manifestTreesSpec)) own started (by kernel_rfl) Tryz.func3
    (witness_row_atRef (enc := enc) (C := Tryz.checked) false (laidWorld os) #[.agg #[.slice none 0 0], .int .i64 0] rfl (by kernel_rfl) (by kernel_rfl) (by kernel_rfl)
      (OpenSpec.preRow_of_cond 8 hx (by kernel_rfl) (fun k hk => by cases hk; kernel_rfl) (by kernel_rfl) (laid_met os))) ?_
  intro W base args ds gs before hval hW _ hcond _ hL hsh _
  exact contract H enc W base args ds gs before hval hW (hcond _ rfl) hL hsh
theorem said : Rows.manifestTreesUptoRow.holds Tryz.pinned (Rows.OpenSpec.upto Rows.manifestTreesSpec) :=
  OpenClaim.holds_of_cond 3 Tryz.f3 rfl rfl rfl rfl rfl rfl rfl ⟨rfl, rfl, rfl, rfl, rfl⟩ rfl rfl rfl rfl rfl (by kernel_rfl) Tryz.func3 (by kernel_rfl)
    (of_decide_eq_true (by kernel_rfl)) (by unfold Func.isWrapper; first | (rw [if_pos (by decide +kernel)]; kernel_rfl) | (rw [if_neg (by decide +kernel)]; exact ⟨rfl, rfl⟩))
    (fun os started H enc _ F => by rw [OpenClaim.pre_eq_preRow]; exact lifted os started H enc F)
theorem plain (f : FuncId) (fn : Func) (hf : Tryz.pinned.checked.prog.funcNamed "valise/valiselaw15.ManifestTrees" = some f) (hfn : Tryz.pinned.checked.prog.funcs[f]? = some fn) :
    true = Tryz.pinned.checked.prog.looks [] ∧ ∀ (j : Nat) t, fn.params[j]? = some t → Tryz.pinned.checked.prog.wantsStandIn t = false := by
  obtain rfl : f = 3 := Option.some.inj ((show Tryz.prog.funcNamed "valise/valiselaw15.ManifestTrees" = some 3 by kernel_rfl).symm.trans hf) |>.symm
  obtain rfl : fn = Tryz.f3 := (Option.some.inj (Tryz.func3.symm.trans hfn)).symm
  refine ⟨by kernel_rfl, fun j t ht => ?_⟩
  rw [Tryz.params3] at ht
  have hm := Array.mem_of_getElem? ht
  simp only [List.mem_toArray, List.mem_cons, List.not_mem_nil, or_false] at hm
  rcases hm with rfl | rfl
  · exact (show Tryz.prog.wantsStandIn 24 = false by kernel_rfl)
  · exact (show Tryz.prog.wantsStandIn 3 = false by kernel_rfl)
theorem proved : Rows.ManifestTreesUptoCardSaid :=
  Claim7.holds_tied_plain_at .later [] _ _ _ _ said (fun _ h => by cases h) (by kernel_rfl) (fun _ h => by cases h) manifestTreesUpto_row_tie rfl ⟨rfl, rfl⟩ (by kernel_rfl) rfl plain (by kernel_rfl)
end manifestTrees
end Go.Proofs.YtfhfcipelgogjaaGreatDoor
