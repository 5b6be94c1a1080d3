/- StampRound holds for every input: its tied card. Its condition: the listed package-level variables hold what they are laid with. -/
import Derived.Test.YtnadldcdckjifaaDoorAlive02
import Derived.Test.YtnadldcdckjifaaDoorStPlain
import Derived.Test.YtnadldcdckjifaaDoorStShow4
import Derived.Test.YtnadldcdckjifaaDoorTimeI
import Derived.Test.YtnadldcdckjifaaDoorDoor
import Derived.Laws.StructEq
namespace Go.Proofs.YtnadldcdckjifaaDoor
open Go.RowKit
set_option linter.unusedVariables false
set_option linter.unusedSimpArgs false
attribute [local go_sem] cell?_over frozen?_over lt_over le_over
namespace stampRound
open Go.ChangeShapes Go.WideShapes Go.ChangeAt Go.RowKit
/-- the second half: a text is read; what it says is valid and written shortly -/
theorem stS_i64 (l : List UInt8) : I64 (stS l) ∧ I64 (stN l) := by
  by_cases h : stErr l = 0
  · have := read_valid h
    simp only [stampOk, decide_eq_true_eq] at this
    exact ⟨⟨by omega, by omega⟩, ⟨by omega, by omega⟩⟩
  · obtain ⟨e1, e2⟩ := read_zero h
    rw [e1, e2]; exact ⟨⟨by decide, by decide⟩, ⟨by decide, by decide⟩⟩
set_option maxRecDepth 100000 in
set_option maxHeartbeats 1000000 in
theorem law (a b : Int) (s : ByteArray) (w : World) (ia : I64 a) (ib : I64 b) (hs : s.size ≤ 9223372036854775807) (hp : Pow10 w) (hm : MaxLenOk w) (hv : ErrRangeOk w) :
    Calls Tryd.prog 6 #[.agg #[.int .i64 a, .int .i64 b], .string s] w fun e w' => e = .returned (.bool true) ∧ Below w.heap.size w w' := by
  have HPs := Lib.hid (fun w => stampParse s w hs)
  have HI := Lib.hid (stS_i64 s.data.toList)
  have HV := Lib.hid (fun h => read_valid (l := s.data.toList) h)
  have HZ := Lib.hid (fun h => read_zero (l := s.data.toList) h)
  generalize stErr s.data.toList = E at *
  generalize stS s.data.toList = S at *
  generalize stN s.data.toList = N at *
  go_enter Tryd.func6, Tryd.ntmps6
  go_wp2_with fail
  refine (alive02 _ (hm.keep (below_alloc' w _)) (hv.keep (below_alloc' w _))).mono ?_
  rintro e w1 ⟨rfl, hb1⟩
  obtain ⟨bT, hbw1, hsz1⟩ := blks1 hb1
  have HT := Lib.hid bT; have HB := Lib.hid hbw1
  have k0 := bT.cell 0; have k1 := bT.cell 1
  simp only [List.getElem?_toArray, List.getElem?_cons_zero, List.getElem?_cons_succ] at k0 k1
  have hlt := bT.lt
  clear hb1 bT hbw1
  go_wp2_with fail
  cases hok : stampOk a b
  · refine (stampShow_bad a b _ hok).mono ?_
    rintro e w2 ⟨rfl, hb2⟩
    replace HT := Lib.hid (HT.out.below hb2 hlt); replace HB := Lib.hid (below_old HB.out hb2)
    clear hb2 k0 k1 hlt
    have k0 := HT.out.cell 0; have k1 := HT.out.cell 1
    simp only [List.getElem?_toArray, List.getElem?_cons_zero, List.getElem?_cons_succ] at k0 k1
    have hlt := HT.out.lt
    go_wp2_with fail
    refine (stampValid a b _).mono ?_
    rintro e w3 ⟨rfl, hb3⟩
    rw [hok]
    replace HT := Lib.hid (HT.out.below hb3 hlt); replace HB := Lib.hid (below_old HB.out hb3)
    clear hb3 k0 k1 hlt
    have k0 := HT.out.cell 0; have k1 := HT.out.cell 1
    simp only [List.getElem?_toArray, List.getElem?_cons_zero, List.getElem?_cons_succ] at k0 k1
    have hlt := HT.out.lt
    go_wp2_with fail
    refine (HPs.out _ (hm.keep HB.out) (hv.keep HB.out)).mono ?_
    rintro e w6 ⟨rfl, hb6⟩
    replace HB := Lib.hid (below_old HB.out hb6)
    clear hb6
    by_cases hE : E = 0
    · subst hE
      have hVV := HV.out rfl
      have HL := Lib.hid (stText_len hVV)
      have HVV := Lib.hid hVV
      clear hVV
      go_wp2_with fail
      refine (stampShow S N _ (hp.keep (HB.out.alloc HB.out.size _)) HI.out.1 HI.out.2 HVV.out).mono ?_
      rintro e w7 ⟨rfl, hb7⟩
      obtain ⟨bU, hbw7, hsz7⟩ := blks1 hb7
      replace HB := Lib.hid (below_old HB.out hbw7)
      have HU := Lib.hid bU
      have u0 := bU.cell 0; have u1 := bU.cell 1
      simp only [List.getElem?_toArray, List.getElem?_cons_zero, List.getElem?_cons_succ] at u0 u1
      have hltU := bU.lt
      clear hb7 bU hbw7
      have hlen : ((ByteArray.mk (stText S N).toArray).size : Int) ≤ 24 := by have := HL.out; simp [ByteArray.size]; omega
      generalize ByteArray.mk (stText S N).toArray = U at *
      go_wp2_with fail
      refine (stampValid S N _).mono ?_
      rintro e w8 ⟨rfl, hb8⟩
      rw [HVV.out]
      replace HB := Lib.hid (below_old HB.out hb8)
      clear hb8
      go_wp2_with fail
      go_ret
      exact ⟨rfl, HB.out⟩
    · obtain ⟨e1, e2⟩ := HZ.out hE
      have hE2 : (E != 0) = true := by simpa using hE
      subst e1 e2
      clear hE
      go_wp2_with fail
      go_ret
      exact ⟨rfl, HB.out.alloc HB.out.size _⟩
  · have HR := Lib.hid (round_text hok)
    have HTL : Hid ((ByteArray.mk (stText a b).toArray).size ≤ 9223372036854775807) := Lib.hid (by have := stText_len hok; simp [ByteArray.size]; omega)
    have HPt : Hid (∀ w, MaxLenOk w → ErrRangeOk w → Calls Tryd.prog 12 #[.string ⟨(stText a b).toArray⟩] w fun e w' => e = .returned (.tuple #[.agg #[.int .i64 a, .int .i64 b], .int .i64 0]) ∧ Below w.heap.size w w') := Lib.hid (fun w h1 h2 => by
      have h := stampParse ⟨(stText a b).toArray⟩ w HTL.out h1 h2
      have e : (ByteArray.mk (stText a b).toArray).data.toList = stText a b := rfl
      rw [e, HR.out.1, HR.out.2.1, HR.out.2.2] at h
      exact h)
    refine (stampShow a b _ (hp.keep HB.out) ia ib hok).mono ?_
    rintro e w2 ⟨rfl, hb2⟩
    generalize ByteArray.mk (stText a b).toArray = T at *
    replace HT := Lib.hid (HT.out.below hb2 hlt); replace HB := Lib.hid (below_old HB.out hb2)
    clear hb2 k0 k1 hlt
    have k0 := HT.out.cell 0; have k1 := HT.out.cell 1
    simp only [List.getElem?_toArray, List.getElem?_cons_zero, List.getElem?_cons_succ] at k0 k1
    have hlt := HT.out.lt
    go_wp2_with fail
    refine (stampValid a b _).mono ?_
    rintro e w3 ⟨rfl, hb3⟩
    rw [hok]
    replace HT := Lib.hid (HT.out.below hb3 hlt); replace HB := Lib.hid (below_old HB.out hb3)
    clear hb3 k0 k1 hlt
    have k0 := HT.out.cell 0; have k1 := HT.out.cell 1
    simp only [List.getElem?_toArray, List.getElem?_cons_zero, List.getElem?_cons_succ] at k0 k1
    have hlt := HT.out.lt
    go_wp2_with fail
    refine (HPt.out _ (hm.keep HB.out) (hv.keep HB.out)).mono ?_
    rintro e w4 ⟨rfl, hb4⟩
    replace HT := Lib.hid (HT.out.below hb4 hlt); replace HB := Lib.hid (below_old HB.out hb4)
    clear hb4 k0 k1 hlt
    have k0 := HT.out.cell 0; have k1 := HT.out.cell 1
    simp only [List.getElem?_toArray, List.getElem?_cons_zero, List.getElem?_cons_succ] at k0 k1
    have hlt := HT.out.lt
    go_wp2_with fail
    replace HB := Lib.hid (HB.out.alloc HB.out.size (.cells #[.int .i64 a, .int .i64 b] 24))
    clear k0 k1 hlt HT
    generalize w4.alloc (.cells #[.int .i64 a, .int .i64 b] 24) = w5 at *
    refine (HPs.out _ (hm.keep HB.out) (hv.keep HB.out)).mono ?_
    rintro e w6 ⟨rfl, hb6⟩
    replace HB := Lib.hid (below_old HB.out hb6)
    clear hb6
    by_cases hE : E = 0
    · subst hE
      have hVV := HV.out rfl
      have HL := Lib.hid (stText_len hVV)
      have HVV := Lib.hid hVV
      clear hVV
      go_wp2_with fail
      refine (stampShow S N _ (hp.keep (HB.out.alloc HB.out.size _)) HI.out.1 HI.out.2 HVV.out).mono ?_
      rintro e w7 ⟨rfl, hb7⟩
      obtain ⟨bU, hbw7, hsz7⟩ := blks1 hb7
      replace HB := Lib.hid (below_old HB.out hbw7)
      have HU := Lib.hid bU
      have u0 := bU.cell 0; have u1 := bU.cell 1
      simp only [List.getElem?_toArray, List.getElem?_cons_zero, List.getElem?_cons_succ] at u0 u1
      have hltU := bU.lt
      clear hb7 bU hbw7
      have hlen : ((ByteArray.mk (stText S N).toArray).size : Int) ≤ 24 := by have := HL.out; simp [ByteArray.size]; omega
      generalize ByteArray.mk (stText S N).toArray = U at *
      go_wp2_with fail
      refine (stampValid S N _).mono ?_
      rintro e w8 ⟨rfl, hb8⟩
      rw [HVV.out]
      replace HB := Lib.hid (below_old HB.out hb8)
      clear hb8
      go_wp2_with fail
      go_ret
      exact ⟨rfl, HB.out⟩
    · obtain ⟨e1, e2⟩ := HZ.out hE
      have hE2 : (E != 0) = true := by simpa using hE
      subst e1 e2
      clear hE
      go_wp2_with fail
      go_ret
      exact ⟨rfl, HB.out.alloc HB.out.size _⟩
theorem own : ownKnob Tryd.prog.godebug = none := by kernel_rfl
theorem laidOut : laidOutB Tryd.prog = true := by kernel_rfl
set_option maxRecDepth 100000 in
theorem contract (H : Type) (enc : TypeId × Value → H) (W : World) (base : Nat) (args : Array Value) (ds gs : List (DataW H)) (before : List MemPlace)
    (hval : ∀ (j : Nat) t v, Tryd.f6.params[j]? = some t → args[j]? = some v → Value.okWide Tryd.prog W .any base t v)
    (hW : DataW.Whole enc Tryd.prog Tryd.f6.params.toList Rows.stampRoundSpec.vars false W args.toList ds gs before) (hL : laidMetH Tryd.prog Rows.stampRoundRow.laid W) (hsh : W.ShapedOpen Tryd.prog) :
    Calls Tryd.prog 6 args W fun e W' => ∃ v, e = .returned v ∧ Rows.stampRoundSpec.post enc Tryd.prog Tryd.f6 false true false false W args v W' := by
  have hW' := hW
  obtain ⟨p, q, hA0, hV, rfl, hfz, hnd⟩ := hW
  have hA : DataW.TrodAll enc Tryd.prog W 0 (fun _ => true) true Tryd.f6.params.toList args.toList ds p := hA0
  rw [Tryd.params6] at hA hval
  obtain ⟨v0, vs0, d0, ds0, p0, q0, hargs, rfl, rfl, h0, r0⟩ := trodAll_cons hA
  obtain ⟨v1, vs1, d1, ds1, p1, q1, rfl, rfl, rfl, h1, r1⟩ := trodAll_cons r0
  obtain ⟨rfl, rfl, rfl⟩ := trodAll_nil r1
  obtain rfl : args = #[v0, v1] := by cases args; simp_all
  obtain ⟨rfl, rfl⟩ := trodVars_none hV
  have k0 := h0
  have lt0 : ∀ x ∈ p0, x.block < W.heap.size := by obtain ⟨m, hm⟩ := k0; exact DataW.trod_lt m _ _ _ hm
  have k1 := h1
  have lt1 : ∀ x ∈ p1, x.block < W.heap.size := by obtain ⟨m, hm⟩ := k1; exact DataW.trod_lt m _ _ _ hm
  obtain ⟨a0, a1, rfl, i0, i1⟩ := open_timeI (hval 0 24 v0 rfl rfl) h0
  obtain ⟨m1, hm1⟩ := h1
  obtain ⟨s, rfl⟩ := okWide_string Tryd.underlying9 (hval 1 9 v1 rfl rfl)
  obtain ⟨s', ⟨hcs, hmax⟩, hbk⟩ := (opens_str (by kernel_rfl) Tryd.underlying9).2 hm1
  simp only [Value.cells, List.cons.injEq, and_true, Value.string.injEq] at hcs
  subst hcs
  clear hA0
  refine (law a0 a1 s W i0 i1 hmax (door_table hL) (door_max hsh) (door_err hL)).mono fun e W' ⟨he, bel⟩ => ?_
  subst he
  exact ⟨_, rfl, _, _, _, [], _, [], hW', trodAll_mk1 (shut_bool Tryd.underlying4 _), (trodAll_cons_mk (Below.trod laidOut (by kernel_rfl) (of_decide_eq_true (by kernel_rfl)) k0 bel lt0) (trodAll_cons_mk (Below.trod laidOut (by kernel_rfl) (of_decide_eq_true (by kernel_rfl)) k1 bel lt1) trodAll_mk0)), rfl, bel.frame _, fun h => by cases h⟩
theorem laid_met (os : Os) : laidMetH Tryd.prog Rows.stampRoundRow.laid ((laidWorld os).forCall (fun _ _ => 0) ⟨#[], #[.agg #[.int .i64 0, .int .i64 0], .string ⟨#[]⟩], []⟩).memory := laidMetH_of_parts3 (fuel := 8) (laidMet_of_run' 8 (by kernel_rfl) (by kernel_rfl)) (by kernel_rfl) (by kernel_rfl)
theorem reads (os : Os) {H : Type} (enc : TypeId × Value → H) : ∃ places, DataW.whole enc Tryd.prog ((laidWorld os).forCall (fun _ _ => 0) ⟨#[], #[.agg #[.int .i64 0, .int .i64 0], .string ⟨#[]⟩], []⟩).memory Tryd.f6.params.toList Rows.stampRoundSpec.vars false (#[.agg #[.int .i64 0, .int .i64 0], .string ⟨#[]⟩] : Array Value).toList 8 = some ([.agg [.lit (.int .i64 0), .lit (.int .i64 0)], .lit (.string [])], [], places) := ⟨[], by kernel_rfl⟩
set_option maxRecDepth 100000 in
theorem lifted (os : Os) (started : os.Started) (H : Type) (enc : TypeId × Value → H) (F : Stop.Interp) :
    ReturnsInHanded {} Tryd.checked os 6 .any ((OpenSpec.ofChange Rows.stampRoundSpec).preRow enc Tryd.prog Tryd.f6 Rows.stampRoundRow.domain false Rows.stampRoundRow.laid) (((OpenSpec.ofChange Rows.stampRoundSpec).at F).post enc Tryd.prog Tryd.f6 false true false false) := by
  obtain ⟨places, hx⟩ := reads os enc
  refine returnsInHanded_of_row (C := Tryd.checked) (s := (OpenSpec.ofChange Rows.stampRoundSpec)) own started (by kernel_rfl) Tryd.func6
    (witness_row_atRef (enc := enc) (C := Tryd.checked) false (laidWorld os) #[.agg #[.int .i64 0, .int .i64 0], .string ⟨#[]⟩] rfl (by kernel_rfl) (by kernel_rfl) (by kernel_rfl)
      (OpenSpec.preRow_of_cond 8 hx (by kernel_rfl) (fun k hk => by cases hk) (by kernel_rfl) (laid_met os))) ?_
  intro W base args ds gs before hval hW _ hcond _ hL hsh _
  exact contract H enc W base args ds gs before hval hW hL hsh
theorem said : Rows.stampRoundRow.holds Tryd.pinned (OpenSpec.ofChange Rows.stampRoundSpec) :=
  OpenClaim.holds_of_cond 6 Tryd.f6 rfl rfl rfl rfl rfl rfl rfl ⟨rfl, rfl, rfl, rfl, rfl⟩ rfl rfl rfl rfl rfl (by kernel_rfl) Tryd.func6 (by kernel_rfl)
    (of_decide_eq_true (by kernel_rfl)) (by unfold Func.isWrapper; first | (rw [if_pos (by decide +kernel)]; kernel_rfl) | (rw [if_neg (by decide +kernel)]; exact ⟨rfl, rfl⟩))
    (fun os started H enc _ F => by rw [OpenClaim.pre_eq_preRow]; exact lifted os started H enc F)
theorem plain (f : FuncId) (fn : Func) (hf : Tryd.pinned.checked.prog.funcNamed "valise/valiselaw02.StampRound" = some f) (hfn : Tryd.pinned.checked.prog.funcs[f]? = some fn) :
    true = Tryd.pinned.checked.prog.looks [] ∧ ∀ (j : Nat) t, fn.params[j]? = some t → Tryd.pinned.checked.prog.wantsStandIn t = false := by
  obtain rfl : f = 6 := Option.some.inj ((show Tryd.prog.funcNamed "valise/valiselaw02.StampRound" = some 6 by kernel_rfl).symm.trans hf) |>.symm
  obtain rfl : fn = Tryd.f6 := (Option.some.inj (Tryd.func6.symm.trans hfn)).symm
  refine ⟨by kernel_rfl, fun j t ht => ?_⟩
  rw [Tryd.params6] at ht
  have hm := Array.mem_of_getElem? ht
  simp only [List.mem_toArray, List.mem_cons, List.not_mem_nil, or_false] at hm
  rcases hm with rfl | rfl
  · exact (show Tryd.prog.wantsStandIn 24 = false by kernel_rfl)
  · exact (show Tryd.prog.wantsStandIn 9 = false by kernel_rfl)
theorem proved : Rows.StampRoundCardSaid :=
  Claim7.holds_tied_plain_at .later [] _ _ _ _ said (fun _ h => by cases h) (by kernel_rfl) (fun _ h => by cases h) stampRound_row_tie rfl ⟨rfl, rfl⟩ (by kernel_rfl) rfl plain (by kernel_rfl)
end stampRound
end Go.Proofs.YtnadldcdckjifaaDoor
