/- StampShows holds for every input: its tied card. Its condition: the listed package-level variables hold what they are laid with. -/
import Derived.Test.YtnadldcdckjifaaDoorAlive02
import Derived.Test.YtnadldcdckjifaaDoorStShow4
import Derived.Test.YtnadldcdckjifaaDoorRefStShow
import Derived.Test.YtnadldcdckjifaaDoorTimeI
import Derived.Test.YtnadldcdckjifaaDoorDoor
namespace Go.Proofs.YtnadldcdckjifaaDoor
open Go.RowKit
set_option linter.unusedVariables false
set_option linter.unusedSimpArgs false
attribute [local go_sem] cell?_over frozen?_over lt_over le_over
namespace stampShows
open Go.ChangeShapes Go.WideShapes Go.ChangeAt Go.RowKit
theorem valid_over (s n : Int) (u δ : World) : Calls Tryd.prog 16 #[.agg #[.int .i64 s, .int .i64 n]] (over u δ) fun e w' => e = .returned (.bool (stampOk s n)) ∧ ∃ δ', w' = over u δ' :=
  calls_over ((stampValid s n _).mono fun e w' ⟨he, hb⟩ => ⟨he, exists_over hb⟩)
theorem refValid_over (s n : Int) (u δ : World) : Calls Tryd.prog 17 #[.agg #[.int .i64 s, .int .i64 n]] (over u δ) fun e w' => e = .returned (.bool (stampOk s n)) ∧ ∃ δ', w' = over u δ' :=
  calls_over ((refValid s n _).mono fun e w' ⟨he, hb⟩ => ⟨he, exists_over hb⟩)
set_option maxRecDepth 100000 in
set_option maxHeartbeats 600000 in
theorem law (s n : Int) (w : World) (is : I64 s) (jn : I64 n) (hp : Pow10 w) (hm : MaxLenOk w) (hv : ErrRangeOk w) :
    Calls Tryd.prog 5 #[.agg #[.int .i64 s, .int .i64 n]] w fun e w' => e = .returned (.bool true) ∧ Below w.heap.size w w' := by
  go_enter Tryd.func5, Tryd.ntmps5
  go_wp2_with fail
  refine (alive02 _ (hm.keep (below_alloc' w _)) (hv.keep (below_alloc' w _))).mono ?_
  rintro e w1 ⟨rfl, hb1⟩
  obtain ⟨bT, hbw1, hsz1⟩ := blks1 hb1
  have HT := Lib.hid bT; have HB := Lib.hid hbw1
  have k0 := bT.cell 0; have k1 := bT.cell 1
  simp only [List.getElem?_toArray, List.getElem?_cons_zero, List.getElem?_cons_succ] at k0 k1
  have hlt := bT.lt
  clear hb1 bT hbw1
  go_wp2_with fail
  cases hok : stampOk s n
  · refine (stampShow_bad s n _ hok).mono ?_
    rintro e w2 ⟨rfl, hb2⟩
    replace HT := Lib.hid (HT.out.below hb2 hlt); replace HB := Lib.hid (below_old HB.out hb2)
    clear hb2 k0 k1 hlt
    have k0 := HT.out.cell 0; have k1 := HT.out.cell 1
    simp only [List.getElem?_toArray, List.getElem?_cons_zero, List.getElem?_cons_succ] at k0 k1
    have hlt := HT.out.lt
    go_wp2_with fail
    refine (refStShow_bad s n _ hok).mono ?_
    rintro e w3 ⟨rfl, hb3⟩
    replace HT := Lib.hid (HT.out.below hb3 hlt); replace HB := Lib.hid (below_old HB.out hb3)
    clear hb3 k0 k1 hlt
    have k0 := HT.out.cell 0; have k1 := HT.out.cell 1
    simp only [List.getElem?_toArray, List.getElem?_cons_zero, List.getElem?_cons_succ] at k0 k1
    have hlt := HT.out.lt
    go_wp2_with fail
    refine wp_region_over (by kernel_rfl) (by kernel_rfl) ?_
    repeat (go_big_quiet_step (first | (go_at_call 16; exact valid_over s n _ _) | (go_at_call 17; exact refValid_over s n _ _)))
    refine wpQuiet_nil ?_
    rintro _ ⟨δ, rfl⟩
    go_wp2
    go_ret
    exact ⟨rfl, below_trans_over HB.out HB.out.size _⟩
  · refine (stampShow s n _ (hp.keep HB.out) is jn hok).mono ?_
    rintro e w2 ⟨rfl, hb2⟩
    replace HT := Lib.hid (HT.out.below hb2 hlt); replace HB := Lib.hid (below_old HB.out hb2)
    clear hb2 k0 k1 hlt
    have k0 := HT.out.cell 0; have k1 := HT.out.cell 1
    simp only [List.getElem?_toArray, List.getElem?_cons_zero, List.getElem?_cons_succ] at k0 k1
    have hlt := HT.out.lt
    go_wp2_with fail
    refine (refStShow s n _ is jn hok).mono ?_
    rintro e w3 ⟨rfl, hb3⟩
    replace HT := Lib.hid (HT.out.below hb3 hlt); replace HB := Lib.hid (below_old HB.out hb3)
    clear hb3 k0 k1 hlt
    have k0 := HT.out.cell 0; have k1 := HT.out.cell 1
    simp only [List.getElem?_toArray, List.getElem?_cons_zero, List.getElem?_cons_succ] at k0 k1
    have hlt := HT.out.lt
    go_wp2_with fail
    refine wp_region_over (by kernel_rfl) (by kernel_rfl) ?_
    repeat (go_big_quiet_step (first | (go_at_call 16; exact valid_over s n _ _) | (go_at_call 17; exact refValid_over s n _ _)))
    refine wpQuiet_nil ?_
    rintro _ ⟨δ, rfl⟩
    go_wp2
    go_ret
    exact ⟨rfl, below_trans_over HB.out HB.out.size _⟩
theorem own : ownKnob Tryd.prog.godebug = none := by kernel_rfl
theorem laidOut : laidOutB Tryd.prog = true := by kernel_rfl
set_option maxRecDepth 100000 in
theorem contract (H : Type) (enc : TypeId × Value → H) (W : World) (base : Nat) (args : Array Value) (ds gs : List (DataW H)) (before : List MemPlace)
    (hval : ∀ (j : Nat) t v, Tryd.f5.params[j]? = some t → args[j]? = some v → Value.okWide Tryd.prog W .any base t v)
    (hW : DataW.Whole enc Tryd.prog Tryd.f5.params.toList Rows.stampShowsSpec.vars false W args.toList ds gs before) (hL : laidMetH Tryd.prog Rows.stampShowsRow.laid W) (hsh : W.ShapedOpen Tryd.prog) :
    Calls Tryd.prog 5 args W fun e W' => ∃ v, e = .returned v ∧ Rows.stampShowsSpec.post enc Tryd.prog Tryd.f5 false true false false W args v W' := by
  have hW' := hW
  obtain ⟨p, q, hA0, hV, rfl, hfz, hnd⟩ := hW
  have hA : DataW.TrodAll enc Tryd.prog W 0 (fun _ => true) true Tryd.f5.params.toList args.toList ds p := hA0
  rw [Tryd.params5] at hA hval
  obtain ⟨v0, vs0, d0, ds0, p0, q0, hargs, rfl, rfl, h0, r0⟩ := trodAll_cons hA
  obtain ⟨rfl, rfl, rfl⟩ := trodAll_nil r0
  obtain rfl : args = #[v0] := by cases args; simp_all
  obtain ⟨rfl, rfl⟩ := trodVars_none hV
  have k0 := h0
  have lt0 : ∀ x ∈ p0, x.block < W.heap.size := by obtain ⟨m, hm⟩ := k0; exact DataW.trod_lt m _ _ _ hm
  obtain ⟨a0, a1, rfl, i0, i1⟩ := open_timeI (hval 0 24 v0 rfl rfl) h0
  clear hA0
  refine (law a0 a1 W i0 i1 (door_table hL) (door_max hsh) (door_err hL)).mono fun e W' ⟨he, bel⟩ => ?_
  subst he
  exact ⟨_, rfl, _, _, _, [], _, [], hW', trodAll_mk1 (shut_bool Tryd.underlying4 _), (trodAll_cons_mk (Below.trod laidOut (by kernel_rfl) (of_decide_eq_true (by kernel_rfl)) k0 bel lt0) trodAll_mk0), rfl, bel.frame _, fun h => by cases h⟩
theorem laid_met (os : Os) : laidMetH Tryd.prog Rows.stampShowsRow.laid ((laidWorld os).forCall (fun _ _ => 0) ⟨#[], #[.agg #[.int .i64 0, .int .i64 0]], []⟩).memory := laidMetH_of_parts3 (fuel := 8) (laidMet_of_run' 8 (by kernel_rfl) (by kernel_rfl)) (by kernel_rfl) (by kernel_rfl)
theorem reads (os : Os) {H : Type} (enc : TypeId × Value → H) : ∃ places, DataW.whole enc Tryd.prog ((laidWorld os).forCall (fun _ _ => 0) ⟨#[], #[.agg #[.int .i64 0, .int .i64 0]], []⟩).memory Tryd.f5.params.toList Rows.stampShowsSpec.vars false (#[.agg #[.int .i64 0, .int .i64 0]] : Array Value).toList 8 = some ([.agg [.lit (.int .i64 0), .lit (.int .i64 0)]], [], places) := ⟨[], by kernel_rfl⟩
set_option maxRecDepth 100000 in
theorem lifted (os : Os) (started : os.Started) (H : Type) (enc : TypeId × Value → H) (F : Stop.Interp) :
    ReturnsInHanded {} Tryd.checked os 5 .any ((OpenSpec.ofChange Rows.stampShowsSpec).preRow enc Tryd.prog Tryd.f5 Rows.stampShowsRow.domain false Rows.stampShowsRow.laid) (((OpenSpec.ofChange Rows.stampShowsSpec).at F).post enc Tryd.prog Tryd.f5 false true false false) := by
  obtain ⟨places, hx⟩ := reads os enc
  refine returnsInHanded_of_row (C := Tryd.checked) (s := (OpenSpec.ofChange Rows.stampShowsSpec)) own started (by kernel_rfl) Tryd.func5
    (witness_row_atRef (enc := enc) (C := Tryd.checked) false (laidWorld os) #[.agg #[.int .i64 0, .int .i64 0]] rfl (by kernel_rfl) (by kernel_rfl) (by kernel_rfl)
      (OpenSpec.preRow_of_cond 8 hx (by kernel_rfl) (fun k hk => by cases hk) (by kernel_rfl) (laid_met os))) ?_
  intro W base args ds gs before hval hW _ hcond _ hL hsh _
  exact contract H enc W base args ds gs before hval hW hL hsh
theorem said : Rows.stampShowsRow.holds Tryd.pinned (OpenSpec.ofChange Rows.stampShowsSpec) :=
  OpenClaim.holds_of_cond 5 Tryd.f5 rfl rfl rfl rfl rfl rfl rfl ⟨rfl, rfl, rfl, rfl, rfl⟩ rfl rfl rfl rfl rfl (by kernel_rfl) Tryd.func5 (by kernel_rfl)
    (of_decide_eq_true (by kernel_rfl)) (by unfold Func.isWrapper; first | (rw [if_pos (by decide +kernel)]; kernel_rfl) | (rw [if_neg (by decide +kernel)]; exact ⟨rfl, rfl⟩))
    (fun os started H enc _ F => by rw [OpenClaim.pre_eq_preRow]; exact lifted os started H enc F)
theorem plain (f : FuncId) (fn : Func) (hf : Tryd.pinned.checked.prog.funcNamed "valise/valiselaw02.StampShows" = some f) (hfn : Tryd.pinned.checked.prog.funcs[f]? = some fn) :
    true = Tryd.pinned.checked.prog.looks [] ∧ ∀ (j : Nat) t, fn.params[j]? = some t → Tryd.pinned.checked.prog.wantsStandIn t = false := by
  obtain rfl : f = 5 := Option.some.inj ((show Tryd.prog.funcNamed "valise/valiselaw02.StampShows" = some 5 by kernel_rfl).symm.trans hf) |>.symm
  obtain rfl : fn = Tryd.f5 := (Option.some.inj (Tryd.func5.symm.trans hfn)).symm
  refine ⟨by kernel_rfl, fun j t ht => ?_⟩
  rw [Tryd.params5] at ht
  have hm := Array.mem_of_getElem? ht
  simp only [List.mem_toArray, List.mem_cons, List.not_mem_nil, or_false] at hm
  rcases hm with rfl
  exact (show Tryd.prog.wantsStandIn 24 = false by kernel_rfl)
theorem proved : Rows.StampShowsCardSaid :=
  Claim7.holds_tied_plain_at .later [] _ _ _ _ said (fun _ h => by cases h) (by kernel_rfl) (fun _ h => by cases h) stampShows_row_tie rfl ⟨rfl, rfl⟩ (by kernel_rfl) rfl plain (by kernel_rfl)
end stampShows
end Go.Proofs.YtnadldcdckjifaaDoor
