/- ManifestReads holds for every input of the second form's bound, its tied card. Its condition: the arguments hold at most 1048576 values and letters; the listed package-level variables hold what they are laid with. -/
import Derived.Test.YtkpblhikndennaaGreatDoorPrintAll
import Derived.Test.YtkpblhikndennaaGreatDoorRefRead
import Derived.Test.YtkpblhikndennaaGreatDoorDoorM
namespace Go.Proofs.YtkpblhikndennaaGreatDoor
open Go.RowKit
set_option linter.unusedVariables false
set_option linter.unusedSimpArgs false
attribute [local go_sem] cell?_over frozen?_over lt_over le_over
namespace manifestReads
open Go.ChangeShapes Go.WideShapes Go.ChangeAt Go.RowKit
theorem line_fun : lineF restC = lineF restR := funext lineF_eq
set_option maxRecDepth 100000 in
set_option maxHeartbeats 600000 in
theorem law (s : ByteArray) (w : World) (hs : s.size ≤ 1048576) (hm : MaxLenOk w) (hv : ErrRangeOk w) (hp : Pow10 w) :
    Calls Tryz.prog 3 #[.string s] w fun e w' => e = .returned (.bool true) ∧ Below w.heap.size w w' := by
  have hz : s.data.toList.length = s.size := by rw [Array.length_toList]; rfl
  have hwl := Lib.hid (show ∀ x ∈ splitW 10 s.data.toList, x.length ≤ 16777216 from fun x hx => by have := splitW_small hx; omega)
  obtain ⟨R, hR⟩ : ∃ R, R = readW (lineF restR) s.data.toList := ⟨_, rfl⟩
  have RC := Lib.hid (fun (w : World) (hm : MaxLenOk w) (hv : ErrRangeOk w) (hp : Pow10 w) => manRead s w (by omega) hwl.out hm hv hp)
  have RR := Lib.hid (fun (w : World) => refRead s w (by omega) hwl.out)
  rw [line_fun, ← hR] at RC
  rw [← hR] at RR
  have SM := Lib.hid (show ∀ l, R = some l → SmallL l ∧ l.length ≤ 1048576 from fun l h => ⟨(read_small (hR.symm.trans h) (by omega)).2, by have := read_count (hR.symm.trans h); omega⟩)
  clear hR hz hwl
  have HM := Lib.hid hm; have HV := Lib.hid hv; have HP := Lib.hid hp
  clear hm hv hp
  go_enter Tryz.func3, Tryz.ntmps3
  go_wp2_with fail
  refine (alive w HP.out).mono ?_
  rintro e w2 ⟨rfl, hb2⟩
  have B2 := Lib.hid hb2
  clear hb2
  go_wp2_with fail
  refine (RC.out w2 (HM.out.keep B2.out) (HV.out.keep B2.out) (HP.out.keep B2.out)).mono ?_
  rintro e w3 ⟨he3, hb3⟩
  have B3 := Lib.hid (below_old B2.out hb3)
  cases R with
  | none =>
    have he3' : e = .returned (.tuple #[.slice none 0 0, .int .i64 150]) := he3
    subst he3'
    clear he3 hb3
    go_wp2_with fail
    refine (RR.out w3).mono ?_
    rintro e w4 ⟨he4, hb4⟩
    have B4 := Lib.hid (below_old B3.out hb4)
    have he4' : e = .returned (.tuple #[.slice none 0 0, .int .i64 150]) := he4
    subst he4'
    clear he4 hb4
    have e3 := Lib.hid (sameLines_eq (A := none) (A' := none) (n := 0) (c := 0) (c' := 0) (l := []) w4 Row.nil Row.nil (fun d hd => by cases hd) (by omega))
    go_wp2_with (first | (go_at_call 10; refine e3.out.mono ?_; rintro e w6 ⟨rfl, δ6, hw6⟩; have B6 := Lib.hid (below_old B4.out (below_of hw6)); clear hw6))
    go_ret
    exact ⟨rfl, B6.out⟩
  | some l =>
    obtain ⟨v3, M3, rfl, hown3, hM3⟩ := he3
    obtain ⟨A3, c3, rfl, _, hrow3⟩ := own_row hown3
    have R3 := Lib.hid hrow3
    have SL := Lib.hid (SM.out l rfl)
    clear hown3 hM3 hrow3 hb3
    go_wp2_with fail
    refine (RR.out w3).mono ?_
    rintro e w4 ⟨he4, hb4⟩
    have B4 := Lib.hid (below_old B3.out hb4)
    have R34 := Lib.hid (R3.out.below hb4)
    obtain ⟨v4, M4, rfl, hown4, hM4⟩ := he4
    obtain ⟨A4, c4, rfl, _, hrow4⟩ := own_row hown4
    have R4 := Lib.hid hrow4
    clear hown4 hM4 hrow4 hb4 R3
    have e3 := Lib.hid (sameLines_eq (c := c3) (c' := c4) w4 R34.out R4.out SL.out.1 (by have := SL.out.2; omega))
    go_wp2_with (first | (go_at_call 10; refine e3.out.mono ?_; rintro e w6 ⟨rfl, δ6, hw6⟩; have B6 := Lib.hid (below_old B4.out (below_of hw6)); clear hw6))
    go_ret
    exact ⟨rfl, B6.out⟩
theorem own : ownKnob Tryz.prog.godebug = none := by kernel_rfl
theorem laidOut : laidOutB Tryz.prog = true := by kernel_rfl
set_option maxRecDepth 100000 in
theorem contract (H : Type) (enc : TypeId × Value → H) (W : World) (base : Nat) (args : Array Value) (ds gs : List (DataW H)) (before : List MemPlace)
    (hval : ∀ (j : Nat) t v, Tryz.f3.params[j]? = some t → args[j]? = some v → Value.okWide Tryz.prog W .any base t v)
    (hW : DataW.Whole enc Tryz.prog Tryz.f3.params.toList Rows.manifestReadsSpec.vars false W args.toList ds gs before) (hk : Rows.uptoSmall H (ds ++ gs) = true) (hL : laidMetH Tryz.prog Rows.manifestReadsUptoRow.laid W) (hsh : W.ShapedOpen Tryz.prog) :
    Calls Tryz.prog 3 args W fun e W' => ∃ v, e = .returned v ∧ Rows.manifestReadsSpec.post enc Tryz.prog Tryz.f3 false true false false W args v W' := by
  have hW' := hW
  obtain ⟨p, q, hA0, hV, rfl, hfz, hnd⟩ := hW
  have hA : DataW.TrodAll enc Tryz.prog W 0 (fun _ => true) true Tryz.f3.params.toList args.toList ds p := hA0
  rw [Tryz.params3] at hA hval
  obtain ⟨v0, vs0, d0, ds0, p0, q0, hargs, rfl, rfl, h0, r0⟩ := trodAll_cons hA
  obtain ⟨rfl, rfl, rfl⟩ := trodAll_nil r0
  obtain rfl : args = #[v0] := by cases args; simp_all
  obtain ⟨rfl, rfl⟩ := trodVars_none hV
  have k0 := h0
  have lt0 : ∀ x ∈ p0, x.block < W.heap.size := by obtain ⟨m, hm⟩ := k0; exact DataW.trod_lt m _ _ _ hm
  obtain ⟨m0, hm0⟩ := h0
  obtain ⟨s, rfl⟩ := okWide_string Tryz.underlying9 (hval 0 9 v0 rfl rfl)
  obtain ⟨s', ⟨hcs, hmax⟩, hbk⟩ := (opens_str (by kernel_rfl) Tryz.underlying9).2 hm0
  simp only [Value.cells, List.cons.injEq, and_true, Value.string.injEq] at hcs
  subst hcs
  have hbound : Rows.uptoBulkAll [d0] ≤ 1048576 := of_decide_eq_true hk
  simp only [Rows.uptoBulkAll] at hbound
  have hbk' : s.size + 1 ≤ Rows.uptoBulk d0 := hbk
  clear hA0
  refine (law s W (by omega) (door_max hsh) (door_err hL) (door_table hL)).mono fun e W' ⟨he, bel⟩ => ?_
  subst he
  exact ⟨_, rfl, _, _, _, [], _, [], hW', trodAll_mk1 (shut_bool Tryz.underlying4 _), (trodAll_cons_mk (Below.trod laidOut (by kernel_rfl) (of_decide_eq_true (by kernel_rfl)) k0 bel lt0) trodAll_mk0), rfl, bel.frame _, fun h => by cases h⟩
theorem laid_met (os : Os) : laidMetH Tryz.prog Rows.manifestReadsUptoRow.laid ((laidWorld os).forCall (fun _ _ => 0) ⟨#[], #[.string ⟨#[]⟩], []⟩).memory := laidMetH_of_parts3 (fuel := 8) (laidMet_of_run' 8 (by kernel_rfl) (by kernel_rfl)) (by kernel_rfl) (by kernel_rfl)
theorem reads (os : Os) {H : Type} (enc : TypeId × Value → H) : ∃ places, DataW.whole enc Tryz.prog ((laidWorld os).forCall (fun _ _ => 0) ⟨#[], #[.string ⟨#[]⟩], []⟩).memory Tryz.f3.params.toList Rows.manifestReadsSpec.vars false (#[.string ⟨#[]⟩] : Array Value).toList 8 = some ([.lit (.string [])], [], places) := ⟨[], by kernel_rfl⟩
set_option maxRecDepth 100000 in
theorem lifted (os : Os) (started : os.Started) (H : Type) (enc : TypeId × Value → H) (F : Stop.Interp) :
    ReturnsInHanded {} Tryz.checked os 3 .any ((Rows.OpenSpec.upto Rows.manifestReadsSpec).preRow enc Tryz.prog Tryz.f3 Rows.manifestReadsUptoRow.domain false Rows.manifestReadsUptoRow.laid) (((Rows.OpenSpec.upto Rows.manifestReadsSpec).at F).post enc Tryz.prog Tryz.f3 false true false false) := by
  obtain ⟨places, hx⟩ := reads os enc
  refine returnsInHanded_of_row (C := Tryz.checked) (s := (Rows.OpenSpec.upto Rows.manifestReadsSpec)) own started (by kernel_rfl) Tryz.func3
    (witness_row_atRef (enc := enc) (C := Tryz.checked) false (laidWorld os) #[.string ⟨#[]⟩] rfl (by kernel_rfl) (by kernel_rfl) (by kernel_rfl)
      (OpenSpec.preRow_of_cond 8 hx (by kernel_rfl) (fun k hk => by cases hk; kernel_rfl) (by kernel_rfl) (laid_met os))) ?_
  intro W base args ds gs before hval hW _ hcond _ hL hsh _
  exact contract H enc W base args ds gs before hval hW (hcond _ rfl) hL hsh
theorem said : Rows.manifestReadsUptoRow.holds Tryz.pinned (Rows.OpenSpec.upto Rows.manifestReadsSpec) :=
  OpenClaim.holds_of_cond 3 Tryz.f3 rfl rfl rfl rfl rfl rfl rfl ⟨rfl, rfl, rfl, rfl, rfl⟩ rfl rfl rfl rfl rfl (by kernel_rfl) Tryz.func3 (by kernel_rfl)
    (of_decide_eq_true (by kernel_rfl)) (by unfold Func.isWrapper; first | (rw [if_pos (by decide +kernel)]; kernel_rfl) | (rw [if_neg (by decide +kernel)]; exact ⟨rfl, rfl⟩))
    (fun os started H enc _ F => by rw [OpenClaim.pre_eq_preRow]; exact lifted os started H enc F)
theorem plain (f : FuncId) (fn : Func) (hf : Tryz.pinned.checked.prog.funcNamed "valise/valiselaw15.ManifestReads" = some f) (hfn : Tryz.pinned.checked.prog.funcs[f]? = some fn) :
    true = Tryz.pinned.checked.prog.looks [] ∧ ∀ (j : Nat) t, fn.params[j]? = some t → Tryz.pinned.checked.prog.wantsStandIn t = false := by
  obtain rfl : f = 3 := Option.some.inj ((show Tryz.prog.funcNamed "valise/valiselaw15.ManifestReads" = some 3 by kernel_rfl).symm.trans hf) |>.symm
  obtain rfl : fn = Tryz.f3 := (Option.some.inj (Tryz.func3.symm.trans hfn)).symm
  refine ⟨by kernel_rfl, fun j t ht => ?_⟩
  rw [Tryz.params3] at ht
  have hm := Array.mem_of_getElem? ht
  simp only [List.mem_toArray, List.mem_cons, List.not_mem_nil, or_false] at hm
  rcases hm with rfl
  exact (show Tryz.prog.wantsStandIn 9 = false by kernel_rfl)
theorem proved : Rows.ManifestReadsUptoCardSaid :=
  Claim7.holds_tied_plain_at .later [] _ _ _ _ said (fun _ h => by cases h) (by kernel_rfl) (fun _ h => by cases h) manifestReadsUpto_row_tie rfl ⟨rfl, rfl⟩ (by kernel_rfl) rfl plain (by kernel_rfl)
end manifestReads
end Go.Proofs.YtkpblhikndennaaGreatDoor
