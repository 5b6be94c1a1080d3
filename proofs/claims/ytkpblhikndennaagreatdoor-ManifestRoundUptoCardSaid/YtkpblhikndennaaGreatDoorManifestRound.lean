/- ManifestRound holds for every input of the second form's bound, its tied card. Its condition: the arguments hold at most 1048576 values and letters; the listed package-level variables hold what they are laid with. -/
import Derived.Test.YtkpblhikndennaaGreatDoorPrintAll
import Derived.Test.YtkpblhikndennaaGreatDoorManRead
import Derived.Test.YtkpblhikndennaaGreatDoorDoorM
namespace Go.Proofs.YtkpblhikndennaaGreatDoor
open Go.RowKit
set_option linter.unusedVariables false
set_option linter.unusedSimpArgs false
attribute [local go_sem] cell?_over frozen?_over lt_over le_over
namespace manifestRound
open Go.ChangeShapes Go.WideShapes Go.ChangeAt Go.RowKit
theorem line_fun : lineF restC = lineF restR := funext lineF_eq
theorem line_room {l : List LineD} (h : bulkAll Shape.LineD.bulk l ≤ 1048576) (hok : okAll l = true) : ∀ d ∈ l, (lineBody d).length ≤ 16777216 := fun d hd => by
  have h1 := line_len (small_all h d hd) (List.all_eq_true.1 hok d hd)
  have h2 := field_bulk d
  have h3 := mem_bulk Shape.LineD.bulk hd
  omega
theorem text_room2 {l : List LineD} (h : bulkAll Shape.LineD.bulk l ≤ 1048576) (hok : okAll l = true) : (textOf l).length ≤ 1000000000 := by
  have := text_bulk (small_all h) hok
  omega
theorem take_ok {l : List LineD} (h : okAll l = true) (k : Nat) : okAll (l.take k) = true := by
  unfold okAll at *
  rw [List.all_eq_true] at *
  exact fun x hx => h x (List.mem_of_mem_take hx)
theorem nil_empty : ((⟨#[]⟩ : ByteArray).toList.isEmpty) = true := by rw [isEmpty_nil]; rfl
set_option maxRecDepth 100000 in
set_option maxHeartbeats 1000000 in
/-- the second half: a text that is read is printed as it was -/
theorem text_back (s : ByteArray) (w : World) (hs : s.size ≤ 1048576) (hm : MaxLenOk w) (hv : ErrRangeOk w) (hp : Pow10 w) :
    Calls Tryz.prog 8 #[.string s] w fun e w' => ((e = .returned (.tuple #[.slice none 0 0, .int .i64 150])) ∨ ∃ (l : List LineD) (A : Option Addr) (c : Nat), e = .returned (.tuple #[.slice A l.length c, .int .i64 0]) ∧ Row Shape.LineD w' (Old w') A l.length l ∧ okAll l = true ∧ textOf l = s.data.toList ∧ (∀ d ∈ l, SmallD d) ∧ l.length ≤ 1048576) ∧ Below w.heap.size w w' := by
  have hz : s.data.toList.length = s.size := by rw [Array.length_toList]; rfl
  refine (manRead s w (by omega) (fun x hx => by have := splitW_small hx; omega) hm hv hp).mono ?_
  rintro e w' ⟨he, hb⟩
  refine ⟨?_, hb⟩
  cases hR : readW (lineF restC) s.data.toList with
  | none => rw [hR] at he; exact .inl he
  | some l =>
    rw [hR] at he
    obtain ⟨v, M, rfl, hown, hM⟩ := he
    obtain ⟨A, c, rfl, _, hrow⟩ := own_row hown
    obtain ⟨h1, h2⟩ := read_text hR
    exact .inr ⟨l, A, c, rfl, hrow, h1, h2, (read_small hR (by omega)).1, by have := read_count hR; omega⟩
set_option maxRecDepth 100000 in
set_option maxHeartbeats 2000000 in
theorem law {A : Option Addr} {n c : Nat} {l : List LineD} (s : ByteArray) (w : World) (hA : Row Shape.LineD w (Old w) A n l) (hb : bulkAll Shape.LineD.bulk l ≤ 1048576) (hs : s.size ≤ 1048576) (hm : MaxLenOk w) (hv : ErrRangeOk w) (hp : Pow10 w) :
    Calls Tryz.prog 4 #[.slice A n c, .string s] w fun e w' => e = .returned (.bool true) ∧ Below w.heap.size w w' := by
  have SA := Lib.hid (small_L hb)
  have SD := Lib.hid (small_all hb)
  have TR := Lib.hid (text_room hb)
  have LB := Lib.hid (line_room hb)
  have LB2 := Lib.hid (text_room2 hb)
  have hln := len_bulk Shape.LineD l
  have hla := hA.1
  subst hla
  have HM := Lib.hid hm; have HV := Lib.hid hv; have HP := Lib.hid hp
  clear hm hv hp
  go_enter Tryz.func4, Tryz.ntmps4
  go_wp2_with fail
  refine (alive w HP.out).mono ?_
  rintro e w2 ⟨rfl, hb2⟩
  have B2 := Lib.hid hb2
  clear hb2
  go_wp2_with fail
  refine (copyLines (c := c) w2 (hA.below B2.out) SA.out (by omega)).mono ?_
  rintro e w3 ⟨v3, δ3, M3, rfl, hw3, hown3, hM3⟩
  have hb3 : Below w2.heap.size w2 w3 := by rw [hw3]; exact below_over _ _
  obtain ⟨A3, c3, rfl, _, hrow3⟩ := own_row hown3
  have B3 := Lib.hid (below_old B2.out hb3)
  have R3 := Lib.hid hrow3
  clear hw3 hown3 hM3 hb3 hrow3
  go_wp2_with fail
  refine (manPrint (c := c3) w3 R3.out (HP.out.keep B3.out) SD.out (by omega) (fun h => by have := TR.out l.length (by rw [List.take_length]; exact h); rw [List.take_length] at this; exact this) (fun k _ h => TR.out k h)).mono ?_
  rintro e w4 ⟨rfl, hb4⟩
  have B4 := Lib.hid (below_old B3.out hb4)
  clear hb4 R3
  have TB := Lib.hid (fun (w : World) (hm : MaxLenOk w) (hv : ErrRangeOk w) (hp : Pow10 w) => text_back s w hs hm hv hp)
  -- what is left behind the first half
  have SECOND : ∀ (W : World), Below w.heap.size w W → True := fun _ _ => trivial
  clear SECOND
  cases hok : okAll l with
  | false =>
    rw [(print_no hok).1, (print_no hok).2]
    have HOK := Lib.hid hok
    clear hok
    unfold strV
    have em := nil_empty
    go_wp2_with fail
    refine (TB.out w4 (HM.out.keep B4.out) (HV.out.keep B4.out) (HP.out.keep B4.out)).mono ?_
    rintro e w5 ⟨he, hb5⟩
    have B5 := Lib.hid (below_old B4.out hb5)
    clear hb5
    rcases he with rfl | ⟨l5, A5, c5, rfl, hrow5, hok5, htx5, hsm5, hln5⟩
    · go_wp2_with fail
      go_ret
      exact ⟨rfl, B5.out⟩
    · have R5 := Lib.hid hrow5; have OK5 := Lib.hid hok5; have TX5 := Lib.hid htx5; have SM5 := Lib.hid hsm5
      clear hrow5 hok5 htx5 hsm5
      go_wp2_with fail
      refine (manPrint (c := c5) w5 R5.out (HP.out.keep B5.out) SM5.out (by omega) (fun _ => by rw [TX5.out, Array.length_toList]; show s.size ≤ _; omega) (fun k _ _ => Nat.le_trans (text_mono _ _) (by rw [TX5.out, Array.length_toList]; show s.size ≤ _; omega))).mono ?_
      rintro e w6 ⟨rfl, hb6⟩
      rw [(print_ok OK5.out).1, (print_ok OK5.out).2, TX5.out, strV_data]
      have B6 := Lib.hid (below_old B5.out hb6)
      clear hb6
      go_wp2_with fail
      go_ret
      exact ⟨rfl, B6.out⟩
  | true =>
    rw [(print_ok hok).1, (print_ok hok).2]
    have HOK := Lib.hid hok
    have hrd := text_read hok
    rw [← line_fun] at hrd
    have htl := LB2.out hok
    have htw := text_words (LB.out hok)
    have RD := Lib.hid (fun (W : World) (hm : MaxLenOk W) (hv : ErrRangeOk W) (hp : Pow10 W) => manRead ⟨(textOf l).toArray⟩ W (by simpa [ByteArray.size] using htl) htw hm hv hp)
    rw [show (ByteArray.mk (textOf l).toArray).data.toList = textOf l from rfl, hrd] at RD
    clear hok hrd htl htw
    unfold strV
    go_wp2_with fail
    refine (RD.out w4 (HM.out.keep B4.out) (HV.out.keep B4.out) (HP.out.keep B4.out)).mono ?_
    rintro e w5 ⟨⟨v5, M5, rfl, hown5, hM5⟩, hb5⟩
    have B5 := Lib.hid (below_old B4.out hb5)
    obtain ⟨A5, c5, rfl, _, hrow5⟩ := own_row hown5
    have R5 := Lib.hid hrow5
    clear hb5 hown5 hM5 hrow5
    have e3 := Lib.hid (sameLines_eq (c := c5) (c' := c) w5 R5.out (hA.below B5.out) SA.out (by omega))
    go_wp2_with (first | (go_at_call 10; refine e3.out.mono ?_; rintro e w6 ⟨rfl, δ6, hw6⟩; have B6 := Lib.hid (below_old B5.out (below_of hw6)); clear hw6))
    refine (TB.out _ (HM.out.keep B6.out) (HV.out.keep B6.out) (HP.out.keep B6.out)).mono ?_
    rintro e w7 ⟨he, hb7⟩
    have B7 := Lib.hid (below_old B6.out hb7)
    clear hb7
    rcases he with rfl | ⟨l7, A7, c7, rfl, hrow7, hok7, htx7, hsm7, hln7⟩
    · go_wp2_with fail
      go_ret
      exact ⟨rfl, B7.out⟩
    · have R7 := Lib.hid hrow7; have OK7 := Lib.hid hok7; have TX7 := Lib.hid htx7; have SM7 := Lib.hid hsm7
      clear hrow7 hok7 htx7 hsm7
      go_wp2_with fail
      refine (manPrint (c := c7) w7 R7.out (HP.out.keep B7.out) SM7.out (by omega) (fun _ => by rw [TX7.out, Array.length_toList]; show s.size ≤ _; omega) (fun k _ _ => Nat.le_trans (text_mono _ _) (by rw [TX7.out, Array.length_toList]; show s.size ≤ _; omega))).mono ?_
      rintro e w8 ⟨rfl, hb8⟩
      rw [(print_ok OK7.out).1, (print_ok OK7.out).2, TX7.out, strV_data]
      have B8 := Lib.hid (below_old B7.out hb8)
      clear hb8
      go_wp2_with fail
      go_ret
      exact ⟨rfl, B8.out⟩
theorem own : ownKnob Tryz.prog.godebug = none := by kernel_rfl
theorem laidOut : laidOutB Tryz.prog = true := by kernel_rfl
set_option maxRecDepth 100000 in
theorem contract (H : Type) (enc : TypeId × Value → H) (W : World) (base : Nat) (args : Array Value) (ds gs : List (DataW H)) (before : List MemPlace)
    (hval : ∀ (j : Nat) t v, Tryz.f4.params[j]? = some t → args[j]? = some v → Value.okWide Tryz.prog W .any base t v)
    (hW : DataW.Whole enc Tryz.prog Tryz.f4.params.toList Rows.manifestRoundSpec.vars false W args.toList ds gs before) (hk : Rows.uptoSmall H (ds ++ gs) = true) (hL : laidMetH Tryz.prog Rows.manifestRoundUptoRow.laid W) (hsh : W.ShapedOpen Tryz.prog) :
    Calls Tryz.prog 4 args W fun e W' => ∃ v, e = .returned v ∧ Rows.manifestRoundSpec.post enc Tryz.prog Tryz.f4 false true false false W args v W' := by
  have hW' := hW
  obtain ⟨p, q, hA0, hV, rfl, hfz, hnd⟩ := hW
  have hA : DataW.TrodAll enc Tryz.prog W 0 (fun _ => true) true Tryz.f4.params.toList args.toList ds p := hA0
  rw [Tryz.params4] at hA hval
  obtain ⟨v0, vs0, d0, ds0, p0, q0, hargs, rfl, rfl, h0, r0⟩ := trodAll_cons hA
  obtain ⟨v1, vs1, d1, ds1, p1, q1, rfl, rfl, rfl, h1, r1⟩ := trodAll_cons r0
  obtain ⟨rfl, rfl, rfl⟩ := trodAll_nil r1
  obtain rfl : args = #[v0, v1] := by cases args; simp_all
  obtain ⟨rfl, rfl⟩ := trodVars_none hV
  have k0 := h0
  have lt0 : ∀ x ∈ p0, x.block < W.heap.size := by obtain ⟨m, hm⟩ := k0; exact DataW.trod_lt m _ _ _ hm
  have k1 := h1
  have lt1 : ∀ x ∈ p1, x.block < W.heap.size := by obtain ⟨m, hm⟩ := k1; exact DataW.trod_lt m _ _ _ hm
  obtain ⟨m0, hm0⟩ := h0
  obtain ⟨a0, len0, cap0, rfl⟩ := okWide_slice Tryz.underlying23 (hval 0 23 v0 rfl rfl)
  obtain ⟨la, ⟨u0, hcs0, A0, n0, c0, rfl, hnc0, hcm0, hrow0⟩, hbk0⟩ := (opens_slice (by kernel_rfl) Tryz.underlying23 opens_LineD).2 hm0
  simp only [Value.cells, List.cons.injEq, and_true, Value.slice.injEq] at hcs0
  obtain ⟨rfl, rfl, rfl⟩ := hcs0
  obtain ⟨m1, hm1⟩ := h1
  obtain ⟨s, rfl⟩ := okWide_string Tryz.underlying9 (hval 1 9 v1 rfl rfl)
  obtain ⟨s', ⟨hcs, hmax⟩, hbk⟩ := (opens_str (by kernel_rfl) Tryz.underlying9).2 hm1
  simp only [Value.cells, List.cons.injEq, and_true, Value.string.injEq] at hcs
  subst hcs
  have hbound : Rows.uptoBulkAll [d0, d1] ≤ 1048576 := of_decide_eq_true hk
  simp only [Rows.uptoBulkAll] at hbound
  have hb0 : bulkAll Shape.LineD.bulk la + 1 ≤ Rows.uptoBulk d0 := hbk0
  have hbk' : s.size + 1 ≤ Rows.uptoBulk d1 := hbk
  clear hA0
  refine (law s W hrow0 (by omega) (by omega) (door_max hsh) (door_err hL) (door_table hL)).mono fun e W' ⟨he, bel⟩ => ?_
  subst he
  exact ⟨_, rfl, _, _, _, [], _, [], hW', trodAll_mk1 (shut_bool Tryz.underlying4 _), (trodAll_cons_mk (Below.trod laidOut (by kernel_rfl) (of_decide_eq_true (by kernel_rfl)) k0 bel lt0) (trodAll_cons_mk (Below.trod laidOut (by kernel_rfl) (of_decide_eq_true (by kernel_rfl)) k1 bel lt1) trodAll_mk0)), rfl, bel.frame _, fun h => by cases h⟩
theorem laid_met (os : Os) : laidMetH Tryz.prog Rows.manifestRoundUptoRow.laid ((laidWorld os).forCall (fun _ _ => 0) ⟨#[], #[.slice none 0 0, .string ⟨#[]⟩], []⟩).memory := laidMetH_of_parts3 (fuel := 8) (laidMet_of_run' 8 (by kernel_rfl) (by kernel_rfl)) (by kernel_rfl) (by kernel_rfl)
theorem reads (os : Os) {H : Type} (enc : TypeId × Value → H) : ∃ places, DataW.whole enc Tryz.prog ((laidWorld os).forCall (fun _ _ => 0) ⟨#[], #[.slice none 0 0, .string ⟨#[]⟩], []⟩).memory Tryz.f4.params.toList Rows.manifestRoundSpec.vars false (#[.slice none 0 0, .string ⟨#[]⟩] : Array Value).toList 8 = some ([.nil, .lit (.string [])], [], places) := ⟨[], by kernel_rfl⟩
set_option maxRecDepth 100000 in
theorem lifted (os : Os) (started : os.Started) (H : Type) (enc : TypeId × Value → H) (F : Stop.Interp) :
    ReturnsInHanded {} Tryz.checked os 4 .any ((Rows.OpenSpec.upto Rows.manifestRoundSpec).preRow enc Tryz.prog Tryz.f4 Rows.manifestRoundUptoRow.domain false Rows.manifestRoundUptoRow.laid) (((Rows.OpenSpec.upto Rows.manifestRoundSpec).at F).post enc Tryz.prog Tryz.f4 false true false false) := by
  obtain ⟨places, hx⟩ := reads os enc
  refine returnsInHanded_of_row (C := Tryz.checked) (s := (Rows.OpenSpec.upto Rows.manifestRoundSpec)) own started (by kernel_rfl) Tryz.func4
    (witness_row_atRef (enc := enc) (C := Tryz.checked) false (laidWorld os) #[.slice none 0 0, .string ⟨#[]⟩] rfl (by kernel_rfl) (by kernel_rfl) (by kernel_rfl)
      (OpenSpec.preRow_of_cond 8 hx (by kernel_rfl) (fun k hk => by cases hk; kernel_rfl) (by kernel_rfl) (laid_met os))) ?_
  intro W base args ds gs before hval hW _ hcond _ hL hsh _
  exact contract H enc W base args ds gs before hval hW (hcond _ rfl) hL hsh
theorem said : Rows.manifestRoundUptoRow.holds Tryz.pinned (Rows.OpenSpec.upto Rows.manifestRoundSpec) :=
  OpenClaim.holds_of_cond 4 Tryz.f4 rfl rfl rfl rfl rfl rfl rfl ⟨rfl, rfl, rfl, rfl, rfl⟩ rfl rfl rfl rfl rfl (by kernel_rfl) Tryz.func4 (by kernel_rfl)
    (of_decide_eq_true (by kernel_rfl)) (by unfold Func.isWrapper; first | (rw [if_pos (by decide +kernel)]; kernel_rfl) | (rw [if_neg (by decide +kernel)]; exact ⟨rfl, rfl⟩))
    (fun os started H enc _ F => by rw [OpenClaim.pre_eq_preRow]; exact lifted os started H enc F)
theorem plain (f : FuncId) (fn : Func) (hf : Tryz.pinned.checked.prog.funcNamed "valise/valiselaw15.ManifestRound" = some f) (hfn : Tryz.pinned.checked.prog.funcs[f]? = some fn) :
    true = Tryz.pinned.checked.prog.looks [] ∧ ∀ (j : Nat) t, fn.params[j]? = some t → Tryz.pinned.checked.prog.wantsStandIn t = false := by
  obtain rfl : f = 4 := Option.some.inj ((show Tryz.prog.funcNamed "valise/valiselaw15.ManifestRound" = some 4 by kernel_rfl).symm.trans hf) |>.symm
  obtain rfl : fn = Tryz.f4 := (Option.some.inj (Tryz.func4.symm.trans hfn)).symm
  refine ⟨by kernel_rfl, fun j t ht => ?_⟩
  rw [Tryz.params4] at ht
  have hm := Array.mem_of_getElem? ht
  simp only [List.mem_toArray, List.mem_cons, List.not_mem_nil, or_false] at hm
  rcases hm with rfl | rfl
  · exact (show Tryz.prog.wantsStandIn 23 = false by kernel_rfl)
  · exact (show Tryz.prog.wantsStandIn 9 = false by kernel_rfl)
theorem proved : Rows.ManifestRoundUptoCardSaid :=
  Claim7.holds_tied_plain_at .later [] _ _ _ _ said (fun _ h => by cases h) (by kernel_rfl) (fun _ h => by cases h) manifestRoundUpto_row_tie rfl ⟨rfl, rfl⟩ (by kernel_rfl) rfl plain (by kernel_rfl)
end manifestRound
end Go.Proofs.YtkpblhikndennaaGreatDoor
