/- ManifestPrints holds for every input of the second form's bound, its tied card. Its condition: the arguments hold at most 1048576 values and letters; the listed package-level tables hold what they are laid with. -/
import Derived.Test.YtdlkgpnfhmablaaDoorAlive15
import Derived.Test.YtdlkgpnfhmablaaDoorCards
import Derived.Test.YtdlkgpnfhmablaaDoorTie
import Derived.Deep.DeepHandedRow
namespace Go.Proofs.YtdlkgpnfhmablaaDoor
open Go.RowKit
set_option linter.unusedVariables false
set_option linter.unusedSimpArgs false
attribute [local go_sem] cell?_over frozen?_over lt_over le_over
def cellsOfD : Nat → DataW Unit → List Value
  | 0, _ => []
  | _ + 1, .lit (.int k n) => [.int k n]
  | f + 1, .agg l => l.flatMap (cellsOfD f)
  | _, _ => []
noncomputable def layAll : List (Nat × DataW Unit) → World → World
  | [], w => w
  | (g, d) :: r, w => layAll r { w with heap := w.heap.modify g fun
      | .cells _ t frozen => .cells (cellsOfD 4 d).toArray t frozen
      | o => o }
theorem own_row {α : Type} {s : Shape α} {e : TypeId} {w : World} {base : Nat} {M : Nat → Prop} {v : Value} {l : List α} (h : Own s e w base M v l) : ∃ A c, v = .slice A l.length c ∧ l.length ≤ c ∧ Row s w (Old w) A l.length l := by
  obtain ⟨A, n, c, rfl, hnc, _, hrow⟩ := h.rd_old
  have := hrow.1
  subst this
  exact ⟨A, c, rfl, hnc, hrow⟩
theorem small_L {l : List LineD} (h : bulkAll Shape.LineD.bulk l ≤ 1048576) : SmallL l := fun d hd => by have := (small_all h d hd).2.2.2; omega
namespace manifestPrints
open Go.ChangeShapes Go.WideShapes Go.ChangeAt Go.RowKit
set_option maxRecDepth 100000 in
set_option maxHeartbeats 600000 in
theorem law {A : Option Addr} {n c : Nat} {l : List LineD} (w : World) (hA : Row Shape.LineD w (Old w) A n l) (hb : bulkAll Shape.LineD.bulk l ≤ 1048576) (hp : Pow10 w) :
    Calls Tryd.prog 3 #[.slice A n c] w fun e w' => e = .returned (.bool true) ∧ Below w.heap.size w w' := by
  have SA := Lib.hid (small_L hb)
  have SD := Lib.hid (small_all hb)
  have TR := Lib.hid (text_room hb)
  have hln := len_bulk Shape.LineD l
  have hla := hA.1
  subst hla
  go_enter Tryd.func3, Tryd.ntmps3
  go_wp2_with fail
  refine (alive w hp).mono ?_
  rintro e w2 ⟨rfl, hb2⟩
  have B2 := Lib.hid hb2
  clear hb2
  go_wp2_with fail
  refine (copyLines (c := c) w2 (hA.below B2.out) SA.out (by omega)).mono ?_
  rintro e w3 ⟨v3, δ3, M3, rfl, hw3, hown3, hM3⟩
  have hb3 : Below w2.heap.size w2 w3 := by rw [hw3]; exact below_over _ _
  obtain ⟨A3, c3, rfl, _, hrow3⟩ := own_row hown3
  have B3 := Lib.hid (below_old B2.out hb3)
  have R3 := Lib.hid hrow3
  clear hw3 hown3 hM3 hb3 hrow3
  go_wp2_with fail
  refine (manPrint (c := c3) w3 R3.out (hp.keep B3.out) SD.out (by omega) (fun h => by have := TR.out l.length (by rw [List.take_length]; exact h); rw [List.take_length] at this; exact this) (fun k _ h => TR.out k h)).mono ?_
  rintro e w4 ⟨rfl, hb4⟩
  have B4 := Lib.hid (below_old B3.out hb4)
  have R34 := Lib.hid (R3.out.below hb4)
  clear hb4 R3
  unfold strV
  go_wp2_with fail
  refine (refPrint (c := c) w4 (hA.below B4.out) SD.out (by omega) (fun k _ h => TR.out k h)).mono ?_
  rintro e w5 ⟨rfl, hb5⟩
  have B5 := Lib.hid (below_old B4.out hb5)
  have R35 := Lib.hid (R34.out.below hb5)
  clear hb5 R34
  unfold strV
  have e3 := Lib.hid (sameLines_eq (c := c3) (c' := c) w5 R35.out (hA.below B5.out) SA.out (by omega))
  go_wp2_with (first | (go_at_call 8; refine e3.out.mono ?_; rintro e w6 ⟨rfl, δ6, hw6⟩; have B6 := Lib.hid (below_old B5.out (below_of hw6)); clear hw6))
  go_ret
  exact ⟨rfl, B6.out⟩
theorem gPowType : (Tryd.prog.globals[1]?).map (·.type) = some 95 := by kernel_rfl
theorem table {W : World} (h : laidMetH Tryd.prog Rows.manifestPrintsUptoRow.laid W) : Pow10 W := by
  have h2 := laidMetH.filter (fun x => x.1 == "internal/strconv.uint64pow10") h
  exact Lib.tabIs_of_head (rest := []) gPow gPowType Tryd.underlying95 Tryd.underlying84 (by kernel_rfl) (by kernel_rfl) h2
theorem own : ownKnob Tryd.prog.godebug = none := by kernel_rfl
theorem laidOut : laidOutB Tryd.prog = true := by kernel_rfl
set_option maxRecDepth 100000 in
theorem contract (H : Type) (enc : TypeId × Value → H) (W : World) (base : Nat) (args : Array Value) (ds gs : List (DataW H)) (before : List MemPlace)
    (hval : ∀ (j : Nat) t v, Tryd.f3.params[j]? = some t → args[j]? = some v → Value.okWide Tryd.prog W .any base t v)
    (hW : DataW.Whole enc Tryd.prog Tryd.f3.params.toList Rows.manifestPrintsSpec.vars false W args.toList ds gs before) (hk : Rows.uptoSmall H (ds ++ gs) = true) (hL : laidMetH Tryd.prog Rows.manifestPrintsUptoRow.laid W) :
    Calls Tryd.prog 3 args W fun e W' => ∃ v, e = .returned v ∧ Rows.manifestPrintsSpec.post enc Tryd.prog Tryd.f3 false true false false W args v W' := by
  have hW' := hW
  obtain ⟨p, q, hA0, hV, rfl, hfz, hnd⟩ := hW
  have hA : DataW.TrodAll enc Tryd.prog W 0 (fun _ => true) true Tryd.f3.params.toList args.toList ds p := hA0
  rw [Tryd.params3] at hA hval
  obtain ⟨v0, vs0, d0, ds0, p0, q0, hargs, rfl, rfl, h0, r0⟩ := trodAll_cons hA
  obtain ⟨rfl, rfl, rfl⟩ := trodAll_nil r0
  obtain rfl : args = #[v0] := by cases args; simp_all
  obtain ⟨rfl, rfl⟩ := trodVars_none hV
  have k0 := h0
  have lt0 : ∀ x ∈ p0, x.block < W.heap.size := by obtain ⟨m, hm⟩ := k0; exact DataW.trod_lt m _ _ _ hm
  obtain ⟨m0, hm0⟩ := h0
  obtain ⟨a0, len0, cap0, rfl⟩ := okWide_slice Tryd.underlying22 (hval 0 22 v0 rfl rfl)
  obtain ⟨la, ⟨u0, hcs0, A0, n0, c0, rfl, hnc0, hcm0, hrow0⟩, hbk0⟩ := (opens_slice (by kernel_rfl) Tryd.underlying22 opens_LineD).2 hm0
  simp only [Value.cells, List.cons.injEq, and_true, Value.slice.injEq] at hcs0
  obtain ⟨rfl, rfl, rfl⟩ := hcs0
  have hbound : Rows.uptoBulkAll [d0] ≤ 1048576 := of_decide_eq_true hk
  simp only [Rows.uptoBulkAll] at hbound
  have hb0 : bulkAll Shape.LineD.bulk la + 1 ≤ Rows.uptoBulk d0 := hbk0
  clear hA0
  refine (law W hrow0 (by omega) (table hL)).mono fun e W' ⟨he, bel⟩ => ?_
  subst he
  exact ⟨_, rfl, _, _, _, [], _, [], hW', trodAll_mk1 (shut_bool Tryd.underlying4 _), (trodAll_cons_mk (Below.trod laidOut (by kernel_rfl) (of_decide_eq_true (by kernel_rfl)) k0 bel lt0) trodAll_mk0), rfl, bel.frame _, fun h => by cases h⟩
noncomputable def laidWorld (os : Os) : World := layAll [(4, Rows.laid_math_bits_deBruijn32tab), (5, Rows.laid_math_bits_deBruijn64tab), (1, Rows.laid_internal_strconv_uint64pow10), (3, Rows.laid_unicode_utf8_acceptRanges), (2, Rows.laid_unicode_utf8_first)] (World.holding Tryd.prog os ⟨#[], #[], []⟩)
theorem laid_met (os : Os) : laidMet Tryd.prog Rows.manifestPrintsUptoRow.laid ((laidWorld os).forCall (fun _ _ => 0) ⟨#[], #[.slice none 0 0], []⟩).memory := laidMet_of_run' 8 (by kernel_rfl) (by kernel_rfl)
theorem reads (os : Os) {H : Type} (enc : TypeId × Value → H) : ∃ places, DataW.whole enc Tryd.prog ((laidWorld os).forCall (fun _ _ => 0) ⟨#[], #[.slice none 0 0], []⟩).memory Tryd.f3.params.toList Rows.manifestPrintsSpec.vars false (#[.slice none 0 0] : Array Value).toList 8 = some ([.nil], [], places) := ⟨[], by kernel_rfl⟩
set_option maxRecDepth 100000 in
theorem lifted (os : Os) (started : os.Started) (H : Type) (enc : TypeId × Value → H) (F : Stop.Interp) :
    ReturnsInHanded {} Tryd.checked os 3 .any ((Rows.OpenSpec.upto Rows.manifestPrintsSpec).preRow enc Tryd.prog Tryd.f3 Rows.manifestPrintsUptoRow.domain false Rows.manifestPrintsUptoRow.laid) (((Rows.OpenSpec.upto Rows.manifestPrintsSpec).at F).post enc Tryd.prog Tryd.f3 false true false false) := by
  obtain ⟨places, hx⟩ := reads os enc
  refine returnsInHanded_of_row (C := Tryd.checked) (s := Rows.OpenSpec.upto Rows.manifestPrintsSpec) own started (by kernel_rfl) Tryd.func3
    (witness_row_at (enc := enc) (C := Tryd.checked) false (laidWorld os) #[.slice none 0 0] rfl (by kernel_rfl) (by kernel_rfl) (by kernel_rfl)
      (OpenSpec.preRow_of_cond 8 hx (by kernel_rfl) (fun k hk => by cases hk; kernel_rfl) (by kernel_rfl) (laid_met os))) ?_
  intro W base args ds gs before hval hW _ hcond _ hL _ _
  exact contract H enc W base args ds gs before hval hW (hcond _ rfl) hL
theorem said : Rows.ManifestPrintsUptoSaid :=
  OpenClaim.holds_of_cond 3 Tryd.f3 rfl rfl rfl rfl rfl rfl rfl ⟨rfl, rfl, rfl, rfl, rfl⟩ rfl rfl rfl rfl rfl (by kernel_rfl) Tryd.func3 (by kernel_rfl)
    (of_decide_eq_true (by kernel_rfl)) (by unfold Func.isWrapper; first | (rw [if_pos (by decide +kernel)]; kernel_rfl) | (rw [if_neg (by decide +kernel)]; exact ⟨rfl, rfl⟩))
    (fun os started H enc _ F => by rw [OpenClaim.pre_eq_preRow]; exact lifted os started H enc F)
theorem plain (f : FuncId) (fn : Func) (hf : Tryd.pinned.checked.prog.funcNamed "valise/valiselaw15.ManifestPrints" = some f) (hfn : Tryd.pinned.checked.prog.funcs[f]? = some fn) :
    false = Tryd.pinned.checked.prog.looks [] ∧ ∀ (j : Nat) t, fn.params[j]? = some t → Tryd.pinned.checked.prog.wantsStandIn t = false := by
  obtain rfl : f = 3 := Option.some.inj ((show Tryd.prog.funcNamed "valise/valiselaw15.ManifestPrints" = some 3 by kernel_rfl).symm.trans hf) |>.symm
  obtain rfl : fn = Tryd.f3 := (Option.some.inj (Tryd.func3.symm.trans hfn)).symm
  refine ⟨by kernel_rfl, fun j t ht => ?_⟩
  rw [Tryd.params3] at ht
  have hm := Array.mem_of_getElem? ht
  simp only [List.mem_toArray, List.mem_cons, List.not_mem_nil, or_false] at hm
  rcases hm with rfl
  exact (show Tryd.prog.wantsStandIn 22 = false by kernel_rfl)
theorem proved : Rows.ManifestPrintsUptoCardSaid :=
  Claim7.holds_tied_plain_at .later [] _ _ _ _ said (fun _ h => by cases h) (by kernel_rfl) (fun _ h => by cases h) manifestPrintsUpto_row_tie rfl ⟨rfl, rfl⟩ (by kernel_rfl) rfl plain (by kernel_rfl)
end manifestPrints
end Go.Proofs.YtdlkgpnfhmablaaDoor
