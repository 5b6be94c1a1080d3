/- ManifestEscapes holds for every input of the second form's bound. Its condition: the arguments hold at most 1048576 values and letters. -/
import Derived.Test.YtdlkgpnfhmablaaRefUnesc
namespace Go.Proofs.Ytdlkgpnfhmablaa
open Go.RowKit
set_option linter.unusedVariables false
set_option linter.unusedSimpArgs false
/-- a text's escaped form, as a text -/
theorem escB_ex (s : ByteArray) (hs : s.size ≤ 100000000000) : ∃ E : ByteArray, E.data.toList = esc s.data.toList ∧
    (∀ w, Calls Try.prog 7 #[.string s] w fun e w' => e = .returned (.string E) ∧ Below w.heap.size w w') ∧
    (∀ w, Calls Try.prog 10 #[.string s] w fun e w' => e = .returned (.string E) ∧ Below w.heap.size w w') := by
  refine ⟨⟨(esc s.data.toList).toArray⟩, rfl, fun w => (manEscape s w hs).mono ?_, fun w => (refEscape s w hs).mono ?_⟩
  · rintro e w' ⟨rfl, δ, rfl⟩; exact ⟨rfl, below_over _ _⟩
  · rintro e w' ⟨rfl, δ, rfl⟩; exact ⟨rfl, below_over _ _⟩
theorem manUn (s : ByteArray) (hs : s.size ≤ 100000000000) (w : World) : Calls Try.prog 8 #[.string s] w fun e w' => e = unescEnd (unesc s.data.toList) ∧ Below w.heap.size w w' :=
  (manUnescape s w hs).mono fun e w' ⟨he, δ, hw⟩ => ⟨he, by rw [hw]; exact below_over _ _⟩
theorem refUn (s : ByteArray) (hs : s.size ≤ 100000000000) (w : World) : Calls Try.prog 9 #[.string s] w fun e w' => e = unescEnd (unesc s.data.toList) ∧ Below w.heap.size w w' :=
  (refUnescape s w hs).mono fun e w' ⟨he, δ, hw⟩ => ⟨he, by rw [hw]; exact below_over _ _⟩
theorem unescEnd_some (t : List UInt8) : unescEnd (some t) = .returned (.tuple #[.string ⟨t.toArray⟩, .int .i64 0]) := rfl
theorem unescEnd_none : unescEnd none = .returned (.tuple #[.string ⟨#[]⟩, .int .i64 150]) := rfl
theorem esc_const : ∀ w, Calls Try.prog 7 #[.string ⟨#[97, 92, 32]⟩] w fun e w' => e = .returned (.string ⟨#[97, 92, 49, 51, 52, 92, 48, 52, 48]⟩) ∧ Below w.heap.size w w' := by
  intro w
  refine (manEscape ⟨#[97, 92, 32]⟩ w (by decide)).mono ?_
  rintro e w' ⟨rfl, δ, rfl⟩
  refine ⟨?_, below_over _ _⟩
  rw [show esc ((⟨#[97, 92, 32]⟩ : ByteArray).data.toList) = [97, 92, 49, 51, 52, 92, 48, 52, 48] by decide]
  rfl
namespace manifestEscapes
open Go.ChangeShapes Go.WideShapes Go.ChangeAt Go.RowKit
set_option maxRecDepth 100000 in
set_option maxHeartbeats 1000000 in
theorem law (s : ByteArray) (w : World) (hs : s.size ≤ 100000000000) :
    Calls Try.prog 3 #[.string s] w fun e w' => e = .returned (.bool true) ∧ Below w.heap.size w w' := by
  obtain ⟨E, hE, c1, c2⟩ := escB_ex s hs
  have C1 := Lib.hid c1; have C2 := Lib.hid c2; clear c1 c2 hE
  obtain ⟨T, n, hn⟩ : ∃ (T : ByteArray) (n : Int), unescEnd (unesc s.data.toList) = .returned (.tuple #[.string T, .int .i64 n]) := by
    cases unesc s.data.toList with
    | some t => exact ⟨_, _, unescEnd_some t⟩
    | none => exact ⟨_, _, unescEnd_none⟩
  have m1 := manUn s hs
  have m2 := refUn s hs
  rw [hn] at m1 m2
  have M1 := Lib.hid m1; have M2 := Lib.hid m2; clear m1 m2 hn
  go_enter Try.func3, Try.ntmps3
  go_wp2_with fail
  refine (esc_const _).mono ?_
  rintro e w1 ⟨rfl, b1⟩
  go_wp2_with fail
  refine (M1.out _).mono ?_
  rintro e w2 ⟨rfl, b2⟩
  go_wp2_with fail
  refine (M2.out _).mono ?_
  rintro e w3 ⟨rfl, b3⟩
  go_wp2_with (first
    | (go_at_call 7; refine (C1.out _).mono ?_; rintro e w4 ⟨rfl, b4⟩)
    | (go_at_call 10; refine (C2.out _).mono ?_; rintro e w5 ⟨rfl, b5⟩))
  go_ret
  have h1 := b1.size; have h2 := b2.size; have h3 := b3.size; have h4 := b4.size
  exact ⟨rfl, (((b1.trans (b2.mono h1)).trans (b3.mono (by omega))).trans (b4.mono (by omega))).trans (b5.mono (by omega))⟩
theorem own : ownKnob Try.prog.godebug = none := by kernel_rfl
theorem laidOut : laidOutB Try.prog = true := by kernel_rfl
set_option maxRecDepth 100000 in
theorem contract (H : Type) (enc : TypeId × Value → H) (W : World) (base : Nat) (args : Array Value) (ds gs : List (DataW H)) (before : List MemPlace)
    (hval : ∀ (j : Nat) t v, Try.f3.params[j]? = some t → args[j]? = some v → Value.okWide Try.prog W .any base t v)
    (hW : DataW.Whole enc Try.prog Try.f3.params.toList Rows.manifestEscapesSpec.vars false W args.toList ds gs before) (hk : Rows.uptoSmall H (ds ++ gs) = true) :
    Calls Try.prog 3 args W fun e W' => ∃ v, e = .returned v ∧ Rows.manifestEscapesSpec.post enc Try.prog Try.f3 false true false false W args v W' := by
  have hW' := hW
  obtain ⟨p, q, hA0, hV, rfl, hfz, hnd⟩ := hW
  have hA : DataW.TrodAll enc Try.prog W 0 (fun _ => true) true Try.f3.params.toList args.toList ds p := hA0
  rw [Try.params3] at hA hval
  obtain ⟨v0, vs0, d0, ds0, p0, q0, hargs, rfl, rfl, h0, r0⟩ := trodAll_cons hA
  obtain ⟨rfl, rfl, rfl⟩ := trodAll_nil r0
  obtain rfl : args = #[v0] := by cases args; simp_all
  obtain ⟨rfl, rfl⟩ := trodVars_none hV
  have k0 := h0
  have lt0 : ∀ x ∈ p0, x.block < W.heap.size := by obtain ⟨m, hm⟩ := k0; exact DataW.trod_lt m _ _ _ hm
  obtain ⟨m0, hm0⟩ := h0
  obtain ⟨s, rfl⟩ := okWide_string Try.underlying9 (hval 0 9 v0 rfl rfl)
  obtain ⟨s', ⟨hcs, hmax⟩, hbk⟩ := (opens_str (by kernel_rfl) Try.underlying9).2 hm0
  simp only [Value.cells, List.cons.injEq, and_true, Value.string.injEq] at hcs
  subst hcs
  have hbound : Rows.uptoBulkAll [d0] ≤ 1048576 := of_decide_eq_true hk
  simp only [Rows.uptoBulkAll] at hbound
  have hsz : s.size + 1 ≤ 1048576 := Nat.le_trans hbk (by omega)
  clear hA0
  refine (law s W (by omega)).mono fun e W' ⟨he, bel⟩ => ?_
  subst he
  exact ⟨_, rfl, _, _, _, [], _, [], hW', trodAll_mk1 (shut_bool Try.underlying4 _), (trodAll_cons_mk (Below.trod laidOut (by kernel_rfl) (of_decide_eq_true (by kernel_rfl)) k0 bel lt0) trodAll_mk0), rfl, bel.frame _, fun h => by cases h⟩
set_option maxRecDepth 100000 in
theorem lifted (os : Os) (started : os.Started) (H : Type) (enc : TypeId × Value → H) (F : Stop.Interp) :
    ReturnsInHanded {} Try.checked os 3 .any ((Rows.OpenSpec.upto Rows.manifestEscapesSpec).pre6 enc Try.prog Try.f3 Rows.manifestEscapesUptoRow.domain false) (((Rows.OpenSpec.upto Rows.manifestEscapesSpec).at F).post enc Try.prog Try.f3 false true false false) := by
  refine returnsInHanded_of_cond (C := Try.checked) (s := Rows.OpenSpec.upto Rows.manifestEscapesSpec) (k := Rows.uptoSmall) rfl own started (by kernel_rfl) Try.func3
    (OpenSpec.witness (enc := enc) (C := Try.checked) (s := Rows.OpenSpec.upto Rows.manifestEscapesSpec) (k := Rows.uptoSmall) rfl false ⟨#[], #[.string ⟨#[]⟩], []⟩ 8 (by kernel_rfl) (by kernel_rfl) (by kernel_rfl)
      (x := ([.lit (.string [])], [], [])) (by kernel_rfl) rfl (by kernel_rfl)) ?_
  intro W base args ds gs before hval hW _ hk _
  exact contract H enc W base args ds gs before hval hW hk
theorem holds : Rows.manifestEscapesUptoRow.holds Try.pinned (Rows.OpenSpec.upto Rows.manifestEscapesSpec) :=
  OpenClaim.holds_of_cond 3 Try.f3 rfl rfl rfl rfl rfl rfl rfl ⟨rfl, rfl, rfl, rfl, rfl⟩ rfl rfl rfl rfl rfl (by kernel_rfl) Try.func3 (by kernel_rfl)
    (of_decide_eq_true (by kernel_rfl)) (by unfold Func.isWrapper; first | (rw [if_pos (by decide +kernel)]; kernel_rfl) | (rw [if_neg (by decide +kernel)]; exact ⟨rfl, rfl⟩))
    (fun os started H enc _ F => lifted os started H enc F)
theorem proved : Rows.ManifestEscapesUptoSaid := holds
end manifestEscapes
end Go.Proofs.Ytdlkgpnfhmablaa
