/- ManifestPlain holds for every input of the second form's bound. Its condition: the arguments hold at most 1048576 values and letters. -/
import Derived.Test.YtdlkgpnfhmablaaManifestEscapes
namespace Go.Proofs.Ytdlkgpnfhmablaa
open Go.RowKit
set_option linter.unusedVariables false
set_option linter.unusedSimpArgs false
theorem esc_const32 : ∀ w, Calls Try.prog 7 #[.string ⟨#[32]⟩] w fun e w' => e = .returned (.string ⟨#[92, 48, 52, 48]⟩) ∧ Below w.heap.size w w' := by
  intro w
  refine (manEscape ⟨#[32]⟩ w (by decide)).mono ?_
  rintro e w' ⟨rfl, δ, rfl⟩
  refine ⟨?_, below_over _ _⟩
  rw [show esc ((⟨#[32]⟩ : ByteArray).data.toList) = [92, 48, 52, 48] by decide]
  rfl
theorem ba_ext {a b : ByteArray} (h : a.data.toList = b.data.toList) : a = b := by
  cases a; cases b; simp only [ByteArray.mk.injEq] at *; exact Array.toList_inj.1 h
namespace manifestPlain
open Go.ChangeShapes Go.WideShapes Go.ChangeAt Go.RowKit
set_option maxRecDepth 100000 in
set_option maxHeartbeats 2000000 in
theorem law (s : ByteArray) (w : World) (hs : s.size ≤ 10000000000) :
    Calls Try.prog 4 #[.string s] w fun e w' => e = .returned (.bool true) ∧ Below w.heap.size w w' := by
  obtain ⟨E, hE, c1, -⟩ := escB_ex s (by omega)
  have hEs : E.size ≤ 40000000000 := by
    have h1 : E.size = E.data.toList.length := by rw [Array.length_toList]; rfl
    have h2 : s.size = s.data.toList.length := by rw [Array.length_toList]; rfl
    have := (esc_len s.data.toList).2
    rw [h1, hE]; omega
  have hpr : ∀ k (h : k < E.size), 33 ≤ E[k].toNat ∧ E[k].toNat ≤ 126 := by
    intro k h
    refine esc_prints (l := s.data.toList) ?_
    rw [← hE]
    exact Array.getElem_mem_toList h
  have hback : unescEnd (unesc E.data.toList) = .returned (.tuple #[.string s, .int .i64 0]) := by
    rw [hE, unesc_esc, unescEnd_some]
  have m1 := manUn E (by omega)
  rw [hback] at m1
  have C1 := Lib.hid c1; have M1 := Lib.hid m1; have HP := Lib.hid hpr; clear c1 m1 hback hpr hE
  have hlast : (∃ T : ByteArray, unescEnd (unesc s.data.toList) = .returned (.tuple #[.string T, .int .i64 0]) ∧ ∀ w, Calls Try.prog 7 #[.string T] w fun e w' => e = .returned (.string s) ∧ Below w.heap.size w w') ∨
      unescEnd (unesc s.data.toList) = .returned (.tuple #[.string ⟨#[]⟩, .int .i64 150]) := by
    cases h : unesc s.data.toList with
    | none => exact .inr rfl
    | some t =>
      refine .inl ⟨_, unescEnd_some t, fun w => ?_⟩
      obtain ⟨h1, -⟩ := esc_of_unesc h
      have hl : t.length ≤ s.size := by
        have h2 : s.size = s.data.toList.length := by rw [Array.length_toList]; rfl
        rw [h2, ← h1]; exact (esc_len t).1
      refine (manEscape ⟨t.toArray⟩ w (by change t.toArray.size ≤ _; simp; omega)).mono ?_
      rintro e w' ⟨rfl, δ, rfl⟩
      refine ⟨?_, below_over _ _⟩
      rw [show (⟨t.toArray⟩ : ByteArray).data.toList = t from rfl, h1, strV_data]
  rcases hlast with ⟨T, hn, c3⟩ | hn
  · have m2 := manUn s (by omega)
    rw [hn] at m2
    have M2 := Lib.hid m2; have C3 := Lib.hid c3; clear m2 c3 hn
    go_enter Try.func4, Try.ntmps4
    go_wp2_with fail
    refine (esc_const32 _).mono ?_
    rintro e w1 ⟨rfl, b1⟩
    go_wp2_with fail
    refine (C1.out _).mono ?_
    rintro e w2 ⟨rfl, b2⟩
    go_wp2_with fail
    go_loop [4] (fun i => ∃ k : Nat, k ≤ E.size ∧ i = .int .i64 k) (fun i => E.size - (intOf i).toNat)
    case atStart => exact ⟨0, Nat.zero_le _, rfl⟩
    case round =>
      obtain ⟨k, hk, rfl⟩ := hrel
      by_cases hlt : k < E.size
      · obtain ⟨p1, p2⟩ := HP.out k hlt
        go_wp2
        all_goals first | (exfalso; omega) | skip
        go_round
        case rel => exact ⟨k + 1, by omega, by go_num⟩
        case measure => simp [intOf]; omega
      · go_wp2_with fail
        refine (M1.out _).mono ?_
        rintro e w3 ⟨rfl, b3⟩
        go_wp2_with fail
        refine (M2.out _).mono ?_
        rintro e w4 ⟨rfl, b4⟩
        go_wp2_with (first
          | (go_at_call 7; refine (C3.out _).mono ?_; rintro e w5 ⟨rfl, b5⟩))
        go_ret
        have h1 := b1.size; have h2 := b2.size; have h3 := b3.size; have h4 := b4.size
        exact ⟨rfl, (((b1.trans (b2.mono h1)).trans (b3.mono (by omega))).trans (b4.mono (by omega))).trans (b5.mono (by omega))⟩
  · have m2 := manUn s (by omega)
    rw [hn] at m2
    have M2 := Lib.hid m2; clear m2 hn
    go_enter Try.func4, Try.ntmps4
    go_wp2_with fail
    refine (esc_const32 _).mono ?_
    rintro e w1 ⟨rfl, b1⟩
    go_wp2_with fail
    refine (C1.out _).mono ?_
    rintro e w2 ⟨rfl, b2⟩
    go_wp2_with fail
    go_loop [4] (fun i => ∃ k : Nat, k ≤ E.size ∧ i = .int .i64 k) (fun i => E.size - (intOf i).toNat)
    case atStart => exact ⟨0, Nat.zero_le _, rfl⟩
    case round =>
      obtain ⟨k, hk, rfl⟩ := hrel
      by_cases hlt : k < E.size
      · obtain ⟨p1, p2⟩ := HP.out k hlt
        go_wp2
        all_goals first | (exfalso; omega) | skip
        go_round
        case rel => exact ⟨k + 1, by omega, by go_num⟩
        case measure => simp [intOf]; omega
      · go_wp2_with fail
        refine (M1.out _).mono ?_
        rintro e w3 ⟨rfl, b3⟩
        go_wp2_with fail
        refine (M2.out _).mono ?_
        rintro e w4 ⟨rfl, b4⟩
        go_wp2_with fail
        go_ret
        have h1 := b1.size; have h2 := b2.size; have h3 := b3.size
        exact ⟨rfl, (((b1.trans (b2.mono h1)).trans (b3.mono (by omega))).trans (b4.mono (by omega)))⟩
theorem own : ownKnob Try.prog.godebug = none := by kernel_rfl
theorem laidOut : laidOutB Try.prog = true := by kernel_rfl
set_option maxRecDepth 100000 in
theorem contract (H : Type) (enc : TypeId × Value → H) (W : World) (base : Nat) (args : Array Value) (ds gs : List (DataW H)) (before : List MemPlace)
    (hval : ∀ (j : Nat) t v, Try.f4.params[j]? = some t → args[j]? = some v → Value.okWide Try.prog W .any base t v)
    (hW : DataW.Whole enc Try.prog Try.f4.params.toList Rows.manifestPlainSpec.vars false W args.toList ds gs before) (hk : Rows.uptoSmall H (ds ++ gs) = true) :
    Calls Try.prog 4 args W fun e W' => ∃ v, e = .returned v ∧ Rows.manifestPlainSpec.post enc Try.prog Try.f4 false true false false W args v W' := by
  have hW' := hW
  obtain ⟨p, q, hA0, hV, rfl, hfz, hnd⟩ := hW
  have hA : DataW.TrodAll enc Try.prog W 0 (fun _ => true) true Try.f4.params.toList args.toList ds p := hA0
  rw [Try.params4] at hA hval
  obtain ⟨v0, vs0, d0, ds0, p0, q0, hargs, rfl, rfl, h0, r0⟩ := trodAll_cons hA
  obtain ⟨rfl, rfl, rfl⟩ := trodAll_nil r0
  obtain rfl : args = #[v0] := by cases args; simp_all
  obtain ⟨rfl, rfl⟩ := trodVars_none hV
  have k0 := h0
  have lt0 : ∀ x ∈ p0, x.block < W.heap.size := by obtain ⟨m, hm⟩ := k0; exact DataW.trod_lt m _ _ _ hm
  obtain ⟨m0, hm0⟩ := h0
  obtain ⟨s, rfl⟩ := okWide_string Try.underlying9 (hval 0 9 v0 rfl rfl)
  obtain ⟨s', ⟨hcs, hmax⟩, hbk⟩ := (opens_str (by kernel_rfl) Try.underlying9).2 hm0
  simp only [Value.cells, List.cons.injEq, and_true, Value.string.injEq] at hcs
  subst hcs
  have hbound : Rows.uptoBulkAll [d0] ≤ 1048576 := of_decide_eq_true hk
  simp only [Rows.uptoBulkAll] at hbound
  have hsz : s.size + 1 ≤ 1048576 := Nat.le_trans hbk (by omega)
  clear hA0
  refine (law s W (by omega)).mono fun e W' ⟨he, bel⟩ => ?_
  subst he
  exact ⟨_, rfl, _, _, _, [], _, [], hW', trodAll_mk1 (shut_bool Try.underlying4 _), (trodAll_cons_mk (Below.trod laidOut (by kernel_rfl) (of_decide_eq_true (by kernel_rfl)) k0 bel lt0) trodAll_mk0), rfl, bel.frame _, fun h => by cases h⟩
set_option maxRecDepth 100000 in
theorem lifted (os : Os) (started : os.Started) (H : Type) (enc : TypeId × Value → H) (F : Stop.Interp) :
    ReturnsInHanded {} Try.checked os 4 .any ((Rows.OpenSpec.upto Rows.manifestPlainSpec).pre6 enc Try.prog Try.f4 Rows.manifestPlainUptoRow.domain false) (((Rows.OpenSpec.upto Rows.manifestPlainSpec).at F).post enc Try.prog Try.f4 false true false false) := by
  refine returnsInHanded_of_cond (C := Try.checked) (s := Rows.OpenSpec.upto Rows.manifestPlainSpec) (k := Rows.uptoSmall) rfl own started (by kernel_rfl) Try.func4
    (OpenSpec.witness (enc := enc) (C := Try.checked) (s := Rows.OpenSpec.upto Rows.manifestPlainSpec) (k := Rows.uptoSmall) rfl false ⟨#[], #[.string ⟨#[]⟩], []⟩ 8 (by kernel_rfl) (by kernel_rfl) (by kernel_rfl)
      (x := ([.lit (.string [])], [], [])) (by kernel_rfl) rfl (by kernel_rfl)) ?_
  intro W base args ds gs before hval hW _ hk _
  exact contract H enc W base args ds gs before hval hW hk
theorem holds : Rows.manifestPlainUptoRow.holds Try.pinned (Rows.OpenSpec.upto Rows.manifestPlainSpec) :=
  OpenClaim.holds_of_cond 4 Try.f4 rfl rfl rfl rfl rfl rfl rfl ⟨rfl, rfl, rfl, rfl, rfl⟩ rfl rfl rfl rfl rfl (by kernel_rfl) Try.func4 (by kernel_rfl)
    (of_decide_eq_true (by kernel_rfl)) (by unfold Func.isWrapper; first | (rw [if_pos (by decide +kernel)]; kernel_rfl) | (rw [if_neg (by decide +kernel)]; exact ⟨rfl, rfl⟩))
    (fun os started H enc _ F => lifted os started H enc F)
theorem proved : Rows.ManifestPlainUptoSaid := holds
end manifestPlain
end Go.Proofs.Ytdlkgpnfhmablaa
