/- StampCompares holds for every input. No condition. -/
import Derived.Test.YtphloeafgblmnaaCompare
import Derived.Test.YtphloeafgblmnaaTime
namespace Go.Proofs.Ytphloeafgblmnaa.stampCompares
open Go.ChangeShapes Go.WideShapes Go.ChangeAt Go.RowKit
attribute [local go_sem] cell?_over frozen?_over lt_over le_over
set_option linter.unusedVariables false
set_option linter.unusedSimpArgs false
theorem law (a0 a1 b0 b1 : Int) (w : World) :
    Calls Try.prog 4 #[.agg #[.int .i64 a0, .int .i64 a1], .agg #[.int .i64 b0, .int .i64 b1]] w fun e w' => e = .returned (.bool true) ∧ Below w.heap.size w w' := by
  have E := cmpT_eq (a0 := a0) (a1 := a1) (b0 := a0) (b1 := a1) ⟨rfl, rfl⟩
  have E12 : cmpT 1 0 2 0 = -1 := by decide
  go_enter Try.func4, Try.ntmps4
  go_wp2_with fail
  refine (stamp_cmp _ _ _ _ _).mono ?_
  rintro e w1 ⟨rfl, δ, rfl⟩
  go_wp2_with fail
  refine wp_region_over_of (fun u => w.heap.size < u.heap.size ∧ w.heap.size + 1 < u.heap.size ∧ u.cell? ⟨w.heap.size, 0, none⟩ = some (.int .i64 a0) ∧ u.cell? ⟨w.heap.size, 1, none⟩ = some (.int .i64 a1) ∧ u.cell? ⟨w.heap.size+1, 0, none⟩ = some (.int .i64 b0) ∧ u.cell? ⟨w.heap.size+1, 1, none⟩ = some (.int .i64 b1) ∧ Below w.heap.size w u) ?_ (by kernel_rfl) (by kernel_rfl) ?_
  · refine ⟨?_, ?_, ?_, ?_, ?_, ?_, ?_⟩
    · refine lt_over ?_; simp; omega
    · refine lt_over ?_; simp
    · rw [cell?_over (by simp; omega)]; go_simp
    · rw [cell?_over (by simp; omega)]; go_simp
    · rw [cell?_over (by simp)]; go_simp
    · rw [cell?_over (by simp)]; go_simp
    · exact below_trans_over (by go_grown) (by simp; omega) _
  rintro u ⟨h0, h1, k0, k1, k2, k3, hb⟩
  repeat (go_big_quiet_step (first
    | (go_at_call 13; exact calls_over (stamp_cmp _ _ _ _ _))
    | (go_at_call 14; exact calls_over (ref_cmp _ _ _ _ _))))
  refine wpQuiet_nil ?_
  rintro _ ⟨δ', rfl⟩
  go_wp2
  go_ret
  exact ⟨rfl, below_trans_over hb (by omega) _⟩

theorem own : ownKnob Try.prog.godebug = none := by kernel_rfl
theorem laidOut : laidOutB Try.prog = true := by kernel_rfl
set_option maxRecDepth 100000 in
theorem contract (H : Type) (enc : TypeId × Value → H) (W : World) (base : Nat) (args : Array Value) (ds gs : List (DataW H)) (before : List MemPlace)
    (hval : ∀ (j : Nat) t v, Try.f4.params[j]? = some t → args[j]? = some v → Value.okWide Try.prog W .any base t v)
    (hW : DataW.Whole enc Try.prog Try.f4.params.toList Rows.stampComparesSpec.vars false W args.toList ds gs before) :
    Calls Try.prog 4 args W fun e W' => ∃ v, e = .returned v ∧ Rows.stampComparesSpec.post enc Try.prog Try.f4 false true false false W args v W' := by
  have hW' := hW
  obtain ⟨p, q, hA0, hV, rfl, hfz, hnd⟩ := hW
  have hA : DataW.TrodAll enc Try.prog W 0 (fun _ => true) true Try.f4.params.toList args.toList ds p := hA0
  rw [Try.params4] at hA hval
  obtain ⟨v0, vs0, d0, ds0, p0, q0, hargs, rfl, rfl, h0, r0⟩ := trodAll_cons hA
  obtain ⟨v1, vs1, d1, ds1, p1, q1, rfl, rfl, rfl, h1, r1⟩ := trodAll_cons r0
  obtain ⟨rfl, rfl, rfl⟩ := trodAll_nil r1
  obtain rfl : args = #[v0, v1] := by cases args; simp_all
  obtain ⟨rfl, rfl⟩ := trodVars_none hV
  have k0 := h0
  have lt0 : ∀ x ∈ p0, x.block < W.heap.size := by obtain ⟨m, hm⟩ := k0; exact DataW.trod_lt m _ _ _ hm
  have k1 := h1
  have lt1 : ∀ x ∈ p1, x.block < W.heap.size := by obtain ⟨m, hm⟩ := k1; exact DataW.trod_lt m _ _ _ hm
  obtain ⟨a0, a1, rfl⟩ := open_time (hval 0 30 v0 rfl rfl) h0
  obtain ⟨b0, b1, rfl⟩ := open_time (hval 1 30 v1 rfl rfl) h1
  clear hA0
  refine (law a0 a1 b0 b1 W).mono fun e W' ⟨he, bel⟩ => ?_
  subst he
  exact ⟨_, rfl, _, _, _, [], _, [], hW', trodAll_mk1 (shut_bool Try.underlying4 _), (trodAll_cons_mk (Below.trod laidOut (by kernel_rfl) (of_decide_eq_true (by kernel_rfl)) k0 bel lt0) (trodAll_cons_mk (Below.trod laidOut (by kernel_rfl) (of_decide_eq_true (by kernel_rfl)) k1 bel lt1) trodAll_mk0)), rfl, bel.frame _, fun h => by cases h⟩
set_option maxRecDepth 100000 in
theorem lifted (os : Os) (started : os.Started) (H : Type) (enc : TypeId × Value → H) :
    ReturnsInHanded {} Try.checked os 4 .any (Rows.stampComparesSpec.pre6 enc Try.prog Try.f4 Rows.stampComparesRow.domain false) (Rows.stampComparesSpec.post enc Try.prog Try.f4 false true false false) := by
  refine returnsInHanded_of_change (C := Try.checked) own started (by kernel_rfl) Try.func4
    (ChangeSpec.witness6 (enc := enc) (C := Try.checked) false ⟨#[], #[.agg #[.int .i64 0, .int .i64 0], .agg #[.int .i64 0, .int .i64 0]], []⟩ 8 (by kernel_rfl) (by kernel_rfl) (by kernel_rfl) (by kernel_rfl)) ?_
  intro W base args ds gs before hval hW _ _
  exact contract H enc W base args ds gs before hval hW
theorem holds : Rows.stampComparesRow.holds Try.pinned (OpenSpec.ofChange Rows.stampComparesSpec) :=
  OpenClaim.holds_of_wide 4 Try.f4 rfl rfl rfl rfl rfl rfl rfl ⟨rfl, rfl, rfl, rfl, rfl⟩ rfl rfl rfl rfl rfl (by kernel_rfl) Try.func4 (by kernel_rfl)
    (of_decide_eq_true (by kernel_rfl)) (by unfold Func.isWrapper; first | (rw [if_pos (by decide +kernel)]; kernel_rfl) | (rw [if_neg (by decide +kernel)]; exact ⟨rfl, rfl⟩))
    (fun os started H enc _ => lifted os started H enc)
theorem proved : Rows.StampComparesSaid := holds
end Go.Proofs.Ytphloeafgblmnaa.stampCompares
