/- StampOrders holds for every input. No condition. -/
import Derived.Test.YtphloeafgblmnaaCompare
import Derived.Test.YtphloeafgblmnaaTime
namespace Go.Proofs.Ytphloeafgblmnaa.stampOrders
open Go.ChangeShapes Go.WideShapes Go.ChangeAt Go.RowKit
attribute [local go_sem] cell?_over frozen?_over lt_over le_over
set_option linter.unusedVariables false
set_option linter.unusedSimpArgs false
/-- the three boxes of the call, in a world u that has grown of w -/
def Three (a0 a1 b0 b1 c0 c1 : Int) (w u : World) : Prop :=
  Below w.heap.size w u ∧ w.heap.size < u.heap.size ∧ w.heap.size + 1 < u.heap.size ∧ w.heap.size + 1 + 1 < u.heap.size ∧
  u.cell? ⟨w.heap.size, 0, none⟩ = some (.int .i64 a0) ∧ u.cell? ⟨w.heap.size, 1, none⟩ = some (.int .i64 a1) ∧
  u.cell? ⟨w.heap.size + 1, 0, none⟩ = some (.int .i64 b0) ∧ u.cell? ⟨w.heap.size + 1, 1, none⟩ = some (.int .i64 b1) ∧
  u.cell? ⟨w.heap.size + 1 + 1, 0, none⟩ = some (.int .i64 c0) ∧ u.cell? ⟨w.heap.size + 1 + 1, 1, none⟩ = some (.int .i64 c1)
variable {a0 a1 b0 b1 c0 c1 : Int} {w u : World}
theorem Three.grow {u' : World} (h : Three a0 a1 b0 b1 c0 c1 w u) (hb : ∃ δ, u' = over u δ) : Three a0 a1 b0 b1 c0 c1 w u' := by
  obtain ⟨δ, rfl⟩ := hb
  obtain ⟨h0, h1, h2, h3, k0, k1, k2, k3, k4, k5⟩ := h
  refine ⟨below_trans_over h0 (by omega) _, lt_over h1, lt_over h2, lt_over h3, ?_, ?_, ?_, ?_, ?_, ?_⟩ <;> rw [cell?_over (by assumption)] <;> assumption
theorem first (w : World) : Three a0 a1 b0 b1 c0 c1 w (((w.alloc (.cells #[.int .i64 a0, .int .i64 a1] 30)).alloc (.cells #[.int .i64 b0, .int .i64 b1] 30)).alloc (.cells #[.int .i64 c0, .int .i64 c1] 30)) := by
  refine ⟨by go_grown, by simp <;> omega, by simp <;> omega, by simp, ?_, ?_, ?_, ?_, ?_, ?_⟩
  all_goals first | (go_simp; done) | (rw [World.cell?_alloc_lt _ _ _ (by simp; omega)]; go_simp; done)
theorem cmp_grow (x0 x1 y0 y1 : Int) (u : World) (h : Three a0 a1 b0 b1 c0 c1 w u) :
    Calls Try.prog 13 #[.agg #[.int .i64 x0, .int .i64 x1], .agg #[.int .i64 y0, .int .i64 y1]] u fun e u' => e = .returned (.int .i64 (cmpT x0 x1 y0 y1)) ∧ Three a0 a1 b0 b1 c0 c1 w u' :=
  (stamp_cmp _ _ _ _ _).mono fun _ _ ⟨he, hd⟩ => ⟨he, h.grow hd⟩
theorem lt_far (w : World) (hab : a0 < b0) (hx : cmpT a0 a1 b0 b1 = -1) (hy : cmpT b0 b1 a0 a1 = 1) (Z : Int) (hz : cmpT b0 b1 c0 c1 = Z) (h0z : 0 < Z) :
    Calls Try.prog 5 #[.agg #[.int .i64 a0, .int .i64 a1], .agg #[.int .i64 b0, .int .i64 b1], .agg #[.int .i64 c0, .int .i64 c1]] w fun e w' => e = .returned (.bool true) ∧ Below w.heap.size w w' := by
  have HX := Lib.hid hx; clear hx
  have HY := Lib.hid hy; clear hy
  have HZ := Lib.hid hz; clear hz
  have E12 : cmpT 0 1 0 0 = 1 := by decide
  go_enter Try.func5, Try.ntmps5
  go_wp2_with fail
  refine (cmp_grow _ _ _ _ _ (first w)).mono ?_
  rintro e u1 ⟨rfl, T1⟩
  obtain ⟨h0, h1, h2, h3, k0, k1, k2, k3, k4, k5⟩ := T1
  have S1 := Lib.hid (show Three _ _ _ _ _ _ w u1 from ⟨h0, h1, h2, h3, k0, k1, k2, k3, k4, k5⟩)
  go_wp2_with fail
  refine (cmp_grow _ _ _ _ _ S1.out).mono ?_
  rintro e u2 ⟨rfl, T2⟩
  rw [HX.out]
  clear h0 h1 h2 h3 k0 k1 k2 k3 k4 k5
  obtain ⟨h0, h1, h2, h3, k0, k1, k2, k3, k4, k5⟩ := T2
  have S2 := Lib.hid (show Three _ _ _ _ _ _ w u2 from ⟨h0, h1, h2, h3, k0, k1, k2, k3, k4, k5⟩)
  go_wp2_with fail
  refine (cmp_grow _ _ _ _ _ S2.out).mono ?_
  rintro e u3 ⟨rfl, T3⟩
  rw [HY.out]
  clear h0 h1 h2 h3 k0 k1 k2 k3 k4 k5
  obtain ⟨h0, h1, h2, h3, k0, k1, k2, k3, k4, k5⟩ := T3
  have S3 := Lib.hid (show Three _ _ _ _ _ _ w u3 from ⟨h0, h1, h2, h3, k0, k1, k2, k3, k4, k5⟩)
  go_wp2_with fail
  refine (cmp_grow _ _ _ _ _ S3.out).mono ?_
  rintro e u4 ⟨rfl, T4⟩
  rw [HZ.out]
  clear h0 h1 h2 h3 k0 k1 k2 k3 k4 k5
  obtain ⟨h0, h1, h2, h3, k0, k1, k2, k3, k4, k5⟩ := T4
  have S4 := Lib.hid (show Three _ _ _ _ _ _ w u4 from ⟨h0, h1, h2, h3, k0, k1, k2, k3, k4, k5⟩)
  go_wp2_with fail
  go_ret
  exact ⟨rfl, h0⟩
theorem lt_near (w : World) (hab : a0 < b0) (hx : cmpT a0 a1 b0 b1 = -1) (hy : cmpT b0 b1 a0 a1 = 1) (Z : Int) (hz : cmpT b0 b1 c0 c1 = Z) (h0z : Z ≤ 0) (V : Int) (hv : cmpT a0 a1 c0 c1 = V) (h0v : V ≤ 0) :
    Calls Try.prog 5 #[.agg #[.int .i64 a0, .int .i64 a1], .agg #[.int .i64 b0, .int .i64 b1], .agg #[.int .i64 c0, .int .i64 c1]] w fun e w' => e = .returned (.bool true) ∧ Below w.heap.size w w' := by
  have HX := Lib.hid hx; clear hx
  have HY := Lib.hid hy; clear hy
  have HZ := Lib.hid hz; clear hz
  have HV := Lib.hid hv; clear hv
  have E12 : cmpT 0 1 0 0 = 1 := by decide
  go_enter Try.func5, Try.ntmps5
  go_wp2_with fail
  refine (cmp_grow _ _ _ _ _ (first w)).mono ?_
  rintro e u1 ⟨rfl, T1⟩
  obtain ⟨h0, h1, h2, h3, k0, k1, k2, k3, k4, k5⟩ := T1
  have S1 := Lib.hid (show Three _ _ _ _ _ _ w u1 from ⟨h0, h1, h2, h3, k0, k1, k2, k3, k4, k5⟩)
  go_wp2_with fail
  refine (cmp_grow _ _ _ _ _ S1.out).mono ?_
  rintro e u2 ⟨rfl, T2⟩
  rw [HX.out]
  clear h0 h1 h2 h3 k0 k1 k2 k3 k4 k5
  obtain ⟨h0, h1, h2, h3, k0, k1, k2, k3, k4, k5⟩ := T2
  have S2 := Lib.hid (show Three _ _ _ _ _ _ w u2 from ⟨h0, h1, h2, h3, k0, k1, k2, k3, k4, k5⟩)
  go_wp2_with fail
  refine (cmp_grow _ _ _ _ _ S2.out).mono ?_
  rintro e u3 ⟨rfl, T3⟩
  rw [HY.out]
  clear h0 h1 h2 h3 k0 k1 k2 k3 k4 k5
  obtain ⟨h0, h1, h2, h3, k0, k1, k2, k3, k4, k5⟩ := T3
  have S3 := Lib.hid (show Three _ _ _ _ _ _ w u3 from ⟨h0, h1, h2, h3, k0, k1, k2, k3, k4, k5⟩)
  go_wp2_with fail
  refine (cmp_grow _ _ _ _ _ S3.out).mono ?_
  rintro e u4 ⟨rfl, T4⟩
  rw [HZ.out]
  clear h0 h1 h2 h3 k0 k1 k2 k3 k4 k5
  obtain ⟨h0, h1, h2, h3, k0, k1, k2, k3, k4, k5⟩ := T4
  have S4 := Lib.hid (show Three _ _ _ _ _ _ w u4 from ⟨h0, h1, h2, h3, k0, k1, k2, k3, k4, k5⟩)
  go_wp2_with fail
  refine (cmp_grow _ _ _ _ _ S4.out).mono ?_
  rintro e u5 ⟨rfl, T5⟩
  rw [HV.out]
  clear h0 h1 h2 h3 k0 k1 k2 k3 k4 k5
  obtain ⟨h0, h1, h2, h3, k0, k1, k2, k3, k4, k5⟩ := T5
  have S5 := Lib.hid (show Three _ _ _ _ _ _ w u5 from ⟨h0, h1, h2, h3, k0, k1, k2, k3, k4, k5⟩)
  go_wp2_with fail
  go_ret
  exact ⟨rfl, h0⟩
theorem ltn_far (w : World) (hab : a1 < b1) (hx : cmpT a0 a1 a0 b1 = -1) (hy : cmpT a0 b1 a0 a1 = 1) (Z : Int) (hz : cmpT a0 b1 c0 c1 = Z) (h0z : 0 < Z) :
    Calls Try.prog 5 #[.agg #[.int .i64 a0, .int .i64 a1], .agg #[.int .i64 a0, .int .i64 b1], .agg #[.int .i64 c0, .int .i64 c1]] w fun e w' => e = .returned (.bool true) ∧ Below w.heap.size w w' := by
  have HX := Lib.hid hx; clear hx
  have HY := Lib.hid hy; clear hy
  have HZ := Lib.hid hz; clear hz
  have E12 : cmpT 0 1 0 0 = 1 := by decide
  go_enter Try.func5, Try.ntmps5
  go_wp2_with fail
  refine (cmp_grow _ _ _ _ _ (first w)).mono ?_
  rintro e u1 ⟨rfl, T1⟩
  obtain ⟨h0, h1, h2, h3, k0, k1, k2, k3, k4, k5⟩ := T1
  have S1 := Lib.hid (show Three _ _ _ _ _ _ w u1 from ⟨h0, h1, h2, h3, k0, k1, k2, k3, k4, k5⟩)
  go_wp2_with fail
  refine (cmp_grow _ _ _ _ _ S1.out).mono ?_
  rintro e u2 ⟨rfl, T2⟩
  rw [HX.out]
  clear h0 h1 h2 h3 k0 k1 k2 k3 k4 k5
  obtain ⟨h0, h1, h2, h3, k0, k1, k2, k3, k4, k5⟩ := T2
  have S2 := Lib.hid (show Three _ _ _ _ _ _ w u2 from ⟨h0, h1, h2, h3, k0, k1, k2, k3, k4, k5⟩)
  go_wp2_with fail
  refine (cmp_grow _ _ _ _ _ S2.out).mono ?_
  rintro e u3 ⟨rfl, T3⟩
  rw [HY.out]
  clear h0 h1 h2 h3 k0 k1 k2 k3 k4 k5
  obtain ⟨h0, h1, h2, h3, k0, k1, k2, k3, k4, k5⟩ := T3
  have S3 := Lib.hid (show Three _ _ _ _ _ _ w u3 from ⟨h0, h1, h2, h3, k0, k1, k2, k3, k4, k5⟩)
  go_wp2_with fail
  refine (cmp_grow _ _ _ _ _ S3.out).mono ?_
  rintro e u4 ⟨rfl, T4⟩
  rw [HZ.out]
  clear h0 h1 h2 h3 k0 k1 k2 k3 k4 k5
  obtain ⟨h0, h1, h2, h3, k0, k1, k2, k3, k4, k5⟩ := T4
  have S4 := Lib.hid (show Three _ _ _ _ _ _ w u4 from ⟨h0, h1, h2, h3, k0, k1, k2, k3, k4, k5⟩)
  go_wp2_with fail
  go_ret
  exact ⟨rfl, h0⟩
theorem ltn_near (w : World) (hab : a1 < b1) (hx : cmpT a0 a1 a0 b1 = -1) (hy : cmpT a0 b1 a0 a1 = 1) (Z : Int) (hz : cmpT a0 b1 c0 c1 = Z) (h0z : Z ≤ 0) (V : Int) (hv : cmpT a0 a1 c0 c1 = V) (h0v : V ≤ 0) :
    Calls Try.prog 5 #[.agg #[.int .i64 a0, .int .i64 a1], .agg #[.int .i64 a0, .int .i64 b1], .agg #[.int .i64 c0, .int .i64 c1]] w fun e w' => e = .returned (.bool true) ∧ Below w.heap.size w w' := by
  have HX := Lib.hid hx; clear hx
  have HY := Lib.hid hy; clear hy
  have HZ := Lib.hid hz; clear hz
  have HV := Lib.hid hv; clear hv
  have E12 : cmpT 0 1 0 0 = 1 := by decide
  go_enter Try.func5, Try.ntmps5
  go_wp2_with fail
  refine (cmp_grow _ _ _ _ _ (first w)).mono ?_
  rintro e u1 ⟨rfl, T1⟩
  obtain ⟨h0, h1, h2, h3, k0, k1, k2, k3, k4, k5⟩ := T1
  have S1 := Lib.hid (show Three _ _ _ _ _ _ w u1 from ⟨h0, h1, h2, h3, k0, k1, k2, k3, k4, k5⟩)
  go_wp2_with fail
  refine (cmp_grow _ _ _ _ _ S1.out).mono ?_
  rintro e u2 ⟨rfl, T2⟩
  rw [HX.out]
  clear h0 h1 h2 h3 k0 k1 k2 k3 k4 k5
  obtain ⟨h0, h1, h2, h3, k0, k1, k2, k3, k4, k5⟩ := T2
  have S2 := Lib.hid (show Three _ _ _ _ _ _ w u2 from ⟨h0, h1, h2, h3, k0, k1, k2, k3, k4, k5⟩)
  go_wp2_with fail
  refine (cmp_grow _ _ _ _ _ S2.out).mono ?_
  rintro e u3 ⟨rfl, T3⟩
  rw [HY.out]
  clear h0 h1 h2 h3 k0 k1 k2 k3 k4 k5
  obtain ⟨h0, h1, h2, h3, k0, k1, k2, k3, k4, k5⟩ := T3
  have S3 := Lib.hid (show Three _ _ _ _ _ _ w u3 from ⟨h0, h1, h2, h3, k0, k1, k2, k3, k4, k5⟩)
  go_wp2_with fail
  refine (cmp_grow _ _ _ _ _ S3.out).mono ?_
  rintro e u4 ⟨rfl, T4⟩
  rw [HZ.out]
  clear h0 h1 h2 h3 k0 k1 k2 k3 k4 k5
  obtain ⟨h0, h1, h2, h3, k0, k1, k2, k3, k4, k5⟩ := T4
  have S4 := Lib.hid (show Three _ _ _ _ _ _ w u4 from ⟨h0, h1, h2, h3, k0, k1, k2, k3, k4, k5⟩)
  go_wp2_with fail
  refine (cmp_grow _ _ _ _ _ S4.out).mono ?_
  rintro e u5 ⟨rfl, T5⟩
  rw [HV.out]
  clear h0 h1 h2 h3 k0 k1 k2 k3 k4 k5
  obtain ⟨h0, h1, h2, h3, k0, k1, k2, k3, k4, k5⟩ := T5
  have S5 := Lib.hid (show Three _ _ _ _ _ _ w u5 from ⟨h0, h1, h2, h3, k0, k1, k2, k3, k4, k5⟩)
  go_wp2_with fail
  go_ret
  exact ⟨rfl, h0⟩
theorem eq_far (w : World) (hx : cmpT a0 a1 a0 a1 = 0) (hy : cmpT a0 a1 a0 a1 = 0) (Z : Int) (hz : cmpT a0 a1 c0 c1 = Z) (h0z : 0 < Z) :
    Calls Try.prog 5 #[.agg #[.int .i64 a0, .int .i64 a1], .agg #[.int .i64 a0, .int .i64 a1], .agg #[.int .i64 c0, .int .i64 c1]] w fun e w' => e = .returned (.bool true) ∧ Below w.heap.size w w' := by
  have HX := Lib.hid hx; clear hx
  have HY := Lib.hid hy; clear hy
  have HZ := Lib.hid hz; clear hz
  have E12 : cmpT 0 1 0 0 = 1 := by decide
  go_enter Try.func5, Try.ntmps5
  go_wp2_with fail
  refine (cmp_grow _ _ _ _ _ (first w)).mono ?_
  rintro e u1 ⟨rfl, T1⟩
  obtain ⟨h0, h1, h2, h3, k0, k1, k2, k3, k4, k5⟩ := T1
  have S1 := Lib.hid (show Three _ _ _ _ _ _ w u1 from ⟨h0, h1, h2, h3, k0, k1, k2, k3, k4, k5⟩)
  go_wp2_with fail
  refine (cmp_grow _ _ _ _ _ S1.out).mono ?_
  rintro e u2 ⟨rfl, T2⟩
  rw [HX.out]
  clear h0 h1 h2 h3 k0 k1 k2 k3 k4 k5
  obtain ⟨h0, h1, h2, h3, k0, k1, k2, k3, k4, k5⟩ := T2
  have S2 := Lib.hid (show Three _ _ _ _ _ _ w u2 from ⟨h0, h1, h2, h3, k0, k1, k2, k3, k4, k5⟩)
  go_wp2_with fail
  refine (cmp_grow _ _ _ _ _ S2.out).mono ?_
  rintro e u3 ⟨rfl, T3⟩
  rw [HY.out]
  clear h0 h1 h2 h3 k0 k1 k2 k3 k4 k5
  obtain ⟨h0, h1, h2, h3, k0, k1, k2, k3, k4, k5⟩ := T3
  have S3 := Lib.hid (show Three _ _ _ _ _ _ w u3 from ⟨h0, h1, h2, h3, k0, k1, k2, k3, k4, k5⟩)
  go_wp2_with fail
  refine (cmp_grow _ _ _ _ _ S3.out).mono ?_
  rintro e u4 ⟨rfl, T4⟩
  rw [HZ.out]
  clear h0 h1 h2 h3 k0 k1 k2 k3 k4 k5
  obtain ⟨h0, h1, h2, h3, k0, k1, k2, k3, k4, k5⟩ := T4
  have S4 := Lib.hid (show Three _ _ _ _ _ _ w u4 from ⟨h0, h1, h2, h3, k0, k1, k2, k3, k4, k5⟩)
  go_wp2_with fail
  go_ret
  exact ⟨rfl, h0⟩
theorem eq_near (w : World) (hx : cmpT a0 a1 a0 a1 = 0) (hy : cmpT a0 a1 a0 a1 = 0) (Z : Int) (hz : cmpT a0 a1 c0 c1 = Z) (h0z : Z ≤ 0) (V : Int) (hv : cmpT a0 a1 c0 c1 = V) (h0v : V ≤ 0) :
    Calls Try.prog 5 #[.agg #[.int .i64 a0, .int .i64 a1], .agg #[.int .i64 a0, .int .i64 a1], .agg #[.int .i64 c0, .int .i64 c1]] w fun e w' => e = .returned (.bool true) ∧ Below w.heap.size w w' := by
  have HX := Lib.hid hx; clear hx
  have HY := Lib.hid hy; clear hy
  have HZ := Lib.hid hz; clear hz
  have HV := Lib.hid hv; clear hv
  have E12 : cmpT 0 1 0 0 = 1 := by decide
  go_enter Try.func5, Try.ntmps5
  go_wp2_with fail
  refine (cmp_grow _ _ _ _ _ (first w)).mono ?_
  rintro e u1 ⟨rfl, T1⟩
  obtain ⟨h0, h1, h2, h3, k0, k1, k2, k3, k4, k5⟩ := T1
  have S1 := Lib.hid (show Three _ _ _ _ _ _ w u1 from ⟨h0, h1, h2, h3, k0, k1, k2, k3, k4, k5⟩)
  go_wp2_with fail
  refine (cmp_grow _ _ _ _ _ S1.out).mono ?_
  rintro e u2 ⟨rfl, T2⟩
  rw [HX.out]
  clear h0 h1 h2 h3 k0 k1 k2 k3 k4 k5
  obtain ⟨h0, h1, h2, h3, k0, k1, k2, k3, k4, k5⟩ := T2
  have S2 := Lib.hid (show Three _ _ _ _ _ _ w u2 from ⟨h0, h1, h2, h3, k0, k1, k2, k3, k4, k5⟩)
  go_wp2_with fail
  refine (cmp_grow _ _ _ _ _ S2.out).mono ?_
  rintro e u3 ⟨rfl, T3⟩
  rw [HY.out]
  clear h0 h1 h2 h3 k0 k1 k2 k3 k4 k5
  obtain ⟨h0, h1, h2, h3, k0, k1, k2, k3, k4, k5⟩ := T3
  have S3 := Lib.hid (show Three _ _ _ _ _ _ w u3 from ⟨h0, h1, h2, h3, k0, k1, k2, k3, k4, k5⟩)
  go_wp2_with fail
  refine (cmp_grow _ _ _ _ _ S3.out).mono ?_
  rintro e u4 ⟨rfl, T4⟩
  rw [HZ.out]
  clear h0 h1 h2 h3 k0 k1 k2 k3 k4 k5
  obtain ⟨h0, h1, h2, h3, k0, k1, k2, k3, k4, k5⟩ := T4
  have S4 := Lib.hid (show Three _ _ _ _ _ _ w u4 from ⟨h0, h1, h2, h3, k0, k1, k2, k3, k4, k5⟩)
  go_wp2_with fail
  refine (cmp_grow _ _ _ _ _ S4.out).mono ?_
  rintro e u5 ⟨rfl, T5⟩
  rw [HV.out]
  clear h0 h1 h2 h3 k0 k1 k2 k3 k4 k5
  obtain ⟨h0, h1, h2, h3, k0, k1, k2, k3, k4, k5⟩ := T5
  have S5 := Lib.hid (show Three _ _ _ _ _ _ w u5 from ⟨h0, h1, h2, h3, k0, k1, k2, k3, k4, k5⟩)
  go_wp2_with fail
  go_ret
  exact ⟨rfl, h0⟩
theorem gt (w : World) (hab : b0 < a0) (hx : cmpT a0 a1 b0 b1 = 1) (hy : cmpT b0 b1 a0 a1 = -1) :
    Calls Try.prog 5 #[.agg #[.int .i64 a0, .int .i64 a1], .agg #[.int .i64 b0, .int .i64 b1], .agg #[.int .i64 c0, .int .i64 c1]] w fun e w' => e = .returned (.bool true) ∧ Below w.heap.size w w' := by
  have HX := Lib.hid hx; clear hx
  have HY := Lib.hid hy; clear hy
  have E12 : cmpT 0 1 0 0 = 1 := by decide
  go_enter Try.func5, Try.ntmps5
  go_wp2_with fail
  refine (cmp_grow _ _ _ _ _ (first w)).mono ?_
  rintro e u1 ⟨rfl, T1⟩
  obtain ⟨h0, h1, h2, h3, k0, k1, k2, k3, k4, k5⟩ := T1
  have S1 := Lib.hid (show Three _ _ _ _ _ _ w u1 from ⟨h0, h1, h2, h3, k0, k1, k2, k3, k4, k5⟩)
  go_wp2_with fail
  refine (cmp_grow _ _ _ _ _ S1.out).mono ?_
  rintro e u2 ⟨rfl, T2⟩
  rw [HX.out]
  clear h0 h1 h2 h3 k0 k1 k2 k3 k4 k5
  obtain ⟨h0, h1, h2, h3, k0, k1, k2, k3, k4, k5⟩ := T2
  have S2 := Lib.hid (show Three _ _ _ _ _ _ w u2 from ⟨h0, h1, h2, h3, k0, k1, k2, k3, k4, k5⟩)
  go_wp2_with fail
  refine (cmp_grow _ _ _ _ _ S2.out).mono ?_
  rintro e u3 ⟨rfl, T3⟩
  rw [HY.out]
  clear h0 h1 h2 h3 k0 k1 k2 k3 k4 k5
  obtain ⟨h0, h1, h2, h3, k0, k1, k2, k3, k4, k5⟩ := T3
  have S3 := Lib.hid (show Three _ _ _ _ _ _ w u3 from ⟨h0, h1, h2, h3, k0, k1, k2, k3, k4, k5⟩)
  go_wp2_with fail
  go_ret
  exact ⟨rfl, h0⟩
theorem gtn (w : World) (hab : b1 < a1) (hx : cmpT a0 a1 a0 b1 = 1) (hy : cmpT a0 b1 a0 a1 = -1) :
    Calls Try.prog 5 #[.agg #[.int .i64 a0, .int .i64 a1], .agg #[.int .i64 a0, .int .i64 b1], .agg #[.int .i64 c0, .int .i64 c1]] w fun e w' => e = .returned (.bool true) ∧ Below w.heap.size w w' := by
  have HX := Lib.hid hx; clear hx
  have HY := Lib.hid hy; clear hy
  have E12 : cmpT 0 1 0 0 = 1 := by decide
  go_enter Try.func5, Try.ntmps5
  go_wp2_with fail
  refine (cmp_grow _ _ _ _ _ (first w)).mono ?_
  rintro e u1 ⟨rfl, T1⟩
  obtain ⟨h0, h1, h2, h3, k0, k1, k2, k3, k4, k5⟩ := T1
  have S1 := Lib.hid (show Three _ _ _ _ _ _ w u1 from ⟨h0, h1, h2, h3, k0, k1, k2, k3, k4, k5⟩)
  go_wp2_with fail
  refine (cmp_grow _ _ _ _ _ S1.out).mono ?_
  rintro e u2 ⟨rfl, T2⟩
  rw [HX.out]
  clear h0 h1 h2 h3 k0 k1 k2 k3 k4 k5
  obtain ⟨h0, h1, h2, h3, k0, k1, k2, k3, k4, k5⟩ := T2
  have S2 := Lib.hid (show Three _ _ _ _ _ _ w u2 from ⟨h0, h1, h2, h3, k0, k1, k2, k3, k4, k5⟩)
  go_wp2_with fail
  refine (cmp_grow _ _ _ _ _ S2.out).mono ?_
  rintro e u3 ⟨rfl, T3⟩
  rw [HY.out]
  clear h0 h1 h2 h3 k0 k1 k2 k3 k4 k5
  obtain ⟨h0, h1, h2, h3, k0, k1, k2, k3, k4, k5⟩ := T3
  have S3 := Lib.hid (show Three _ _ _ _ _ _ w u3 from ⟨h0, h1, h2, h3, k0, k1, k2, k3, k4, k5⟩)
  go_wp2_with fail
  go_ret
  exact ⟨rfl, h0⟩
theorem le_iff (x0 x1 y0 y1 : Int) : cmpT x0 x1 y0 y1 ≤ 0 ↔ x0 < y0 ∨ x0 = y0 ∧ x1 ≤ y1 := by
  rcases (by omega : (x0 < y0 ∨ x0 = y0 ∧ x1 < y1) ∨ (x0 = y0 ∧ x1 = y1) ∨ (y0 < x0 ∨ x0 = y0 ∧ y1 < x1)) with h | h | h
  · rw [cmpT_lt h]; omega
  · rw [cmpT_eq h]; omega
  · rw [cmpT_gt h]; omega
theorem law (a0 a1 b0 b1 c0 c1 : Int) (w : World) :
    Calls Try.prog 5 #[.agg #[.int .i64 a0, .int .i64 a1], .agg #[.int .i64 b0, .int .i64 b1], .agg #[.int .i64 c0, .int .i64 c1]] w fun e w' => e = .returned (.bool true) ∧ Below w.heap.size w w' := by
  have i1 := le_iff a0 a1 b0 b1
  have i2 := le_iff b0 b1 c0 c1
  have i3 := le_iff a0 a1 c0 c1
  rcases (by omega : (a0 < b0 ∨ a0 = b0 ∧ a1 < b1) ∨ (a0 = b0 ∧ a1 = b1) ∨ (b0 < a0 ∨ a0 = b0 ∧ b1 < a1)) with h | h | h
  · have hx := cmpT_lt h
    have hy := cmpT_gt (a0 := b0) (a1 := b1) (b0 := a0) (b1 := a1) (by omega)
    by_cases hz : 0 < cmpT b0 b1 c0 c1
    · rcases h with h | ⟨rfl, h⟩
      · exact lt_far w h hx hy _ rfl hz
      · exact ltn_far w h hx hy _ rfl hz
    · rcases h with h | ⟨rfl, h⟩
      · exact lt_near w h hx hy _ rfl (by omega) _ rfl (by omega)
      · exact ltn_near w h hx hy _ rfl (by omega) _ rfl (by omega)
  · have hx := cmpT_eq h
    obtain ⟨rfl, rfl⟩ := h
    by_cases hz : 0 < cmpT a0 a1 c0 c1
    · exact eq_far w hx hx _ rfl hz
    · exact eq_near w hx hx _ rfl (by omega) _ rfl (by omega)
  · have hx := cmpT_gt h
    have hy := cmpT_lt (a0 := b0) (a1 := b1) (b0 := a0) (b1 := a1) (by omega)
    rcases h with h | ⟨rfl, h⟩
    · exact gt w h hx hy
    · exact gtn w h hx hy
theorem own : ownKnob Try.prog.godebug = none := by kernel_rfl
theorem laidOut : laidOutB Try.prog = true := by kernel_rfl
set_option maxRecDepth 100000 in
theorem contract (H : Type) (enc : TypeId × Value → H) (W : World) (base : Nat) (args : Array Value) (ds gs : List (DataW H)) (before : List MemPlace)
    (hval : ∀ (j : Nat) t v, Try.f5.params[j]? = some t → args[j]? = some v → Value.okWide Try.prog W .any base t v)
    (hW : DataW.Whole enc Try.prog Try.f5.params.toList Rows.stampOrdersSpec.vars false W args.toList ds gs before) :
    Calls Try.prog 5 args W fun e W' => ∃ v, e = .returned v ∧ Rows.stampOrdersSpec.post enc Try.prog Try.f5 false true false false W args v W' := by
  have hW' := hW
  obtain ⟨p, q, hA0, hV, rfl, hfz, hnd⟩ := hW
  have hA : DataW.TrodAll enc Try.prog W 0 (fun _ => true) true Try.f5.params.toList args.toList ds p := hA0
  rw [Try.params5] at hA hval
  obtain ⟨v0, vs0, d0, ds0, p0, q0, hargs, rfl, rfl, h0, r0⟩ := trodAll_cons hA
  obtain ⟨v1, vs1, d1, ds1, p1, q1, rfl, rfl, rfl, h1, r1⟩ := trodAll_cons r0
  obtain ⟨v2, vs2, d2, ds2, p2, q2, rfl, rfl, rfl, h2, r2⟩ := trodAll_cons r1
  obtain ⟨rfl, rfl, rfl⟩ := trodAll_nil r2
  obtain rfl : args = #[v0, v1, v2] := by cases args; simp_all
  obtain ⟨rfl, rfl⟩ := trodVars_none hV
  have k0 := h0
  have lt0 : ∀ x ∈ p0, x.block < W.heap.size := by obtain ⟨m, hm⟩ := k0; exact DataW.trod_lt m _ _ _ hm
  have k1 := h1
  have lt1 : ∀ x ∈ p1, x.block < W.heap.size := by obtain ⟨m, hm⟩ := k1; exact DataW.trod_lt m _ _ _ hm
  have k2 := h2
  have lt2 : ∀ x ∈ p2, x.block < W.heap.size := by obtain ⟨m, hm⟩ := k2; exact DataW.trod_lt m _ _ _ hm
  obtain ⟨a0, a1, rfl⟩ := open_time (hval 0 30 v0 rfl rfl) h0
  obtain ⟨b0, b1, rfl⟩ := open_time (hval 1 30 v1 rfl rfl) h1
  obtain ⟨c0, c1, rfl⟩ := open_time (hval 2 30 v2 rfl rfl) h2
  clear hA0
  refine (law a0 a1 b0 b1 c0 c1 W).mono fun e W' ⟨he, bel⟩ => ?_
  subst he
  exact ⟨_, rfl, _, _, _, [], _, [], hW', trodAll_mk1 (shut_bool Try.underlying4 _), (trodAll_cons_mk (Below.trod laidOut (by kernel_rfl) (of_decide_eq_true (by kernel_rfl)) k0 bel lt0) (trodAll_cons_mk (Below.trod laidOut (by kernel_rfl) (of_decide_eq_true (by kernel_rfl)) k1 bel lt1) (trodAll_cons_mk (Below.trod laidOut (by kernel_rfl) (of_decide_eq_true (by kernel_rfl)) k2 bel lt2) trodAll_mk0))), rfl, bel.frame _, fun h => by cases h⟩
set_option maxRecDepth 100000 in
theorem lifted (os : Os) (started : os.Started) (H : Type) (enc : TypeId × Value → H) :
    ReturnsInHanded {} Try.checked os 5 .any (Rows.stampOrdersSpec.pre6 enc Try.prog Try.f5 Rows.stampOrdersRow.domain false) (Rows.stampOrdersSpec.post enc Try.prog Try.f5 false true false false) := by
  refine returnsInHanded_of_change (C := Try.checked) own started (by kernel_rfl) Try.func5
    (ChangeSpec.witness6 (enc := enc) (C := Try.checked) false ⟨#[], #[.agg #[.int .i64 0, .int .i64 0], .agg #[.int .i64 0, .int .i64 0], .agg #[.int .i64 0, .int .i64 0]], []⟩ 8 (by kernel_rfl) (by kernel_rfl) (by kernel_rfl) (by kernel_rfl)) ?_
  intro W base args ds gs before hval hW _ _
  exact contract H enc W base args ds gs before hval hW
theorem holds : Rows.stampOrdersRow.holds Try.pinned (OpenSpec.ofChange Rows.stampOrdersSpec) :=
  OpenClaim.holds_of_wide 5 Try.f5 rfl rfl rfl rfl rfl rfl rfl ⟨rfl, rfl, rfl, rfl, rfl⟩ rfl rfl rfl rfl rfl (by kernel_rfl) Try.func5 (by kernel_rfl)
    (of_decide_eq_true (by kernel_rfl)) (by unfold Func.isWrapper; first | (rw [if_pos (by decide +kernel)]; kernel_rfl) | (rw [if_neg (by decide +kernel)]; exact ⟨rfl, rfl⟩))
    (fun os started H enc _ => lifted os started H enc)
theorem proved : Rows.StampOrdersSaid := holds
end Go.Proofs.Ytphloeafgblmnaa.stampOrders
