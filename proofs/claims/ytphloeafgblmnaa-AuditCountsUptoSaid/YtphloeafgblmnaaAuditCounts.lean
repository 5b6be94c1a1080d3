/- AuditCounts holds wherever its second form's bound is met. -/
import Derived.Test.YtphloeafgblmnaaCount2
namespace Go.Proofs.Ytphloeafgblmnaa.auditCounts
open Go.ChangeShapes Go.WideShapes Go.ChangeAt Go.RowKit
attribute [local go_sem] cell?_over frozen?_over lt_over le_over lt2 lt3 lt4 lt5
set_option linter.unusedVariables false
set_option linter.unusedSimpArgs false
def c1 : CallD := { op := 1, handle := 0, other := 2, name := ⟨#[]⟩, text := ⟨#[]⟩, data := [], mode := 0, uid := 0, gid := 0, mtime := ⟨0, 0⟩, code := 0, answer := 1 }
def c2 : CallD := { op := 4, handle := 1, other := 0, name := ⟨#[100]⟩, text := ⟨#[]⟩, data := [], mode := 448, uid := 0, gid := 0, mtime := ⟨0, 0⟩, code := 0, answer := 0 }
theorem c1_rd (w : World) (M : Nat → Prop) : CallD.rd w M [.int .i64 1, .int .i64 0, .int .i64 2, .string ⟨#[]⟩, .string ⟨#[]⟩, .slice none 0 0, .int .i64 0, .int .i64 0, .int .i64 0, .int .i64 0, .int .i64 0, .int .i64 0, .int .i64 1] c1 := by
  refine ⟨none, 0, 0, rfl, ?_⟩
  simp only [c1, I64]
  exact ⟨by decide, by decide, by decide, by decide, by decide, by decide, by decide, Row.nil, by decide, by decide, by decide, by decide, by decide, by decide, by decide⟩
theorem c2_rd (w : World) (M : Nat → Prop) : CallD.rd w M [.int .i64 4, .int .i64 1, .int .i64 0, .string ⟨#[100]⟩, .string ⟨#[]⟩, .slice none 0 0, .int .i64 448, .int .i64 0, .int .i64 0, .int .i64 0, .int .i64 0, .int .i64 0, .int .i64 0] c2 := by
  refine ⟨none, 0, 0, rfl, ?_⟩
  simp only [c2, I64]
  exact ⟨by decide, by decide, by decide, by decide, by decide, by decide, by decide, Row.nil, by decide, by decide, by decide, by decide, by decide, by decide, by decide⟩
theorem cells12 (w : World) (M : Nat → Prop) : Cells Shape.CallD w M [.int .i64 1, .int .i64 0, .int .i64 2, .string ⟨#[]⟩, .string ⟨#[]⟩, .slice none 0 0, .int .i64 0, .int .i64 0, .int .i64 0, .int .i64 0, .int .i64 0, .int .i64 0, .int .i64 1, .int .i64 4, .int .i64 1, .int .i64 0, .string ⟨#[100]⟩, .string ⟨#[]⟩, .slice none 0 0, .int .i64 448, .int .i64 0, .int .i64 0, .int .i64 0, .int .i64 0, .int .i64 0, .int .i64 0] [c1, c2] :=
  ⟨_, _, rfl, c1_rd w M, _, [], rfl, c2_rd w M, rfl⟩
set_option maxRecDepth 100000 in
set_option maxHeartbeats 1000000 in
theorem little (w : World) : Calls Try.prog 9 #[] w fun e w' => ∃ x0 x1 x2 x3 x4 x5 x6 x7 x8 A δ, e = .returned (.agg #[x0, x1, x2, x3, x4, x5, x6, x7, x8, .slice A 2 2]) ∧ w' = over w δ ∧ Row Shape.CallD w' (Old w') A 2 [c1, c2] := by
  go_enter Try.func9, Try.ntmps9
  go_wp2
  go_returns
  refine ⟨_, _, _, _, _, _, _, _, _, _, _, rfl, over_of_below (by go_grown), ?_⟩
  refine Cells.row (cells12 _ _) ?_ ?_
  · simp
  · intro j u hu
    rw [Nat.zero_add]
    refine (Blk.cell (blks4 (Below.refl _ _)).2.2.2.1 j).trans ?_
    simpa using hu
theorem tally_little : (tally 2 [c1, c2]).made = 1 := by decide +kernel
set_option maxRecDepth 100000 in
set_option maxHeartbeats 4000000 in
theorem law {A : Option Addr} {n c : Nat} {l : List CallD} (w : World) (h : Row Shape.CallD w (Old w) A n l) (hs : SmallCalls l) (hn : n ≤ 1000000000000) :
    Calls Try.prog 3 #[.slice A n c] w fun e w' => e = .returned (.bool true) ∧ Below w.heap.size w w' := by
  have hlit := tally_little
  generalize htl : tally 2 [c1, c2] = t at hlit
  have HT := Lib.hid htl; clear htl
  have hf1 : ∀ (w : World) (y0 y1 y2 y3 y4 y5 y6 y7 y8 y9 : Value), (Instr.field 38 (.agg #[y0, y1, y2, y3, y4, y5, y6, y7, y8, y9]) 4).run Try.prog w = .ok y9 w := fun _ _ _ _ _ _ _ _ _ _ _ => by kernel_rfl
  have hf2 : ∀ (w : World) (y0 y1 y2 y3 y4 y5 y6 : Value), (Instr.field 24 (.agg #[y0, y1, y2, y3, y4, y5, y6]) 2).run Try.prog w = .ok y2 w := fun _ _ _ _ _ _ _ _ => by kernel_rfl
  go_enter Try.func3, Try.ntmps3
  go_wp2_with fail
  refine (little _).mono ?_
  rintro e u ⟨x0, x1, x2, x3, x4, x5, x6, x7, x8, B, δ, rfl, hu, hrow⟩
  have b0 := below_of hu; clear hu
  have HR := Lib.hid hrow; clear hrow
  go_wp2_with fail
  refine (auditCount _ HR.out (by omega)).mono ?_
  rintro e u1 ⟨rfl, δ1, hu1⟩
  have b1 := b0.trans ((below_of hu1).mono b0.size); clear hu1
  rw [show tally ((2 : Nat) : Int) [c1, c2] = t from HT.out]
  simp only [TallyD.cells, hlit]
  go_wp2_with fail
  refine (copyCalls _ (h.below b1) hs hn).mono ?_
  rintro e u2 ⟨v, δ2, M, rfl, hu2, hown, hM⟩
  have b2 := b1.trans ((below_of hu2).mono b1.size); clear hu2
  obtain ⟨A', n', c', rfl, hnc, hcm, hrow'⟩ := hown.rd_old
  have en : n' = n := by have := hrow'.1; have := h.1; omega
  subst en
  have HR' := Lib.hid hrow'; clear hrow' hown hM
  go_wp2_with fail
  refine (auditCount _ HR'.out hn).mono ?_
  rintro e u3 ⟨rfl, δ3, hu3⟩
  have hR3 := Lib.hid (HR'.out.below (below_of hu3))
  have b3 := b2.trans ((below_of hu3).mono b2.size); clear hu3
  generalize ht : tally n' l = t' at *
  have HT' := Lib.hid ht; clear ht
  obtain ⟨t0, t1, t2, t3, t4, t5, t6⟩ := t'
  simp only [TallyD.cells]
  go_wp2_with fail
  refine (refCount _ (h.below (b3.trans (below_alloc _ _ b3.size))) hn).mono ?_
  rintro e u4 ⟨rfl, δ4, hu4⟩
  obtain ⟨k1, b4, hsz4⟩ := blks1 (below_of hu4)
  have hR4 := Lib.hid (hR3.out.below b4)
  have b5 := b3.trans (b4.mono b3.size)
  clear hu4
  rw [HT'.out]
  simp only [TallyD.cells]
  have q1 := k1.cell
  have z1 : u3.heap.size < u4.heap.size := by omega
  have hw4 : w.heap.size ≤ u4.heap.size := b5.size
  have HB5 := Lib.hid b5
  clear b0 b1 b2 b3 b4 b5 k1 hsz4
  go_wp2_with fail
  refine (sameCalls_eq _ (hR4.out.below (below_alloc' _ _)) (h.below (HB5.out.trans (below_alloc _ _ hw4))) hs (by omega)).mono ?_
  rintro e u5 ⟨rfl, δ5, hu5⟩
  have b6 := HB5.out.trans ((below_alloc' _ _).trans (below_of hu5 |>.mono (by simp)) |>.mono hw4)
  clear hu5
  go_wp2_with fail
  go_ret
  exact ⟨rfl, b6⟩
theorem data_bulk (d : CallD) : d.data.length ≤ Shape.CallD.bulk d := by
  have h : Shape.byte.slice.bulk d.data ≤ Shape.CallD.bulk d := by simp only [Shape.CallD]; omega
  have h2 := len_bulk Shape.byte d.data
  simp only [Shape.slice] at h
  omega
theorem own : ownKnob Try.prog.godebug = none := by kernel_rfl
theorem laidOut : laidOutB Try.prog = true := by kernel_rfl
set_option maxRecDepth 100000 in
theorem contract (H : Type) (enc : TypeId × Value → H) (W : World) (base : Nat) (args : Array Value) (ds gs : List (DataW H)) (before : List MemPlace)
    (hval : ∀ (j : Nat) t v, Try.f3.params[j]? = some t → args[j]? = some v → Value.okWide Try.prog W .any base t v)
    (hW : DataW.Whole enc Try.prog Try.f3.params.toList Rows.auditCountsSpec.vars false W args.toList ds gs before) (hk : Rows.uptoSmall H (ds ++ gs) = true) :
    Calls Try.prog 3 args W fun e W' => ∃ v, e = .returned v ∧ Rows.auditCountsSpec.post enc Try.prog Try.f3 false true false false W args v W' := by
  have hW' := hW
  obtain ⟨p, q, hA0, hV, rfl, hfz, hnd⟩ := hW
  have hA : DataW.TrodAll enc Try.prog W 0 (fun _ => true) true Try.f3.params.toList args.toList ds p := hA0
  rw [Try.params3] at hA hval
  obtain ⟨v0, vs0, d0, ds0, p0, q0, hargs, rfl, rfl, h0, r0⟩ := trodAll_cons hA
  obtain ⟨rfl, rfl, rfl⟩ := trodAll_nil r0
  obtain rfl : args = #[v0] := by cases args; simp_all
  obtain ⟨rfl, rfl⟩ := trodVars_none hV
  have k0 := h0
  have lt0 : ∀ x ∈ p0, x.block < W.heap.size := by obtain ⟨m, hm⟩ := k0; exact DataW.trod_lt m _ _ _ hm
  obtain ⟨m0, hm0⟩ := h0
  obtain ⟨a0, len0, cap0, rfl⟩ := okWide_slice Try.underlying22 (hval 0 22 v0 rfl rfl)
  obtain ⟨l, ⟨v, hcs, A, n, c, rfl, hnc, hcm, hrow⟩, hbk⟩ := (opens_slice (by kernel_rfl) Try.underlying22 opens_CallD).2 hm0
  simp only [Value.cells, List.cons.injEq, and_true, Value.slice.injEq] at hcs
  obtain ⟨rfl, rfl, rfl⟩ := hcs
  have hbound : Rows.uptoBulkAll [d0] ≤ 1048576 := of_decide_eq_true hk
  simp only [Rows.uptoBulkAll] at hbound
  have hbl : bulkAll Shape.CallD.bulk l + 1 ≤ 1048576 := Nat.le_trans hbk (by omega)
  have hlen := len_bulk Shape.CallD l
  have hll := hrow.1
  have hsm : SmallCalls l := fun d hd => by have h1 := mem_bulk Shape.CallD.bulk hd; have h2 := data_bulk d; omega
  clear hA0
  refine (law W hrow hsm (by omega)).mono fun e W' ⟨he, bel⟩ => ?_
  subst he
  exact ⟨_, rfl, _, _, _, [], _, [], hW', trodAll_mk1 (shut_bool Try.underlying4 _), (trodAll_cons_mk (Below.trod laidOut (by kernel_rfl) (of_decide_eq_true (by kernel_rfl)) k0 bel lt0) trodAll_mk0), rfl, bel.frame _, fun h => by cases h⟩
set_option maxRecDepth 100000 in
theorem lifted (os : Os) (started : os.Started) (H : Type) (enc : TypeId × Value → H) (F : Stop.Interp) :
    ReturnsInHanded {} Try.checked os 3 .any ((Rows.OpenSpec.upto Rows.auditCountsSpec).pre6 enc Try.prog Try.f3 Rows.auditCountsUptoRow.domain false) (((Rows.OpenSpec.upto Rows.auditCountsSpec).at F).post enc Try.prog Try.f3 false true false false) := by
  refine returnsInHanded_of_cond (C := Try.checked) (s := Rows.OpenSpec.upto Rows.auditCountsSpec) (k := Rows.uptoSmall) rfl own started (by kernel_rfl) Try.func3
    (OpenSpec.witness (enc := enc) (C := Try.checked) (s := Rows.OpenSpec.upto Rows.auditCountsSpec) (k := Rows.uptoSmall) rfl false ⟨#[], #[.slice none 0 0], []⟩ 8 (by kernel_rfl) (by kernel_rfl) (by kernel_rfl)
      (x := ([.nil], [], [])) (by kernel_rfl) rfl (by kernel_rfl)) ?_
  intro W base args ds gs before hval hW _ hk _
  exact contract H enc W base args ds gs before hval hW hk
theorem holds : Rows.auditCountsUptoRow.holds Try.pinned (Rows.OpenSpec.upto Rows.auditCountsSpec) :=
  OpenClaim.holds_of_cond 3 Try.f3 rfl rfl rfl rfl rfl rfl rfl ⟨rfl, rfl, rfl, rfl, rfl⟩ rfl rfl rfl rfl rfl (by kernel_rfl) Try.func3 (by kernel_rfl)
    (of_decide_eq_true (by kernel_rfl)) (by unfold Func.isWrapper; first | (rw [if_pos (by decide +kernel)]; kernel_rfl) | (rw [if_neg (by decide +kernel)]; exact ⟨rfl, rfl⟩))
    (fun os started H enc _ F => lifted os started H enc F)
theorem proved : Rows.AuditCountsUptoSaid := holds
end Go.Proofs.Ytphloeafgblmnaa.auditCounts
