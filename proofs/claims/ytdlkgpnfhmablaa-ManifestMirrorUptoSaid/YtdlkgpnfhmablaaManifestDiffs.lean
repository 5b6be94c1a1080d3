/- ManifestDiffs holds for every input of the second form's bound. Its condition: the arguments hold at most 1048576 values and letters. -/
import Derived.Test.YtdlkgpnfhmablaaSameC
namespace Go.Proofs.Ytdlkgpnfhmablaa
open Go.RowKit
set_option linter.unusedVariables false
set_option linter.unusedSimpArgs false
attribute [local go_sem] cell?_over frozen?_over lt_over le_over

theorem Row.single {α : Type} {s : Shape α} {w : World} {es : List Value} {a : α} (e : TypeId) (h : s.rd w (Old w) es a) : Row s (w.alloc (.cells es.toArray e)) (Old (w.alloc (.cells es.toArray e))) (some ⟨w.heap.size, 0, none⟩) 1 [a] := by
  refine ⟨rfl, fun _ => ⟨w.heap.size, 0, rfl, by unfold Old; simp, fun i hi => ?_⟩⟩
  have h0 : i = 0 := by simp at hi; omega
  subst h0
  refine ⟨es, fun j hj => ?_, ?_⟩
  · simp [World.cell?_alloc_new]
  · exact s.more (s.keep h (Keeps.old_alloc w _)) fun n hn => Old.alloc hn
def lineX : LineD := ⟨⟨#[120]⟩, 0, 0, 0, 0, ⟨0, 0⟩, [], ⟨#[]⟩, ⟨#[]⟩⟩
theorem lineX_rd (w : World) : LineD.rd w (Old w) [.string ⟨#[120]⟩, .int .i64 0, .int .i64 0, .int .i64 0, .int .i64 0, .int .i64 0, .int .i64 0, .slice none 0 0, .string ⟨#[]⟩, .string ⟨#[]⟩] lineX :=
  ⟨none, 0, 0, rfl, by decide, by unfold lineX I64; simp, by unfold lineX I64; simp, by unfold lineX I64; simp, by unfold lineX I64; simp, by unfold lineX I64; simp, by unfold lineX I64; simp, Nat.le_refl _, by simp [maxLen], Row.nil, by decide, by decide⟩
theorem atL_one : atL [lineX] lineX.path = some 0 := by unfold atL; simp
theorem diff_one : diffL [] [lineX] = [⟨⟨#[120]⟩, 1⟩] := by
  have h : changes [] [lineX] = [⟨⟨#[120]⟩, 1⟩] := by
    unfold changes
    simp only [List.length_nil, List.range_zero, List.filterMap_nil, List.nil_append, List.length_cons]
    have : stepB [] [lineX] 0 = some ⟨⟨#[120]⟩, 1⟩ := by
      unfold stepB
      rw [show ([lineX] : List LineD).getD 0 default = lineX from rfl, if_pos ⟨atL_one, rfl⟩]
      rfl
    simp [List.range_succ, this]
  rw [diffL, h]; rfl
theorem diff_eno : diffL [lineX] [] = [⟨⟨#[120]⟩, 2⟩] := by
  rw [diffL_swap, diff_one]; rfl
theorem small_one : SmallL [lineX] := by intro d hd; simp at hd; subst hd; simp [lineX]
theorem small_nil : SmallL [] := by intro d hd; cases hd
theorem data_bulkL (d : LineD) : d.data.length ≤ Shape.LineD.bulk d := by
  have h : Shape.byte.slice.bulk d.data ≤ Shape.LineD.bulk d := by simp only [Shape.LineD]; omega
  have h2 := len_bulk Shape.byte d.data
  simp only [Shape.slice] at h
  omega
theorem own_row {α : Type} {s : Shape α} {e : TypeId} {w : World} {base : Nat} {M : Nat → Prop} {v : Value} {l : List α} (h : Own s e w base M v l) : ∃ A c, v = .slice A l.length c ∧ l.length ≤ c ∧ Row s w (Old w) A l.length l := by
  obtain ⟨A, n, c, rfl, hnc, _, hrow⟩ := h.rd_old
  have := hrow.1
  subst this
  exact ⟨A, c, rfl, hnc, hrow⟩
theorem row_first {w : World} {A : Option Addr} {n : Nat} {x : ChangeD} {l : List ChangeD} (h : Row Shape.ChangeD w (Old w) A n (x :: l)) : ∃ b off, A = some ⟨b, off, none⟩ ∧ w.cell? ⟨b, off, none⟩ = some (.string x.path) ∧ w.cell? ⟨b, off + 1, none⟩ = some (.int .i64 x.what) := by
  have hn : 0 < n := by have := h.1; simp at this; omega
  obtain ⟨b, off, es, hl, e, _, hc, hr⟩ := h.at_ hn
  obtain ⟨rfl, _⟩ := hr
  have c0 := hc 0 (by decide)
  have c1 := hc 1 (by decide)
  simp at c0 c1
  exact ⟨b, off, e, c0, c1⟩
namespace manifestDiffs
open Go.ChangeShapes Go.WideShapes Go.ChangeAt Go.RowKit
set_option maxRecDepth 100000 in
set_option maxHeartbeats 600000 in
theorem law {A B : Option Addr} {n m c c' : Nat} {la lb : List LineD} (w : World) (hA : Row Shape.LineD w (Old w) A n la) (hB : Row Shape.LineD w (Old w) B m lb) (sA : SmallL la) (sB : SmallL lb) (hn : n ≤ 10000000) (hm : m ≤ 10000000) :
    Calls Try.prog 5 #[.slice A n c, .slice B m c'] w fun e w' => e = .returned (.bool true) ∧ Below w.heap.size w w' := by
  have SA := Lib.hid sA; have SB := Lib.hid sB; clear sA sB
  have hla := hA.1; have hlb := hB.1
  subst hla hlb
  go_enter Try.func5, Try.ntmps5
  go_wp2_with fail
  have h1 := manDiff (c := 0) (c' := 1) (A := none) (n := 0) (la := []) (lb := [lineX]) (w.alloc (.cells #[.string ⟨#[120]⟩, .int .i64 0, .int .i64 0, .int .i64 0, .int .i64 0, .int .i64 0, .int .i64 0, .slice none 0 0, .string ⟨#[]⟩, .string ⟨#[]⟩] 34)) Row.nil (Row.single _ (lineX_rd w)) small_nil small_one (by omega) (by omega)
  rw [diff_one] at h1
  refine h1.mono ?_
  rintro e w2 ⟨v, rfl, hown, hb⟩
  have hb2 := (below_alloc' w _).trans (hb.mono (by simp))
  obtain ⟨A1, c1, rfl, _, hrow1⟩ := own_row hown
  obtain ⟨b1, off1, rfl, k0, k1⟩ := row_first hrow1
  have B2 := Lib.hid hb2
  clear hrow1 hown hb hb2 h1
  go_wp2_with fail
  refine (copyLines (c := c) w2 (hA.below B2.out) SA.out (by omega)).mono ?_
  rintro e w3 ⟨v3, δ3, M3, rfl, hw3, hown3, hM3⟩
  have hb3 : Below w2.heap.size w2 w3 := by rw [hw3]; exact below_over _ _
  obtain ⟨A3, c3, rfl, _, hrow3⟩ := own_row hown3
  have B3 := Lib.hid (below_old B2.out hb3)
  have R3 := Lib.hid hrow3
  clear hw3 hown3 hM3 hb3 hrow3 k0 k1
  go_wp2_with fail
  refine (copyLines (c := c') w3 (hB.below B3.out) SB.out (by omega)).mono ?_
  rintro e w4 ⟨v4, δ4, M4, rfl, hw4, hown4, hM4⟩
  have hb4 : Below w3.heap.size w3 w4 := by rw [hw4]; exact below_over _ _
  obtain ⟨A4, c4, rfl, _, hrow4⟩ := own_row hown4
  have B4 := Lib.hid (below_old B3.out hb4)
  have R34 := Lib.hid (R3.out.below hb4)
  have R4 := Lib.hid hrow4
  clear hw4 hown4 hM4 hb4 hrow4 R3
  go_wp2_with fail
  refine (manDiff (c := c3) (c' := c4) w4 R34.out R4.out SA.out SB.out (by omega) (by omega)).mono ?_
  rintro e w5 ⟨v5, rfl, hown5, hb5⟩
  obtain ⟨A5, c5, rfl, _, hrow5⟩ := own_row hown5
  have B5 := Lib.hid (below_old B4.out hb5)
  have R35 := Lib.hid (R34.out.below hb5)
  have R45 := Lib.hid (R4.out.below hb5)
  have R5 := Lib.hid hrow5
  clear hown5 hb5 hrow5 R34 R4
  go_wp2_with fail
  refine (refDiff (c := c) (c' := c') w5 (hA.below B5.out) (hB.below B5.out) SA.out SB.out (by omega) (by omega)).mono ?_
  rintro e w6 ⟨v6, rfl, hown6, hb6⟩
  obtain ⟨A6, c6, rfl, _, hrow6⟩ := own_row hown6
  have B6 := Lib.hid (below_old B5.out hb6)
  have R36 := Lib.hid (R35.out.below hb6)
  have R46 := Lib.hid (R45.out.below hb6)
  have R56 := Lib.hid (R5.out.below hb6)
  have R6 := Lib.hid hrow6
  have hlen := diffL_len la lb
  have LD := Lib.hid hlen
  clear hown6 hb6 hrow6 R35 R45 R5 hlen
  go_wp2_with fail
  refine (sameChanges_eq (c := c5) (c' := c6) w6 R56.out R6.out (by have := LD.out; omega)).mono ?_
  rintro e w7 ⟨rfl, δ7, hw7⟩
  have hb7 : Below w6.heap.size w6 w7 := by rw [hw7]; exact below_over _ _
  have B7 := Lib.hid (below_old B6.out hb7)
  have R37 := Lib.hid (R36.out.below hb7)
  have R47 := Lib.hid (R46.out.below hb7)
  clear hw7 hb7 R36 R46 R56 R6
  go_wp2_with fail
  have e3 := sameLines_eq (c := c3) (c' := c) w7 R37.out (hA.below B7.out) SA.out (by omega)
  refine e3.mono ?_
  rintro e w8 ⟨rfl, δ8, hw8⟩
  have hb8 : Below w7.heap.size w7 w8 := by rw [hw8]; exact below_over _ _
  have B8 := Lib.hid (below_old B7.out hb8)
  have R48 := Lib.hid (R47.out.below hb8)
  clear hw8 hb8 R37 R47 e3
  go_wp2_with fail
  have e4 := sameLines_eq (c := c4) (c' := c') w8 R48.out (hB.below B8.out) SB.out (by omega)
  refine e4.mono ?_
  rintro e w9 ⟨rfl, δ9, hw9⟩
  have hb9 : Below w8.heap.size w8 w9 := by rw [hw9]; exact below_over _ _
  have B9 := Lib.hid (below_old B8.out hb9)
  clear hw9 hb9 e4
  go_wp2_with fail
  go_ret
  exact ⟨rfl, B9.out⟩
theorem own : ownKnob Try.prog.godebug = none := by kernel_rfl
theorem laidOut : laidOutB Try.prog = true := by kernel_rfl
set_option maxRecDepth 100000 in
theorem contract (H : Type) (enc : TypeId × Value → H) (W : World) (base : Nat) (args : Array Value) (ds gs : List (DataW H)) (before : List MemPlace)
    (hval : ∀ (j : Nat) t v, Try.f5.params[j]? = some t → args[j]? = some v → Value.okWide Try.prog W .any base t v)
    (hW : DataW.Whole enc Try.prog Try.f5.params.toList Rows.manifestDiffsSpec.vars false W args.toList ds gs before) (hk : Rows.uptoSmall H (ds ++ gs) = true) :
    Calls Try.prog 5 args W fun e W' => ∃ v, e = .returned v ∧ Rows.manifestDiffsSpec.post enc Try.prog Try.f5 false true false false W args v W' := by
  have hW' := hW
  obtain ⟨p, q, hA0, hV, rfl, hfz, hnd⟩ := hW
  have hA : DataW.TrodAll enc Try.prog W 0 (fun _ => true) true Try.f5.params.toList args.toList ds p := hA0
  rw [Try.params5] at hA hval
  obtain ⟨v0, vs0, d0, ds0, p0, q0, hargs, rfl, rfl, h0, r0⟩ := trodAll_cons hA
  obtain ⟨v1, vs1, d1, ds1, p1, q1, rfl, rfl, rfl, h1, r1⟩ := trodAll_cons r0
  obtain ⟨rfl, rfl, rfl⟩ := trodAll_nil r1
  obtain rfl : args = #[v0, v1] := by cases args; simp_all
  obtain ⟨rfl, rfl⟩ := trodVars_none hV
  have k0 := h0
  have lt0 : ∀ x ∈ p0, x.block < W.heap.size := by obtain ⟨m, hm⟩ := k0; exact DataW.trod_lt m _ _ _ hm
  have k1 := h1
  have lt1 : ∀ x ∈ p1, x.block < W.heap.size := by obtain ⟨m, hm⟩ := k1; exact DataW.trod_lt m _ _ _ hm
  obtain ⟨m0, hm0⟩ := h0
  obtain ⟨a0, len0, cap0, rfl⟩ := okWide_slice Try.underlying27 (hval 0 27 v0 rfl rfl)
  obtain ⟨la, ⟨u0, hcs0, A0, n0, c0, rfl, hnc0, hcm0, hrow0⟩, hbk0⟩ := (opens_slice (by kernel_rfl) Try.underlying27 opens_LineD).2 hm0
  simp only [Value.cells, List.cons.injEq, and_true, Value.slice.injEq] at hcs0
  obtain ⟨rfl, rfl, rfl⟩ := hcs0
  obtain ⟨m1, hm1⟩ := h1
  obtain ⟨a1, len1, cap1, rfl⟩ := okWide_slice Try.underlying27 (hval 1 27 v1 rfl rfl)
  obtain ⟨lb, ⟨u1, hcs1, A1, n1, c1, rfl, hnc1, hcm1, hrow1⟩, hbk1⟩ := (opens_slice (by kernel_rfl) Try.underlying27 opens_LineD).2 hm1
  simp only [Value.cells, List.cons.injEq, and_true, Value.slice.injEq] at hcs1
  obtain ⟨rfl, rfl, rfl⟩ := hcs1
  have hbound : Rows.uptoBulkAll [d0, d1] ≤ 1048576 := of_decide_eq_true hk
  simp only [Rows.uptoBulkAll] at hbound
  have hb0 : bulkAll Shape.LineD.bulk la + 1 ≤ Rows.uptoBulk d0 := hbk0
  have hb1 : bulkAll Shape.LineD.bulk lb + 1 ≤ Rows.uptoBulk d1 := hbk1
  have hl0 := len_bulk Shape.LineD la
  have hl1 := len_bulk Shape.LineD lb
  have hn0 := hrow0.1
  have hn1 := hrow1.1
  have sm0 : SmallL la := fun d hd => by have h1 := mem_bulk Shape.LineD.bulk hd; have h2 := data_bulkL d; omega
  have sm1 : SmallL lb := fun d hd => by have h1 := mem_bulk Shape.LineD.bulk hd; have h2 := data_bulkL d; omega
  clear hA0
  refine (law W hrow0 hrow1 sm0 sm1 (by omega) (by omega)).mono fun e W' ⟨he, bel⟩ => ?_
  subst he
  exact ⟨_, rfl, _, _, _, [], _, [], hW', trodAll_mk1 (shut_bool Try.underlying4 _), (trodAll_cons_mk (Below.trod laidOut (by kernel_rfl) (of_decide_eq_true (by kernel_rfl)) k0 bel lt0) (trodAll_cons_mk (Below.trod laidOut (by kernel_rfl) (of_decide_eq_true (by kernel_rfl)) k1 bel lt1) trodAll_mk0)), rfl, bel.frame _, fun h => by cases h⟩
set_option maxRecDepth 100000 in
theorem lifted (os : Os) (started : os.Started) (H : Type) (enc : TypeId × Value → H) (F : Stop.Interp) :
    ReturnsInHanded {} Try.checked os 5 .any ((Rows.OpenSpec.upto Rows.manifestDiffsSpec).pre6 enc Try.prog Try.f5 Rows.manifestDiffsUptoRow.domain false) (((Rows.OpenSpec.upto Rows.manifestDiffsSpec).at F).post enc Try.prog Try.f5 false true false false) := by
  refine returnsInHanded_of_cond (C := Try.checked) (s := Rows.OpenSpec.upto Rows.manifestDiffsSpec) (k := Rows.uptoSmall) rfl own started (by kernel_rfl) Try.func5
    (OpenSpec.witness (enc := enc) (C := Try.checked) (s := Rows.OpenSpec.upto Rows.manifestDiffsSpec) (k := Rows.uptoSmall) rfl false ⟨#[], #[.slice none 0 0, .slice none 0 0], []⟩ 8 (by kernel_rfl) (by kernel_rfl) (by kernel_rfl)
      (x := ([.nil, .nil], [], [])) (by kernel_rfl) rfl (by kernel_rfl)) ?_
  intro W base args ds gs before hval hW _ hk _
  exact contract H enc W base args ds gs before hval hW hk
theorem holds : Rows.manifestDiffsUptoRow.holds Try.pinned (Rows.OpenSpec.upto Rows.manifestDiffsSpec) :=
  OpenClaim.holds_of_cond 5 Try.f5 rfl rfl rfl rfl rfl rfl rfl ⟨rfl, rfl, rfl, rfl, rfl⟩ rfl rfl rfl rfl rfl (by kernel_rfl) Try.func5 (by kernel_rfl)
    (of_decide_eq_true (by kernel_rfl)) (by unfold Func.isWrapper; first | (rw [if_pos (by decide +kernel)]; kernel_rfl) | (rw [if_neg (by decide +kernel)]; exact ⟨rfl, rfl⟩))
    (fun os started H enc _ F => lifted os started H enc F)
theorem proved : Rows.ManifestDiffsUptoSaid := holds
end manifestDiffs
end Go.Proofs.Ytdlkgpnfhmablaa
