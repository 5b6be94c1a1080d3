/- ManifestMirror holds for every input of the second form's bound. Its condition: the arguments hold at most 1048576 values and letters. -/
import Derived.Test.YtdlkgpnfhmablaaManifestDiffs
namespace Go.Proofs.Ytdlkgpnfhmablaa
open Go.RowKit
set_option linter.unusedVariables false
set_option linter.unusedSimpArgs false
attribute [local go_sem] cell?_over frozen?_over lt_over le_over

theorem row_two {w : World} {A A' : Option Addr} {n : Nat} {l l' : List ChangeD} (h : Row Shape.ChangeD w (Old w) A n l) (h' : Row Shape.ChangeD w (Old w) A' n l') {k : Nat} (hk : k < n) :
    ∃ b off b' off', ∃ hl : k < l.length, ∃ hl' : k < l'.length, A = some ⟨b, off, none⟩ ∧ A' = some ⟨b', off', none⟩ ∧ b < w.heap.size ∧ b' < w.heap.size ∧
      w.cell? ⟨b, off + k * 2, none⟩ = some (.string l[k].path) ∧ w.cell? ⟨b, off + k * 2 + 1, none⟩ = some (.int .i64 l[k].what) ∧ w.cell? ⟨b', off' + k * 2, none⟩ = some (.string l'[k].path) ∧ w.cell? ⟨b', off' + k * 2 + 1, none⟩ = some (.int .i64 l'[k].what) := by
  obtain ⟨b, off, es, hl, e, hb, hc, hr⟩ := h.at_ hk
  obtain ⟨b', off', es', hl', e', hb', hc', hr'⟩ := h'.at_ hk
  obtain ⟨rfl, _⟩ := hr
  obtain ⟨rfl, _⟩ := hr'
  have c0 := hc 0 (by decide)
  have c1 := hc 1 (by decide)
  have d0 := hc' 0 (by decide)
  have d1 := hc' 1 (by decide)
  have e2 : Shape.ChangeD.size = 2 := rfl
  simp only [e2, Nat.add_zero, List.getElem?_cons_zero, List.getElem?_cons_succ] at c0 c1 d0 d1
  exact ⟨b, off, b', off', hl, hl', e, e', hb, hb', c0, c1, d0, d1⟩
theorem sorted_step {l : List ChangeD} (h : SortedC l) {k : Nat} (hk : k < l.length) (h0 : 0 < k) : Op.bytesLess l[k].path.toList (l[k - 1]'(by omega)).path.toList = false ∧ (l[k].path.toList == (l[k - 1]'(by omega)).path.toList) = false := by
  unfold SortedC at h
  rw [List.pairwise_iff_getElem] at h
  have := h (k - 1) k (by omega) hk (by omega)
  refine ⟨pl_asymm this, str_ne fun e => ?_⟩
  rw [e, pl_irrefl] at this
  cases this
namespace manifestMirror
open Go.ChangeShapes Go.WideShapes Go.ChangeAt Go.RowKit
set_option maxRecDepth 100000 in
set_option maxHeartbeats 600000 in
theorem law {A B : Option Addr} {n m c c' : Nat} {la lb : List LineD} (w : World) (hA : Row Shape.LineD w (Old w) A n la) (hB : Row Shape.LineD w (Old w) B m lb) (sA : SmallL la) (sB : SmallL lb) (hn : n ≤ 10000000) (hm : m ≤ 10000000) :
    Calls Try.prog 6 #[.slice A n c, .slice B m c'] w fun e w' => e = .returned (.bool true) ∧ Below w.heap.size w w' := by
  have SA := Lib.hid sA; have SB := Lib.hid sB; clear sA sB
  have hla := hA.1; have hlb := hB.1
  subst hla hlb
  go_enter Try.func6, Try.ntmps6
  go_wp2_with fail
  have h1 := manDiff (c := 1) (c' := 0) (B := none) (m := 0) (la := [lineX]) (lb := []) (w.alloc (.cells #[.string ⟨#[120]⟩, .int .i64 0, .int .i64 0, .int .i64 0, .int .i64 0, .int .i64 0, .int .i64 0, .slice none 0 0, .string ⟨#[]⟩, .string ⟨#[]⟩] 34)) (Row.single _ (lineX_rd w)) Row.nil small_one small_nil (by omega) (by omega)
  rw [diff_eno] at h1
  refine h1.mono ?_
  rintro e w2 ⟨v, rfl, hown, hb⟩
  have hb2 := (below_alloc' w _).trans (hb.mono (by simp))
  obtain ⟨A1, c1, rfl, _, hrow1⟩ := own_row hown
  obtain ⟨b1, off1, rfl, k0, k1⟩ := row_first hrow1
  have B2 := Lib.hid hb2
  clear hrow1 hown hb hb2 h1
  go_wp2_with fail
  refine (copyLines (c := c) w2 (hA.below B2.out) SA.out (by omega)).mono ?_
  rintro e w3 ⟨v3, δ3, M3, rfl, hw3, hown3, hM3⟩
  have hb3 : Below w2.heap.size w2 w3 := by rw [hw3]; exact below_over _ _
  obtain ⟨A3, c3, rfl, _, hrow3⟩ := own_row hown3
  have B3 := Lib.hid (below_old B2.out hb3)
  have R3 := Lib.hid hrow3
  clear hw3 hown3 hM3 hb3 hrow3 k0 k1
  go_wp2_with fail
  refine (copyLines (c := c') w3 (hB.below B3.out) SB.out (by omega)).mono ?_
  rintro e w4 ⟨v4, δ4, M4, rfl, hw4, hown4, hM4⟩
  have hb4 : Below w3.heap.size w3 w4 := by rw [hw4]; exact below_over _ _
  obtain ⟨A4, c4, rfl, _, hrow4⟩ := own_row hown4
  have B4 := Lib.hid (below_old B3.out hb4)
  have R34 := Lib.hid (R3.out.below hb4)
  have R4 := Lib.hid hrow4
  clear hw4 hown4 hM4 hb4 hrow4 R3
  go_wp2_with fail
  refine (manDiff (c := c3) (c' := c4) w4 R34.out R4.out SA.out SB.out (by omega) (by omega)).mono ?_
  rintro e w5 ⟨v5, rfl, hown5, hb5⟩
  obtain ⟨A5, c5, rfl, _, hrow5⟩ := own_row hown5
  have B5 := Lib.hid (below_old B4.out hb5)
  have R5 := Lib.hid hrow5
  clear hown5 hb5 hrow5 R34 R4
  go_wp2_with fail
  refine (copyLines (c := c') w5 (hB.below B5.out) SB.out (by omega)).mono ?_
  rintro e w6 ⟨v6, δ6, M6, rfl, hw6, hown6, hM6⟩
  have hb6 : Below w5.heap.size w5 w6 := by rw [hw6]; exact below_over _ _
  obtain ⟨A6, c6, rfl, _, hrow6⟩ := own_row hown6
  have B6 := Lib.hid (below_old B5.out hb6)
  have R56 := Lib.hid (R5.out.below hb6)
  have R6 := Lib.hid hrow6
  clear hw6 hown6 hM6 hb6 hrow6 R5
  go_wp2_with fail
  refine (copyLines (c := c) w6 (hA.below B6.out) SA.out (by omega)).mono ?_
  rintro e w7 ⟨v7, δ7, M7, rfl, hw7, hown7, hM7⟩
  have hb7 : Below w6.heap.size w6 w7 := by rw [hw7]; exact below_over _ _
  obtain ⟨A7, c7, rfl, _, hrow7⟩ := own_row hown7
  have B7 := Lib.hid (below_old B6.out hb7)
  have R57 := Lib.hid (R56.out.below hb7)
  have R67 := Lib.hid (R6.out.below hb7)
  have R7 := Lib.hid hrow7
  clear hw7 hown7 hM7 hb7 hrow7 R56 R6
  go_wp2_with fail
  have h8 := manDiff (c := c6) (c' := c7) w7 R67.out R7.out SB.out SA.out (by omega) (by omega)
  rw [diffL_swap la lb] at h8
  refine h8.mono ?_
  rintro e w8 ⟨v8, rfl, hown8, hb8⟩
  obtain ⟨A8, c8, rfl, _, hrow8⟩ := own_row hown8
  rw [List.length_map] at hrow8 ⊢
  have B8 := Lib.hid (below_old B7.out hb8)
  have R58 := Lib.hid (R57.out.below hb8)
  have R8 := Lib.hid hrow8
  clear hown8 hb8 hrow8 R57 R67 R7 h8
  have hlen := diffL_len la lb
  have LD := Lib.hid hlen; clear hlen
  have hneq : (((diffL la lb).length : Int) != ((diffL la lb).length : Int)) = false := by simp
  go_wp2_with fail
  refine (copyLines (c := c) w8 (hA.below B8.out) SA.out (by omega)).mono ?_
  rintro e w9 ⟨v9, δ9, M9, rfl, hw9, hown9, hM9⟩
  have hb9 : Below w8.heap.size w8 w9 := by rw [hw9]; exact below_over _ _
  obtain ⟨A9, c9, rfl, _, hrow9⟩ := own_row hown9
  have B9 := Lib.hid (below_old B8.out hb9)
  have R59 := Lib.hid (R58.out.below hb9)
  have R89 := Lib.hid (R8.out.below hb9)
  have R9 := Lib.hid hrow9
  clear hw9 hown9 hM9 hb9 hrow9 R58 R8
  go_wp2_with fail
  refine (copyLines (c := c) w9 (hA.below B9.out) SA.out (by omega)).mono ?_
  rintro e wa ⟨va, δa, Ma, rfl, hwa, howna, hMa⟩
  have hba : Below w9.heap.size w9 wa := by rw [hwa]; exact below_over _ _
  obtain ⟨Aa, ca, rfl, _, hrowa⟩ := own_row howna
  have Ba := Lib.hid (below_old B9.out hba)
  have R5a := Lib.hid (R59.out.below hba)
  have R8a := Lib.hid (R89.out.below hba)
  have R9a := Lib.hid (R9.out.below hba)
  have Ra := Lib.hid hrowa
  clear hwa howna hMa hba hrowa R59 R89 R9
  go_wp2_with fail
  have hd := manDiff (c := c9) (c' := ca) wa R9a.out Ra.out SA.out SA.out (by omega) (by omega)
  rw [diffL_self la] at hd
  refine hd.mono ?_
  rintro e wb ⟨vb, rfl, hownb, hbb⟩
  obtain ⟨Ab, cb, rfl, _, hrowb⟩ := own_row hownb
  have Bb := Lib.hid (below_old Ba.out hbb)
  have R5b := Lib.hid (R5a.out.below hbb)
  have R8b := Lib.hid (R8a.out.below hbb)
  clear hownb hbb hrowb R5a R8a R9a Ra hd
  obtain ⟨L, hL⟩ : ∃ L, L = diffL la lb := ⟨_, rfl⟩
  have hsort := diffL_sorted la lb
  have hwhat : ∀ x ∈ L, x.what = 1 ∨ x.what = 2 ∨ x.what = 3 := fun x hx => diffL_what (a := la) (b := lb) (by rw [← hL]; exact hx)
  rw [← hL] at R5b R8b hneq hsort LD ⊢
  have HS := Lib.hid hsort; have HW := Lib.hid hwhat
  clear hL hsort hwhat
  go_wp2_with fail
  obtain ⟨wo, rfl⟩ : ∃ wo : World, wo = wb := ⟨_, rfl⟩
  go_loopw [8] (fun i wr => ∃ k : Nat, k ≤ L.length ∧ i = .int .i64 k ∧ Below wo.heap.size wo wr) (fun i _ => L.length - (intOf i).toNat)
  case atStart => exact ⟨0, Nat.zero_le _, rfl, Below.refl _ _⟩
  case round =>
    obtain ⟨k, hk, rfl, hbel⟩ := hrel
    have hLb : L.length ≤ 100000000 := by have := LD.out; omega
    by_cases hlt : k < L.length
    · obtain ⟨b, off, b', off', hkl, hkl', rfl, rfl, hbl, hbl', x0, x1, y0, y1⟩ := row_two (R5b.out.below hbel) (R8b.out.below hbel) hlt
      have e1 : (L.map swapC)[k].path = L[k].path := by simp [swapC]
      have e2 : (L.map swapC)[k].what = swapW L[k].what := by simp [swapC]
      rw [e1] at y0
      rw [e2] at y1
      clear e1 e2
      have hw := HW.out _ (List.getElem_mem hkl)
      have kpp : (L[k].path.toList == L[k].path.toList) = true := by simp
      have hks : (k : Int) < L.length := by omega
      rcases Nat.eq_zero_or_pos k with hk0 | hk0
      · subst hk0
        generalize L[0].path = p at *
        generalize L[0].what = n at *
        simp only [Nat.zero_mul, Nat.add_zero] at x0 x1 y0 y1
        rcases hw with hw | hw | hw
        all_goals
          subst hw
          simp only [swapW] at y1
          try simp at y1
          have hw : True := trivial
          clear hw
          have HB := Lib.hid hbel
          have hbsz := hbel.size
          have HBk := Lib.hid (below_old Bb.out hbel); clear hbel
          go_wp2_with fail
          refine wp_region_over (by kernel_rfl) (by kernel_rfl) ?_
          repeat (go_big_quiet_step (fail))
          refine wpQuiet_nil ?_
          rintro _ ⟨δ, rfl⟩
          go_wp2_with fail
          go_roundw
          case rel => exact ⟨0 + 1, by omega, by go_num, below_trans_over HB.out hbsz δ⟩
          case measure => simp [intOf]; omega
      · obtain ⟨b2, off2, b2', off2', hkl2, hkl2', hbe, hbe', -, -, z0, -, -, -⟩ := row_two (R5b.out.below hbel) (R8b.out.below hbel) (k := k - 1) (by omega)
        have e3 : b = b2 ∧ off = off2 := by injection hbe with h; injection h with h1 h2; exact ⟨h1, h2⟩
        obtain ⟨rfl, rfl⟩ := e3
        clear hbe hbe'
        obtain ⟨s1, s2⟩ := sorted_step HS.out hkl hk0
        generalize L[k].path = p at *
        generalize L[k].what = n at *
        generalize L[k - 1].path = q at *
        have hkp : decide ((0 : Int) < (k : Int)) = true := by simp; omega
        have hkm : ((k : Int) - 1).toNat = k - 1 := by omega
        have hk1 : (k : Int) - 1 < L.length := by omega
        have hwr : IntKind.i64.wrap ((k : Int) - 1) = (k : Int) - 1 := by have := LD.out; rw [IntKind.wrap_i64]; omega
        have h0k : 0 ≤ (k : Int) - 1 := by omega
        have h1k : 1 ≤ (k : Int) := by omega
        rcases hw with hw | hw | hw
        all_goals
          subst hw
          simp only [swapW] at y1
          try simp at y1
          have hw : True := trivial
          clear hw
          have HB := Lib.hid hbel
          have hbsz := hbel.size
          have HBk := Lib.hid (below_old Bb.out hbel); clear hbel
          go_wp2_with fail
          refine wp_region_over (by kernel_rfl) (by kernel_rfl) ?_
          repeat (go_big_quiet_step (fail))
          refine wpQuiet_nil ?_
          rintro _ ⟨δ, rfl⟩
          go_wp2_with fail
          go_roundw
          case rel => exact ⟨k + 1, by omega, by go_num, below_trans_over HB.out hbsz δ⟩
          case measure => simp [intOf]; omega
    · have HB := Lib.hid (below_old Bb.out hbel); clear hbel
      go_wp2_with fail
      go_ret
      exact ⟨rfl, HB.out⟩
theorem own : ownKnob Try.prog.godebug = none := by kernel_rfl
theorem laidOut : laidOutB Try.prog = true := by kernel_rfl
set_option maxRecDepth 100000 in
theorem contract (H : Type) (enc : TypeId × Value → H) (W : World) (base : Nat) (args : Array Value) (ds gs : List (DataW H)) (before : List MemPlace)
    (hval : ∀ (j : Nat) t v, Try.f6.params[j]? = some t → args[j]? = some v → Value.okWide Try.prog W .any base t v)
    (hW : DataW.Whole enc Try.prog Try.f6.params.toList Rows.manifestMirrorSpec.vars false W args.toList ds gs before) (hk : Rows.uptoSmall H (ds ++ gs) = true) :
    Calls Try.prog 6 args W fun e W' => ∃ v, e = .returned v ∧ Rows.manifestMirrorSpec.post enc Try.prog Try.f6 false true false false W args v W' := by
  have hW' := hW
  obtain ⟨p, q, hA0, hV, rfl, hfz, hnd⟩ := hW
  have hA : DataW.TrodAll enc Try.prog W 0 (fun _ => true) true Try.f6.params.toList args.toList ds p := hA0
  rw [Try.params6] at hA hval
  obtain ⟨v0, vs0, d0, ds0, p0, q0, hargs, rfl, rfl, h0, r0⟩ := trodAll_cons hA
  obtain ⟨v1, vs1, d1, ds1, p1, q1, rfl, rfl, rfl, h1, r1⟩ := trodAll_cons r0
  obtain ⟨rfl, rfl, rfl⟩ := trodAll_nil r1
  obtain rfl : args = #[v0, v1] := by cases args; simp_all
  obtain ⟨rfl, rfl⟩ := trodVars_none hV
  have k0 := h0
  have lt0 : ∀ x ∈ p0, x.block < W.heap.size := by obtain ⟨m, hm⟩ := k0; exact DataW.trod_lt m _ _ _ hm
  have k1 := h1
  have lt1 : ∀ x ∈ p1, x.block < W.heap.size := by obtain ⟨m, hm⟩ := k1; exact DataW.trod_lt m _ _ _ hm
  obtain ⟨m0, hm0⟩ := h0
  obtain ⟨a0, len0, cap0, rfl⟩ := okWide_slice Try.underlying27 (hval 0 27 v0 rfl rfl)
  obtain ⟨la, ⟨u0, hcs0, A0, n0, c0, rfl, hnc0, hcm0, hrow0⟩, hbk0⟩ := (opens_slice (by kernel_rfl) Try.underlying27 opens_LineD).2 hm0
  simp only [Value.cells, List.cons.injEq, and_true, Value.slice.injEq] at hcs0
  obtain ⟨rfl, rfl, rfl⟩ := hcs0
  obtain ⟨m1, hm1⟩ := h1
  obtain ⟨a1, len1, cap1, rfl⟩ := okWide_slice Try.underlying27 (hval 1 27 v1 rfl rfl)
  obtain ⟨lb, ⟨u1, hcs1, A1, n1, c1, rfl, hnc1, hcm1, hrow1⟩, hbk1⟩ := (opens_slice (by kernel_rfl) Try.underlying27 opens_LineD).2 hm1
  simp only [Value.cells, List.cons.injEq, and_true, Value.slice.injEq] at hcs1
  obtain ⟨rfl, rfl, rfl⟩ := hcs1
  have hbound : Rows.uptoBulkAll [d0, d1] ≤ 1048576 := of_decide_eq_true hk
  simp only [Rows.uptoBulkAll] at hbound
  have hb0 : bulkAll Shape.LineD.bulk la + 1 ≤ Rows.uptoBulk d0 := hbk0
  have hb1 : bulkAll Shape.LineD.bulk lb + 1 ≤ Rows.uptoBulk d1 := hbk1
  have hl0 := len_bulk Shape.LineD la
  have hl1 := len_bulk Shape.LineD lb
  have hn0 := hrow0.1
  have hn1 := hrow1.1
  have sm0 : SmallL la := fun d hd => by have h1 := mem_bulk Shape.LineD.bulk hd; have h2 := data_bulkL d; omega
  have sm1 : SmallL lb := fun d hd => by have h1 := mem_bulk Shape.LineD.bulk hd; have h2 := data_bulkL d; omega
  clear hA0
  refine (law W hrow0 hrow1 sm0 sm1 (by omega) (by omega)).mono fun e W' ⟨he, bel⟩ => ?_
  subst he
  exact ⟨_, rfl, _, _, _, [], _, [], hW', trodAll_mk1 (shut_bool Try.underlying4 _), (trodAll_cons_mk (Below.trod laidOut (by kernel_rfl) (of_decide_eq_true (by kernel_rfl)) k0 bel lt0) (trodAll_cons_mk (Below.trod laidOut (by kernel_rfl) (of_decide_eq_true (by kernel_rfl)) k1 bel lt1) trodAll_mk0)), rfl, bel.frame _, fun h => by cases h⟩
set_option maxRecDepth 100000 in
theorem lifted (os : Os) (started : os.Started) (H : Type) (enc : TypeId × Value → H) (F : Stop.Interp) :
    ReturnsInHanded {} Try.checked os 6 .any ((Rows.OpenSpec.upto Rows.manifestMirrorSpec).pre6 enc Try.prog Try.f6 Rows.manifestMirrorUptoRow.domain false) (((Rows.OpenSpec.upto Rows.manifestMirrorSpec).at F).post enc Try.prog Try.f6 false true false false) := by
  refine returnsInHanded_of_cond (C := Try.checked) (s := Rows.OpenSpec.upto Rows.manifestMirrorSpec) (k := Rows.uptoSmall) rfl own started (by kernel_rfl) Try.func6
    (OpenSpec.witness (enc := enc) (C := Try.checked) (s := Rows.OpenSpec.upto Rows.manifestMirrorSpec) (k := Rows.uptoSmall) rfl false ⟨#[], #[.slice none 0 0, .slice none 0 0], []⟩ 8 (by kernel_rfl) (by kernel_rfl) (by kernel_rfl)
      (x := ([.nil, .nil], [], [])) (by kernel_rfl) rfl (by kernel_rfl)) ?_
  intro W base args ds gs before hval hW _ hk _
  exact contract H enc W base args ds gs before hval hW hk
theorem holds : Rows.manifestMirrorUptoRow.holds Try.pinned (Rows.OpenSpec.upto Rows.manifestMirrorSpec) :=
  OpenClaim.holds_of_cond 6 Try.f6 rfl rfl rfl rfl rfl rfl rfl ⟨rfl, rfl, rfl, rfl, rfl⟩ rfl rfl rfl rfl rfl (by kernel_rfl) Try.func6 (by kernel_rfl)
    (of_decide_eq_true (by kernel_rfl)) (by unfold Func.isWrapper; first | (rw [if_pos (by decide +kernel)]; kernel_rfl) | (rw [if_neg (by decide +kernel)]; exact ⟨rfl, rfl⟩))
    (fun os started H enc _ F => lifted os started H enc F)
theorem proved : Rows.ManifestMirrorUptoSaid := holds
end manifestMirror
end Go.Proofs.Ytdlkgpnfhmablaa
