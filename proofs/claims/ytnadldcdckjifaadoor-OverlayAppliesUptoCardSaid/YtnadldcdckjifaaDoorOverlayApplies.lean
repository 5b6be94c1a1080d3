/- OverlayApplies holds for every input of the second form's bound: its tied card. Its condition: the arguments hold at most 1048576 values and letters; the listed package-level variables hold what they are laid with. -/
import Derived.Test.YtnadldcdckjifaaDoorOvSame
import Derived.Test.YtnadldcdckjifaaDoorOvRefA6
import Derived.Test.YtnadldcdckjifaaDoorDoor
namespace Go.Proofs.YtnadldcdckjifaaDoor
open Go.RowKit
set_option linter.unusedVariables false
set_option linter.unusedSimpArgs false
attribute [local go_sem] cell?_over frozen?_over lt_over le_over
def GivenD.cells (d : GivenD) (A1 : Option Addr) (n1 c1 : Nat) (A2 : Option Addr) (n2 c2 : Nat) : Array Value := #[.string d.h.name, .string d.h.link, .int .i64 d.h.mode, .int .i64 d.h.uid, .int .i64 d.h.gid, .int .i64 d.h.size, .int .i64 d.h.mtime, .int .u8 (d.h.type).toNat, .string d.h.user, .string d.h.group, .int .i64 d.h.major, .int .i64 d.h.minor, .int .i64 d.h.form, .slice A1 n1 c1, .slice A2 n2 c2, .string d.longName, .string d.longLink]
theorem gv_cells {w : World} {g : Nat} {t : TypeId} {d : GivenD} {A1 A2 : Option Addr} {n1 c1 n2 c2 : Nat} (h : Blk w g t (d.cells A1 n1 c1 A2 n2 c2)) :
    w.cell? ⟨g, 0, none⟩ = some (.string d.h.name) ∧ w.cell? ⟨g, 1, none⟩ = some (.string d.h.link) ∧ w.cell? ⟨g, 2, none⟩ = some (.int .i64 d.h.mode) ∧ w.cell? ⟨g, 3, none⟩ = some (.int .i64 d.h.uid) ∧ w.cell? ⟨g, 4, none⟩ = some (.int .i64 d.h.gid) ∧
    w.cell? ⟨g, 5, none⟩ = some (.int .i64 d.h.size) ∧ w.cell? ⟨g, 6, none⟩ = some (.int .i64 d.h.mtime) ∧ w.cell? ⟨g, 7, none⟩ = some (.int .u8 d.h.type.toNat) ∧ w.cell? ⟨g, 8, none⟩ = some (.string d.h.user) ∧ w.cell? ⟨g, 9, none⟩ = some (.string d.h.group) ∧
    w.cell? ⟨g, 10, none⟩ = some (.int .i64 d.h.major) ∧ w.cell? ⟨g, 11, none⟩ = some (.int .i64 d.h.minor) ∧ w.cell? ⟨g, 12, none⟩ = some (.int .i64 d.h.form) ∧ w.cell? ⟨g, 13, none⟩ = some (.slice A1 n1 c1) ∧ w.cell? ⟨g, 14, none⟩ = some (.slice A2 n2 c2) ∧
    w.cell? ⟨g, 15, none⟩ = some (.string d.longName) ∧ w.cell? ⟨g, 16, none⟩ = some (.string d.longLink) :=
  ⟨h.cell 0, h.cell 1, h.cell 2, h.cell 3, h.cell 4, h.cell 5, h.cell 6, h.cell 7, h.cell 8, h.cell 9, h.cell 10, h.cell 11, h.cell 12, h.cell 13, h.cell 14, h.cell 15, h.cell 16⟩
namespace overlayApplies
open Go.ChangeShapes Go.WideShapes Go.ChangeAt Go.RowKit
def xg (d : GivenD) : ApIn := ⟨d.h, d.global, d.local_, d.longName, d.longLink⟩
theorem small_pairs {l : List PairD} {m : Nat} (h : bulkAll Shape.PairD.bulk l ≤ m) : ∀ p ∈ l, p.value.size ≤ m := fun p hp => by
  have h1 := mem_bulk Shape.PairD.bulk hp
  have h2 : p.value.size + 1 ≤ Shape.PairD.bulk p := by simp only [Shape.PairD, Shape.str]; omega
  omega
structure GvOk (d : GivenD) : Prop where
  s : (d.h.name).size ≤ 1048576 ∧ (d.h.link).size ≤ 1048576 ∧ (d.h.user).size ≤ 1048576 ∧ (d.h.group).size ≤ 1048576 ∧ (d.longName).size ≤ 1048576 ∧ (d.longLink).size ≤ 1048576
  i : I64 d.h.mode ∧ I64 d.h.uid ∧ I64 d.h.gid ∧ I64 d.h.size ∧ I64 d.h.mtime
  g : bulkAll Shape.PairD.bulk d.global ≤ 1048576
  l : bulkAll Shape.PairD.bulk d.local_ ≤ 1048576
theorem given_ok {d : GivenD} (h : Shape.GivenD.bulk d ≤ 1048576) (hi : I64 d.h.mode ∧ I64 d.h.uid ∧ I64 d.h.gid ∧ I64 d.h.size ∧ I64 d.h.mtime) : GvOk d := by
  simp only [Shape.GivenD, Shape.HeaderD, Shape.slice, Shape.str] at h
  exact ⟨by omega, hi, by omega, by omega⟩
theorem ap_ok {d : GivenD} {w : World} {A A' : Option Addr} {n n' : Nat} (hd : GvOk d) (h : Row Shape.PairD w (Old w) A n d.global) (h' : Row Shape.PairD w (Old w) A' n' d.local_) : ApOk (xg d) w A A' n n' := by
  have hn := len_bulk Shape.PairD d.global
  have hn' := len_bulk Shape.PairD d.local_
  have h1 := h.1; have h2 := h'.1
  have hg := hd.g; have hl := hd.l
  have hv : ∀ k, ((xg d).v k).size ≤ 1048576 := v_small (small_pairs hd.g) (small_pairs hd.l)
  refine ⟨h, h', by omega, by omega, fun k => Nat.le_trans (hv k) (by decide), ?_, hd.i⟩
  exact Nat.le_trans (text_small (hv kPath) hd.s.2.2.2.2.1 hd.s.1) (by decide)
theorem ap_str {d : GivenD} (hd : GvOk d) : ApStr (xg d) :=
  ⟨⟨Nat.le_trans hd.s.1 (by decide), Nat.le_trans hd.s.2.1 (by decide), Nat.le_trans hd.s.2.2.1 (by decide), Nat.le_trans hd.s.2.2.2.1 (by decide)⟩, Nat.le_trans hd.s.2.2.2.2.1 (by decide), Nat.le_trans hd.s.2.2.2.2.2 (by decide)⟩
set_option maxRecDepth 100000 in
set_option maxHeartbeats 2000000 in
theorem law (d : GivenD) {A1 A2 : Option Addr} {n1 c1 n2 c2 : Nat} (w : World) (hd : GvOk d) (hg : Row Shape.PairD w (Old w) A1 n1 d.global) (hl : Row Shape.PairD w (Old w) A2 n2 d.local_) (hm : MaxLenOk w) (hv : ErrRangeOk w) :
    Calls Tryd.prog 7 #[.agg (d.cells A1 n1 c1 A2 n2 c2)] w fun e w' => e = .returned (.bool true) ∧ Below w.heap.size w w' := by
  have hN1 : n1 ≤ 1048576 := by have := len_bulk Shape.PairD d.global; have := hd.g; have := hg.1; omega
  have hN2 : n2 ≤ 1048576 := by have := len_bulk Shape.PairD d.local_; have := hd.l; have := hl.1; omega
  have e1 := hg.1; have e2 := hl.1
  subst e1 e2
  obtain ⟨k, nm, lk, md, u, g, us, gr, s, n, sz, c, hres⟩ := res_form (xg d)
  have HRES := Lib.hid hres
  clear hres
  unfold GivenD.cells
  go_enter Tryd.func7, Tryd.ntmps7
  go_wp2_with fail
  refine (alive06 _ (hm.keep (below_alloc' w _)) (hv.keep (below_alloc' w _))).mono ?_
  rintro e w1 ⟨rfl, hb1⟩
  obtain ⟨bT, hbw1, hsz1⟩ := blks1 hb1
  have HT : Hid (Blk w1 w.heap.size 37 (d.cells A1 d.global.length c1 A2 d.local_.length c2)) := Lib.hid bT
  have HB := Lib.hid hbw1
  clear hb1 bT hbw1
  have kk := gv_cells HT.out
  obtain ⟨k0, k1, k2, k3, k4, k5, k6, k7, k8, k9, k10, k11, k12, k13, k14, k15, k16⟩ := kk
  have ltT := HT.out.lt
  go_wp2_with fail
  refine (copyPairs (c := c1) w1 (hg.below HB.out) (by omega)).mono ?_
  rintro e w2 ⟨v2, δ2, rfl, hw2, hown2⟩
  have hb2 := below_of hw2
  obtain ⟨A3, c3, rfl, _, hrow3⟩ := own_row hown2
  have R3 := Lib.hid hrow3
  replace HT := Lib.hid (HT.out.below hb2 ltT)
  replace HB := Lib.hid (below_old HB.out hb2)
  clear hw2 k0 k1 k2 k3 k4 k5 k6 k7 k8 k9 k10 k11 k12 k13 k14 k15 k16 ltT hb2 hown2 hrow3
  have kk := gv_cells HT.out
  obtain ⟨k0, k1, k2, k3, k4, k5, k6, k7, k8, k9, k10, k11, k12, k13, k14, k15, k16⟩ := kk
  have ltT := HT.out.lt
  go_wp2_with fail
  refine (copyPairs (c := c2) w2 (hl.below HB.out) (by omega)).mono ?_
  rintro e w3 ⟨v3, δ3, rfl, hw3, hown3⟩
  have hb3 := below_of hw3
  obtain ⟨A4, c4, rfl, _, hrow4⟩ := own_row hown3
  have R4 := Lib.hid hrow4
  replace R3 := Lib.hid (R3.out.below hb3)
  replace HT := Lib.hid (HT.out.below hb3 ltT)
  replace HB := Lib.hid (below_old HB.out hb3)
  clear hw3 k0 k1 k2 k3 k4 k5 k6 k7 k8 k9 k10 k11 k12 k13 k14 k15 k16 ltT hb3 hown3 hrow4
  have kk := gv_cells HT.out
  obtain ⟨k0, k1, k2, k3, k4, k5, k6, k7, k8, k9, k10, k11, k12, k13, k14, k15, k16⟩ := kk
  have ltT := HT.out.lt
  go_wp2_with fail
  refine (ovApply (x := xg d) (c := c3) (c' := c4) w3 (ap_ok hd R3.out R4.out) (ap_str hd) (hm.keep HB.out) (hv.keep HB.out)).mono ?_
  rintro e w4 ⟨rfl, hb4⟩
  rw [HRES.out]
  unfold entCells
  replace R3 := Lib.hid (R3.out.below hb4); replace R4 := Lib.hid (R4.out.below hb4)
  replace HT := Lib.hid (HT.out.below hb4 ltT)
  replace HB := Lib.hid (below_old HB.out hb4)
  clear k0 k1 k2 k3 k4 k5 k6 k7 k8 k9 k10 k11 k12 k13 k14 k15 k16 ltT hb4
  have kk := gv_cells HT.out
  obtain ⟨k0, k1, k2, k3, k4, k5, k6, k7, k8, k9, k10, k11, k12, k13, k14, k15, k16⟩ := kk
  have ltT := HT.out.lt
  go_wp2_with fail
  refine (ovRef (x := xg d) (c := c1) (c' := c2) _ (ap_ok hd (hg.below (HB.out.alloc HB.out.size _)) (hl.below (HB.out.alloc HB.out.size _)))).mono ?_
  rintro e w5 ⟨rfl, hb5⟩
  rw [HRES.out]
  unfold entCells
  obtain ⟨bE, hbw5, hsz5⟩ := blks1 hb5
  have HE := Lib.hid bE
  replace R3 := Lib.hid (R3.out.below hbw5); replace R4 := Lib.hid (R4.out.below hbw5)
  replace HT := Lib.hid (HT.out.below hbw5 ltT)
  replace HB := Lib.hid (below_old HB.out hbw5)
  clear k0 k1 k2 k3 k4 k5 k6 k7 k8 k9 k10 k11 k12 k13 k14 k15 k16 ltT hb5 hbw5 bE
  have kk := gv_cells HT.out
  obtain ⟨k0, k1, k2, k3, k4, k5, k6, k7, k8, k9, k10, k11, k12, k13, k14, k15, k16⟩ := kk
  have ltT := HT.out.lt
  have m0 := HE.out.cell 0; have m1 := HE.out.cell 1; have m2 := HE.out.cell 2; have m3 := HE.out.cell 3; have m4 := HE.out.cell 4; have m5 := HE.out.cell 5; have m6 := HE.out.cell 6; have m7 := HE.out.cell 7; have m8 := HE.out.cell 8; have m9 := HE.out.cell 9; have m10 := HE.out.cell 10
  simp only [List.getElem?_toArray, List.getElem?_cons_succ, List.getElem?_cons_zero] at m0 m1 m2 m3 m4 m5 m6 m7 m8 m9 m10
  have ltE := HE.out.lt
  go_wp2_with fail
  replace R3 := Lib.hid (R3.out.below (below_alloc' w5 (.cells #[.int .i64 k, .string nm, .string lk, .int .i64 md, .int .i64 u, .int .i64 g, .string us, .string gr, .int .i64 s, .int .i64 n, .slice none 0 0] 41)))
  replace R4 := Lib.hid (R4.out.below (below_alloc' w5 (.cells #[.int .i64 k, .string nm, .string lk, .int .i64 md, .int .i64 u, .int .i64 g, .string us, .string gr, .int .i64 s, .int .i64 n, .slice none 0 0] 41)))
  replace HT := Lib.hid (HT.out.alloc (.cells #[.int .i64 k, .string nm, .string lk, .int .i64 md, .int .i64 u, .int .i64 g, .string us, .string gr, .int .i64 s, .int .i64 n, .slice none 0 0] 41))
  replace HB := Lib.hid (HB.out.alloc HB.out.size (.cells #[.int .i64 k, .string nm, .string lk, .int .i64 md, .int .i64 u, .int .i64 g, .string us, .string gr, .int .i64 s, .int .i64 n, .slice none 0 0] 41))
  clear k0 k1 k2 k3 k4 k5 k6 k7 k8 k9 k10 k11 k12 k13 k14 k15 k16 ltT m0 m1 m2 m3 m4 m5 m6 m7 m8 m9 m10 ltE HE
  generalize w5.alloc (.cells #[.int .i64 k, .string nm, .string lk, .int .i64 md, .int .i64 u, .int .i64 g, .string us, .string gr, .int .i64 s, .int .i64 n, .slice none 0 0] 41) = w6 at *
  refine (sameEntry k nm lk md u g us gr s n w6).mono ?_
  rintro e w7 ⟨rfl, hb7⟩
  replace R3 := Lib.hid (R3.out.below hb7); replace R4 := Lib.hid (R4.out.below hb7)
  replace HT := Lib.hid (HT.out.below hb7 HT.out.lt)
  replace HB := Lib.hid (below_old HB.out hb7)
  clear hb7
  have kk := gv_cells HT.out
  obtain ⟨k0, k1, k2, k3, k4, k5, k6, k7, k8, k9, k10, k11, k12, k13, k14, k15, k16⟩ := kk
  have ltT := HT.out.lt
  go_wp2_with fail
  refine (samePairs (c := c3) (c' := c1) w7 R3.out (hg.below HB.out) (by omega)).mono ?_
  rintro e w8 ⟨rfl, hb8⟩
  replace R4 := Lib.hid (R4.out.below hb8)
  replace HT := Lib.hid (HT.out.below hb8 ltT)
  replace HB := Lib.hid (below_old HB.out hb8)
  clear k0 k1 k2 k3 k4 k5 k6 k7 k8 k9 k10 k11 k12 k13 k14 k15 k16 ltT hb8
  have kk := gv_cells HT.out
  obtain ⟨k0, k1, k2, k3, k4, k5, k6, k7, k8, k9, k10, k11, k12, k13, k14, k15, k16⟩ := kk
  have ltT := HT.out.lt
  go_wp2_with fail
  refine (samePairs (c := c4) (c' := c2) w8 R4.out (hl.below HB.out) (by omega)).mono ?_
  rintro e w9 ⟨rfl, hb9⟩
  replace HB := Lib.hid (below_old HB.out hb9)
  clear hb9
  go_wp2_with fail
  go_ret
  exact ⟨rfl, HB.out⟩
theorem own : ownKnob Tryd.prog.godebug = none := by kernel_rfl
theorem laidOut : laidOutB Tryd.prog = true := by kernel_rfl
set_option maxRecDepth 100000 in
theorem contract (H : Type) (enc : TypeId × Value → H) (W : World) (base : Nat) (args : Array Value) (ds gs : List (DataW H)) (before : List MemPlace)
    (hval : ∀ (j : Nat) t v, Tryd.f7.params[j]? = some t → args[j]? = some v → Value.okWide Tryd.prog W .any base t v)
    (hW : DataW.Whole enc Tryd.prog Tryd.f7.params.toList Rows.overlayAppliesSpec.vars false W args.toList ds gs before) (hk : Rows.uptoSmall H (ds ++ gs) = true) (hL : laidMetH Tryd.prog Rows.overlayAppliesUptoRow.laid W) (hsh : W.ShapedOpen Tryd.prog) :
    Calls Tryd.prog 7 args W fun e W' => ∃ v, e = .returned v ∧ Rows.overlayAppliesSpec.post enc Tryd.prog Tryd.f7 false true false false W args v W' := by
  have hW' := hW
  obtain ⟨p, q, hA0, hV, rfl, hfz, hnd⟩ := hW
  have hA : DataW.TrodAll enc Tryd.prog W 0 (fun _ => true) true Tryd.f7.params.toList args.toList ds p := hA0
  rw [Tryd.params7] at hA hval
  obtain ⟨v0, vs0, d0, ds0, p0, q0, hargs, rfl, rfl, h0, r0⟩ := trodAll_cons hA
  obtain ⟨rfl, rfl, rfl⟩ := trodAll_nil r0
  obtain rfl : args = #[v0] := by cases args; simp_all
  obtain ⟨rfl, rfl⟩ := trodVars_none hV
  have k0 := h0
  have lt0 : ∀ x ∈ p0, x.block < W.heap.size := by obtain ⟨m, hm⟩ := k0; exact DataW.trod_lt m _ _ _ hm
  obtain ⟨m0, hm0⟩ := h0
  obtain ⟨cs, rfl, hsz⟩ := okWide_struct Tryd.underlying37 (hval 0 37 v0 rfl rfl)
  obtain ⟨d, hh, hbk⟩ := opens_GivenD.2 hm0
  obtain ⟨A1, n1, c1, A2, n2, c2, hcs, j0, j1, j2, j3, j4, j5, j6, j7, j8, j9, j10, j11, j12, j13, j14, j15, j16, j17, j18, j19⟩ := hh
  obtain rfl : cs = d.cells A1 n1 c1 A2 n2 c2 := by apply Array.ext'; exact hcs
  have hbound : Rows.uptoBulkAll [d0] ≤ 1048576 := of_decide_eq_true hk
  simp only [Rows.uptoBulkAll] at hbound
  have hok := given_ok (d := d) (Nat.le_trans hbk (by omega)) ⟨j2, j3, j4, j5, j6⟩
  clear hA0
  refine (law d W hok j14 j17 (door_max hsh) (door_err hL)).mono fun e W' ⟨he, bel⟩ => ?_
  subst he
  exact ⟨_, rfl, _, _, _, [], _, [], hW', trodAll_mk1 (shut_bool Tryd.underlying4 _), (trodAll_cons_mk (Below.trod laidOut (by kernel_rfl) (of_decide_eq_true (by kernel_rfl)) k0 bel lt0) trodAll_mk0), rfl, bel.frame _, fun h => by cases h⟩
theorem laid_met (os : Os) : laidMetH Tryd.prog Rows.overlayAppliesUptoRow.laid ((laidWorld os).forCall (fun _ _ => 0) ⟨#[], #[.agg #[.string ⟨#[]⟩, .string ⟨#[]⟩, .int .i64 0, .int .i64 0, .int .i64 0, .int .i64 0, .int .i64 0, .int .u8 0, .string ⟨#[]⟩, .string ⟨#[]⟩, .int .i64 0, .int .i64 0, .int .i64 0, .slice none 0 0, .slice none 0 0, .string ⟨#[]⟩, .string ⟨#[]⟩]], []⟩).memory := laidMetH_of_parts3 (fuel := 8) (laidMet_of_run' 8 (by kernel_rfl) (by kernel_rfl)) (by kernel_rfl) (by kernel_rfl)
theorem reads (os : Os) {H : Type} (enc : TypeId × Value → H) : ∃ places, DataW.whole enc Tryd.prog ((laidWorld os).forCall (fun _ _ => 0) ⟨#[], #[.agg #[.string ⟨#[]⟩, .string ⟨#[]⟩, .int .i64 0, .int .i64 0, .int .i64 0, .int .i64 0, .int .i64 0, .int .u8 0, .string ⟨#[]⟩, .string ⟨#[]⟩, .int .i64 0, .int .i64 0, .int .i64 0, .slice none 0 0, .slice none 0 0, .string ⟨#[]⟩, .string ⟨#[]⟩]], []⟩).memory Tryd.f7.params.toList Rows.overlayAppliesSpec.vars false (#[.agg #[.string ⟨#[]⟩, .string ⟨#[]⟩, .int .i64 0, .int .i64 0, .int .i64 0, .int .i64 0, .int .i64 0, .int .u8 0, .string ⟨#[]⟩, .string ⟨#[]⟩, .int .i64 0, .int .i64 0, .int .i64 0, .slice none 0 0, .slice none 0 0, .string ⟨#[]⟩, .string ⟨#[]⟩]] : Array Value).toList 8 = some ([.agg [.agg [.lit (.string []), .lit (.string []), .lit (.int .i64 0), .lit (.int .i64 0), .lit (.int .i64 0), .lit (.int .i64 0), .lit (.int .i64 0), .lit (.int .u8 0), .lit (.string []), .lit (.string []), .lit (.int .i64 0), .lit (.int .i64 0), .lit (.int .i64 0)], .nil, .nil, .lit (.string []), .lit (.string [])]], [], places) := ⟨[], by kernel_rfl⟩
set_option maxRecDepth 100000 in
theorem lifted (os : Os) (started : os.Started) (H : Type) (enc : TypeId × Value → H) (F : Stop.Interp) :
    ReturnsInHanded {} Tryd.checked os 7 .any ((Rows.OpenSpec.upto Rows.overlayAppliesSpec).preRow enc Tryd.prog Tryd.f7 Rows.overlayAppliesUptoRow.domain false Rows.overlayAppliesUptoRow.laid) (((Rows.OpenSpec.upto Rows.overlayAppliesSpec).at F).post enc Tryd.prog Tryd.f7 false true false false) := by
  obtain ⟨places, hx⟩ := reads os enc
  refine returnsInHanded_of_row (C := Tryd.checked) (s := (Rows.OpenSpec.upto Rows.overlayAppliesSpec)) own started (by kernel_rfl) Tryd.func7
    (witness_row_atRef (enc := enc) (C := Tryd.checked) false (laidWorld os) #[.agg #[.string ⟨#[]⟩, .string ⟨#[]⟩, .int .i64 0, .int .i64 0, .int .i64 0, .int .i64 0, .int .i64 0, .int .u8 0, .string ⟨#[]⟩, .string ⟨#[]⟩, .int .i64 0, .int .i64 0, .int .i64 0, .slice none 0 0, .slice none 0 0, .string ⟨#[]⟩, .string ⟨#[]⟩]] rfl (by kernel_rfl) (by kernel_rfl) (by kernel_rfl)
      (OpenSpec.preRow_of_cond 8 hx (by kernel_rfl) (fun k hk => by cases hk; kernel_rfl) (by kernel_rfl) (laid_met os))) ?_
  intro W base args ds gs before hval hW _ hcond _ hL hsh _
  exact contract H enc W base args ds gs before hval hW (hcond _ rfl) hL hsh
theorem said : Rows.overlayAppliesUptoRow.holds Tryd.pinned (Rows.OpenSpec.upto Rows.overlayAppliesSpec) :=
  OpenClaim.holds_of_cond 7 Tryd.f7 rfl rfl rfl rfl rfl rfl rfl ⟨rfl, rfl, rfl, rfl, rfl⟩ rfl rfl rfl rfl rfl (by kernel_rfl) Tryd.func7 (by kernel_rfl)
    (of_decide_eq_true (by kernel_rfl)) (by unfold Func.isWrapper; first | (rw [if_pos (by decide +kernel)]; kernel_rfl) | (rw [if_neg (by decide +kernel)]; exact ⟨rfl, rfl⟩))
    (fun os started H enc _ F => by rw [OpenClaim.pre_eq_preRow]; exact lifted os started H enc F)
theorem plain (f : FuncId) (fn : Func) (hf : Tryd.pinned.checked.prog.funcNamed "valise/valiselaw06.OverlayApplies" = some f) (hfn : Tryd.pinned.checked.prog.funcs[f]? = some fn) :
    true = Tryd.pinned.checked.prog.looks [] ∧ ∀ (j : Nat) t, fn.params[j]? = some t → Tryd.pinned.checked.prog.wantsStandIn t = false := by
  obtain rfl : f = 7 := Option.some.inj ((show Tryd.prog.funcNamed "valise/valiselaw06.OverlayApplies" = some 7 by kernel_rfl).symm.trans hf) |>.symm
  obtain rfl : fn = Tryd.f7 := (Option.some.inj (Tryd.func7.symm.trans hfn)).symm
  refine ⟨by kernel_rfl, fun j t ht => ?_⟩
  rw [Tryd.params7] at ht
  have hm := Array.mem_of_getElem? ht
  simp only [List.mem_toArray, List.mem_cons, List.not_mem_nil, or_false] at hm
  rcases hm with rfl
  exact (show Tryd.prog.wantsStandIn 37 = false by kernel_rfl)
theorem proved : Rows.OverlayAppliesUptoCardSaid :=
  Claim7.holds_tied_plain_at .later [] _ _ _ _ said (fun _ h => by cases h) (by kernel_rfl) (fun _ h => by cases h) overlayAppliesUpto_row_tie rfl ⟨rfl, rfl⟩ (by kernel_rfl) rfl plain (by kernel_rfl)
end overlayApplies
end Go.Proofs.YtnadldcdckjifaaDoor
