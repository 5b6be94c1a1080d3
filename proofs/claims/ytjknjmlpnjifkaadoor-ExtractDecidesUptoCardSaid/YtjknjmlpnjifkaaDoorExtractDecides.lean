/- ExtractDecides holds for every input of the second form's bound, its tied card. Its condition: the arguments hold at most 1048576 values and letters; the listed package-level variables hold what they are laid with. -/
import Derived.Test.YtjknjmlpnjifkaaDoorDecAll
import Derived.Test.YtjknjmlpnjifkaaDoorDecide
import Derived.Test.YtjknjmlpnjifkaaDoorRefDecide
import Derived.Deep.MidRow
namespace Go.Proofs.YtjknjmlpnjifkaaDoor
open Go.RowKit
set_option linter.unusedVariables false
set_option linter.unusedSimpArgs false
attribute [local go_sem] cell?_over frozen?_over lt_over le_over
namespace extractDecides
open Go.ChangeShapes Go.WideShapes Go.ChangeAt Go.RowKit
def entry0 : EntryD := { kind := 1, name := ⟨#[97]⟩, link := ⟨#[]⟩, mode := 0, uid := 0, gid := 0, user := ⟨#[]⟩, group := ⟨#[]⟩, mtime := ⟨0, 0⟩, data := [] }
def config0 : ConfigD := { maxEntries := 0, maxBytes := 0, maxDepth := 1, maxName := 1, maxPax := 0, strip := 0, links := 0, replace := 0, umask := 0, keepSetid := false, keepIds := false, include_ := [], exclude := [] }
theorem plan0 : planOf entry0 config0 = { kind := 1, parts := [⟨#[97]⟩], dirMode := 493 } := by rfl
theorem in0 {w : World} : DecIn entry0 config0 w none 0 none 0 none 0 := ⟨Row.nil, Row.nil, Row.nil, by decide, by decide, by decide, by decide, by decide⟩
def jobCells (p : PlanP) (vp vf vd : Value) : List Value := [.int .i64 p.kind, vp, vf, .string p.text, vd, .int .i64 p.mode, .int .i64 p.uid, .int .i64 p.gid, .int .i64 p.sec, .int .i64 p.nano, .int .i64 p.dirMode, .int .i64 p.replace, .bool p.keepIds]
theorem plan_range {w : World} {g : Nat} {t : TypeId} {p : PlanP} {vp vf vd : Value} (h : Blk w g t (planCells p vp vf vd)) : w.rangeAt g 2 (jobCells p vp vf vd) := by
  intro j v hv
  rw [h.cell, show planCells p vp vf vd = (([.int .i64 p.out, .int .i64 p.code] : List Value) ++ jobCells p vp vf vd).toArray from rfl, List.getElem?_toArray, List.getElem?_append_right (by simp)]
  simpa using hv
def zeroEntry : Array Value := #[.int .i64 0, .string ⟨#[]⟩, .string ⟨#[]⟩, .int .i64 0, .int .i64 0, .int .i64 0, .string ⟨#[]⟩, .string ⟨#[]⟩, .int .i64 0, .int .i64 0, nilS]
def zeroConfig : Array Value := #[.int .i64 0, .int .i64 0, .int .i64 0, .int .i64 0, .int .i64 0, .int .i64 0, .int .i64 0, .int .i64 0, .int .i64 0, .bool false, .bool false, nilS, nilS]
theorem decIn_of {e : EntryD} {c : ConfigD} {w w' : World} {A A1 A2 B B1 B2 : Option Addr} {n n1 n2 k k1 k2 : Nat} (h : DecIn e c w A n A1 n1 A2 n2) (h1 : Row Shape.byte w' (Old w') B k e.data) (h2 : Row Shape.str w' (Old w') B1 k1 c.include_) (h3 : Row Shape.str w' (Old w') B2 k2 c.exclude) : DecIn e c w' B k B1 k1 B2 k2 := by
  have a1 := h.data.1; have a2 := h.inc.1; have a3 := h.exc.1
  have b1 := h1.1; have b2 := h2.1; have b3 := h3.1
  have c1 := h.ndata; have c2 := h.ninc; have c3 := h.nexc
  exact ⟨h1, h2, h3, h.name, h.link, by omega, by omega, by omega⟩
theorem plan_small (e : EntryD) (c : ConfigD) (h1 : e.name.size ≤ 100000000) (h2 : e.link.size ≤ 100000000) (h3 : e.data.length ≤ 100000000) : (planOf e c).parts.length ≤ 1000000000 ∧ (planOf e c).from_.length ≤ 1000000000 ∧ (planOf e c).data.length ≤ 1000000000 := by
  have p1 := parts_size (l := e.name.data.toList) (by rw [show e.name.data.toList.length = e.name.size from Lib.size_eq e.name |>.symm]; omega)
  have p2 := parts_size (l := e.link.data.toList) (by rw [show e.link.data.toList.length = e.link.size from Lib.size_eq e.link |>.symm]; omega)
  have q0 : ∀ p : PlanP, p.parts = [] → p.from_ = [] → p.data = [] → p.parts.length ≤ 1000000000 ∧ p.from_.length ≤ 1000000000 ∧ p.data.length ≤ 1000000000 := by
    intro p a b c; rw [a, b, c]; simp
  unfold planOf
  split
  · exact q0 _ rfl rfl rfl
  split
  · exact q0 _ rfl rfl rfl
  split
  · exact q0 _ rfl rfl rfl
  split
  · exact q0 _ rfl rfl rfl
  split
  · exact q0 _ rfl rfl rfl
  split
  · exact q0 _ rfl rfl rfl
  refine ⟨?_, ?_, ?_⟩
  · show (textsL (leftOf e c)).length ≤ _
    unfold textsL leftOf
    rw [List.length_map, List.length_drop]
    omega
  · show (if e.kind = 4 then textsL ((partsOf e.link.data.toList).drop c.strip.toNat) else []).length ≤ _
    split
    · unfold textsL
      rw [List.length_map, List.length_drop]
      omega
    · simp
  · show (if e.kind = 1 then e.data else []).length ≤ _
    split
    · omega
    · simp
set_option maxHeartbeats 8000000 in
set_option maxRecDepth 100000 in
theorem law (e : EntryD) (c : ConfigD) {A A1 A2 : Option Addr} {n cd n1 c1 n2 c2 : Nat} (w : World) (m : Int) (h : DecIn e c w A n A1 n1 A2 n2) (hm : w.cell? ⟨0, 0, none⟩ = some (.int .i64 m)) :
    Calls Tryd.prog 3 #[.agg (entC e A n cd), .agg (cfgC c A1 n1 c1 A2 n2 c2)] w fun en w' => en = .returned (.bool true) ∧ Below w.heap.size w w' := by
  obtain ⟨PL, hPL⟩ : ∃ p, p = planOf e c := ⟨_, rfl⟩
  have H := Lib.hid h
  have HN : Hid (n ≤ 1000000000 ∧ n1 ≤ 1000000000 ∧ n2 ≤ 1000000000) := Lib.hid ⟨by have := h.ndata; omega, by have := h.ninc; omega, by have := h.nexc; omega⟩
  have WL : Hid (0 < w.heap.size) := Lib.hid (World.block_lt_of_cell? _ _ hm)
  have HM : Hid (∀ W, Below w.heap.size w W → W.cell? ⟨0, 0, none⟩ = some (.int .i64 m)) := Lib.hid fun W hb => (hb.cell (p := ⟨0, 0, none⟩) WL.out).trans hm
  have HPL := Lib.hid hPL
  have HSM := Lib.hid (plan_small e c h.name h.link (by have := h.data.1; have := h.ndata; omega))
  rw [← hPL] at HSM
  clear h hm hPL
  go_enter Tryd.func3, Tryd.ntmps3
  go_wp2_with fail
  refine (decideA entry0 config0 (A := none) (A1 := none) (A2 := none) (n := 0) (n1 := 0) (n2 := 0) (cd := 0) (c1 := 0) (c2 := 0) _ m in0 (HM.out _ (by go_grown))).mono ?_
  rintro en u ⟨hb, v, rfl, hrd⟩
  rw [plan0] at hrd
  obtain ⟨vp, vf, vd, rfl, ⟨Ap, cp, _, rfl, _⟩, ⟨Af, cf, _, rfl, _⟩, ⟨Ad, cdd, _, rfl, _⟩⟩ := hrd
  obtain ⟨b1, b2, hbw, hsz⟩ := blks2 hb
  have BE0 := Lib.hid b1; have BC0 := Lib.hid b2; have HB0 := Lib.hid hbw
  have HD0 := Lib.hid (H.out.data.below hbw); have HI0 := Lib.hid (H.out.inc.below hbw); have HX0 := Lib.hid (H.out.exc.below hbw)
  clear hb b1 b2 hbw hsz
  go_wp2_with ((with_reducible refine at_store (ty := 34) (x := .tmp 5) (y := .tmp 14) ?_ ?_); exact rfl; refine wpList_store_blk rfl 34 (.tmp 5) (.tmp 14) rfl _ rfl (Blk.new u 34 zeroPlan) rfl (by kernel_rfl) rfl rfl ?_; intro w1 b1 g1; refine StopT.mk ?_)
  have hs1 : Below u.heap.size u w1 := ((Below.refl _ _).alloc (Nat.le_refl _) _).grown g1 (by simp) (fun j hj => by cases hj; exact Nat.le_refl _)
  have B1 : Blk w1 u.heap.size 34 #[.int .i64 0, .int .i64 0, .int .i64 1, .slice Ap 1 cp, .slice Af 0 cf, .string ⟨#[]⟩, .slice Ad 0 cdd, .int .i64 0, .int .i64 0, .int .i64 0, .int .i64 0, .int .i64 0, .int .i64 493, .int .i64 0, .bool false] := b1
  have k0 := B1.cell 0; have k1 := B1.cell 3; have k2 := B1.cell 12
  clear B1
  simp only [ List.getElem?_toArray, List.getElem?_cons_succ, List.getElem?_cons_zero] at k0 k1 k2
  have lt1 := b1.lt
  unfold StopT
  have BE1 := Lib.hid (BE0.out.below hs1 BE0.out.lt)
  have BC1 := Lib.hid (BC0.out.below hs1 BC0.out.lt)
  have HD1 := Lib.hid (HD0.out.below hs1)
  have HI1 := Lib.hid (HI0.out.below hs1)
  have HX1 := Lib.hid (HX0.out.below hs1)
  have HB1 := Lib.hid (below_old HB0.out hs1)
  clear BE0 BC0 HD0 HI0 HX0 HB0
  clear b1 g1 hs1
  go_wp2_with (first | ((with_reducible refine at_load (ty := 26) (x := .tmp 2) ?_ ?_); exact rfl; refine wpList_load_blk rfl 26 (.tmp 2) rfl _ rfl BE1.out whole_ent ?_))
  refine (copyEntry (e := e) (cd := cd) _ HD1.out HN.out.1).mono ?_
  rintro en u2 ⟨A', n', c', hnc, rfl, hrow, hb⟩
  have RD2 := Lib.hid (hrow.more fun b hb => hb.2)
  have BE2 := Lib.hid (BE1.out.below hb BE1.out.lt)
  have BC2 := Lib.hid (BC1.out.below hb BC1.out.lt)
  have HD2 := Lib.hid (HD1.out.below hb)
  have HI2 := Lib.hid (HI1.out.below hb)
  have HX2 := Lib.hid (HX1.out.below hb)
  have HB2 := Lib.hid (below_old HB1.out hb)
  clear BE1 BC1 HD1 HI1 HX1 HB1
  have HNC := Lib.hid hnc
  clear hb hrow hnc k0 k1 k2 lt1
  go_wp2_with ((with_reducible refine at_store (ty := 26) (x := .tmp 6) (y := .tmp 32) ?_ ?_); exact rfl; refine wpList_store_blk rfl 26 (.tmp 6) (.tmp 32) rfl _ rfl (Blk.new u2 26 zeroEntry) rfl (by kernel_rfl) rfl rfl ?_; intro w3 b3 g3; refine StopT.mk ?_)
  have hs3 : Below u2.heap.size u2 w3 := ((Below.refl _ _).alloc (Nat.le_refl _) _).grown g3 (by simp) (fun j hj => by cases hj; exact Nat.le_refl _)
  have BE3 := Lib.hid (BE2.out.below hs3 BE2.out.lt)
  have BC3 := Lib.hid (BC2.out.below hs3 BC2.out.lt)
  have HD3 := Lib.hid (HD2.out.below hs3)
  have HI3 := Lib.hid (HI2.out.below hs3)
  have HX3 := Lib.hid (HX2.out.below hs3)
  have RD3 := Lib.hid (RD2.out.below hs3)
  have HB3 := Lib.hid (below_old HB2.out hs3)
  clear BE2 BC2 HD2 HI2 HX2 RD2 HB2
  have OE3 : Hid (Blk w3 u2.heap.size 26 (entC e A' n' c')) := Lib.hid b3
  clear b3 g3 hs3
  unfold StopT
  go_wp2_with (first | ((with_reducible refine at_load (ty := 29) (x := .tmp 3) ?_ ?_); exact rfl; refine wpList_load_blk rfl 29 (.tmp 3) rfl _ rfl BC3.out whole_cfg ?_))
  refine (copyConfig (d := c) (c1 := c1) (c2 := c2) _ HI3.out HX3.out HN.out.2.1 HN.out.2.2).mono ?_
  rintro en u4 ⟨B1, m1, d1, B2, m2, d2, hmd1, hmd2, rfl, hrow1, hrow2, hb⟩
  have RI4 := Lib.hid (hrow1.more fun b hb => hb.2); have RX4 := Lib.hid (hrow2.more fun b hb => hb.2)
  have BE4 := Lib.hid (BE3.out.below hb BE3.out.lt)
  have BC4 := Lib.hid (BC3.out.below hb BC3.out.lt)
  have OE4 := Lib.hid (OE3.out.below hb OE3.out.lt)
  have HD4 := Lib.hid (HD3.out.below hb)
  have HI4 := Lib.hid (HI3.out.below hb)
  have HX4 := Lib.hid (HX3.out.below hb)
  have RD4 := Lib.hid (RD3.out.below hb)
  have HB4 := Lib.hid (below_old HB3.out hb)
  clear BE3 BC3 OE3 HD3 HI3 HX3 RD3 HB3
  clear hb hrow1 hrow2 hmd1 hmd2
  go_wp2_with ((with_reducible refine at_store (ty := 29) (x := .tmp 7) (y := .tmp 34) ?_ ?_); exact rfl; refine wpList_store_blk rfl 29 (.tmp 7) (.tmp 34) rfl _ rfl (Blk.new u4 29 zeroConfig) rfl (by kernel_rfl) rfl rfl ?_; intro w5 b5 g5; refine StopT.mk ?_)
  have hs5 : Below u4.heap.size u4 w5 := ((Below.refl _ _).alloc (Nat.le_refl _) _).grown g5 (by simp) (fun j hj => by cases hj; exact Nat.le_refl _)
  have BE5 := Lib.hid (BE4.out.below hs5 BE4.out.lt)
  have BC5 := Lib.hid (BC4.out.below hs5 BC4.out.lt)
  have OE5 := Lib.hid (OE4.out.below hs5 OE4.out.lt)
  have HD5 := Lib.hid (HD4.out.below hs5)
  have HI5 := Lib.hid (HI4.out.below hs5)
  have HX5 := Lib.hid (HX4.out.below hs5)
  have RD5 := Lib.hid (RD4.out.below hs5)
  have RI5 := Lib.hid (RI4.out.below hs5)
  have RX5 := Lib.hid (RX4.out.below hs5)
  have HB5 := Lib.hid (below_old HB4.out hs5)
  clear BE4 BC4 OE4 HD4 HI4 HX4 RD4 RI4 RX4 HB4
  have OC5 : Hid (Blk w5 u4.heap.size 29 (cfgC c B1 m1 d1 B2 m2 d2)) := Lib.hid b5
  clear b5 g5 hs5
  unfold StopT
  go_wp2_with (first | ((with_reducible refine at_load (ty := 26) (x := .tmp 6) ?_ ?_); exact rfl; refine wpList_load_blk rfl 26 (.tmp 6) rfl _ rfl OE5.out whole_ent ?_) | ((with_reducible refine at_load (ty := 29) (x := .tmp 7) ?_ ?_); exact rfl; refine wpList_load_blk rfl 29 (.tmp 7) rfl _ rfl OC5.out whole_cfg ?_))
  refine (decideA e c (cd := c') (c1 := d1) (c2 := d2) _ m (decIn_of H.out RD5.out RI5.out RX5.out) (HM.out _ HB5.out)).mono ?_
  rintro en u6 ⟨hb, v, rfl, hrd⟩
  rw [← HPL.out] at hrd
  obtain ⟨vp, vf, vd, rfl, ⟨Ap1, cp1, _, rfl, hrp⟩, ⟨Af1, cf1, _, rfl, hrf⟩, ⟨Ad1, cd1, _, rfl, hrdd⟩⟩ := hrd
  have BE6 := Lib.hid (BE5.out.below hb BE5.out.lt)
  have BC6 := Lib.hid (BC5.out.below hb BC5.out.lt)
  have OE6 := Lib.hid (OE5.out.below hb OE5.out.lt)
  have OC6 := Lib.hid (OC5.out.below hb OC5.out.lt)
  have HD6 := Lib.hid (HD5.out.below hb)
  have HI6 := Lib.hid (HI5.out.below hb)
  have HX6 := Lib.hid (HX5.out.below hb)
  have RD6 := Lib.hid (RD5.out.below hb)
  have RI6 := Lib.hid (RI5.out.below hb)
  have RX6 := Lib.hid (RX5.out.below hb)
  have HB6 := Lib.hid (below_old HB5.out hb)
  clear BE5 BC5 OE5 OC5 HD5 HI5 HX5 RD5 RI5 RX5 HB5
  have PP6 := Lib.hid hrp; have PF6 := Lib.hid hrf; have PD6 := Lib.hid hrdd
  clear hb hrp hrf hrdd
  go_wp2_with ((with_reducible refine at_store (ty := 34) (x := .tmp 8) (y := .tmp 37) ?_ ?_); exact rfl; refine wpList_store_blk rfl 34 (.tmp 8) (.tmp 37) rfl _ rfl (Blk.new u6 34 zeroPlan) rfl (by kernel_rfl) rfl rfl ?_; intro w7 b7 g7; refine StopT.mk ?_)
  have hs7 : Below u6.heap.size u6 w7 := ((Below.refl _ _).alloc (Nat.le_refl _) _).grown g7 (by simp) (fun j hj => by cases hj; exact Nat.le_refl _)
  have BE7 := Lib.hid (BE6.out.below hs7 BE6.out.lt)
  have BC7 := Lib.hid (BC6.out.below hs7 BC6.out.lt)
  have OE7 := Lib.hid (OE6.out.below hs7 OE6.out.lt)
  have OC7 := Lib.hid (OC6.out.below hs7 OC6.out.lt)
  have HD7 := Lib.hid (HD6.out.below hs7)
  have HI7 := Lib.hid (HI6.out.below hs7)
  have HX7 := Lib.hid (HX6.out.below hs7)
  have RD7 := Lib.hid (RD6.out.below hs7)
  have RI7 := Lib.hid (RI6.out.below hs7)
  have RX7 := Lib.hid (RX6.out.below hs7)
  have PP7 := Lib.hid (PP6.out.below hs7)
  have PF7 := Lib.hid (PF6.out.below hs7)
  have PD7 := Lib.hid (PD6.out.below hs7)
  have HB7 := Lib.hid (below_old HB6.out hs7)
  clear BE6 BC6 OE6 OC6 HD6 HI6 HX6 RD6 RI6 RX6 PP6 PF6 PD6 HB6
  have OP7 : Hid (Blk w7 u6.heap.size 34 (planCells PL (.slice Ap1 PL.parts.length cp1) (.slice Af1 PL.from_.length cf1) (.slice Ad1 PL.data.length cd1))) := Lib.hid b7
  clear b7 g7 hs7
  unfold StopT
  go_wp2_with (first | ((with_reducible refine at_load (ty := 26) (x := .tmp 2) ?_ ?_); exact rfl; refine wpList_load_blk rfl 26 (.tmp 2) rfl _ rfl BE7.out whole_ent ?_) | ((with_reducible refine at_load (ty := 29) (x := .tmp 3) ?_ ?_); exact rfl; refine wpList_load_blk rfl 29 (.tmp 3) rfl _ rfl BC7.out whole_cfg ?_))
  refine (decideB e c (cd := cd) (c1 := c1) (c2 := c2) _ m (decIn_of H.out HD7.out HI7.out HX7.out) (HM.out _ HB7.out)).mono ?_
  rintro en u8 ⟨hb, v, rfl, hrd⟩
  rw [← HPL.out] at hrd
  obtain ⟨vp, vf, vd, rfl, ⟨Ap2, cp2, _, rfl, hrp⟩, ⟨Af2, cf2, _, rfl, hrf⟩, ⟨Ad2, cd2, _, rfl, hrdd⟩⟩ := hrd
  have BE8 := Lib.hid (BE7.out.below hb BE7.out.lt)
  have BC8 := Lib.hid (BC7.out.below hb BC7.out.lt)
  have OE8 := Lib.hid (OE7.out.below hb OE7.out.lt)
  have OC8 := Lib.hid (OC7.out.below hb OC7.out.lt)
  have OP8 := Lib.hid (OP7.out.below hb OP7.out.lt)
  have HD8 := Lib.hid (HD7.out.below hb)
  have HI8 := Lib.hid (HI7.out.below hb)
  have HX8 := Lib.hid (HX7.out.below hb)
  have RD8 := Lib.hid (RD7.out.below hb)
  have RI8 := Lib.hid (RI7.out.below hb)
  have RX8 := Lib.hid (RX7.out.below hb)
  have PP8 := Lib.hid (PP7.out.below hb)
  have PF8 := Lib.hid (PF7.out.below hb)
  have PD8 := Lib.hid (PD7.out.below hb)
  have HB8 := Lib.hid (below_old HB7.out hb)
  clear BE7 BC7 OE7 OC7 OP7 HD7 HI7 HX7 RD7 RI7 RX7 PP7 PF7 PD7 HB7
  have QP8 := Lib.hid hrp; have QF8 := Lib.hid hrf; have QD8 := Lib.hid hrdd
  clear hb hrp hrf hrdd
  go_wp2_with ((with_reducible refine at_store (ty := 40) (x := .tmp 9) (y := .tmp 40) ?_ ?_); exact rfl; refine wpList_store_blk rfl 40 (.tmp 9) (.tmp 40) rfl _ rfl (Blk.new u8 40 zeroPlan) rfl (by kernel_rfl) rfl rfl ?_; intro w9 b9 g9; refine StopT.mk ?_)
  have hs9 : Below u8.heap.size u8 w9 := ((Below.refl _ _).alloc (Nat.le_refl _) _).grown g9 (by simp) (fun j hj => by cases hj; exact Nat.le_refl _)
  have BE9 := Lib.hid (BE8.out.below hs9 BE8.out.lt)
  have BC9 := Lib.hid (BC8.out.below hs9 BC8.out.lt)
  have OE9 := Lib.hid (OE8.out.below hs9 OE8.out.lt)
  have OC9 := Lib.hid (OC8.out.below hs9 OC8.out.lt)
  have OP9 := Lib.hid (OP8.out.below hs9 OP8.out.lt)
  have HD9 := Lib.hid (HD8.out.below hs9)
  have HI9 := Lib.hid (HI8.out.below hs9)
  have HX9 := Lib.hid (HX8.out.below hs9)
  have RD9 := Lib.hid (RD8.out.below hs9)
  have RI9 := Lib.hid (RI8.out.below hs9)
  have RX9 := Lib.hid (RX8.out.below hs9)
  have PP9 := Lib.hid (PP8.out.below hs9)
  have PF9 := Lib.hid (PF8.out.below hs9)
  have PD9 := Lib.hid (PD8.out.below hs9)
  have QP9 := Lib.hid (QP8.out.below hs9)
  have QF9 := Lib.hid (QF8.out.below hs9)
  have QD9 := Lib.hid (QD8.out.below hs9)
  have HB9 := Lib.hid (below_old HB8.out hs9)
  clear BE8 BC8 OE8 OC8 OP8 HD8 HI8 HX8 RD8 RI8 RX8 PP8 PF8 PD8 QP8 QF8 QD8 HB8
  have OQ9 : Hid (Blk w9 u8.heap.size 40 (planCells PL (.slice Ap2 PL.parts.length cp2) (.slice Af2 PL.from_.length cf2) (.slice Ad2 PL.data.length cd2))) := Lib.hid b9
  clear b9 g9 hs9
  unfold StopT
  go_wp2_with (first | ((with_reducible refine at_load (ty := 32) (x := .tmp 41) ?_ ?_); exact rfl; refine wpList_load_mid rfl 32 (.tmp 41) rfl u6.heap.size 2 rfl (jobCells PL _ _ _) _ (plan_range OP9.out) Tryd.underlying32 rfl (by kernel_rfl) ?_) | ((with_reducible refine at_store (ty := 32) (x := .tmp 10) (y := .tmp 42) ?_ ?_); exact rfl; refine wpList_store_blk rfl 32 (.tmp 10) (.tmp 42) rfl _ rfl (Blk.new w9 32 zeroJob) rfl (by kernel_rfl) rfl rfl ?_; intro w10 b10 g10; refine StopT.mk ?_))
  have hs10 : Below w9.heap.size w9 w10 := ((Below.refl _ _).alloc (Nat.le_refl _) _).grown g10 (by simp) (fun j hj => by cases hj; exact Nat.le_refl _)
  have BE10 := Lib.hid (BE9.out.below hs10 BE9.out.lt)
  have BC10 := Lib.hid (BC9.out.below hs10 BC9.out.lt)
  have OE10 := Lib.hid (OE9.out.below hs10 OE9.out.lt)
  have OC10 := Lib.hid (OC9.out.below hs10 OC9.out.lt)
  have OP10 := Lib.hid (OP9.out.below hs10 OP9.out.lt)
  have OQ10 := Lib.hid (OQ9.out.below hs10 OQ9.out.lt)
  have HD10 := Lib.hid (HD9.out.below hs10)
  have HI10 := Lib.hid (HI9.out.below hs10)
  have HX10 := Lib.hid (HX9.out.below hs10)
  have RD10 := Lib.hid (RD9.out.below hs10)
  have RI10 := Lib.hid (RI9.out.below hs10)
  have RX10 := Lib.hid (RX9.out.below hs10)
  have PP10 := Lib.hid (PP9.out.below hs10)
  have PF10 := Lib.hid (PF9.out.below hs10)
  have PD10 := Lib.hid (PD9.out.below hs10)
  have QP10 := Lib.hid (QP9.out.below hs10)
  have QF10 := Lib.hid (QF9.out.below hs10)
  have QD10 := Lib.hid (QD9.out.below hs10)
  have HB10 := Lib.hid (below_old HB9.out hs10)
  clear BE9 BC9 OE9 OC9 OP9 OQ9 HD9 HI9 HX9 RD9 RI9 RX9 PP9 PF9 PD9 QP9 QF9 QD9 HB9
  have OJ10 : Hid (Blk w10 w9.heap.size 32 (jobCells PL (.slice Ap1 PL.parts.length cp1) (.slice Af1 PL.from_.length cf1) (.slice Ad1 PL.data.length cd1)).toArray) := Lib.hid b10
  clear b10 g10 hs10
  unfold StopT
  go_wp2_with (first | ((with_reducible refine at_load (ty := 38) (x := .tmp 43) ?_ ?_); exact rfl; refine wpList_load_mid rfl 38 (.tmp 43) rfl u8.heap.size 2 rfl (jobCells PL _ _ _) _ (plan_range OQ10.out) Tryd.underlying38 rfl (by kernel_rfl) ?_) | ((with_reducible refine at_store (ty := 38) (x := .tmp 11) (y := .tmp 44) ?_ ?_); exact rfl; refine wpList_store_blk rfl 38 (.tmp 11) (.tmp 44) rfl _ rfl (Blk.new w10 38 zeroJob) rfl (by kernel_rfl) rfl rfl ?_; intro w11 b11 g11; refine StopT.mk ?_))
  have hs11 : Below w10.heap.size w10 w11 := ((Below.refl _ _).alloc (Nat.le_refl _) _).grown g11 (by simp) (fun j hj => by cases hj; exact Nat.le_refl _)
  have BE11 := Lib.hid (BE10.out.below hs11 BE10.out.lt)
  have BC11 := Lib.hid (BC10.out.below hs11 BC10.out.lt)
  have OE11 := Lib.hid (OE10.out.below hs11 OE10.out.lt)
  have OC11 := Lib.hid (OC10.out.below hs11 OC10.out.lt)
  have OP11 := Lib.hid (OP10.out.below hs11 OP10.out.lt)
  have OQ11 := Lib.hid (OQ10.out.below hs11 OQ10.out.lt)
  have OJ11 := Lib.hid (OJ10.out.below hs11 OJ10.out.lt)
  have HD11 := Lib.hid (HD10.out.below hs11)
  have HI11 := Lib.hid (HI10.out.below hs11)
  have HX11 := Lib.hid (HX10.out.below hs11)
  have RD11 := Lib.hid (RD10.out.below hs11)
  have RI11 := Lib.hid (RI10.out.below hs11)
  have RX11 := Lib.hid (RX10.out.below hs11)
  have PP11 := Lib.hid (PP10.out.below hs11)
  have PF11 := Lib.hid (PF10.out.below hs11)
  have PD11 := Lib.hid (PD10.out.below hs11)
  have QP11 := Lib.hid (QP10.out.below hs11)
  have QF11 := Lib.hid (QF10.out.below hs11)
  have QD11 := Lib.hid (QD10.out.below hs11)
  have HB11 := Lib.hid (below_old HB10.out hs11)
  clear BE10 BC10 OE10 OC10 OP10 OQ10 OJ10 HD10 HI10 HX10 RD10 RI10 RX10 PP10 PF10 PD10 QP10 QF10 QD10 HB10
  have OK11 : Hid (Blk w11 w10.heap.size 38 (jobCells PL (.slice Ap2 PL.parts.length cp2) (.slice Af2 PL.from_.length cf2) (.slice Ad2 PL.data.length cd2)).toArray) := Lib.hid b11
  clear b11 g11 hs11
  unfold StopT
  have k0 := OP11.out.cell 0
  have k1 := OP11.out.cell 1
  have kl := OP11.out.lt
  simp only [planCells, List.getElem?_toArray, List.getElem?_cons_succ, List.getElem?_cons_zero] at k0 k1
  have q0 := OQ11.out.cell 0
  have q1 := OQ11.out.cell 1
  have ql := OQ11.out.lt
  simp only [planCells, List.getElem?_toArray, List.getElem?_cons_succ, List.getElem?_cons_zero] at q0 q1
  have x0 := OE11.out.cell 0
  have x1 := OE11.out.cell 1
  have x2 := OE11.out.cell 2
  have x3 := OE11.out.cell 3
  have x4 := OE11.out.cell 4
  have x5 := OE11.out.cell 5
  have x6 := OE11.out.cell 6
  have x7 := OE11.out.cell 7
  have x8 := OE11.out.cell 8
  have x9 := OE11.out.cell 9
  have x10 := OE11.out.cell 10
  have xl := OE11.out.lt
  simp only [entC, List.getElem?_toArray, List.getElem?_cons_succ, List.getElem?_cons_zero] at x0 x1 x2 x3 x4 x5 x6 x7 x8 x9 x10
  have y0 := BE11.out.cell 0
  have y1 := BE11.out.cell 1
  have y2 := BE11.out.cell 2
  have y3 := BE11.out.cell 3
  have y4 := BE11.out.cell 4
  have y5 := BE11.out.cell 5
  have y6 := BE11.out.cell 6
  have y7 := BE11.out.cell 7
  have y8 := BE11.out.cell 8
  have y9 := BE11.out.cell 9
  have y10 := BE11.out.cell 10
  have yl := BE11.out.lt
  simp only [entC, List.getElem?_toArray, List.getElem?_cons_succ, List.getElem?_cons_zero] at y0 y1 y2 y3 y4 y5 y6 y7 y8 y9 y10
  go_wp2_with fail
  refine (sameEntry_eq _ RD11.out HD11.out (by have := RD11.out.1; have := HD11.out.1; have := HN.out.1; omega)).mono ?_
  rintro en w12' ⟨rfl, δ, rfl⟩
  have hb := below_over w11 δ
  have BE12 := Lib.hid (BE11.out.below hb BE11.out.lt)
  have BC12 := Lib.hid (BC11.out.below hb BC11.out.lt)
  have OE12 := Lib.hid (OE11.out.below hb OE11.out.lt)
  have OC12 := Lib.hid (OC11.out.below hb OC11.out.lt)
  have OP12 := Lib.hid (OP11.out.below hb OP11.out.lt)
  have OQ12 := Lib.hid (OQ11.out.below hb OQ11.out.lt)
  have OJ12 := Lib.hid (OJ11.out.below hb OJ11.out.lt)
  have OK12 := Lib.hid (OK11.out.below hb OK11.out.lt)
  have HD12 := Lib.hid (HD11.out.below hb)
  have HI12 := Lib.hid (HI11.out.below hb)
  have HX12 := Lib.hid (HX11.out.below hb)
  have RD12 := Lib.hid (RD11.out.below hb)
  have RI12 := Lib.hid (RI11.out.below hb)
  have RX12 := Lib.hid (RX11.out.below hb)
  have PP12 := Lib.hid (PP11.out.below hb)
  have PF12 := Lib.hid (PF11.out.below hb)
  have PD12 := Lib.hid (PD11.out.below hb)
  have QP12 := Lib.hid (QP11.out.below hb)
  have QF12 := Lib.hid (QF11.out.below hb)
  have QD12 := Lib.hid (QD11.out.below hb)
  have HB12 := Lib.hid (below_old HB11.out hb)
  clear BE11 BC11 OE11 OC11 OP11 OQ11 OJ11 OK11 HD11 HI11 HX11 RD11 RI11 RX11 PP11 PF11 PD11 QP11 QF11 QD11 HB11
  clear hb k0 k1 kl q0 q1 ql x0 x1 x2 x3 x4 x5 x6 x7 x8 x9 x10 xl y0 y1 y2 y3 y4 y5 y6 y7 y8 y9 y10 yl
  generalize over w11 δ = w12 at BE12 BC12 OE12 OC12 OP12 OQ12 OJ12 OK12 HD12 HI12 HX12 RD12 RI12 RX12 PP12 PF12 PD12 QP12 QF12 QD12 HB12 ⊢
  have k11 := OC12.out.cell 11
  have kl := OC12.out.lt
  simp only [cfgC, List.getElem?_toArray, List.getElem?_cons_succ, List.getElem?_cons_zero] at k11
  have q11 := BC12.out.cell 11
  have ql := BC12.out.lt
  simp only [cfgC, List.getElem?_toArray, List.getElem?_cons_succ, List.getElem?_cons_zero] at q11
  go_wp2_with fail
  refine (sameTexts _ RI12.out HI12.out (by have := RI12.out.1; have := HI12.out.1; have := HN.out.2.1; omega) (by have := HN.out.2.1; omega)).mono ?_
  rintro en w13' ⟨rfl, δ, rfl⟩
  have hb := below_over w12 δ
  have BE13 := Lib.hid (BE12.out.below hb BE12.out.lt)
  have BC13 := Lib.hid (BC12.out.below hb BC12.out.lt)
  have OE13 := Lib.hid (OE12.out.below hb OE12.out.lt)
  have OC13 := Lib.hid (OC12.out.below hb OC12.out.lt)
  have OP13 := Lib.hid (OP12.out.below hb OP12.out.lt)
  have OQ13 := Lib.hid (OQ12.out.below hb OQ12.out.lt)
  have OJ13 := Lib.hid (OJ12.out.below hb OJ12.out.lt)
  have OK13 := Lib.hid (OK12.out.below hb OK12.out.lt)
  have HD13 := Lib.hid (HD12.out.below hb)
  have HI13 := Lib.hid (HI12.out.below hb)
  have HX13 := Lib.hid (HX12.out.below hb)
  have RD13 := Lib.hid (RD12.out.below hb)
  have RI13 := Lib.hid (RI12.out.below hb)
  have RX13 := Lib.hid (RX12.out.below hb)
  have PP13 := Lib.hid (PP12.out.below hb)
  have PF13 := Lib.hid (PF12.out.below hb)
  have PD13 := Lib.hid (PD12.out.below hb)
  have QP13 := Lib.hid (QP12.out.below hb)
  have QF13 := Lib.hid (QF12.out.below hb)
  have QD13 := Lib.hid (QD12.out.below hb)
  have HB13 := Lib.hid (below_old HB12.out hb)
  clear BE12 BC12 OE12 OC12 OP12 OQ12 OJ12 OK12 HD12 HI12 HX12 RD12 RI12 RX12 PP12 PF12 PD12 QP12 QF12 QD12 HB12
  clear hb k11 kl q11 ql
  generalize over w12 δ = w13 at BE13 BC13 OE13 OC13 OP13 OQ13 OJ13 OK13 HD13 HI13 HX13 RD13 RI13 RX13 PP13 PF13 PD13 QP13 QF13 QD13 HB13 ⊢
  have k12 := OC13.out.cell 12
  have kl := OC13.out.lt
  simp only [cfgC, List.getElem?_toArray, List.getElem?_cons_succ, List.getElem?_cons_zero] at k12
  have q12 := BC13.out.cell 12
  have ql := BC13.out.lt
  simp only [cfgC, List.getElem?_toArray, List.getElem?_cons_succ, List.getElem?_cons_zero] at q12
  go_wp2_with fail
  refine (sameTexts _ RX13.out HX13.out (by have := RX13.out.1; have := HX13.out.1; have := HN.out.2.2; omega) (by have := HN.out.2.2; omega)).mono ?_
  rintro en w14' ⟨rfl, δ, rfl⟩
  have hb := below_over w13 δ
  have BE14 := Lib.hid (BE13.out.below hb BE13.out.lt)
  have BC14 := Lib.hid (BC13.out.below hb BC13.out.lt)
  have OE14 := Lib.hid (OE13.out.below hb OE13.out.lt)
  have OC14 := Lib.hid (OC13.out.below hb OC13.out.lt)
  have OP14 := Lib.hid (OP13.out.below hb OP13.out.lt)
  have OQ14 := Lib.hid (OQ13.out.below hb OQ13.out.lt)
  have OJ14 := Lib.hid (OJ13.out.below hb OJ13.out.lt)
  have OK14 := Lib.hid (OK13.out.below hb OK13.out.lt)
  have HD14 := Lib.hid (HD13.out.below hb)
  have HI14 := Lib.hid (HI13.out.below hb)
  have HX14 := Lib.hid (HX13.out.below hb)
  have RD14 := Lib.hid (RD13.out.below hb)
  have RI14 := Lib.hid (RI13.out.below hb)
  have RX14 := Lib.hid (RX13.out.below hb)
  have PP14 := Lib.hid (PP13.out.below hb)
  have PF14 := Lib.hid (PF13.out.below hb)
  have PD14 := Lib.hid (PD13.out.below hb)
  have QP14 := Lib.hid (QP13.out.below hb)
  have QF14 := Lib.hid (QF13.out.below hb)
  have QD14 := Lib.hid (QD13.out.below hb)
  have HB14 := Lib.hid (below_old HB13.out hb)
  clear BE13 BC13 OE13 OC13 OP13 OQ13 OJ13 OK13 HD13 HI13 HX13 RD13 RI13 RX13 PP13 PF13 PD13 QP13 QF13 QD13 HB13
  clear hb k12 kl q12 ql
  generalize over w13 δ = w14 at BE14 BC14 OE14 OC14 OP14 OQ14 OJ14 OK14 HD14 HI14 HX14 RD14 RI14 RX14 PP14 PF14 PD14 QP14 QF14 QD14 HB14 ⊢
  have k0 := OJ14.out.cell 0
  have k1 := OJ14.out.cell 1
  have k2 := OJ14.out.cell 2
  have k3 := OJ14.out.cell 3
  have k4 := OJ14.out.cell 4
  have k5 := OJ14.out.cell 5
  have k6 := OJ14.out.cell 6
  have k7 := OJ14.out.cell 7
  have k8 := OJ14.out.cell 8
  have k9 := OJ14.out.cell 9
  have k10 := OJ14.out.cell 10
  have k11 := OJ14.out.cell 11
  have k12 := OJ14.out.cell 12
  have kl := OJ14.out.lt
  simp only [jobCells, List.getElem?_toArray, List.getElem?_cons_succ, List.getElem?_cons_zero] at k0 k1 k2 k3 k4 k5 k6 k7 k8 k9 k10 k11 k12
  have q0 := OK14.out.cell 0
  have q1 := OK14.out.cell 1
  have q2 := OK14.out.cell 2
  have q3 := OK14.out.cell 3
  have q4 := OK14.out.cell 4
  have q5 := OK14.out.cell 5
  have q6 := OK14.out.cell 6
  have q7 := OK14.out.cell 7
  have q8 := OK14.out.cell 8
  have q9 := OK14.out.cell 9
  have q10 := OK14.out.cell 10
  have q11 := OK14.out.cell 11
  have q12 := OK14.out.cell 12
  have ql := OK14.out.lt
  simp only [jobCells, List.getElem?_toArray, List.getElem?_cons_succ, List.getElem?_cons_zero] at q0 q1 q2 q3 q4 q5 q6 q7 q8 q9 q10 q11 q12
  go_wp2_with fail
  refine (sameTexts _ PP14.out QP14.out (by have := HSM.out.1; omega) (by have := HSM.out.1; omega)).mono ?_
  rintro en w15' ⟨rfl, δ, rfl⟩
  have hb := below_over w14 δ
  have BE15 := Lib.hid (BE14.out.below hb BE14.out.lt)
  have BC15 := Lib.hid (BC14.out.below hb BC14.out.lt)
  have OE15 := Lib.hid (OE14.out.below hb OE14.out.lt)
  have OC15 := Lib.hid (OC14.out.below hb OC14.out.lt)
  have OP15 := Lib.hid (OP14.out.below hb OP14.out.lt)
  have OQ15 := Lib.hid (OQ14.out.below hb OQ14.out.lt)
  have OJ15 := Lib.hid (OJ14.out.below hb OJ14.out.lt)
  have OK15 := Lib.hid (OK14.out.below hb OK14.out.lt)
  have HD15 := Lib.hid (HD14.out.below hb)
  have HI15 := Lib.hid (HI14.out.below hb)
  have HX15 := Lib.hid (HX14.out.below hb)
  have RD15 := Lib.hid (RD14.out.below hb)
  have RI15 := Lib.hid (RI14.out.below hb)
  have RX15 := Lib.hid (RX14.out.below hb)
  have PP15 := Lib.hid (PP14.out.below hb)
  have PF15 := Lib.hid (PF14.out.below hb)
  have PD15 := Lib.hid (PD14.out.below hb)
  have QP15 := Lib.hid (QP14.out.below hb)
  have QF15 := Lib.hid (QF14.out.below hb)
  have QD15 := Lib.hid (QD14.out.below hb)
  have HB15 := Lib.hid (below_old HB14.out hb)
  clear BE14 BC14 OE14 OC14 OP14 OQ14 OJ14 OK14 HD14 HI14 HX14 RD14 RI14 RX14 PP14 PF14 PD14 QP14 QF14 QD14 HB14
  clear hb k0 k1 k2 k3 k4 k5 k6 k7 k8 k9 k10 k11 k12 kl q0 q1 q2 q3 q4 q5 q6 q7 q8 q9 q10 q11 q12 ql
  generalize over w14 δ = w15 at BE15 BC15 OE15 OC15 OP15 OQ15 OJ15 OK15 HD15 HI15 HX15 RD15 RI15 RX15 PP15 PF15 PD15 QP15 QF15 QD15 HB15 ⊢
  have k0 := OJ15.out.cell 0
  have k1 := OJ15.out.cell 1
  have k2 := OJ15.out.cell 2
  have k3 := OJ15.out.cell 3
  have k4 := OJ15.out.cell 4
  have k5 := OJ15.out.cell 5
  have k6 := OJ15.out.cell 6
  have k7 := OJ15.out.cell 7
  have k8 := OJ15.out.cell 8
  have k9 := OJ15.out.cell 9
  have k10 := OJ15.out.cell 10
  have k11 := OJ15.out.cell 11
  have k12 := OJ15.out.cell 12
  have kl := OJ15.out.lt
  simp only [jobCells, List.getElem?_toArray, List.getElem?_cons_succ, List.getElem?_cons_zero] at k0 k1 k2 k3 k4 k5 k6 k7 k8 k9 k10 k11 k12
  have q0 := OK15.out.cell 0
  have q1 := OK15.out.cell 1
  have q2 := OK15.out.cell 2
  have q3 := OK15.out.cell 3
  have q4 := OK15.out.cell 4
  have q5 := OK15.out.cell 5
  have q6 := OK15.out.cell 6
  have q7 := OK15.out.cell 7
  have q8 := OK15.out.cell 8
  have q9 := OK15.out.cell 9
  have q10 := OK15.out.cell 10
  have q11 := OK15.out.cell 11
  have q12 := OK15.out.cell 12
  have ql := OK15.out.lt
  simp only [jobCells, List.getElem?_toArray, List.getElem?_cons_succ, List.getElem?_cons_zero] at q0 q1 q2 q3 q4 q5 q6 q7 q8 q9 q10 q11 q12
  go_wp2_with fail
  refine (sameTexts _ PF15.out QF15.out (by have := HSM.out.2.1; omega) (by have := HSM.out.2.1; omega)).mono ?_
  rintro en w16' ⟨rfl, δ, rfl⟩
  have hb := below_over w15 δ
  have BE16 := Lib.hid (BE15.out.below hb BE15.out.lt)
  have BC16 := Lib.hid (BC15.out.below hb BC15.out.lt)
  have OE16 := Lib.hid (OE15.out.below hb OE15.out.lt)
  have OC16 := Lib.hid (OC15.out.below hb OC15.out.lt)
  have OP16 := Lib.hid (OP15.out.below hb OP15.out.lt)
  have OQ16 := Lib.hid (OQ15.out.below hb OQ15.out.lt)
  have OJ16 := Lib.hid (OJ15.out.below hb OJ15.out.lt)
  have OK16 := Lib.hid (OK15.out.below hb OK15.out.lt)
  have HD16 := Lib.hid (HD15.out.below hb)
  have HI16 := Lib.hid (HI15.out.below hb)
  have HX16 := Lib.hid (HX15.out.below hb)
  have RD16 := Lib.hid (RD15.out.below hb)
  have RI16 := Lib.hid (RI15.out.below hb)
  have RX16 := Lib.hid (RX15.out.below hb)
  have PP16 := Lib.hid (PP15.out.below hb)
  have PF16 := Lib.hid (PF15.out.below hb)
  have PD16 := Lib.hid (PD15.out.below hb)
  have QP16 := Lib.hid (QP15.out.below hb)
  have QF16 := Lib.hid (QF15.out.below hb)
  have QD16 := Lib.hid (QD15.out.below hb)
  have HB16 := Lib.hid (below_old HB15.out hb)
  clear BE15 BC15 OE15 OC15 OP15 OQ15 OJ15 OK15 HD15 HI15 HX15 RD15 RI15 RX15 PP15 PF15 PD15 QP15 QF15 QD15 HB15
  clear hb k0 k1 k2 k3 k4 k5 k6 k7 k8 k9 k10 k11 k12 kl q0 q1 q2 q3 q4 q5 q6 q7 q8 q9 q10 q11 q12 ql
  generalize over w15 δ = w16 at BE16 BC16 OE16 OC16 OP16 OQ16 OJ16 OK16 HD16 HI16 HX16 RD16 RI16 RX16 PP16 PF16 PD16 QP16 QF16 QD16 HB16 ⊢
  have k0 := OJ16.out.cell 0
  have k1 := OJ16.out.cell 1
  have k2 := OJ16.out.cell 2
  have k3 := OJ16.out.cell 3
  have k4 := OJ16.out.cell 4
  have k5 := OJ16.out.cell 5
  have k6 := OJ16.out.cell 6
  have k7 := OJ16.out.cell 7
  have k8 := OJ16.out.cell 8
  have k9 := OJ16.out.cell 9
  have k10 := OJ16.out.cell 10
  have k11 := OJ16.out.cell 11
  have k12 := OJ16.out.cell 12
  have kl := OJ16.out.lt
  simp only [jobCells, List.getElem?_toArray, List.getElem?_cons_succ, List.getElem?_cons_zero] at k0 k1 k2 k3 k4 k5 k6 k7 k8 k9 k10 k11 k12
  have q0 := OK16.out.cell 0
  have q1 := OK16.out.cell 1
  have q2 := OK16.out.cell 2
  have q3 := OK16.out.cell 3
  have q4 := OK16.out.cell 4
  have q5 := OK16.out.cell 5
  have q6 := OK16.out.cell 6
  have q7 := OK16.out.cell 7
  have q8 := OK16.out.cell 8
  have q9 := OK16.out.cell 9
  have q10 := OK16.out.cell 10
  have q11 := OK16.out.cell 11
  have q12 := OK16.out.cell 12
  have ql := OK16.out.lt
  simp only [jobCells, List.getElem?_toArray, List.getElem?_cons_succ, List.getElem?_cons_zero] at q0 q1 q2 q3 q4 q5 q6 q7 q8 q9 q10 q11 q12
  go_wp2_with fail
  refine (sameBytes _ PD16.out QD16.out (by have := HSM.out.2.2; omega) (by have := HSM.out.2.2; omega)).mono ?_
  rintro en w17' ⟨rfl, δ, rfl⟩
  have hb := below_over w16 δ
  have BE17 := Lib.hid (BE16.out.below hb BE16.out.lt)
  have BC17 := Lib.hid (BC16.out.below hb BC16.out.lt)
  have OE17 := Lib.hid (OE16.out.below hb OE16.out.lt)
  have OC17 := Lib.hid (OC16.out.below hb OC16.out.lt)
  have OP17 := Lib.hid (OP16.out.below hb OP16.out.lt)
  have OQ17 := Lib.hid (OQ16.out.below hb OQ16.out.lt)
  have OJ17 := Lib.hid (OJ16.out.below hb OJ16.out.lt)
  have OK17 := Lib.hid (OK16.out.below hb OK16.out.lt)
  have HD17 := Lib.hid (HD16.out.below hb)
  have HI17 := Lib.hid (HI16.out.below hb)
  have HX17 := Lib.hid (HX16.out.below hb)
  have RD17 := Lib.hid (RD16.out.below hb)
  have RI17 := Lib.hid (RI16.out.below hb)
  have RX17 := Lib.hid (RX16.out.below hb)
  have PP17 := Lib.hid (PP16.out.below hb)
  have PF17 := Lib.hid (PF16.out.below hb)
  have PD17 := Lib.hid (PD16.out.below hb)
  have QP17 := Lib.hid (QP16.out.below hb)
  have QF17 := Lib.hid (QF16.out.below hb)
  have QD17 := Lib.hid (QD16.out.below hb)
  have HB17 := Lib.hid (below_old HB16.out hb)
  clear BE16 BC16 OE16 OC16 OP16 OQ16 OJ16 OK16 HD16 HI16 HX16 RD16 RI16 RX16 PP16 PF16 PD16 QP16 QF16 QD16 HB16
  clear hb k0 k1 k2 k3 k4 k5 k6 k7 k8 k9 k10 k11 k12 kl q0 q1 q2 q3 q4 q5 q6 q7 q8 q9 q10 q11 q12 ql
  generalize over w16 δ = w17 at BE17 BC17 OE17 OC17 OP17 OQ17 OJ17 OK17 HD17 HI17 HX17 RD17 RI17 RX17 PP17 PF17 PD17 QP17 QF17 QD17 HB17 ⊢
  have k0 := OJ17.out.cell 0
  have k1 := OJ17.out.cell 1
  have k2 := OJ17.out.cell 2
  have k3 := OJ17.out.cell 3
  have k4 := OJ17.out.cell 4
  have k5 := OJ17.out.cell 5
  have k6 := OJ17.out.cell 6
  have k7 := OJ17.out.cell 7
  have k8 := OJ17.out.cell 8
  have k9 := OJ17.out.cell 9
  have k10 := OJ17.out.cell 10
  have k11 := OJ17.out.cell 11
  have k12 := OJ17.out.cell 12
  have kl := OJ17.out.lt
  simp only [jobCells, List.getElem?_toArray, List.getElem?_cons_succ, List.getElem?_cons_zero] at k0 k1 k2 k3 k4 k5 k6 k7 k8 k9 k10 k11 k12
  have q0 := OK17.out.cell 0
  have q1 := OK17.out.cell 1
  have q2 := OK17.out.cell 2
  have q3 := OK17.out.cell 3
  have q4 := OK17.out.cell 4
  have q5 := OK17.out.cell 5
  have q6 := OK17.out.cell 6
  have q7 := OK17.out.cell 7
  have q8 := OK17.out.cell 8
  have q9 := OK17.out.cell 9
  have q10 := OK17.out.cell 10
  have q11 := OK17.out.cell 11
  have q12 := OK17.out.cell 12
  have ql := OK17.out.lt
  simp only [jobCells, List.getElem?_toArray, List.getElem?_cons_succ, List.getElem?_cons_zero] at q0 q1 q2 q3 q4 q5 q6 q7 q8 q9 q10 q11 q12
  go_wp2_with fail
  go_ret
  exact ⟨rfl, HB17.out⟩
theorem own : ownKnob Tryd.prog.godebug = none := by kernel_rfl
theorem laidOut : laidOutB Tryd.prog = true := by kernel_rfl
set_option maxRecDepth 100000 in
theorem contract (H : Type) (enc : TypeId × Value → H) (W : World) (base : Nat) (args : Array Value) (ds gs : List (DataW H)) (before : List MemPlace)
    (hval : ∀ (j : Nat) t v, Tryd.f3.params[j]? = some t → args[j]? = some v → Value.okWide Tryd.prog W .any base t v)
    (hW : DataW.Whole enc Tryd.prog Tryd.f3.params.toList Rows.extractDecidesSpec.vars false W args.toList ds gs before) (hk : Rows.uptoSmall H (ds ++ gs) = true) (hL : laidMetH Tryd.prog Rows.extractDecidesUptoRow.laid W) (hsh : W.ShapedOpen Tryd.prog) :
    Calls Tryd.prog 3 args W fun e W' => ∃ v, e = .returned v ∧ Rows.extractDecidesSpec.post enc Tryd.prog Tryd.f3 false true false false W args v W' := by
  have hW' := hW
  obtain ⟨p, q, hA0, hV, rfl, hfz, hnd⟩ := hW
  have hA : DataW.TrodAll enc Tryd.prog W 0 (fun _ => true) true Tryd.f3.params.toList args.toList ds p := hA0
  rw [Tryd.params3] at hA hval
  obtain ⟨v0, vs0, d0, ds0, p0, q0, hargs, rfl, rfl, h0, r0⟩ := trodAll_cons hA
  obtain ⟨v1, vs1, d1, ds1, p1, q1, rfl, rfl, rfl, h1, r1⟩ := trodAll_cons r0
  obtain ⟨rfl, rfl, rfl⟩ := trodAll_nil r1
  obtain rfl : args = #[v0, v1] := by cases args; simp_all
  obtain ⟨rfl, rfl⟩ := trodVars_none hV
  have k0 := h0
  have lt0 : ∀ x ∈ p0, x.block < W.heap.size := by obtain ⟨m, hm⟩ := k0; exact DataW.trod_lt m _ _ _ hm
  have k1 := h1
  have lt1 : ∀ x ∈ p1, x.block < W.heap.size := by obtain ⟨m, hm⟩ := k1; exact DataW.trod_lt m _ _ _ hm
  obtain ⟨m0, hm0⟩ := h0
  obtain ⟨m1, hm1⟩ := h1
  obtain ⟨cs0, rfl, hsz0⟩ := okWide_struct Tryd.underlying26 (hval 0 26 v0 rfl rfl)
  obtain ⟨cs1, rfl, hsz1⟩ := okWide_struct Tryd.underlying29 (hval 1 29 v1 rfl rfl)
  obtain ⟨d, hh, hbk0⟩ := opens_EntryD.2 hm0
  obtain ⟨c, hh', hbk1⟩ := opens_ConfigD.2 hm1
  obtain ⟨A, n, cd, hcs, j0, j1, j2, j3, j4, j5, j6, j7, j8, j9, j10, j11, j12⟩ := hh
  obtain ⟨A1, n1, c1, A2, n2, c2, hcs', q0, q1, q2, q3, q4, q5, q6, q7, q8, q9, q10, q11, q12, q13, q14⟩ := hh'
  obtain rfl : cs0 = entC d A n cd := by apply Array.ext'; exact hcs
  obtain rfl : cs1 = cfgC c A1 n1 c1 A2 n2 c2 := by apply Array.ext'; exact hcs'
  have hbound : Rows.uptoBulkAll [d0, d1] ≤ 1048576 := of_decide_eq_true hk
  simp only [Rows.uptoBulkAll] at hbound
  obtain ⟨mx, hmx⟩ := door_max hsh
  clear hA0
  refine (law d c W mx (dec_in j12 q11 q14 hbk0 hbk1 (by omega)) hmx).mono fun e W' ⟨he, bel⟩ => ?_
  subst he
  exact ⟨_, rfl, _, _, _, [], _, [], hW', trodAll_mk1 (shut_bool Tryd.underlying4 _), (trodAll_cons_mk (Below.trod laidOut (by kernel_rfl) (of_decide_eq_true (by kernel_rfl)) k0 bel lt0) (trodAll_cons_mk (Below.trod laidOut (by kernel_rfl) (of_decide_eq_true (by kernel_rfl)) k1 bel lt1) trodAll_mk0)), rfl, bel.frame _, fun h => by cases h⟩
theorem laid_met (os : Os) : laidMetH Tryd.prog Rows.extractDecidesUptoRow.laid ((laidWorld os).forCall (fun _ _ => 0) ⟨#[], #[.agg #[.int .i64 0, .string ⟨#[]⟩, .string ⟨#[]⟩, .int .i64 0, .int .i64 0, .int .i64 0, .string ⟨#[]⟩, .string ⟨#[]⟩, .int .i64 0, .int .i64 0, .slice none 0 0], .agg #[.int .i64 0, .int .i64 0, .int .i64 0, .int .i64 0, .int .i64 0, .int .i64 0, .int .i64 0, .int .i64 0, .int .i64 0, .bool false, .bool false, .slice none 0 0, .slice none 0 0]], []⟩).memory := laidMetH_of_parts3 (fuel := 8) (laidMet_of_run' 8 (by kernel_rfl) (by kernel_rfl)) (by kernel_rfl) (by kernel_rfl)
theorem reads (os : Os) {H : Type} (enc : TypeId × Value → H) : ∃ places, DataW.whole enc Tryd.prog ((laidWorld os).forCall (fun _ _ => 0) ⟨#[], #[.agg #[.int .i64 0, .string ⟨#[]⟩, .string ⟨#[]⟩, .int .i64 0, .int .i64 0, .int .i64 0, .string ⟨#[]⟩, .string ⟨#[]⟩, .int .i64 0, .int .i64 0, .slice none 0 0], .agg #[.int .i64 0, .int .i64 0, .int .i64 0, .int .i64 0, .int .i64 0, .int .i64 0, .int .i64 0, .int .i64 0, .int .i64 0, .bool false, .bool false, .slice none 0 0, .slice none 0 0]], []⟩).memory Tryd.f3.params.toList Rows.extractDecidesSpec.vars false (#[.agg #[.int .i64 0, .string ⟨#[]⟩, .string ⟨#[]⟩, .int .i64 0, .int .i64 0, .int .i64 0, .string ⟨#[]⟩, .string ⟨#[]⟩, .int .i64 0, .int .i64 0, .slice none 0 0], .agg #[.int .i64 0, .int .i64 0, .int .i64 0, .int .i64 0, .int .i64 0, .int .i64 0, .int .i64 0, .int .i64 0, .int .i64 0, .bool false, .bool false, .slice none 0 0, .slice none 0 0]] : Array Value).toList 8 = some ([.agg [.lit (.int .i64 0), .lit (.string []), .lit (.string []), .lit (.int .i64 0), .lit (.int .i64 0), .lit (.int .i64 0), .lit (.string []), .lit (.string []), .agg [.lit (.int .i64 0), .lit (.int .i64 0)], .nil], .agg [.lit (.int .i64 0), .lit (.int .i64 0), .lit (.int .i64 0), .lit (.int .i64 0), .lit (.int .i64 0), .lit (.int .i64 0), .lit (.int .i64 0), .lit (.int .i64 0), .lit (.int .i64 0), .lit (.bool false), .lit (.bool false), .nil, .nil]], [], places) := ⟨[], by kernel_rfl⟩
set_option maxRecDepth 100000 in
theorem lifted (os : Os) (started : os.Started) (H : Type) (enc : TypeId × Value → H) (F : Stop.Interp) :
    ReturnsInHanded {} Tryd.checked os 3 .any ((Rows.OpenSpec.upto Rows.extractDecidesSpec).preRow enc Tryd.prog Tryd.f3 Rows.extractDecidesUptoRow.domain false Rows.extractDecidesUptoRow.laid) (((Rows.OpenSpec.upto Rows.extractDecidesSpec).at F).post enc Tryd.prog Tryd.f3 false true false false) := by
  obtain ⟨places, hx⟩ := reads os enc
  refine returnsInHanded_of_row (C := Tryd.checked) (s := (Rows.OpenSpec.upto Rows.extractDecidesSpec)) own started (by kernel_rfl) Tryd.func3
    (witness_row_atRef (enc := enc) (C := Tryd.checked) false (laidWorld os) #[.agg #[.int .i64 0, .string ⟨#[]⟩, .string ⟨#[]⟩, .int .i64 0, .int .i64 0, .int .i64 0, .string ⟨#[]⟩, .string ⟨#[]⟩, .int .i64 0, .int .i64 0, .slice none 0 0], .agg #[.int .i64 0, .int .i64 0, .int .i64 0, .int .i64 0, .int .i64 0, .int .i64 0, .int .i64 0, .int .i64 0, .int .i64 0, .bool false, .bool false, .slice none 0 0, .slice none 0 0]] rfl (by kernel_rfl) (by kernel_rfl) (by kernel_rfl)
      (OpenSpec.preRow_of_cond 8 hx (by kernel_rfl) (fun k hk => by cases hk; kernel_rfl) (by kernel_rfl) (laid_met os))) ?_
  intro W base args ds gs before hval hW _ hcond _ hL hsh _
  exact contract H enc W base args ds gs before hval hW (hcond _ rfl) hL hsh
theorem said : Rows.extractDecidesUptoRow.holds Tryd.pinned (Rows.OpenSpec.upto Rows.extractDecidesSpec) :=
  OpenClaim.holds_of_cond 3 Tryd.f3 rfl rfl rfl rfl rfl rfl rfl ⟨rfl, rfl, rfl, rfl, rfl⟩ rfl rfl rfl rfl rfl (by kernel_rfl) Tryd.func3 (by kernel_rfl)
    (of_decide_eq_true (by kernel_rfl)) (by unfold Func.isWrapper; first | (rw [if_pos (by decide +kernel)]; kernel_rfl) | (rw [if_neg (by decide +kernel)]; exact ⟨rfl, rfl⟩))
    (fun os started H enc _ F => by rw [OpenClaim.pre_eq_preRow]; exact lifted os started H enc F)
theorem plain (f : FuncId) (fn : Func) (hf : Tryd.pinned.checked.prog.funcNamed "valise/valiselaw24.ExtractDecides" = some f) (hfn : Tryd.pinned.checked.prog.funcs[f]? = some fn) :
    false = Tryd.pinned.checked.prog.looks [] ∧ ∀ (j : Nat) t, fn.params[j]? = some t → Tryd.pinned.checked.prog.wantsStandIn t = false := by
  obtain rfl : f = 3 := Option.some.inj ((show Tryd.prog.funcNamed "valise/valiselaw24.ExtractDecides" = some 3 by kernel_rfl).symm.trans hf) |>.symm
  obtain rfl : fn = Tryd.f3 := (Option.some.inj (Tryd.func3.symm.trans hfn)).symm
  refine ⟨by kernel_rfl, fun j t ht => ?_⟩
  rw [Tryd.params3] at ht
  have hm := Array.mem_of_getElem? ht
  simp only [List.mem_toArray, List.mem_cons, List.not_mem_nil, or_false] at hm
  rcases hm with rfl | rfl
  · exact (show Tryd.prog.wantsStandIn 26 = false by kernel_rfl)
  · exact (show Tryd.prog.wantsStandIn 29 = false by kernel_rfl)
theorem proved : Rows.ExtractDecidesUptoCardSaid :=
  Claim7.holds_tied_plain_at .later [] _ _ _ _ said (fun _ h => by cases h) (by kernel_rfl) (fun _ h => by cases h) extractDecidesUpto_row_tie rfl ⟨rfl, rfl⟩ (by kernel_rfl) rfl plain (by kernel_rfl)
end extractDecides
end Go.Proofs.YtjknjmlpnjifkaaDoor
