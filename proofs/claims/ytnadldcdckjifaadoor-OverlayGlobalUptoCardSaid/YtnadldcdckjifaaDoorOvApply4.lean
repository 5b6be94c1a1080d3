/- overlay.Apply: what it answers without a time. No condition but room and what the library's variables hold. -/
import Derived.Test.YtnadldcdckjifaaDoorOvApply2
namespace Go.Proofs.YtnadldcdckjifaaDoor
open Go.RowKit
set_option linter.unusedVariables false
set_option linter.unusedSimpArgs false
attribute [local go_sem] cell?_over frozen?_over lt_over le_over lt2 lt3 lt4

set_option maxHeartbeats 4000000 in
set_option maxRecDepth 100000 in
theorem ovApply_m1 {x : ApIn} {A A' : Option Addr} {n c n' c' : Nat} (w : World) (ho : ApOk x w A A' n n') (hstr : ApStr x) (hx : x.typeBad = false) (hs : x.sparseBad = false) (hm : MaxLenOk w) (hv : ErrRangeOk w) (hnum : Hid (x.numBad = false)) (hzz : Hid ((x.v kMtime).size = 0)) :
    Calls Tryd.prog 20 (x.args A A' n c n' c') w fun e w' => e = .returned x.res ∧ Below w.heap.size w w' := by
  have h12 := type_ok hx
  obtain ⟨h1, h2⟩ := h12
  have hgs : sparseL x.g = false := by unfold ApIn.sparseBad at hs; simp only [Bool.or_eq_false_iff] at hs; exact hs.1
  have hls : sparseL x.l = false := by unfold ApIn.sparseBad at hs; simp only [Bool.or_eq_false_iff] at hs; exact hs.2
  have HGS := Lib.hid hgs; have HLS := Lib.hid hls
  have HRES := Lib.hid (show x.res = if x.numBad then .tuple #[.agg ent0, .int .i64 0, .int .i64 60] else if x.timeBad then .tuple #[.agg ent0, .int .i64 0, .int .i64 60] else .tuple #[.agg x.ent, .int .i64 x.size, .int .i64 0] by unfold ApIn.res; rw [hx, hs]; rfl)
  clear hgs hls hx hs
  unfold ApIn.args HeaderD.cells
  go_enter Tryd.func20, Tryd.ntmps20
  go_wp2_with fail
  refine (isSparse _ (ho.g.below (show Below w.heap.size w ((w.alloc (.cells #[.string x.h.name, .string x.h.link, .int .i64 x.h.mode, .int .i64 x.h.uid, .int .i64 x.h.gid, .int .i64 x.h.size, .int .i64 x.h.mtime, .int .u8 x.h.type.toNat, .string x.h.user, .string x.h.group, .int .i64 x.h.major, .int .i64 x.h.minor, .int .i64 x.h.form] 34)).alloc (.cells #[.int .i64 0, .string ⟨#[]⟩, .string ⟨#[]⟩, .int .i64 0, .int .i64 0, .int .i64 0, .string ⟨#[]⟩, .string ⟨#[]⟩, .int .i64 0, .int .i64 0, .slice none 0 0] 41)) by go_grown)) ho.n).mono ?_
  rintro e w1 ⟨rfl, hb1⟩
  rw [HGS.out]
  obtain ⟨bT, bR, hbw1, hsz1⟩ := blks2 hb1
  have HT := Lib.hid bT; have HBk := Lib.hid bR; have HA := Lib.hid hbw1
  clear hb1 bT bR hbw1
  go_wp2_with fail
  refine (isSparse _ (ho.l.below HA.out) ho.n').mono ?_
  rintro e w2 ⟨rfl, hb2⟩
  rw [HLS.out]
  replace HT := Lib.hid (HT.out.below hb2 HT.out.lt); replace HBk := Lib.hid (HBk.out.below hb2 HBk.out.lt); replace HA := Lib.hid (below_old HA.out hb2)
  have hB2 : w.heap.size + 2 ≤ w2.heap.size := by have := hb2.size; omega
  clear hb2 hsz1
  go_wp2_with fail
  refine (lvS.new _ 4 ⟨by decide, by decide⟩).mono ?_
  rintro e w3 ⟨δ, p, rfl, hw3, hat⟩
  have hb3 := below_of hw3
  have e4 : (min (max (4 : Int) 1) 8).toNat = 4 := by decide
  rw [e4] at hat
  have TAB : Hid (OvTab w w2.heap.size (From w2.heap.size w3) p [[], [], [], []] w3) := Lib.hid ⟨below_old HA.out hb3, hat, fun n hn => hn.2, fun n hn => hn.1, HA.out.size, hb3.size⟩
  replace HT := Lib.hid (HT.out.below hb3 HT.out.lt); replace HBk := Lib.hid (HBk.out.below hb3 HBk.out.lt)
  clear hw3 hat hb3 e4 HA
  generalize From w2.heap.size w3 = M at *
  generalize w2.heap.size = B at *
  have hnT : ¬ M w.heap.size := fun hm => by have := TAB.out.ge _ hm; omega
  have hnR : ¬ M (w.heap.size + 1) := fun hm => by have := TAB.out.ge _ hm; omega
  have kk := hd_cells HT.out
  obtain ⟨k0, k1, k2, k3, k4, k5, k6, k7, k8, k9⟩ := kk
  have ltT := HT.out.lt
  go_wp2_with fail
  refine (lay_low (M := M) (Mr := fun n => n = w3.heap.size) _ 0 (fun n hn => by have := TAB.out.lt n hn; simp; omega) (TAB.out.alloc _).at_ (by show 0 < 4; decide) (by decide) (row_hd w3 49 hstr.hd) (fun n hn => by subst hn; exact ⟨by simp, fun hm => by have := TAB.out.lt _ hm; omega⟩) (by decide)).mono ?_
  rintro e w4 ⟨rfl, hc, hat⟩
  have hat2 : lvS.At w4 M p [layKv [] (hdPairs x.h.name x.h.link x.h.user x.h.group), [], [], []] := hat
  replace HT := Lib.hid ((HT.out.alloc _).chg' hc hnT); replace HBk := Lib.hid ((HBk.out.alloc _).chg' hc hnR); replace TAB := Lib.hid ((TAB.out.alloc _).chg hc hat2)
  clear hc hat hat2
  clear k0 k1 k2 k3 k4 k5 k6 k7 k8 k9 ltT
  go_wp2_with fail
  refine (lay_low (M := M) (Mr := Old w) _ 1 TAB.out.lt TAB.out.at_ (by show 1 < 4; decide) (by decide) (ho.g.keep (Keeps.old TAB.out.bel)) (fun n hn => ⟨Nat.lt_of_lt_of_le hn TAB.out.bel.size, fun hm => by have := TAB.out.ge _ hm; have : n < w.heap.size := hn; omega⟩) ho.n).mono ?_
  rintro e w5 ⟨rfl, hc, hat⟩
  have hat2 : lvS.At w5 M p [layKv [] (hdPairs x.h.name x.h.link x.h.user x.h.group), layKv [] x.g, [], []] := hat
  replace HT := Lib.hid ((HT.out).chg' hc hnT); replace HBk := Lib.hid ((HBk.out).chg' hc hnR); replace TAB := Lib.hid ((TAB.out).chg hc hat2)
  clear hc hat hat2
  go_wp2_with fail
  refine (lay_low (M := M) (Mr := fun n => n = w5.heap.size) _ 2 (fun n hn => by have := TAB.out.lt n hn; simp; omega) (TAB.out.alloc _).at_ (by show 2 < 4; decide) (by decide) (row_lg w5 49 hstr.lg) (fun n hn => by subst hn; exact ⟨by simp, fun hm => by have := TAB.out.lt _ hm; omega⟩) (by decide)).mono ?_
  rintro e w6 ⟨rfl, hc, hat⟩
  have hat2 : lvS.At w6 M p [layKv [] (hdPairs x.h.name x.h.link x.h.user x.h.group), layKv [] x.g, layKv [] (lgPairs x.ln x.ll), []] := hat
  replace HT := Lib.hid ((HT.out.alloc _).chg' hc hnT); replace HBk := Lib.hid ((HBk.out.alloc _).chg' hc hnR); replace TAB := Lib.hid ((TAB.out.alloc _).chg hc hat2)
  clear hc hat hat2
  go_wp2_with fail
  refine (lay_top (M := M) (Mr := Old w) _ TAB.out.lt TAB.out.at_ rfl (ho.l.keep (Keeps.old TAB.out.bel)) (fun n hn => ⟨Nat.lt_of_lt_of_le hn TAB.out.bel.size, fun hm => by have := TAB.out.ge _ hm; have : n < w.heap.size := hn; omega⟩) ho.n').mono ?_
  rintro e w7 ⟨rfl, hc, hat⟩
  have hat2 : lvS.At w7 M p x.rows := hat
  replace HT := Lib.hid ((HT.out).chg' hc hnT); replace HBk := Lib.hid ((HBk.out).chg' hc hnR); replace TAB := Lib.hid ((TAB.out).chg hc hat2)
  clear hc hat hat2
  have kk := hd_cells HT.out
  obtain ⟨k0, k1, k2, k3, k4, k5, k6, k7, k8, k9⟩ := kk
  have ltT := HT.out.lt
  go_wp2_with fail
  refine (ovNumber _ kSize (x.v kSize) x.h.size _ TAB.out.at_ (by show 4 ≤ 8; decide) x.top_size (ho.v _) (hv.keep TAB.out.bel)).mono ?_
  rintro e w8 ⟨rfl, hb⟩
  replace HT := Lib.hid (HT.out.below hb HT.out.lt); replace HBk := Lib.hid (HBk.out.below hb HBk.out.lt)
  replace TAB := Lib.hid (TAB.out.keep hb)
  clear hb
  clear k0 k1 k2 k3 k4 k5 k6 k7 k8 k9 ltT
  have kk := hd_cells HT.out
  obtain ⟨k0, k1, k2, k3, k4, k5, k6, k7, k8, k9⟩ := kk
  have ltT := HT.out.lt
  go_wp2_with fail
  refine (ovNumber _ kUid (x.v kUid) x.h.uid _ TAB.out.at_ (by show 4 ≤ 8; decide) x.top_uid (ho.v _) (hv.keep TAB.out.bel)).mono ?_
  rintro e w9 ⟨rfl, hb⟩
  replace HT := Lib.hid (HT.out.below hb HT.out.lt); replace HBk := Lib.hid (HBk.out.below hb HBk.out.lt)
  replace TAB := Lib.hid (TAB.out.keep hb)
  clear hb
  clear k0 k1 k2 k3 k4 k5 k6 k7 k8 k9 ltT
  have kk := hd_cells HT.out
  obtain ⟨k0, k1, k2, k3, k4, k5, k6, k7, k8, k9⟩ := kk
  have ltT := HT.out.lt
  go_wp2_with fail
  refine (ovNumber _ kGid (x.v kGid) x.h.gid _ TAB.out.at_ (by show 4 ≤ 8; decide) x.top_gid (ho.v _) (hv.keep TAB.out.bel)).mono ?_
  rintro e w10 ⟨rfl, hb⟩
  replace HT := Lib.hid (HT.out.below hb HT.out.lt); replace HBk := Lib.hid (HBk.out.below hb HBk.out.lt)
  replace TAB := Lib.hid (TAB.out.keep hb)
  clear hb
  clear k0 k1 k2 k3 k4 k5 k6 k7 k8 k9 ltT
  have HNB : Hid (x.numBad = (!(numOk (x.v kSize) 9223372036854775807) || !(numOk (x.v kUid) 2147483647) || !(numOk (x.v kGid) 2147483647))) := Lib.hid rfl
  have HENT : Hid (x.ent = entCells x.kind x.name x.link x.mode (numN (x.v kUid) x.h.uid) (numN (x.v kGid) x.h.gid) x.user x.group x.sec x.nano) := Lib.hid rfl
  have HSIZ : Hid (x.size = if x.h.type = 48 then numN (x.v kSize) x.h.size else 0) := Lib.hid rfl
  generalize numN (x.v kSize) x.h.size = N1 at *
  generalize numN (x.v kUid) x.h.uid = N2 at *
  generalize numN (x.v kGid) x.h.gid = N3 at *
  generalize numOk (x.v kSize) 9223372036854775807 = B1 at *
  generalize numOk (x.v kUid) 2147483647 = B2 at *
  generalize numOk (x.v kGid) 2147483647 = B3 at *
  have hBs : B1 = true ∧ B2 = true ∧ B3 = true := by have h := HNB.out; rw [hnum.out] at h; revert h; cases B1 <;> cases B2 <;> cases B3 <;> simp
  obtain ⟨rfl, rfl, rfl⟩ := hBs
  have HRES2 := Lib.hid (show x.res = if x.timeBad then .tuple #[.agg ent0, .int .i64 0, .int .i64 60] else .tuple #[.agg x.ent, .int .i64 x.size, .int .i64 0] by rw [HRES.out, HNB.out]; rfl)
  clear HRES HNB
  have kk := hd_cells HT.out
  obtain ⟨k0, k1, k2, k3, k4, k5, k6, k7, k8, k9⟩ := kk
  have ltT := HT.out.lt
  go_wp2_with fail
  refine (getT _ kMtime (x.v kMtime) (TAB.out.alloc _).at_ (by show 4 ≤ 8; decide) x.top_mtime).mono ?_
  rintro e w11 ⟨rfl, δ, hw⟩
  have hb := below_of hw
  obtain ⟨bE, hbE, hszE⟩ := blks1 hb
  replace HT := Lib.hid (HT.out.below hbE HT.out.lt); replace HBk := Lib.hid (HBk.out.below hbE HBk.out.lt)
  have hnE : ¬ M w10.heap.size := fun hm => by have := TAB.out.lt _ hm; omega
  have hE2 : w.heap.size + 2 ≤ w10.heap.size := by have := TAB.out.bw; omega
  replace TAB := Lib.hid (TAB.out.keep hbE)
  have HE : Hid (Blk w11 w10.heap.size 41 #[.int .i64 0, .string ⟨#[]⟩, .string ⟨#[]⟩, .int .i64 x.mode, .int .i64 N2, .int .i64 N3, .string ⟨#[]⟩, .string ⟨#[]⟩, .int .i64 x.h.mtime, .int .i64 0, .slice none 0 0]) := Lib.hid bE
  clear hw hb bE hbE hszE
  clear k0 k1 k2 k3 k4 k5 k6 k7 k8 k9 ltT
  generalize w10.heap.size = gE at *
  have HTB : Hid (x.timeBad = (decide ((x.v kMtime).size ≠ 0) && decide (stErr (x.v kMtime).data.toList ≠ 0))) := Lib.hid rfl
  have HSEC : Hid (x.sec = if (x.v kMtime).size = 0 then x.h.mtime else stS (x.v kMtime).data.toList) := Lib.hid rfl
  have HNAN : Hid (x.nano = if (x.v kMtime).size = 0 then 0 else stN (x.v kMtime).data.toList) := Lib.hid rfl
  have hz := hzz.out
  have hd : decide ((x.v kMtime).size ≠ 0) = false := by simpa using hz
  rw [hd]
  have HTB2 := Lib.hid (show x.timeBad = false by rw [HTB.out, hd]; rfl)
  have HTB3 := HTB2
  obtain ⟨S, N, HS2, HE2⟩ : ∃ S N, Hid (x.sec = S ∧ x.nano = N) ∧ Hid (Blk w11 gE 41 #[.int .i64 0, .string ⟨#[]⟩, .string ⟨#[]⟩, .int .i64 x.mode, .int .i64 N2, .int .i64 N3, .string ⟨#[]⟩, .string ⟨#[]⟩, .int .i64 S, .int .i64 N, .slice none 0 0]) := ⟨_, _, Lib.hid (by rw [HSEC.out, HNAN.out, if_pos hz, if_pos hz]; exact ⟨rfl, rfl⟩), HE⟩
  replace HE := HE2
  clear hd hz HTB HSEC HNAN HE2
  generalize w11 = w20 at *
  go_wp2_with fail
  clear HTB2
  refine (getT w20 kPath x.name TAB.out.at_ (by show 4 ≤ 8; decide) x.top_path).mono ?_
  rintro e w21 ⟨rfl, δ2, hw⟩
  have hb := below_of hw
  replace HT := Lib.hid (HT.out.below hb HT.out.lt); replace HBk := Lib.hid (HBk.out.below hb HBk.out.lt)
  replace HE := Lib.hid (HE.out.below hb HE.out.lt)
  replace TAB := Lib.hid (TAB.out.keep hb)
  clear hw hb
  have eC := HE.out.cell 1; have fC := HE.out.frozen 1; have ltE := HE.out.lt
  simp only [List.getElem?_toArray, List.getElem?_cons_succ, List.getElem?_cons_zero] at eC
  go_wp2_with fail
  have HE2 : Hid (Blk (w21.setCell ⟨gE, 1, none⟩ (.string x.name)) gE 41 #[.int .i64 0, .string x.name, .string ⟨#[]⟩, .int .i64 x.mode, .int .i64 N2, .int .i64 N3, .string ⟨#[]⟩, .string ⟨#[]⟩, .int .i64 S, .int .i64 N, .slice none 0 0]) := Lib.hid ((HE.out.set_ 1 (.string x.name)).to rfl)
  replace HT := Lib.hid (HT.out.far (p := ⟨gE, 1, none⟩) (fun e => by have e' : w.heap.size = gE := e; omega) (.string x.name)); replace HBk := Lib.hid (HBk.out.far (p := ⟨gE, 1, none⟩) (fun e => by have e' : w.heap.size + 1 = gE := e; omega) (.string x.name)); replace TAB := Lib.hid (TAB.out.set_ (i := 1) (by omega) hnE (.string x.name))
  replace HE := HE2
  clear HE2 eC fC ltE
  generalize (w21.setCell ⟨gE, 1, none⟩ (.string x.name)) = w22 at *
  refine (getT w22 kUname x.user TAB.out.at_ (by show 4 ≤ 8; decide) x.top_uname).mono ?_
  rintro e w23 ⟨rfl, δ2, hw⟩
  have hb := below_of hw
  replace HT := Lib.hid (HT.out.below hb HT.out.lt); replace HBk := Lib.hid (HBk.out.below hb HBk.out.lt)
  replace HE := Lib.hid (HE.out.below hb HE.out.lt)
  replace TAB := Lib.hid (TAB.out.keep hb)
  clear hw hb
  have eC := HE.out.cell 6; have fC := HE.out.frozen 6; have ltE := HE.out.lt
  simp only [List.getElem?_toArray, List.getElem?_cons_succ, List.getElem?_cons_zero] at eC
  go_wp2_with fail
  have HE2 : Hid (Blk (w23.setCell ⟨gE, 6, none⟩ (.string x.user)) gE 41 #[.int .i64 0, .string x.name, .string ⟨#[]⟩, .int .i64 x.mode, .int .i64 N2, .int .i64 N3, .string x.user, .string ⟨#[]⟩, .int .i64 S, .int .i64 N, .slice none 0 0]) := Lib.hid ((HE.out.set_ 6 (.string x.user)).to rfl)
  replace HT := Lib.hid (HT.out.far (p := ⟨gE, 6, none⟩) (fun e => by have e' : w.heap.size = gE := e; omega) (.string x.user)); replace HBk := Lib.hid (HBk.out.far (p := ⟨gE, 6, none⟩) (fun e => by have e' : w.heap.size + 1 = gE := e; omega) (.string x.user)); replace TAB := Lib.hid (TAB.out.set_ (i := 6) (by omega) hnE (.string x.user))
  replace HE := HE2
  clear HE2 eC fC ltE
  generalize (w23.setCell ⟨gE, 6, none⟩ (.string x.user)) = w24 at *
  refine (getT w24 kGname x.group TAB.out.at_ (by show 4 ≤ 8; decide) x.top_gname).mono ?_
  rintro e w25 ⟨rfl, δ2, hw⟩
  have hb := below_of hw
  replace HT := Lib.hid (HT.out.below hb HT.out.lt); replace HBk := Lib.hid (HBk.out.below hb HBk.out.lt)
  replace HE := Lib.hid (HE.out.below hb HE.out.lt)
  replace TAB := Lib.hid (TAB.out.keep hb)
  clear hw hb
  have eC := HE.out.cell 7; have fC := HE.out.frozen 7; have ltE := HE.out.lt
  simp only [List.getElem?_toArray, List.getElem?_cons_succ, List.getElem?_cons_zero] at eC
  have e1 := HE.out.cell 1
  simp only [List.getElem?_toArray, List.getElem?_cons_succ, List.getElem?_cons_zero] at e1
  have kk := hd_cells HT.out
  obtain ⟨k0, k1, k2, k3, k4, k5, k6, k7, k8, k9⟩ := kk
  have ltT := HT.out.lt
  go_wp2_with fail
  clear e1
  clear k0 k1 k2 k3 k4 k5 k6 k7 k8 k9 ltT
  have HE2 : Hid (Blk (w25.setCell ⟨gE, 7, none⟩ (.string x.group)) gE 41 #[.int .i64 0, .string x.name, .string ⟨#[]⟩, .int .i64 x.mode, .int .i64 N2, .int .i64 N3, .string x.user, .string x.group, .int .i64 S, .int .i64 N, .slice none 0 0]) := Lib.hid ((HE.out.set_ 7 (.string x.group)).to rfl)
  replace HT := Lib.hid (HT.out.far (p := ⟨gE, 7, none⟩) (fun e => by have e' : w.heap.size = gE := e; omega) (.string x.group)); replace HBk := Lib.hid (HBk.out.far (p := ⟨gE, 7, none⟩) (fun e => by have e' : w.heap.size + 1 = gE := e; omega) (.string x.group)); replace TAB := Lib.hid (TAB.out.set_ (i := 7) (by omega) hnE (.string x.group))
  replace HE := HE2
  clear HE2 eC fC ltE
  generalize (w25.setCell ⟨gE, 7, none⟩ (.string x.group)) = w26 at *
  refine (kindOf x.h.type x.name w26 ho.name).mono ?_
  rintro e w27 ⟨rfl, hb⟩
  replace HT := Lib.hid (HT.out.below hb HT.out.lt); replace HBk := Lib.hid (HBk.out.below hb HBk.out.lt)
  replace HE := Lib.hid (HE.out.below hb HE.out.lt)
  replace TAB := Lib.hid (TAB.out.keep hb)
  clear hb
  have HKD : Hid (x.kind = kindV x.h.type x.name) := Lib.hid rfl
  have eC := HE.out.cell 0; have fC := HE.out.frozen 0; have ltE := HE.out.lt
  simp only [List.getElem?_toArray, List.getElem?_cons_succ, List.getElem?_cons_zero] at eC
  by_cases hlk : x.h.type = 49 ∨ x.h.type = 50
  · have HLK := Lib.hid (show x.link = textOf x.g x.l kLink x.ll x.h.link by unfold ApIn.link; rw [if_pos hlk])
    have n48 : x.h.type ≠ 48 := by rcases hlk with h | h <;> rw [h] <;> decide
    have HSZ := Lib.hid (show x.size = 0 by rw [HSIZ.out, if_neg n48])
    have t48 : (((x.h.type.toNat : Nat) : Int) != 48) = true := by
      have : x.h.type.toNat ≠ 48 := fun e => n48 (UInt8.toNat_inj.1 e)
      rw [bne_iff_ne]; omega
    have hkk : (kindV x.h.type x.name == 4) = true ∨ ((kindV x.h.type x.name == 4) = false ∧ (kindV x.h.type x.name == 3) = true) := by
      rcases hlk with h | h
      · left; rw [h]; rfl
      · right; rw [h]; exact ⟨rfl, rfl⟩
    clear hlk n48
    generalize kindV x.h.type x.name = KD at *
    rcases hkk with hk4 | ⟨hk4, hk3⟩
    all_goals
      have kk := hd_cells HT.out
      obtain ⟨k0, k1, k2, k3, k4, k5, k6, k7, k8, k9⟩ := kk
      have ltT := HT.out.lt
      go_wp2_with fail
      clear k0 k1 k2 k3 k4 k5 k6 k7 k8 k9 ltT
      have HE2 : Hid (Blk (w27.setCell ⟨gE, 0, none⟩ (.int .i64 KD)) gE 41 #[.int .i64 KD, .string x.name, .string ⟨#[]⟩, .int .i64 x.mode, .int .i64 N2, .int .i64 N3, .string x.user, .string x.group, .int .i64 S, .int .i64 N, .slice none 0 0]) := Lib.hid ((HE.out.set_ 0 (.int .i64 KD)).to rfl)
      replace HT := Lib.hid (HT.out.far (p := ⟨gE, 0, none⟩) (fun e => by have e' : w.heap.size = gE := e; omega) (.int .i64 KD)); replace HBk := Lib.hid (HBk.out.far (p := ⟨gE, 0, none⟩) (fun e => by have e' : w.heap.size + 1 = gE := e; omega) (.int .i64 KD)); replace TAB := Lib.hid (TAB.out.set_ (i := 0) (by omega) hnE (.int .i64 KD))
      replace HE := HE2
      clear HE2 eC fC ltE
      generalize (w27.setCell ⟨gE, 0, none⟩ (.int .i64 KD)) = w28 at *
      refine (getT w28 kLink (textOf x.g x.l kLink x.ll x.h.link) TAB.out.at_ (by show 4 ≤ 8; decide) x.top_link).mono ?_
      rintro e w29 ⟨rfl, δ2, hw⟩
      have hb := below_of hw
      replace HT := Lib.hid (HT.out.below hb HT.out.lt); replace HBk := Lib.hid (HBk.out.below hb HBk.out.lt)
      replace HE := Lib.hid (HE.out.below hb HE.out.lt)
      replace TAB := Lib.hid (TAB.out.keep hb)
      clear hw hb
      generalize textOf x.g x.l kLink x.ll x.h.link = LK at *
      have eC := HE.out.cell 2; have fC := HE.out.frozen 2; have ltE := HE.out.lt
      simp only [List.getElem?_toArray, List.getElem?_cons_succ, List.getElem?_cons_zero] at eC
      have kk := hd_cells HT.out
      obtain ⟨k0, k1, k2, k3, k4, k5, k6, k7, k8, k9⟩ := kk
      have ltT := HT.out.lt
      replace HE := Lib.hid ((HE.out.set_ 2 (.string LK)).to (cs' := #[.int .i64 KD, .string x.name, .string LK, .int .i64 x.mode, .int .i64 N2, .int .i64 N3, .string x.user, .string x.group, .int .i64 S, .int .i64 N, .slice none 0 0]) rfl)
      replace HBk := Lib.hid (HBk.out.far (p := ⟨gE, 2, none⟩) (fun e => by have e' : w.heap.size + 1 = gE := e; omega) (.string LK))
      replace TAB := Lib.hid (TAB.out.set_ (i := 2) (by omega) hnE (.string LK))
      go_wp2_with (first | (refine wpList_load_blk rfl 41 (.tmp 20) rfl _ rfl HE.out whole_Ent ?_) | (refine wpList_store_blk rfl 41 (.tmp 10) (.tmp 166) rfl _ rfl HBk.out rfl (size_ent rfl) rfl rfl ?_; intro u2 b3 hg3; replace HBk := Lib.hid b3; replace TAB := Lib.hid (TAB.out.grown hg3 (by omega) hnR); clear b3 hg3))
      refine ret_blk_tmp2 (cs := #[.int .i64 KD, .string x.name, .string LK, .int .i64 x.mode, .int .i64 N2, .int .i64 N3, .string x.user, .string x.group, .int .i64 S, .int .i64 N, .slice none 0 0]) rfl rfl HBk.out whole_Ent rfl rfl rfl ⟨?_, TAB.out.bel⟩
      rw [HRES2.out, HTB3.out, HENT.out, HSZ.out, HLK.out, HS2.out.1, HS2.out.2, HKD.out]
      rfl
  · have HLK := Lib.hid (show x.link = noB by unfold ApIn.link; rw [if_neg hlk])
    have hk43 : (kindV x.h.type x.name == 4) = false ∧ (kindV x.h.type x.name == 3) = false := by
      have n49 : x.h.type ≠ 49 := fun e => hlk (.inl e)
      have n50 : x.h.type ≠ 50 := fun e => hlk (.inr e)
      unfold kindV
      rw [if_neg n49, if_neg n50]
      split
      · split <;> exact ⟨rfl, rfl⟩
      · split <;> exact ⟨rfl, rfl⟩
    obtain ⟨hk4, hk3⟩ := hk43
    have h48 : ((((x.h.type.toNat : Nat) : Int) != 48) = true ∧ x.size = 0) ∨ ((((x.h.type.toNat : Nat) : Int) != 48) = false ∧ x.size = N1) := by
      by_cases h : x.h.type = 48
      · right; rw [HSIZ.out, if_pos h, h]; exact ⟨rfl, rfl⟩
      · left; rw [HSIZ.out, if_neg h]
        have : x.h.type.toNat ≠ 48 := fun e => h (UInt8.toNat_inj.1 e)
        exact ⟨by rw [bne_iff_ne]; omega, rfl⟩
    clear hlk
    generalize kindV x.h.type x.name = KD at *
    rcases h48 with ⟨t48, hsz⟩ | ⟨t48, hsz⟩
    all_goals
      have HSZ := Lib.hid hsz
      clear hsz
      have kk := hd_cells HT.out
      obtain ⟨k0, k1, k2, k3, k4, k5, k6, k7, k8, k9⟩ := kk
      have ltT := HT.out.lt
      replace HE := Lib.hid ((HE.out.set_ 0 (.int .i64 KD)).to (cs' := #[.int .i64 KD, .string x.name, .string ⟨#[]⟩, .int .i64 x.mode, .int .i64 N2, .int .i64 N3, .string x.user, .string x.group, .int .i64 S, .int .i64 N, .slice none 0 0]) rfl)
      replace HBk := Lib.hid (HBk.out.far (p := ⟨gE, 0, none⟩) (fun e => by have e' : w.heap.size + 1 = gE := e; omega) (.int .i64 KD))
      replace TAB := Lib.hid (TAB.out.set_ (i := 0) (by omega) hnE (.int .i64 KD))
      go_wp2_with (first | (refine wpList_load_blk rfl 41 (.tmp 20) rfl _ rfl HE.out whole_Ent ?_) | (refine wpList_store_blk rfl 41 (.tmp 10) (.tmp 166) rfl _ rfl HBk.out rfl (size_ent rfl) rfl rfl ?_; intro u2 b3 hg3; replace HBk := Lib.hid b3; replace TAB := Lib.hid (TAB.out.grown hg3 (by omega) hnR); clear b3 hg3))
      refine ret_blk_tmp2 (cs := #[.int .i64 KD, .string x.name, .string noB, .int .i64 x.mode, .int .i64 N2, .int .i64 N3, .string x.user, .string x.group, .int .i64 S, .int .i64 N, .slice none 0 0]) rfl rfl HBk.out whole_Ent rfl rfl rfl ⟨?_, TAB.out.bel⟩
      rw [HRES2.out, HTB3.out, HENT.out, HSZ.out, HLK.out, HS2.out.1, HS2.out.2, HKD.out]
      rfl
end Go.Proofs.YtnadldcdckjifaaDoor
