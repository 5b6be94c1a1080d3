/- overlay.Apply: where a number is refused. No condition but room and what the library's variables hold. -/
import Derived.Test.YtnadldcdckjifaaDoorOvApply2
namespace Go.Proofs.YtnadldcdckjifaaDoor
open Go.RowKit
set_option linter.unusedVariables false
set_option linter.unusedSimpArgs false
attribute [local go_sem] cell?_over frozen?_over lt_over le_over lt2 lt3 lt4

set_option maxHeartbeats 4000000 in
set_option maxRecDepth 100000 in
theorem ovApply_bad {x : ApIn} {A A' : Option Addr} {n c n' c' : Nat} (w : World) (ho : ApOk x w A A' n n') (hstr : ApStr x) (hx : x.typeBad = false) (hs : x.sparseBad = false) (hm : MaxLenOk w) (hv : ErrRangeOk w) (hnum : Hid (x.numBad = true)) :
    Calls Tryd.prog 20 (x.args A A' n c n' c') w fun e w' => e = .returned x.res ∧ Below w.heap.size w w' := by
  have h12 := type_ok hx
  obtain ⟨h1, h2⟩ := h12
  have hgs : sparseL x.g = false := by unfold ApIn.sparseBad at hs; simp only [Bool.or_eq_false_iff] at hs; exact hs.1
  have hls : sparseL x.l = false := by unfold ApIn.sparseBad at hs; simp only [Bool.or_eq_false_iff] at hs; exact hs.2
  have HGS := Lib.hid hgs; have HLS := Lib.hid hls
  have HRES := Lib.hid (show x.res = if x.numBad then .tuple #[.agg ent0, .int .i64 0, .int .i64 60] else if x.timeBad then .tuple #[.agg ent0, .int .i64 0, .int .i64 60] else .tuple #[.agg x.ent, .int .i64 x.size, .int .i64 0] by unfold ApIn.res; rw [hx, hs]; rfl)
  clear hgs hls hx hs
  unfold ApIn.args HeaderD.cells
  go_enter Tryd.func20, Tryd.ntmps20
  go_wp2_with fail
  refine (isSparse _ (ho.g.below (show Below w.heap.size w ((w.alloc (.cells #[.string x.h.name, .string x.h.link, .int .i64 x.h.mode, .int .i64 x.h.uid, .int .i64 x.h.gid, .int .i64 x.h.size, .int .i64 x.h.mtime, .int .u8 x.h.type.toNat, .string x.h.user, .string x.h.group, .int .i64 x.h.major, .int .i64 x.h.minor, .int .i64 x.h.form] 34)).alloc (.cells #[.int .i64 0, .string ⟨#[]⟩, .string ⟨#[]⟩, .int .i64 0, .int .i64 0, .int .i64 0, .string ⟨#[]⟩, .string ⟨#[]⟩, .int .i64 0, .int .i64 0, .slice none 0 0] 41)) by go_grown)) ho.n).mono ?_
  rintro e w1 ⟨rfl, hb1⟩
  rw [HGS.out]
  obtain ⟨bT, bR, hbw1, hsz1⟩ := blks2 hb1
  have HT := Lib.hid bT; have HBk := Lib.hid bR; have HA := Lib.hid hbw1
  clear hb1 bT bR hbw1
  go_wp2_with fail
  refine (isSparse _ (ho.l.below HA.out) ho.n').mono ?_
  rintro e w2 ⟨rfl, hb2⟩
  rw [HLS.out]
  replace HT := Lib.hid (HT.out.below hb2 HT.out.lt); replace HBk := Lib.hid (HBk.out.below hb2 HBk.out.lt); replace HA := Lib.hid (below_old HA.out hb2)
  have hB2 : w.heap.size + 2 ≤ w2.heap.size := by have := hb2.size; omega
  clear hb2 hsz1
  go_wp2_with fail
  refine (lvS.new _ 4 ⟨by decide, by decide⟩).mono ?_
  rintro e w3 ⟨δ, p, rfl, hw3, hat⟩
  have hb3 := below_of hw3
  have e4 : (min (max (4 : Int) 1) 8).toNat = 4 := by decide
  rw [e4] at hat
  have TAB : Hid (OvTab w w2.heap.size (From w2.heap.size w3) p [[], [], [], []] w3) := Lib.hid ⟨below_old HA.out hb3, hat, fun n hn => hn.2, fun n hn => hn.1, HA.out.size, hb3.size⟩
  replace HT := Lib.hid (HT.out.below hb3 HT.out.lt); replace HBk := Lib.hid (HBk.out.below hb3 HBk.out.lt)
  clear hw3 hat hb3 e4 HA
  generalize From w2.heap.size w3 = M at *
  generalize w2.heap.size = B at *
  have hnT : ¬ M w.heap.size := fun hm => by have := TAB.out.ge _ hm; omega
  have hnR : ¬ M (w.heap.size + 1) := fun hm => by have := TAB.out.ge _ hm; omega
  have kk := hd_cells HT.out
  obtain ⟨k0, k1, k2, k3, k4, k5, k6, k7, k8, k9⟩ := kk
  have ltT := HT.out.lt
  go_wp2_with fail
  refine (lay_low (M := M) (Mr := fun n => n = w3.heap.size) _ 0 (fun n hn => by have := TAB.out.lt n hn; simp; omega) (TAB.out.alloc _).at_ (by show 0 < 4; decide) (by decide) (row_hd w3 49 hstr.hd) (fun n hn => by subst hn; exact ⟨by simp, fun hm => by have := TAB.out.lt _ hm; omega⟩) (by decide)).mono ?_
  rintro e w4 ⟨rfl, hc, hat⟩
  have hat2 : lvS.At w4 M p [layKv [] (hdPairs x.h.name x.h.link x.h.user x.h.group), [], [], []] := hat
  replace HT := Lib.hid ((HT.out.alloc _).chg' hc hnT); replace HBk := Lib.hid ((HBk.out.alloc _).chg' hc hnR); replace TAB := Lib.hid ((TAB.out.alloc _).chg hc hat2)
  clear hc hat hat2
  clear k0 k1 k2 k3 k4 k5 k6 k7 k8 k9 ltT
  go_wp2_with fail
  refine (lay_low (M := M) (Mr := Old w) _ 1 TAB.out.lt TAB.out.at_ (by show 1 < 4; decide) (by decide) (ho.g.keep (Keeps.old TAB.out.bel)) (fun n hn => ⟨Nat.lt_of_lt_of_le hn TAB.out.bel.size, fun hm => by have := TAB.out.ge _ hm; have : n < w.heap.size := hn; omega⟩) ho.n).mono ?_
  rintro e w5 ⟨rfl, hc, hat⟩
  have hat2 : lvS.At w5 M p [layKv [] (hdPairs x.h.name x.h.link x.h.user x.h.group), layKv [] x.g, [], []] := hat
  replace HT := Lib.hid ((HT.out).chg' hc hnT); replace HBk := Lib.hid ((HBk.out).chg' hc hnR); replace TAB := Lib.hid ((TAB.out).chg hc hat2)
  clear hc hat hat2
  go_wp2_with fail
  refine (lay_low (M := M) (Mr := fun n => n = w5.heap.size) _ 2 (fun n hn => by have := TAB.out.lt n hn; simp; omega) (TAB.out.alloc _).at_ (by show 2 < 4; decide) (by decide) (row_lg w5 49 hstr.lg) (fun n hn => by subst hn; exact ⟨by simp, fun hm => by have := TAB.out.lt _ hm; omega⟩) (by decide)).mono ?_
  rintro e w6 ⟨rfl, hc, hat⟩
  have hat2 : lvS.At w6 M p [layKv [] (hdPairs x.h.name x.h.link x.h.user x.h.group), layKv [] x.g, layKv [] (lgPairs x.ln x.ll), []] := hat
  replace HT := Lib.hid ((HT.out.alloc _).chg' hc hnT); replace HBk := Lib.hid ((HBk.out.alloc _).chg' hc hnR); replace TAB := Lib.hid ((TAB.out.alloc _).chg hc hat2)
  clear hc hat hat2
  go_wp2_with fail
  refine (lay_top (M := M) (Mr := Old w) _ TAB.out.lt TAB.out.at_ rfl (ho.l.keep (Keeps.old TAB.out.bel)) (fun n hn => ⟨Nat.lt_of_lt_of_le hn TAB.out.bel.size, fun hm => by have := TAB.out.ge _ hm; have : n < w.heap.size := hn; omega⟩) ho.n').mono ?_
  rintro e w7 ⟨rfl, hc, hat⟩
  have hat2 : lvS.At w7 M p x.rows := hat
  replace HT := Lib.hid ((HT.out).chg' hc hnT); replace HBk := Lib.hid ((HBk.out).chg' hc hnR); replace TAB := Lib.hid ((TAB.out).chg hc hat2)
  clear hc hat hat2
  have kk := hd_cells HT.out
  obtain ⟨k0, k1, k2, k3, k4, k5, k6, k7, k8, k9⟩ := kk
  have ltT := HT.out.lt
  go_wp2_with fail
  refine (ovNumber _ kSize (x.v kSize) x.h.size _ TAB.out.at_ (by show 4 ≤ 8; decide) x.top_size (ho.v _) (hv.keep TAB.out.bel)).mono ?_
  rintro e w8 ⟨rfl, hb⟩
  replace HT := Lib.hid (HT.out.below hb HT.out.lt); replace HBk := Lib.hid (HBk.out.below hb HBk.out.lt)
  replace TAB := Lib.hid (TAB.out.keep hb)
  clear hb
  clear k0 k1 k2 k3 k4 k5 k6 k7 k8 k9 ltT
  have kk := hd_cells HT.out
  obtain ⟨k0, k1, k2, k3, k4, k5, k6, k7, k8, k9⟩ := kk
  have ltT := HT.out.lt
  go_wp2_with fail
  refine (ovNumber _ kUid (x.v kUid) x.h.uid _ TAB.out.at_ (by show 4 ≤ 8; decide) x.top_uid (ho.v _) (hv.keep TAB.out.bel)).mono ?_
  rintro e w9 ⟨rfl, hb⟩
  replace HT := Lib.hid (HT.out.below hb HT.out.lt); replace HBk := Lib.hid (HBk.out.below hb HBk.out.lt)
  replace TAB := Lib.hid (TAB.out.keep hb)
  clear hb
  clear k0 k1 k2 k3 k4 k5 k6 k7 k8 k9 ltT
  have kk := hd_cells HT.out
  obtain ⟨k0, k1, k2, k3, k4, k5, k6, k7, k8, k9⟩ := kk
  have ltT := HT.out.lt
  go_wp2_with fail
  refine (ovNumber _ kGid (x.v kGid) x.h.gid _ TAB.out.at_ (by show 4 ≤ 8; decide) x.top_gid (ho.v _) (hv.keep TAB.out.bel)).mono ?_
  rintro e w10 ⟨rfl, hb⟩
  replace HT := Lib.hid (HT.out.below hb HT.out.lt); replace HBk := Lib.hid (HBk.out.below hb HBk.out.lt)
  replace TAB := Lib.hid (TAB.out.keep hb)
  clear hb
  clear k0 k1 k2 k3 k4 k5 k6 k7 k8 k9 ltT
  have HNB : Hid (x.numBad = (!(numOk (x.v kSize) 9223372036854775807) || !(numOk (x.v kUid) 2147483647) || !(numOk (x.v kGid) 2147483647))) := Lib.hid rfl
  have HENT : Hid (x.ent = entCells x.kind x.name x.link x.mode (numN (x.v kUid) x.h.uid) (numN (x.v kGid) x.h.gid) x.user x.group x.sec x.nano) := Lib.hid rfl
  have HSIZ : Hid (x.size = if x.h.type = 48 then numN (x.v kSize) x.h.size else 0) := Lib.hid rfl
  generalize numN (x.v kSize) x.h.size = N1 at *
  generalize numN (x.v kUid) x.h.uid = N2 at *
  generalize numN (x.v kGid) x.h.gid = N3 at *
  generalize numOk (x.v kSize) 9223372036854775807 = B1 at *
  generalize numOk (x.v kUid) 2147483647 = B2 at *
  generalize numOk (x.v kGid) 2147483647 = B3 at *
  rcases B1 with _ | _
  · go_wp2_with (first | (refine wpList_store_blk rfl 41 (.tmp 10) (.tmp 100) rfl _ rfl HBk.out rfl (by kernel_rfl) rfl rfl ?_; intro u2 b3 hg3; replace HBk := Lib.hid b3; replace TAB := Lib.hid (TAB.out.grown hg3 (by omega) hnR); clear b3 hg3))
    refine ret_blk_tmp2 (cs := ent0) rfl rfl HBk.out whole_Ent rfl rfl rfl ⟨by rw [HRES.out, HNB.out]; rfl, TAB.out.bel⟩
  rcases B2 with _ | _
  · go_wp2_with (first | (refine wpList_store_blk rfl 41 (.tmp 10) (.tmp 100) rfl _ rfl HBk.out rfl (by kernel_rfl) rfl rfl ?_; intro u2 b3 hg3; replace HBk := Lib.hid b3; replace TAB := Lib.hid (TAB.out.grown hg3 (by omega) hnR); clear b3 hg3))
    refine ret_blk_tmp2 (cs := ent0) rfl rfl HBk.out whole_Ent rfl rfl rfl ⟨by rw [HRES.out, HNB.out]; rfl, TAB.out.bel⟩
  rcases B3 with _ | _
  · go_wp2_with (first | (refine wpList_store_blk rfl 41 (.tmp 10) (.tmp 100) rfl _ rfl HBk.out rfl (by kernel_rfl) rfl rfl ?_; intro u2 b3 hg3; replace HBk := Lib.hid b3; replace TAB := Lib.hid (TAB.out.grown hg3 (by omega) hnR); clear b3 hg3))
    refine ret_blk_tmp2 (cs := ent0) rfl rfl HBk.out whole_Ent rfl rfl rfl ⟨by rw [HRES.out, HNB.out]; rfl, TAB.out.bel⟩
  have := HNB.out
  rw [hnum.out] at this
  cases this
end Go.Proofs.YtnadldcdckjifaaDoor
