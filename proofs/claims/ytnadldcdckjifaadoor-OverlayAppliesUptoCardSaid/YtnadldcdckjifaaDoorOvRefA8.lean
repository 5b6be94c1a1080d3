/- The reference's Apply with a time. No condition but room. -/
import Derived.Test.YtnadldcdckjifaaDoorOvRefA2
import Derived.Test.YtnadldcdckjifaaDoorRefStParse5
namespace Go.Proofs.YtnadldcdckjifaaDoor
open Go.RowKit
set_option linter.unusedVariables false
set_option linter.unusedSimpArgs false
attribute [local go_sem] cell?_over frozen?_over lt_over le_over lt2 lt3 lt4

set_option maxHeartbeats 4000000 in
set_option maxRecDepth 100000 in
theorem ovRef_m2b {x : ApIn} {A A' : Option Addr} {n c n' c' : Nat} (w : World) (ho : ApOk x w A A' n n') (hx : x.typeBad = false) (hs : x.sparseBad = false) (hnum : Hid (x.numBad = false)) (hzz : Hid (¬ (x.v kMtime).size = 0)) (hT : Hid (51 ≤ (x.h.type.toNat : Int))) :
    Calls Tryd.prog 21 (x.args A A' n c n' c') w fun e w' => e = .returned x.res ∧ Below w.heap.size w w' := by
  have h12 := type_ok hx
  obtain ⟨h1, h2⟩ := h12
  have hgs : sparseL x.g = false := by unfold ApIn.sparseBad at hs; simp only [Bool.or_eq_false_iff] at hs; exact hs.1
  have hls : sparseL x.l = false := by unfold ApIn.sparseBad at hs; simp only [Bool.or_eq_false_iff] at hs; exact hs.2
  have HGS := Lib.hid hgs; have HLS := Lib.hid hls
  have HRES := Lib.hid (show x.res = if x.numBad then .tuple #[.agg ent0, .int .i64 0, .int .i64 60] else if x.timeBad then .tuple #[.agg ent0, .int .i64 0, .int .i64 60] else .tuple #[.agg x.ent, .int .i64 x.size, .int .i64 0] by unfold ApIn.res; rw [hx, hs]; rfl)
  clear hgs hls hx hs
  unfold ApIn.args HeaderD.cells
  have HT := Lib.hid ((Blk.new w 34 #[.string x.h.name, .string x.h.link, .int .i64 x.h.mode, .int .i64 x.h.uid, .int .i64 x.h.gid, .int .i64 x.h.size, .int .i64 x.h.mtime, .int .u8 x.h.type.toNat, .string x.h.user, .string x.h.group, .int .i64 x.h.major, .int .i64 x.h.minor, .int .i64 x.h.form]).alloc (.cells #[.int .i64 0, .string ⟨#[]⟩, .string ⟨#[]⟩, .int .i64 0, .int .i64 0, .int .i64 0, .string ⟨#[]⟩, .string ⟨#[]⟩, .int .i64 0, .int .i64 0, .slice none 0 0] 41))
  have HBk := Lib.hid (blk_second w 34 41 #[.string x.h.name, .string x.h.link, .int .i64 x.h.mode, .int .i64 x.h.uid, .int .i64 x.h.gid, .int .i64 x.h.size, .int .i64 x.h.mtime, .int .u8 x.h.type.toNat, .string x.h.user, .string x.h.group, .int .i64 x.h.major, .int .i64 x.h.minor, .int .i64 x.h.form] #[.int .i64 0, .string ⟨#[]⟩, .string ⟨#[]⟩, .int .i64 0, .int .i64 0, .int .i64 0, .string ⟨#[]⟩, .string ⟨#[]⟩, .int .i64 0, .int .i64 0, .slice none 0 0])
  have HA := Lib.hid (show Below w.heap.size w ((w.alloc (.cells #[.string x.h.name, .string x.h.link, .int .i64 x.h.mode, .int .i64 x.h.uid, .int .i64 x.h.gid, .int .i64 x.h.size, .int .i64 x.h.mtime, .int .u8 x.h.type.toNat, .string x.h.user, .string x.h.group, .int .i64 x.h.major, .int .i64 x.h.minor, .int .i64 x.h.form] 34)).alloc (.cells #[.int .i64 0, .string ⟨#[]⟩, .string ⟨#[]⟩, .int .i64 0, .int .i64 0, .int .i64 0, .string ⟨#[]⟩, .string ⟨#[]⟩, .int .i64 0, .int .i64 0, .slice none 0 0] 41)) by go_grown)
  go_enter Tryd.func21, Tryd.ntmps21
  go_wp2_with fail
  have hsz2 : ((w.alloc (.cells #[.string x.h.name, .string x.h.link, .int .i64 x.h.mode, .int .i64 x.h.uid, .int .i64 x.h.gid, .int .i64 x.h.size, .int .i64 x.h.mtime, .int .u8 x.h.type.toNat, .string x.h.user, .string x.h.group, .int .i64 x.h.major, .int .i64 x.h.minor, .int .i64 x.h.form] 34)).alloc (.cells #[.int .i64 0, .string ⟨#[]⟩, .string ⟨#[]⟩, .int .i64 0, .int .i64 0, .int .i64 0, .string ⟨#[]⟩, .string ⟨#[]⟩, .int .i64 0, .int .i64 0, .slice none 0 0] 41)).heap.size = w.heap.size + 2 := by simp
  have HSZ2 := Lib.hid hsz2
  clear hsz2
  generalize ((w.alloc (.cells #[.string x.h.name, .string x.h.link, .int .i64 x.h.mode, .int .i64 x.h.uid, .int .i64 x.h.gid, .int .i64 x.h.size, .int .i64 x.h.mtime, .int .u8 x.h.type.toNat, .string x.h.user, .string x.h.group, .int .i64 x.h.major, .int .i64 x.h.minor, .int .i64 x.h.form] 34)).alloc (.cells #[.int .i64 0, .string ⟨#[]⟩, .string ⟨#[]⟩, .int .i64 0, .int .i64 0, .int .i64 0, .string ⟨#[]⟩, .string ⟨#[]⟩, .int .i64 0, .int .i64 0, .slice none 0 0] 41)) = w2 at *
  refine (refSparse _ (ho.g.below HA.out) ho.n).mono ?_
  rintro e w3 ⟨rfl, rfl⟩
  rw [HGS.out]
  go_wp2_with fail
  refine (refSparse _ (ho.l.below HA.out) ho.n').mono ?_
  rintro e w4 ⟨rfl, rfl⟩
  rw [HLS.out]
  have kk := hd_cells HT.out
  obtain ⟨k0, k1, k2, k3, k4, k5, k6, k7, k8, k9⟩ := kk
  have ltT := HT.out.lt
  go_wp2_with fail
  refine (refNumber kSize x.h.size _ _ (ho.g.below HA.out) (ho.l.below HA.out) ho.n ho.n' (ho.v _)).mono ?_
  rintro e w5 ⟨rfl, rfl⟩
  go_wp2_with fail
  refine (refNumber kUid x.h.uid _ _ (ho.g.below HA.out) (ho.l.below HA.out) ho.n ho.n' (ho.v _)).mono ?_
  rintro e w5 ⟨rfl, rfl⟩
  go_wp2_with fail
  refine (refNumber kGid x.h.gid _ _ (ho.g.below HA.out) (ho.l.below HA.out) ho.n ho.n' (ho.v _)).mono ?_
  rintro e w5 ⟨rfl, rfl⟩
  have HNB : Hid (x.numBad = (!(numOk (x.v kSize) 9223372036854775807) || !(numOk (x.v kUid) 2147483647) || !(numOk (x.v kGid) 2147483647))) := Lib.hid rfl
  have HENT : Hid (x.ent = entCells x.kind x.name x.link x.mode (numN (x.v kUid) x.h.uid) (numN (x.v kGid) x.h.gid) x.user x.group x.sec x.nano) := Lib.hid rfl
  have HSIZ : Hid (x.size = if x.h.type = 48 then numN (x.v kSize) x.h.size else 0) := Lib.hid rfl
  have eV : ∀ k, foundV x.g x.l k = x.v k := fun _ => rfl
  simp only [eV]
  clear eV
  generalize numN (x.v kSize) x.h.size = N1 at *
  generalize numN (x.v kUid) x.h.uid = N2 at *
  generalize numN (x.v kGid) x.h.gid = N3 at *
  generalize numOk (x.v kSize) 9223372036854775807 = B1 at *
  generalize numOk (x.v kUid) 2147483647 = B2 at *
  generalize numOk (x.v kGid) 2147483647 = B3 at *
  have hBs : B1 = true ∧ B2 = true ∧ B3 = true := by have h := HNB.out; rw [hnum.out] at h; revert h; cases B1 <;> cases B2 <;> cases B3 <;> simp
  obtain ⟨rfl, rfl, rfl⟩ := hBs
  have HRES2 := Lib.hid (show x.res = if x.timeBad then .tuple #[.agg ent0, .int .i64 0, .int .i64 60] else .tuple #[.agg x.ent, .int .i64 x.size, .int .i64 0] by rw [HRES.out, HNB.out]; rfl)
  clear HRES HNB
  go_wp2_with fail
  clear k0 k1 k2 k3 k4 k5 k6 k7 k8 k9 ltT
  have H19 := Lib.hid (Blk.new w5 24 #[.int .i64 x.h.mtime, .int .i64 0])
  replace HT := Lib.hid (HT.out.alloc (.cells #[.int .i64 x.h.mtime, .int .i64 0] 24)); replace HBk := Lib.hid (HBk.out.alloc (.cells #[.int .i64 x.h.mtime, .int .i64 0] 24)); replace HA := Lib.hid (HA.out.alloc HA.out.size (.cells #[.int .i64 x.h.mtime, .int .i64 0] 24))
  have hg19 : w.heap.size + 2 ≤ w5.heap.size := Nat.le_of_eq HSZ2.out.symm
  generalize w5.heap.size = g19 at *
  generalize w5.alloc (.cells #[.int .i64 x.h.mtime, .int .i64 0] 24) = w6 at *
  clear HSZ2
  refine (refFound kMtime w6 (ho.g.below HA.out) (ho.l.below HA.out) ho.n ho.n').mono ?_
  rintro e w7 ⟨rfl, rfl⟩
  have eV : ∀ k, foundV x.g x.l k = x.v k := fun _ => rfl
  simp only [eV]
  clear eV
  generalize foundL x.l kMtime = LM
  have HTB : Hid (x.timeBad = (decide ((x.v kMtime).size ≠ 0) && decide (stErr (x.v kMtime).data.toList ≠ 0))) := Lib.hid rfl
  have HSEC : Hid (x.sec = if (x.v kMtime).size = 0 then x.h.mtime else stS (x.v kMtime).data.toList) := Lib.hid rfl
  have HNAN : Hid (x.nano = if (x.v kMtime).size = 0 then 0 else stN (x.v kMtime).data.toList) := Lib.hid rfl
  have hz := hzz.out
  have hse := size_empty' (x.v kMtime)
  rw [decide_eq_false hz] at hse
  have hd : decide ((x.v kMtime).size ≠ 0) = true := by simpa using hz
  have HPA := Lib.hid (refStParse (x.v kMtime) w7 (Nat.le_trans (ho.v _) (by decide)))
  have HTB2 := Lib.hid (show x.timeBad = decide (stErr (x.v kMtime).data.toList ≠ 0) by rw [HTB.out, hd]; rfl)
  have HS2 := Lib.hid (show x.sec = stS (x.v kMtime).data.toList ∧ x.nano = stN (x.v kMtime).data.toList by rw [HSEC.out, HNAN.out, if_neg hz, if_neg hz]; exact ⟨rfl, rfl⟩)
  clear hd hz HTB HSEC HNAN
  generalize stErr (x.v kMtime).data.toList = E at *
  generalize stS (x.v kMtime).data.toList = S at *
  generalize stN (x.v kMtime).data.toList = N at *
  go_wp2_with fail
  refine HPA.out.mono ?_
  rintro e w12 ⟨rfl, hb⟩
  replace HT := Lib.hid (HT.out.below hb HT.out.lt); replace HBk := Lib.hid (HBk.out.below hb HBk.out.lt); replace H19 := Lib.hid (H19.out.below hb H19.out.lt); replace HA := Lib.hid (below_old HA.out hb)
  clear hb HPA hse
  rcases (by by_cases h : E = 0; exact .inl h; exact .inr h : E = 0 ∨ ¬ E = 0) with hE | hE
  rotate_left
  · have HTB3 := Lib.hid (show x.timeBad = true by rw [HTB2.out]; exact decide_eq_true hE)
    have hE2 : (E != 0) = true := by simpa using hE
    clear HTB2 hE
    replace HBk := Lib.hid (HBk.out.alloc (.cells #[.int .i64 S, .int .i64 N] 24)); replace HA := Lib.hid (HA.out.alloc HA.out.size (.cells #[.int .i64 S, .int .i64 N] 24))
    go_wp2_with (first | (refine wpList_store_blk rfl 41 (.tmp 10) (.tmp 95) rfl _ rfl HBk.out rfl (by kernel_rfl) rfl rfl ?_; intro u2 b3 hg3; replace HBk := Lib.hid b3; replace HA := Lib.hid (HA.out.grown hg3 HA.out.size (fun k hk => by injection hk with hk; omega)); clear b3 hg3))
    refine ret_blk_tmp2 (cs := ent0) rfl rfl HBk.out whole_Ent rfl rfl rfl ⟨by rw [HRES2.out, HTB3.out]; rfl, HA.out⟩
  have HTB3 := Lib.hid (show x.timeBad = false by rw [HTB2.out, hE]; rfl)
  subst hE
  clear HTB2
  replace HT := Lib.hid (HT.out.alloc (.cells #[.int .i64 S, .int .i64 N] 24)); replace HBk := Lib.hid (HBk.out.alloc (.cells #[.int .i64 S, .int .i64 N] 24)); replace H19 := Lib.hid (H19.out.alloc (.cells #[.int .i64 S, .int .i64 N] 24)); replace HA := Lib.hid (HA.out.alloc HA.out.size (.cells #[.int .i64 S, .int .i64 N] 24))
  go_wp2_with (first | (refine wpList_store_blk rfl 24 (.tmp 19) (.tmp 96) rfl _ rfl H19.out rfl (size_time rfl) rfl (two_ones .i64 _ _) ?_; intro w8 b3 hg3; replace H19 := Lib.hid (show Blk w8 g19 24 #[.int .i64 S, .int .i64 N] from b3); replace HT := Lib.hid (HT.out.grown hg3 (fun e => by injection e with e; omega)); replace HBk := Lib.hid (HBk.out.grown hg3 (fun e => by injection e with e; omega)); replace HA := Lib.hid (HA.out.grown hg3 HA.out.size (fun k hk => by injection hk with hk; omega)); clear b3 hg3))
  have HAR := Lib.hid (Blk.new w8 73 #[.int .i64 1, .int .i64 4, .int .i64 3, .int .i64 5, .int .i64 5, .int .i64 2, .int .i64 5])
  replace HT := Lib.hid (HT.out.alloc (.cells #[.int .i64 1, .int .i64 4, .int .i64 3, .int .i64 5, .int .i64 5, .int .i64 2, .int .i64 5] 73)); replace HBk := Lib.hid (HBk.out.alloc (.cells #[.int .i64 1, .int .i64 4, .int .i64 3, .int .i64 5, .int .i64 5, .int .i64 2, .int .i64 5] 73)); replace H19 := Lib.hid (H19.out.alloc (.cells #[.int .i64 1, .int .i64 4, .int .i64 3, .int .i64 5, .int .i64 5, .int .i64 2, .int .i64 5] 73)); replace HA := Lib.hid (HA.out.alloc HA.out.size (.cells #[.int .i64 1, .int .i64 4, .int .i64 3, .int .i64 5, .int .i64 5, .int .i64 2, .int .i64 5] 73))
  have hg24 : w.heap.size + 2 ≤ w8.heap.size := by have := HBk.out.lt; have := H19.out.lt; simp at this; omega
  generalize w8.heap.size = g24 at *
  generalize w8.alloc (.cells #[.int .i64 1, .int .i64 4, .int .i64 3, .int .i64 5, .int .i64 5, .int .i64 2, .int .i64 5] 73) = w9 at *
  have ltT := HT.out.lt; have lt19 := H19.out.lt; have lt24 := HAR.out.lt
  have HT48 : Hid (∀ j : Nat, j < 208 → (x.h.type.toNat : Int) = 48 + j → x.h.type = UInt8.ofNat (48 + j)) := Lib.hid (fun j hj h => UInt8.toNat_inj.1 (by rw [UInt8.toNat_ofNat']; omega))
  have hTo := hT.out
  rcases (by omega : (x.h.type.toNat : Int) = 51 ∨ (x.h.type.toNat : Int) = 52 ∨ (x.h.type.toNat : Int) = 53 ∨ (x.h.type.toNat : Int) = 54) with ht | ht | ht | ht
  · have HTY := Lib.hid (HT48.out 3 (by omega) (by rw [ht]; rfl))
    have hty := HTY.out
    have HKT := Lib.hid (show kindT x.h.type = 5 by rw [hty]; decide)
    have HKD := Lib.hid (show x.kind = 5 from (kindV_else (by rw [hty]; decide)).trans HKT.out)
    have HSZ := Lib.hid (show x.size = 0 by rw [HSIZ.out, if_neg (by rw [hty]; decide)])
    have HLK := Lib.hid (show x.link = noB by unfold ApIn.link; rw [if_neg (by rw [hty]; decide)])
    clear h1 h2 hty HT48 hTo hT
    have hw1 : IntKind.i64.wrap 51 = 51 := by rw [IntKind.wrap_i64]; rfl
    have hw2 : IntKind.i64.wrap 3 = 3 := by rw [IntKind.wrap_i64]; rfl
    apply wp_one
    case hone =>
      go_region_held3 (fun w' => w'.cell? ⟨w.heap.size, 7, none⟩ = some (.int .u8 x.h.type.toNat) ∧ w'.cell? ⟨w.heap.size, 2, none⟩ = some (.int .i64 x.h.mode) ∧ w'.cell? ⟨g19, 0, none⟩ = some (.int .i64 S) ∧ w'.cell? ⟨g19, 1, none⟩ = some (.int .i64 N) ∧ w'.cell? ⟨g24, 3, none⟩ = some (.int .i64 5))
        (first | assumption | exact ref_Sj 3 5 HT.out H19.out (HAR.out.cell _) | exact ref_Sj 3 5 (HT.out.alloc _) (H19.out.alloc _) ((HAR.out.alloc _).cell _))
        (fail)
      all_goals exact ⟨rfl, rfl, rfl⟩
    clear hw1 hw2
    have HE : Hid (Blk (w9.alloc (.cells #[.int .i64 5, .string ⟨#[]⟩, .string ⟨#[]⟩, .int .i64 (bits .and .i64 x.h.mode 4095), .int .i64 N2, .int .i64 N3, .string ⟨#[]⟩, .string ⟨#[]⟩, .int .i64 S, .int .i64 N, .slice none 0 0] 41)).drew w9.heap.size 41 #[.int .i64 5, .string ⟨#[]⟩, .string ⟨#[]⟩, .int .i64 x.mode, .int .i64 N2, .int .i64 N3, .string ⟨#[]⟩, .string ⟨#[]⟩, .int .i64 S, .int .i64 N, .slice none 0 0]) := Lib.hid (Blk.new w9 _ _)
    replace HT := Lib.hid (HT.out.alloc (.cells #[.int .i64 5, .string ⟨#[]⟩, .string ⟨#[]⟩, .int .i64 (bits .and .i64 x.h.mode 4095), .int .i64 N2, .int .i64 N3, .string ⟨#[]⟩, .string ⟨#[]⟩, .int .i64 S, .int .i64 N, .slice none 0 0] 41)).drew; replace HBk := Lib.hid (HBk.out.alloc (.cells #[.int .i64 5, .string ⟨#[]⟩, .string ⟨#[]⟩, .int .i64 (bits .and .i64 x.h.mode 4095), .int .i64 N2, .int .i64 N3, .string ⟨#[]⟩, .string ⟨#[]⟩, .int .i64 S, .int .i64 N, .slice none 0 0] 41)).drew; replace HA := Lib.hid (HA.out.alloc HA.out.size (.cells #[.int .i64 5, .string ⟨#[]⟩, .string ⟨#[]⟩, .int .i64 (bits .and .i64 x.h.mode 4095), .int .i64 N2, .int .i64 N3, .string ⟨#[]⟩, .string ⟨#[]⟩, .int .i64 S, .int .i64 N, .slice none 0 0] 41)).drew
    have hE2 : w.heap.size + 2 ≤ w9.heap.size := by omega
    clear ltT lt19 lt24 HAR H19
    generalize w9.heap.size = gE at *
    generalize (w9.alloc (.cells #[.int .i64 5, .string ⟨#[]⟩, .string ⟨#[]⟩, .int .i64 (bits .and .i64 x.h.mode 4095), .int .i64 N2, .int .i64 N3, .string ⟨#[]⟩, .string ⟨#[]⟩, .int .i64 S, .int .i64 N, .slice none 0 0] 41)).drew = w10 at *
    have kk := hd_cells HT.out
    obtain ⟨k0, k1, k2, k3, k4, k5, k6, k7, k8, k9⟩ := kk
    have ltT := HT.out.lt
    go_wp2_with fail
    clear k0 k1 k2 k3 k4 k5 k6 k7 k8 k9 ltT
    refine (refName x w10 (ho.g.below HA.out) (ho.l.below HA.out) ho.n ho.n').mono ?_
    rintro e w' ⟨rfl, rfl⟩
    have eC := HE.out.cell 1; have fC := HE.out.frozen 1; have ltE := HE.out.lt
    simp only [List.getElem?_toArray, List.getElem?_cons_succ, List.getElem?_cons_zero] at eC
    have kk := hd_cells HT.out
    obtain ⟨k0, k1, k2, k3, k4, k5, k6, k7, k8, k9⟩ := kk
    have ltT := HT.out.lt
    go_wp2_with fail
    clear k0 k1 k2 k3 k4 k5 k6 k7 k8 k9 ltT
    have HE2 : Hid (Blk (w'.setCell ⟨gE, 1, none⟩ (.string x.name)) gE 41 #[.int .i64 5, .string x.name, .string ⟨#[]⟩, .int .i64 x.mode, .int .i64 N2, .int .i64 N3, .string ⟨#[]⟩, .string ⟨#[]⟩, .int .i64 S, .int .i64 N, .slice none 0 0]) := Lib.hid ((HE.out.set_ 1 (.string x.name)).to rfl)
    replace HT := Lib.hid (HT.out.far (p := ⟨gE, 1, none⟩) (fun e => by have e' : w.heap.size = gE := e; omega) (.string x.name)); replace HBk := Lib.hid (HBk.out.far (p := ⟨gE, 1, none⟩) (fun e => by have e' : w.heap.size + 1 = gE := e; omega) (.string x.name)); replace HA := Lib.hid (HA.out.setCell (p := ⟨gE, 1, none⟩) (by show w.heap.size ≤ gE; omega) (.string x.name))
    replace HE := HE2
    clear HE2 eC fC ltE
    generalize (w'.setCell ⟨gE, 1, none⟩ (.string x.name)) = w11 at *
    refine (refUser x w11 (ho.g.below HA.out) (ho.l.below HA.out) ho.n ho.n').mono ?_
    rintro e w' ⟨rfl, rfl⟩
    have eC := HE.out.cell 6; have fC := HE.out.frozen 6; have ltE := HE.out.lt
    simp only [List.getElem?_toArray, List.getElem?_cons_succ, List.getElem?_cons_zero] at eC
    have kk := hd_cells HT.out
    obtain ⟨k0, k1, k2, k3, k4, k5, k6, k7, k8, k9⟩ := kk
    have ltT := HT.out.lt
    go_wp2_with fail
    clear k0 k1 k2 k3 k4 k5 k6 k7 k8 k9 ltT
    have HE2 : Hid (Blk (w'.setCell ⟨gE, 6, none⟩ (.string x.user)) gE 41 #[.int .i64 5, .string x.name, .string ⟨#[]⟩, .int .i64 x.mode, .int .i64 N2, .int .i64 N3, .string x.user, .string ⟨#[]⟩, .int .i64 S, .int .i64 N, .slice none 0 0]) := Lib.hid ((HE.out.set_ 6 (.string x.user)).to rfl)
    replace HT := Lib.hid (HT.out.far (p := ⟨gE, 6, none⟩) (fun e => by have e' : w.heap.size = gE := e; omega) (.string x.user)); replace HBk := Lib.hid (HBk.out.far (p := ⟨gE, 6, none⟩) (fun e => by have e' : w.heap.size + 1 = gE := e; omega) (.string x.user)); replace HA := Lib.hid (HA.out.setCell (p := ⟨gE, 6, none⟩) (by show w.heap.size ≤ gE; omega) (.string x.user))
    replace HE := HE2
    clear HE2 eC fC ltE
    generalize (w'.setCell ⟨gE, 6, none⟩ (.string x.user)) = w12 at *
    refine (refGroup x w12 (ho.g.below HA.out) (ho.l.below HA.out) ho.n ho.n').mono ?_
    rintro e w' ⟨rfl, rfl⟩
    have eC := HE.out.cell 7; have fC := HE.out.frozen 7; have ltE := HE.out.lt
    simp only [List.getElem?_toArray, List.getElem?_cons_succ, List.getElem?_cons_zero] at eC
    have kk := hd_cells HT.out
    obtain ⟨k0, k1, k2, k3, k4, k5, k6, k7, k8, k9⟩ := kk
    have ltT := HT.out.lt
    replace HE := Lib.hid ((HE.out.set_ 7 (.string x.group)).to (cs' := #[.int .i64 5, .string x.name, .string ⟨#[]⟩, .int .i64 x.mode, .int .i64 N2, .int .i64 N3, .string x.user, .string x.group, .int .i64 S, .int .i64 N, .slice none 0 0]) rfl)
    replace HBk := Lib.hid (HBk.out.far (p := ⟨gE, 7, none⟩) (fun e => by have e' : w.heap.size + 1 = gE := e; omega) (.string x.group)); replace HA := Lib.hid (HA.out.setCell (p := ⟨gE, 7, none⟩) (by show w.heap.size ≤ gE; omega) (.string x.group))
    go_wp2_with (first | ((with_reducible refine at_load (ty := 41) (x := .tmp 25) ?_ ?_); exact rfl; refine wpList_load_blk rfl 41 (.tmp 25) rfl _ rfl HE.out whole_Ent ?_) | ((with_reducible refine at_store (ty := 41) (x := .tmp 10) (y := .tmp 148) ?_ ?_); exact rfl; refine wpList_store_blk rfl 41 (.tmp 10) (.tmp 148) rfl _ rfl HBk.out rfl (size_ent rfl) rfl rfl ?_; intro u2 b3 hg3; replace HBk := Lib.hid b3; replace HA := Lib.hid (HA.out.grown hg3 HA.out.size (fun k hk => by injection hk with hk; omega)); clear b3 hg3))
    refine ret_blk_tmp2 (cs := #[.int .i64 5, .string x.name, .string noB, .int .i64 x.mode, .int .i64 N2, .int .i64 N3, .string x.user, .string x.group, .int .i64 S, .int .i64 N, .slice none 0 0]) rfl rfl HBk.out whole_Ent rfl rfl rfl ⟨?_, HA.out⟩
    rw [HRES2.out, HTB3.out, HENT.out, HSZ.out, HLK.out, HS2.out.1, HS2.out.2, HKD.out]
    rfl
  · have HTY := Lib.hid (HT48.out 4 (by omega) (by rw [ht]; rfl))
    have hty := HTY.out
    have HKT := Lib.hid (show kindT x.h.type = 5 by rw [hty]; decide)
    have HKD := Lib.hid (show x.kind = 5 from (kindV_else (by rw [hty]; decide)).trans HKT.out)
    have HSZ := Lib.hid (show x.size = 0 by rw [HSIZ.out, if_neg (by rw [hty]; decide)])
    have HLK := Lib.hid (show x.link = noB by unfold ApIn.link; rw [if_neg (by rw [hty]; decide)])
    clear h1 h2 hty HT48 hTo hT
    have hw1 : IntKind.i64.wrap 52 = 52 := by rw [IntKind.wrap_i64]; rfl
    have hw2 : IntKind.i64.wrap 4 = 4 := by rw [IntKind.wrap_i64]; rfl
    apply wp_one
    case hone =>
      go_region_held3 (fun w' => w'.cell? ⟨w.heap.size, 7, none⟩ = some (.int .u8 x.h.type.toNat) ∧ w'.cell? ⟨w.heap.size, 2, none⟩ = some (.int .i64 x.h.mode) ∧ w'.cell? ⟨g19, 0, none⟩ = some (.int .i64 S) ∧ w'.cell? ⟨g19, 1, none⟩ = some (.int .i64 N) ∧ w'.cell? ⟨g24, 4, none⟩ = some (.int .i64 5))
        (first | assumption | exact ref_Sj 4 5 HT.out H19.out (HAR.out.cell _) | exact ref_Sj 4 5 (HT.out.alloc _) (H19.out.alloc _) ((HAR.out.alloc _).cell _))
        (fail)
      all_goals exact ⟨rfl, rfl, rfl⟩
    clear hw1 hw2
    have HE : Hid (Blk (w9.alloc (.cells #[.int .i64 5, .string ⟨#[]⟩, .string ⟨#[]⟩, .int .i64 (bits .and .i64 x.h.mode 4095), .int .i64 N2, .int .i64 N3, .string ⟨#[]⟩, .string ⟨#[]⟩, .int .i64 S, .int .i64 N, .slice none 0 0] 41)).drew w9.heap.size 41 #[.int .i64 5, .string ⟨#[]⟩, .string ⟨#[]⟩, .int .i64 x.mode, .int .i64 N2, .int .i64 N3, .string ⟨#[]⟩, .string ⟨#[]⟩, .int .i64 S, .int .i64 N, .slice none 0 0]) := Lib.hid (Blk.new w9 _ _)
    replace HT := Lib.hid (HT.out.alloc (.cells #[.int .i64 5, .string ⟨#[]⟩, .string ⟨#[]⟩, .int .i64 (bits .and .i64 x.h.mode 4095), .int .i64 N2, .int .i64 N3, .string ⟨#[]⟩, .string ⟨#[]⟩, .int .i64 S, .int .i64 N, .slice none 0 0] 41)).drew; replace HBk := Lib.hid (HBk.out.alloc (.cells #[.int .i64 5, .string ⟨#[]⟩, .string ⟨#[]⟩, .int .i64 (bits .and .i64 x.h.mode 4095), .int .i64 N2, .int .i64 N3, .string ⟨#[]⟩, .string ⟨#[]⟩, .int .i64 S, .int .i64 N, .slice none 0 0] 41)).drew; replace HA := Lib.hid (HA.out.alloc HA.out.size (.cells #[.int .i64 5, .string ⟨#[]⟩, .string ⟨#[]⟩, .int .i64 (bits .and .i64 x.h.mode 4095), .int .i64 N2, .int .i64 N3, .string ⟨#[]⟩, .string ⟨#[]⟩, .int .i64 S, .int .i64 N, .slice none 0 0] 41)).drew
    have hE2 : w.heap.size + 2 ≤ w9.heap.size := by omega
    clear ltT lt19 lt24 HAR H19
    generalize w9.heap.size = gE at *
    generalize (w9.alloc (.cells #[.int .i64 5, .string ⟨#[]⟩, .string ⟨#[]⟩, .int .i64 (bits .and .i64 x.h.mode 4095), .int .i64 N2, .int .i64 N3, .string ⟨#[]⟩, .string ⟨#[]⟩, .int .i64 S, .int .i64 N, .slice none 0 0] 41)).drew = w10 at *
    have kk := hd_cells HT.out
    obtain ⟨k0, k1, k2, k3, k4, k5, k6, k7, k8, k9⟩ := kk
    have ltT := HT.out.lt
    go_wp2_with fail
    clear k0 k1 k2 k3 k4 k5 k6 k7 k8 k9 ltT
    refine (refName x w10 (ho.g.below HA.out) (ho.l.below HA.out) ho.n ho.n').mono ?_
    rintro e w' ⟨rfl, rfl⟩
    have eC := HE.out.cell 1; have fC := HE.out.frozen 1; have ltE := HE.out.lt
    simp only [List.getElem?_toArray, List.getElem?_cons_succ, List.getElem?_cons_zero] at eC
    have kk := hd_cells HT.out
    obtain ⟨k0, k1, k2, k3, k4, k5, k6, k7, k8, k9⟩ := kk
    have ltT := HT.out.lt
    go_wp2_with fail
    clear k0 k1 k2 k3 k4 k5 k6 k7 k8 k9 ltT
    have HE2 : Hid (Blk (w'.setCell ⟨gE, 1, none⟩ (.string x.name)) gE 41 #[.int .i64 5, .string x.name, .string ⟨#[]⟩, .int .i64 x.mode, .int .i64 N2, .int .i64 N3, .string ⟨#[]⟩, .string ⟨#[]⟩, .int .i64 S, .int .i64 N, .slice none 0 0]) := Lib.hid ((HE.out.set_ 1 (.string x.name)).to rfl)
    replace HT := Lib.hid (HT.out.far (p := ⟨gE, 1, none⟩) (fun e => by have e' : w.heap.size = gE := e; omega) (.string x.name)); replace HBk := Lib.hid (HBk.out.far (p := ⟨gE, 1, none⟩) (fun e => by have e' : w.heap.size + 1 = gE := e; omega) (.string x.name)); replace HA := Lib.hid (HA.out.setCell (p := ⟨gE, 1, none⟩) (by show w.heap.size ≤ gE; omega) (.string x.name))
    replace HE := HE2
    clear HE2 eC fC ltE
    generalize (w'.setCell ⟨gE, 1, none⟩ (.string x.name)) = w11 at *
    refine (refUser x w11 (ho.g.below HA.out) (ho.l.below HA.out) ho.n ho.n').mono ?_
    rintro e w' ⟨rfl, rfl⟩
    have eC := HE.out.cell 6; have fC := HE.out.frozen 6; have ltE := HE.out.lt
    simp only [List.getElem?_toArray, List.getElem?_cons_succ, List.getElem?_cons_zero] at eC
    have kk := hd_cells HT.out
    obtain ⟨k0, k1, k2, k3, k4, k5, k6, k7, k8, k9⟩ := kk
    have ltT := HT.out.lt
    go_wp2_with fail
    clear k0 k1 k2 k3 k4 k5 k6 k7 k8 k9 ltT
    have HE2 : Hid (Blk (w'.setCell ⟨gE, 6, none⟩ (.string x.user)) gE 41 #[.int .i64 5, .string x.name, .string ⟨#[]⟩, .int .i64 x.mode, .int .i64 N2, .int .i64 N3, .string x.user, .string ⟨#[]⟩, .int .i64 S, .int .i64 N, .slice none 0 0]) := Lib.hid ((HE.out.set_ 6 (.string x.user)).to rfl)
    replace HT := Lib.hid (HT.out.far (p := ⟨gE, 6, none⟩) (fun e => by have e' : w.heap.size = gE := e; omega) (.string x.user)); replace HBk := Lib.hid (HBk.out.far (p := ⟨gE, 6, none⟩) (fun e => by have e' : w.heap.size + 1 = gE := e; omega) (.string x.user)); replace HA := Lib.hid (HA.out.setCell (p := ⟨gE, 6, none⟩) (by show w.heap.size ≤ gE; omega) (.string x.user))
    replace HE := HE2
    clear HE2 eC fC ltE
    generalize (w'.setCell ⟨gE, 6, none⟩ (.string x.user)) = w12 at *
    refine (refGroup x w12 (ho.g.below HA.out) (ho.l.below HA.out) ho.n ho.n').mono ?_
    rintro e w' ⟨rfl, rfl⟩
    have eC := HE.out.cell 7; have fC := HE.out.frozen 7; have ltE := HE.out.lt
    simp only [List.getElem?_toArray, List.getElem?_cons_succ, List.getElem?_cons_zero] at eC
    have kk := hd_cells HT.out
    obtain ⟨k0, k1, k2, k3, k4, k5, k6, k7, k8, k9⟩ := kk
    have ltT := HT.out.lt
    replace HE := Lib.hid ((HE.out.set_ 7 (.string x.group)).to (cs' := #[.int .i64 5, .string x.name, .string ⟨#[]⟩, .int .i64 x.mode, .int .i64 N2, .int .i64 N3, .string x.user, .string x.group, .int .i64 S, .int .i64 N, .slice none 0 0]) rfl)
    replace HBk := Lib.hid (HBk.out.far (p := ⟨gE, 7, none⟩) (fun e => by have e' : w.heap.size + 1 = gE := e; omega) (.string x.group)); replace HA := Lib.hid (HA.out.setCell (p := ⟨gE, 7, none⟩) (by show w.heap.size ≤ gE; omega) (.string x.group))
    go_wp2_with (first | ((with_reducible refine at_load (ty := 41) (x := .tmp 25) ?_ ?_); exact rfl; refine wpList_load_blk rfl 41 (.tmp 25) rfl _ rfl HE.out whole_Ent ?_) | ((with_reducible refine at_store (ty := 41) (x := .tmp 10) (y := .tmp 148) ?_ ?_); exact rfl; refine wpList_store_blk rfl 41 (.tmp 10) (.tmp 148) rfl _ rfl HBk.out rfl (size_ent rfl) rfl rfl ?_; intro u2 b3 hg3; replace HBk := Lib.hid b3; replace HA := Lib.hid (HA.out.grown hg3 HA.out.size (fun k hk => by injection hk with hk; omega)); clear b3 hg3))
    refine ret_blk_tmp2 (cs := #[.int .i64 5, .string x.name, .string noB, .int .i64 x.mode, .int .i64 N2, .int .i64 N3, .string x.user, .string x.group, .int .i64 S, .int .i64 N, .slice none 0 0]) rfl rfl HBk.out whole_Ent rfl rfl rfl ⟨?_, HA.out⟩
    rw [HRES2.out, HTB3.out, HENT.out, HSZ.out, HLK.out, HS2.out.1, HS2.out.2, HKD.out]
    rfl
  · have HTY := Lib.hid (HT48.out 5 (by omega) (by rw [ht]; rfl))
    have hty := HTY.out
    have HKT := Lib.hid (show kindT x.h.type = 2 by rw [hty]; decide)
    have HKD := Lib.hid (show x.kind = 2 from (kindV_else (by rw [hty]; decide)).trans HKT.out)
    have HSZ := Lib.hid (show x.size = 0 by rw [HSIZ.out, if_neg (by rw [hty]; decide)])
    have HLK := Lib.hid (show x.link = noB by unfold ApIn.link; rw [if_neg (by rw [hty]; decide)])
    clear h1 h2 hty HT48 hTo hT
    have hw1 : IntKind.i64.wrap 53 = 53 := by rw [IntKind.wrap_i64]; rfl
    have hw2 : IntKind.i64.wrap 5 = 5 := by rw [IntKind.wrap_i64]; rfl
    apply wp_one
    case hone =>
      go_region_held3 (fun w' => w'.cell? ⟨w.heap.size, 7, none⟩ = some (.int .u8 x.h.type.toNat) ∧ w'.cell? ⟨w.heap.size, 2, none⟩ = some (.int .i64 x.h.mode) ∧ w'.cell? ⟨g19, 0, none⟩ = some (.int .i64 S) ∧ w'.cell? ⟨g19, 1, none⟩ = some (.int .i64 N) ∧ w'.cell? ⟨g24, 5, none⟩ = some (.int .i64 2))
        (first | assumption | exact ref_Sj 5 2 HT.out H19.out (HAR.out.cell _) | exact ref_Sj 5 2 (HT.out.alloc _) (H19.out.alloc _) ((HAR.out.alloc _).cell _))
        (fail)
      all_goals exact ⟨rfl, rfl, rfl⟩
    clear hw1 hw2
    have HE : Hid (Blk (w9.alloc (.cells #[.int .i64 2, .string ⟨#[]⟩, .string ⟨#[]⟩, .int .i64 (bits .and .i64 x.h.mode 4095), .int .i64 N2, .int .i64 N3, .string ⟨#[]⟩, .string ⟨#[]⟩, .int .i64 S, .int .i64 N, .slice none 0 0] 41)).drew w9.heap.size 41 #[.int .i64 2, .string ⟨#[]⟩, .string ⟨#[]⟩, .int .i64 x.mode, .int .i64 N2, .int .i64 N3, .string ⟨#[]⟩, .string ⟨#[]⟩, .int .i64 S, .int .i64 N, .slice none 0 0]) := Lib.hid (Blk.new w9 _ _)
    replace HT := Lib.hid (HT.out.alloc (.cells #[.int .i64 2, .string ⟨#[]⟩, .string ⟨#[]⟩, .int .i64 (bits .and .i64 x.h.mode 4095), .int .i64 N2, .int .i64 N3, .string ⟨#[]⟩, .string ⟨#[]⟩, .int .i64 S, .int .i64 N, .slice none 0 0] 41)).drew; replace HBk := Lib.hid (HBk.out.alloc (.cells #[.int .i64 2, .string ⟨#[]⟩, .string ⟨#[]⟩, .int .i64 (bits .and .i64 x.h.mode 4095), .int .i64 N2, .int .i64 N3, .string ⟨#[]⟩, .string ⟨#[]⟩, .int .i64 S, .int .i64 N, .slice none 0 0] 41)).drew; replace HA := Lib.hid (HA.out.alloc HA.out.size (.cells #[.int .i64 2, .string ⟨#[]⟩, .string ⟨#[]⟩, .int .i64 (bits .and .i64 x.h.mode 4095), .int .i64 N2, .int .i64 N3, .string ⟨#[]⟩, .string ⟨#[]⟩, .int .i64 S, .int .i64 N, .slice none 0 0] 41)).drew
    have hE2 : w.heap.size + 2 ≤ w9.heap.size := by omega
    clear ltT lt19 lt24 HAR H19
    generalize w9.heap.size = gE at *
    generalize (w9.alloc (.cells #[.int .i64 2, .string ⟨#[]⟩, .string ⟨#[]⟩, .int .i64 (bits .and .i64 x.h.mode 4095), .int .i64 N2, .int .i64 N3, .string ⟨#[]⟩, .string ⟨#[]⟩, .int .i64 S, .int .i64 N, .slice none 0 0] 41)).drew = w10 at *
    have kk := hd_cells HT.out
    obtain ⟨k0, k1, k2, k3, k4, k5, k6, k7, k8, k9⟩ := kk
    have ltT := HT.out.lt
    go_wp2_with fail
    clear k0 k1 k2 k3 k4 k5 k6 k7 k8 k9 ltT
    refine (refName x w10 (ho.g.below HA.out) (ho.l.below HA.out) ho.n ho.n').mono ?_
    rintro e w' ⟨rfl, rfl⟩
    have eC := HE.out.cell 1; have fC := HE.out.frozen 1; have ltE := HE.out.lt
    simp only [List.getElem?_toArray, List.getElem?_cons_succ, List.getElem?_cons_zero] at eC
    have kk := hd_cells HT.out
    obtain ⟨k0, k1, k2, k3, k4, k5, k6, k7, k8, k9⟩ := kk
    have ltT := HT.out.lt
    go_wp2_with fail
    clear k0 k1 k2 k3 k4 k5 k6 k7 k8 k9 ltT
    have HE2 : Hid (Blk (w'.setCell ⟨gE, 1, none⟩ (.string x.name)) gE 41 #[.int .i64 2, .string x.name, .string ⟨#[]⟩, .int .i64 x.mode, .int .i64 N2, .int .i64 N3, .string ⟨#[]⟩, .string ⟨#[]⟩, .int .i64 S, .int .i64 N, .slice none 0 0]) := Lib.hid ((HE.out.set_ 1 (.string x.name)).to rfl)
    replace HT := Lib.hid (HT.out.far (p := ⟨gE, 1, none⟩) (fun e => by have e' : w.heap.size = gE := e; omega) (.string x.name)); replace HBk := Lib.hid (HBk.out.far (p := ⟨gE, 1, none⟩) (fun e => by have e' : w.heap.size + 1 = gE := e; omega) (.string x.name)); replace HA := Lib.hid (HA.out.setCell (p := ⟨gE, 1, none⟩) (by show w.heap.size ≤ gE; omega) (.string x.name))
    replace HE := HE2
    clear HE2 eC fC ltE
    generalize (w'.setCell ⟨gE, 1, none⟩ (.string x.name)) = w11 at *
    refine (refUser x w11 (ho.g.below HA.out) (ho.l.below HA.out) ho.n ho.n').mono ?_
    rintro e w' ⟨rfl, rfl⟩
    have eC := HE.out.cell 6; have fC := HE.out.frozen 6; have ltE := HE.out.lt
    simp only [List.getElem?_toArray, List.getElem?_cons_succ, List.getElem?_cons_zero] at eC
    have kk := hd_cells HT.out
    obtain ⟨k0, k1, k2, k3, k4, k5, k6, k7, k8, k9⟩ := kk
    have ltT := HT.out.lt
    go_wp2_with fail
    clear k0 k1 k2 k3 k4 k5 k6 k7 k8 k9 ltT
    have HE2 : Hid (Blk (w'.setCell ⟨gE, 6, none⟩ (.string x.user)) gE 41 #[.int .i64 2, .string x.name, .string ⟨#[]⟩, .int .i64 x.mode, .int .i64 N2, .int .i64 N3, .string x.user, .string ⟨#[]⟩, .int .i64 S, .int .i64 N, .slice none 0 0]) := Lib.hid ((HE.out.set_ 6 (.string x.user)).to rfl)
    replace HT := Lib.hid (HT.out.far (p := ⟨gE, 6, none⟩) (fun e => by have e' : w.heap.size = gE := e; omega) (.string x.user)); replace HBk := Lib.hid (HBk.out.far (p := ⟨gE, 6, none⟩) (fun e => by have e' : w.heap.size + 1 = gE := e; omega) (.string x.user)); replace HA := Lib.hid (HA.out.setCell (p := ⟨gE, 6, none⟩) (by show w.heap.size ≤ gE; omega) (.string x.user))
    replace HE := HE2
    clear HE2 eC fC ltE
    generalize (w'.setCell ⟨gE, 6, none⟩ (.string x.user)) = w12 at *
    refine (refGroup x w12 (ho.g.below HA.out) (ho.l.below HA.out) ho.n ho.n').mono ?_
    rintro e w' ⟨rfl, rfl⟩
    have eC := HE.out.cell 7; have fC := HE.out.frozen 7; have ltE := HE.out.lt
    simp only [List.getElem?_toArray, List.getElem?_cons_succ, List.getElem?_cons_zero] at eC
    have kk := hd_cells HT.out
    obtain ⟨k0, k1, k2, k3, k4, k5, k6, k7, k8, k9⟩ := kk
    have ltT := HT.out.lt
    replace HE := Lib.hid ((HE.out.set_ 7 (.string x.group)).to (cs' := #[.int .i64 2, .string x.name, .string ⟨#[]⟩, .int .i64 x.mode, .int .i64 N2, .int .i64 N3, .string x.user, .string x.group, .int .i64 S, .int .i64 N, .slice none 0 0]) rfl)
    replace HBk := Lib.hid (HBk.out.far (p := ⟨gE, 7, none⟩) (fun e => by have e' : w.heap.size + 1 = gE := e; omega) (.string x.group)); replace HA := Lib.hid (HA.out.setCell (p := ⟨gE, 7, none⟩) (by show w.heap.size ≤ gE; omega) (.string x.group))
    go_wp2_with (first | ((with_reducible refine at_load (ty := 41) (x := .tmp 25) ?_ ?_); exact rfl; refine wpList_load_blk rfl 41 (.tmp 25) rfl _ rfl HE.out whole_Ent ?_) | ((with_reducible refine at_store (ty := 41) (x := .tmp 10) (y := .tmp 148) ?_ ?_); exact rfl; refine wpList_store_blk rfl 41 (.tmp 10) (.tmp 148) rfl _ rfl HBk.out rfl (size_ent rfl) rfl rfl ?_; intro u2 b3 hg3; replace HBk := Lib.hid b3; replace HA := Lib.hid (HA.out.grown hg3 HA.out.size (fun k hk => by injection hk with hk; omega)); clear b3 hg3))
    refine ret_blk_tmp2 (cs := #[.int .i64 2, .string x.name, .string noB, .int .i64 x.mode, .int .i64 N2, .int .i64 N3, .string x.user, .string x.group, .int .i64 S, .int .i64 N, .slice none 0 0]) rfl rfl HBk.out whole_Ent rfl rfl rfl ⟨?_, HA.out⟩
    rw [HRES2.out, HTB3.out, HENT.out, HSZ.out, HLK.out, HS2.out.1, HS2.out.2, HKD.out]
    rfl
  · have HTY := Lib.hid (HT48.out 6 (by omega) (by rw [ht]; rfl))
    have hty := HTY.out
    have HKT := Lib.hid (show kindT x.h.type = 5 by rw [hty]; decide)
    have HKD := Lib.hid (show x.kind = 5 from (kindV_else (by rw [hty]; decide)).trans HKT.out)
    have HSZ := Lib.hid (show x.size = 0 by rw [HSIZ.out, if_neg (by rw [hty]; decide)])
    have HLK := Lib.hid (show x.link = noB by unfold ApIn.link; rw [if_neg (by rw [hty]; decide)])
    clear h1 h2 hty HT48 hTo hT
    have hw1 : IntKind.i64.wrap 54 = 54 := by rw [IntKind.wrap_i64]; rfl
    have hw2 : IntKind.i64.wrap 6 = 6 := by rw [IntKind.wrap_i64]; rfl
    apply wp_one
    case hone =>
      go_region_held3 (fun w' => w'.cell? ⟨w.heap.size, 7, none⟩ = some (.int .u8 x.h.type.toNat) ∧ w'.cell? ⟨w.heap.size, 2, none⟩ = some (.int .i64 x.h.mode) ∧ w'.cell? ⟨g19, 0, none⟩ = some (.int .i64 S) ∧ w'.cell? ⟨g19, 1, none⟩ = some (.int .i64 N) ∧ w'.cell? ⟨g24, 6, none⟩ = some (.int .i64 5))
        (first | assumption | exact ref_Sj 6 5 HT.out H19.out (HAR.out.cell _) | exact ref_Sj 6 5 (HT.out.alloc _) (H19.out.alloc _) ((HAR.out.alloc _).cell _))
        (fail)
      all_goals exact ⟨rfl, rfl, rfl⟩
    clear hw1 hw2
    have HE : Hid (Blk (w9.alloc (.cells #[.int .i64 5, .string ⟨#[]⟩, .string ⟨#[]⟩, .int .i64 (bits .and .i64 x.h.mode 4095), .int .i64 N2, .int .i64 N3, .string ⟨#[]⟩, .string ⟨#[]⟩, .int .i64 S, .int .i64 N, .slice none 0 0] 41)).drew w9.heap.size 41 #[.int .i64 5, .string ⟨#[]⟩, .string ⟨#[]⟩, .int .i64 x.mode, .int .i64 N2, .int .i64 N3, .string ⟨#[]⟩, .string ⟨#[]⟩, .int .i64 S, .int .i64 N, .slice none 0 0]) := Lib.hid (Blk.new w9 _ _)
    replace HT := Lib.hid (HT.out.alloc (.cells #[.int .i64 5, .string ⟨#[]⟩, .string ⟨#[]⟩, .int .i64 (bits .and .i64 x.h.mode 4095), .int .i64 N2, .int .i64 N3, .string ⟨#[]⟩, .string ⟨#[]⟩, .int .i64 S, .int .i64 N, .slice none 0 0] 41)).drew; replace HBk := Lib.hid (HBk.out.alloc (.cells #[.int .i64 5, .string ⟨#[]⟩, .string ⟨#[]⟩, .int .i64 (bits .and .i64 x.h.mode 4095), .int .i64 N2, .int .i64 N3, .string ⟨#[]⟩, .string ⟨#[]⟩, .int .i64 S, .int .i64 N, .slice none 0 0] 41)).drew; replace HA := Lib.hid (HA.out.alloc HA.out.size (.cells #[.int .i64 5, .string ⟨#[]⟩, .string ⟨#[]⟩, .int .i64 (bits .and .i64 x.h.mode 4095), .int .i64 N2, .int .i64 N3, .string ⟨#[]⟩, .string ⟨#[]⟩, .int .i64 S, .int .i64 N, .slice none 0 0] 41)).drew
    have hE2 : w.heap.size + 2 ≤ w9.heap.size := by omega
    clear ltT lt19 lt24 HAR H19
    generalize w9.heap.size = gE at *
    generalize (w9.alloc (.cells #[.int .i64 5, .string ⟨#[]⟩, .string ⟨#[]⟩, .int .i64 (bits .and .i64 x.h.mode 4095), .int .i64 N2, .int .i64 N3, .string ⟨#[]⟩, .string ⟨#[]⟩, .int .i64 S, .int .i64 N, .slice none 0 0] 41)).drew = w10 at *
    have kk := hd_cells HT.out
    obtain ⟨k0, k1, k2, k3, k4, k5, k6, k7, k8, k9⟩ := kk
    have ltT := HT.out.lt
    go_wp2_with fail
    clear k0 k1 k2 k3 k4 k5 k6 k7 k8 k9 ltT
    refine (refName x w10 (ho.g.below HA.out) (ho.l.below HA.out) ho.n ho.n').mono ?_
    rintro e w' ⟨rfl, rfl⟩
    have eC := HE.out.cell 1; have fC := HE.out.frozen 1; have ltE := HE.out.lt
    simp only [List.getElem?_toArray, List.getElem?_cons_succ, List.getElem?_cons_zero] at eC
    have kk := hd_cells HT.out
    obtain ⟨k0, k1, k2, k3, k4, k5, k6, k7, k8, k9⟩ := kk
    have ltT := HT.out.lt
    go_wp2_with fail
    clear k0 k1 k2 k3 k4 k5 k6 k7 k8 k9 ltT
    have HE2 : Hid (Blk (w'.setCell ⟨gE, 1, none⟩ (.string x.name)) gE 41 #[.int .i64 5, .string x.name, .string ⟨#[]⟩, .int .i64 x.mode, .int .i64 N2, .int .i64 N3, .string ⟨#[]⟩, .string ⟨#[]⟩, .int .i64 S, .int .i64 N, .slice none 0 0]) := Lib.hid ((HE.out.set_ 1 (.string x.name)).to rfl)
    replace HT := Lib.hid (HT.out.far (p := ⟨gE, 1, none⟩) (fun e => by have e' : w.heap.size = gE := e; omega) (.string x.name)); replace HBk := Lib.hid (HBk.out.far (p := ⟨gE, 1, none⟩) (fun e => by have e' : w.heap.size + 1 = gE := e; omega) (.string x.name)); replace HA := Lib.hid (HA.out.setCell (p := ⟨gE, 1, none⟩) (by show w.heap.size ≤ gE; omega) (.string x.name))
    replace HE := HE2
    clear HE2 eC fC ltE
    generalize (w'.setCell ⟨gE, 1, none⟩ (.string x.name)) = w11 at *
    refine (refUser x w11 (ho.g.below HA.out) (ho.l.below HA.out) ho.n ho.n').mono ?_
    rintro e w' ⟨rfl, rfl⟩
    have eC := HE.out.cell 6; have fC := HE.out.frozen 6; have ltE := HE.out.lt
    simp only [List.getElem?_toArray, List.getElem?_cons_succ, List.getElem?_cons_zero] at eC
    have kk := hd_cells HT.out
    obtain ⟨k0, k1, k2, k3, k4, k5, k6, k7, k8, k9⟩ := kk
    have ltT := HT.out.lt
    go_wp2_with fail
    clear k0 k1 k2 k3 k4 k5 k6 k7 k8 k9 ltT
    have HE2 : Hid (Blk (w'.setCell ⟨gE, 6, none⟩ (.string x.user)) gE 41 #[.int .i64 5, .string x.name, .string ⟨#[]⟩, .int .i64 x.mode, .int .i64 N2, .int .i64 N3, .string x.user, .string ⟨#[]⟩, .int .i64 S, .int .i64 N, .slice none 0 0]) := Lib.hid ((HE.out.set_ 6 (.string x.user)).to rfl)
    replace HT := Lib.hid (HT.out.far (p := ⟨gE, 6, none⟩) (fun e => by have e' : w.heap.size = gE := e; omega) (.string x.user)); replace HBk := Lib.hid (HBk.out.far (p := ⟨gE, 6, none⟩) (fun e => by have e' : w.heap.size + 1 = gE := e; omega) (.string x.user)); replace HA := Lib.hid (HA.out.setCell (p := ⟨gE, 6, none⟩) (by show w.heap.size ≤ gE; omega) (.string x.user))
    replace HE := HE2
    clear HE2 eC fC ltE
    generalize (w'.setCell ⟨gE, 6, none⟩ (.string x.user)) = w12 at *
    refine (refGroup x w12 (ho.g.below HA.out) (ho.l.below HA.out) ho.n ho.n').mono ?_
    rintro e w' ⟨rfl, rfl⟩
    have eC := HE.out.cell 7; have fC := HE.out.frozen 7; have ltE := HE.out.lt
    simp only [List.getElem?_toArray, List.getElem?_cons_succ, List.getElem?_cons_zero] at eC
    have kk := hd_cells HT.out
    obtain ⟨k0, k1, k2, k3, k4, k5, k6, k7, k8, k9⟩ := kk
    have ltT := HT.out.lt
    replace HE := Lib.hid ((HE.out.set_ 7 (.string x.group)).to (cs' := #[.int .i64 5, .string x.name, .string ⟨#[]⟩, .int .i64 x.mode, .int .i64 N2, .int .i64 N3, .string x.user, .string x.group, .int .i64 S, .int .i64 N, .slice none 0 0]) rfl)
    replace HBk := Lib.hid (HBk.out.far (p := ⟨gE, 7, none⟩) (fun e => by have e' : w.heap.size + 1 = gE := e; omega) (.string x.group)); replace HA := Lib.hid (HA.out.setCell (p := ⟨gE, 7, none⟩) (by show w.heap.size ≤ gE; omega) (.string x.group))
    go_wp2_with (first | ((with_reducible refine at_load (ty := 41) (x := .tmp 25) ?_ ?_); exact rfl; refine wpList_load_blk rfl 41 (.tmp 25) rfl _ rfl HE.out whole_Ent ?_) | ((with_reducible refine at_store (ty := 41) (x := .tmp 10) (y := .tmp 148) ?_ ?_); exact rfl; refine wpList_store_blk rfl 41 (.tmp 10) (.tmp 148) rfl _ rfl HBk.out rfl (size_ent rfl) rfl rfl ?_; intro u2 b3 hg3; replace HBk := Lib.hid b3; replace HA := Lib.hid (HA.out.grown hg3 HA.out.size (fun k hk => by injection hk with hk; omega)); clear b3 hg3))
    refine ret_blk_tmp2 (cs := #[.int .i64 5, .string x.name, .string noB, .int .i64 x.mode, .int .i64 N2, .int .i64 N3, .string x.user, .string x.group, .int .i64 S, .int .i64 N, .slice none 0 0]) rfl rfl HBk.out whole_Ent rfl rfl rfl ⟨?_, HA.out⟩
    rw [HRES2.out, HTB3.out, HENT.out, HSZ.out, HLK.out, HS2.out.1, HS2.out.2, HKD.out]
    rfl
end Go.Proofs.YtnadldcdckjifaaDoor
