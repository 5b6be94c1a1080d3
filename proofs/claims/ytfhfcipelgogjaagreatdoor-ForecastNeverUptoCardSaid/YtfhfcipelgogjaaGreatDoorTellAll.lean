/- forecast.tell: the fold of the entries over a tree of lines. No condition but room. forecast.Tree. No condition but room. valiselaw25.alive says true. No condition but room. -/
import Derived.Test.YtfhfcipelgogjaaGreatDoorNoneAll
import Derived.Deep.DeepCutAuto
import Derived.Deep.CutRange
import Derived.Deep.CutBlock
import Derived.Lib.SlBytesConst
set_option linter.unusedSectionVars false
set_option linter.unusedVariables false
set_option linter.unusedSimpArgs false
set_option maxHeartbeats 8000000
set_option maxRecDepth 100000
namespace Go.Proofs.YtfhfcipelgogjaaGreatDoor
open Go.RowKit
attribute [local go_sem] cell?_over frozen?_over lt_over le_over
theorem cfg_bounds {c:ConfigD} (h:¬ cfgE c≠0):(cfgBs c).all inB=true:=by
 unfold cfgE at h
 split at h
 ·assumption
 ·exact absurd (by decide) h
theorem cfg_bytes {c:ConfigD} (h:(cfgBs c).all inB=true):c.maxBytes≤1099511627776∧0≤c.maxBytes:=by
 have:=List.all_eq_true.1 h ⟨c.maxBytes,0,1099511627776⟩ (by simp [cfgBs])
 unfold inB at this
 simp at this
 exact ⟨this.2,this.1⟩
def PlantF (T:List ThD) (i0:Nat) (w:World) (e:Ending) (w':World):Prop:=
 ∃ hs,e=.returned (.pointer (some ⟨adr hs i0,0,none⟩))∧Below w.heap.size w w'∧TreeAt w' w.heap.size hs T∧(∀ (j:Nat) (t:ThD) (h:Hn),T[j]?=some t→hs[j]?=some h→DatV w' h.dv t.data)
theorem foldTell {A Ae A1 A2:Option Addr} {n cn ne ce n1 c1 n2 c2:Nat} {ls:List LineD} {es:List EntryD} {c:ConfigD} {now:TimeD} (code m:Int) (w:World) (hL:Row Shape.LineD w (Old w) A n ls) (hs:SmallP ls) (hn:n≤1000000000)
  (hE:Row Shape.EntryD w (Old w) Ae ne es) (hne:ne≤1000000) (hS:∀ e∈es,SmallE e) (h1:Row Shape.str w (Old w) A1 n1 c.include_) (h2:Row Shape.str w (Old w) A2 n2 c.exclude) (hn1:n1≤100000000) (hn2:n2≤100000000)
  (hmB:0<w.heap.size) (hm:w.cell? ⟨0,0,none⟩=some (.int .i64 m)) :
  Calls Tryz.prog 42 #[.slice A n cn,.slice Ae ne ce,.int .i64 code,.agg (cfgC c A1 n1 c1 A2 n2 c2),.agg #[.int .i64 now.sec,.int .i64 now.nano]] w (TellEnd (tellF ls es code c now) w):=by
 obtain ⟨R,hR⟩:∃ x,x=tellF ls es code c now:=⟨_,rfl⟩
 rw [← hR]
 have HR:=Lib.hid hR; have HL:=Lib.hid hL; have HSP:=Lib.hid hs; have HE:=Lib.hid hE; have HS:=Lib.hid hS; have H1:=Lib.hid h1; have H2:=Lib.hid h2; have HM:=Lib.hid hm; have HMB:=Lib.hid hmB
 have hmm:=@run_makeMap Tryz.prog
 obtain ⟨w0,hw0⟩:∃ x,x=((w.alloc (.cells (cfgC c A1 n1 c1 A2 n2 c2) 42)).alloc (.cells #[.int .i64 now.sec,.int .i64 now.nano] 44)).alloc (.cells #[.slice none 0 0,.slice none 0 0,.int .i64 0,.int .i64 0] 50):=⟨_,rfl⟩
 have HI0:Hid (TlI w.heap.size (w.heap.size+1) (w.heap.size+1+1) c A1 n1 c1 A2 n2 c2 now w w0):=Lib.hid (by
  have e1:(w.alloc (.cells (cfgC c A1 n1 c1 A2 n2 c2) 42)).heap.size=w.heap.size+1:=by simp
  have e2:((w.alloc (.cells (cfgC c A1 n1 c1 A2 n2 c2) 42)).alloc (.cells #[.int .i64 now.sec,.int .i64 now.nano] 44)).heap.size=w.heap.size+1+1:=by simp
  have q1:=Blk.new w 42 (cfgC c A1 n1 c1 A2 n2 c2)
  have q2:=Blk.new (w.alloc (.cells (cfgC c A1 n1 c1 A2 n2 c2) 42)) 44 #[.int .i64 now.sec,.int .i64 now.nano]
  have q3:=Blk.new ((w.alloc (.cells (cfgC c A1 n1 c1 A2 n2 c2) 42)).alloc (.cells #[.int .i64 now.sec,.int .i64 now.nano] 44)) 50 #[.slice none 0 0,.slice none 0 0,.int .i64 0,.int .i64 0]
  rw [e1] at q2
  rw [e2] at q3
  rw [hw0]
  exact ⟨(q1.alloc _).alloc _,q2.alloc _,q3,((below_alloc' _ _).trans ((below_alloc' _ _).mono (by simp))).trans ((below_alloc' _ _).mono (by simp; omega))⟩)
 have HQ:=Lib.hid (quotaCheck c (A1:=A1) (A2:=A2) (n1:=n1) (c1:=c1) (n2:=n2) (c2:=c2) w0 ((H1.out.keep (Keeps.old HI0.out.below)).more fun k hk=>Old.below HI0.out.below hk) ((H2.out.keep (Keeps.old HI0.out.below)).more fun k hk=>Old.below HI0.out.below hk) hn1 hn2)
 obtain ⟨QE,hQE⟩:∃ x,x=cfgE c:=⟨_,rfl⟩
 rw [← hQE] at HQ
 have HQE:=Lib.hid hQE
 obtain ⟨cb,hcb⟩:∃ x,x=w.heap.size:=⟨_,rfl⟩
 have HCB:=Lib.hid hcb
 unfold cfgC at hw0 HQ ⊢
 clear hR hL hs hE hS h1 h2 hm hmB hQE
 go_enter Tryz.func42,Tryz.ntmps42
 go_upto_region 1 with (fail)
 rw [← hw0]
 rw [← hcb] at HI0 ⊢
 have HB0:Hid (Below w.heap.size w w0):=Lib.hid HI0.out.below
 have k0:=HI0.out.cfg.cell 0; have k1:=HI0.out.cfg.cell 1; have k2:=HI0.out.cfg.cell 2; have k3:=HI0.out.cfg.cell 3; have k4:=HI0.out.cfg.cell 4; have k5:=HI0.out.cfg.cell 5; have k6:=HI0.out.cfg.cell 6; have k7:=HI0.out.cfg.cell 7; have k8:=HI0.out.cfg.cell 8; have k9:=HI0.out.cfg.cell 9; have k10:=HI0.out.cfg.cell 10; have k11:=HI0.out.cfg.cell 11; have k12:=HI0.out.cfg.cell 12
 have lc:=HI0.out.cfg.lt
 unfold cfgC at k0 k1 k2 k3 k4 k5 k6 k7 k8 k9 k10 k11 k12
 simp only [List.getElem?_toArray,List.getElem?_cons_succ,List.getElem?_cons_zero] at k0 k1 k2 k3 k4 k5 k6 k7 k8 k9 k10 k11 k12
 clear hw0 hcb
 go_wp2_with fail
 refine HQ.out.mono ?_
 rintro e w1 ⟨rfl,hb1⟩
 have HI1:=Lib.hid (HI0.out.below_ hb1)
 clear hb1 HQ HI0 HB0 k0 k1 k2 k3 k4 k5 k6 k7 k8 k9 k10 k11 k12 lc
 by_cases hq:QE≠0
 ·have hq':(QE != 0)=true:=by simpa using hq
  have HR1:Hid (R=failF QE):=Lib.hid (by rw [HR.out,HQE.out]; exact tellF_cfg (by rw [← HQE.out]; exact hq))
  clear hq
  go_wp2_with ((with_reducible refine at_store (ty:=50) (x:=.tmp 10) (y:=.tmp 22) ?_ ?_); exact rfl; refine wpList_store_blk rfl 50 (.tmp 10) (.tmp 22) rfl _ rfl HI1.out.res rfl (by kernel_rfl) rfl rfl ?_; intro w99 b99 g99)
  exact ret_blk rfl rfl b99 whole_Forecast rfl (by rw [HR1.out]; exact TellEnd.fail _ (HI1.out.below.grown g99 HI1.out.below.size (fun j hj=>by cases hj; have:=HCB.out; omega)))
 have hq':(QE != 0)=false:=by simpa using hq
 have HQ0:Hid (¬ cfgE c≠0):=Lib.hid (by rw [← HQE.out]; exact hq)
 clear hq
 have HGP:=Lib.hid (graphPlantE (c:=cn) w1 ((HL.out.keep (Keeps.old HI1.out.below)).more fun k hk=>Old.below HI1.out.below hk) HSP.out hn)
 go_wp2_with fail
 refine HGP.out.mono ?_
 rintro e w2 ⟨hb2,hcase⟩
 have HI2:=Lib.hid (HI1.out.below_ hb2)
 have HI2b:Hid (TlI cb (cb+1) (cb+1+1) c A1 n1 c1 A2 n2 c2 now w (w2.alloc (.cells #[.slice none 0 0] 24))):=Lib.hid (HI2.out.below_ (below_alloc' _ _))
 clear hb2 HGP HI1
 rcases hcase with ⟨ps,A3,N,c3,hps,rfl,hrow,hsg,hN,i0,st,hroot,htree,hout⟩ | ⟨rfl,hno⟩
 ·have hN0:0<N:=by
   have h1:=(idx_get hroot.2.1).1
   have h2:=hrow.1
   omega
  obtain ⟨bg,offg,hA3,-⟩:=hrow.2 hN0
  subst hA3
  have hR3:R=if stampOk now.sec now.nano=false then failF 20 else if es.all fitB=false then failF 80 else foldF (plantT ps.nodes) i0 es code c now:=by
   rw [HR.out,tellF_on HQ0.out hps ⟨i0,hroot,by rw [htree],by rw [htree]; exact hout⟩,hroot.2.1]; rfl
  have HR3:=Lib.hid hR3
  have HROW2:=Lib.hid hrow; have HRT:=Lib.hid hroot; have HSG:=Lib.hid hsg
  obtain ⟨w3,hw3⟩:∃ x,x=w2.alloc (.cells #[.slice (some ⟨bg,offg,none⟩) N c3] 24):=⟨_,rfl⟩
  have hb3:Below w2.heap.size w2 w3:=by rw [hw3]; exact below_alloc' _ _
  obtain ⟨gb,hgb⟩:∃ x,x=w2.heap.size:=⟨_,rfl⟩
  have HI3:=Lib.hid (HI2.out.below_ hb3)
  have HG3:Hid (Blk w3 gb 24 #[.slice (some ⟨bg,offg,none⟩) N c3]):=Lib.hid (by rw [hw3,hgb]; exact Blk.new _ _ _)
  have HROW3:Hid (Row Shape.NodeD w3 (Old w3) (some ⟨bg,offg,none⟩) N ps.nodes):=Lib.hid ((hrow.keep (fun k hk=>hb3.block k hk.2)).more fun k hk=>Nat.lt_of_lt_of_le hk.2 hb3.size)
  have SV:=Lib.hid (stampValid now.sec now.nano w3)
  have x0:=HI3.out.now.cell 0; have x1:=HI3.out.now.cell 1; have lx:=HI3.out.now.lt
  simp only [List.getElem?_toArray,List.getElem?_cons_succ,List.getElem?_cons_zero] at x0 x1
  obtain ⟨so,hso⟩:∃ x,x=stampOk now.sec now.nano:=⟨_,rfl⟩
  rw [← hso] at SV HR3
  have HSO:=Lib.hid hso
  have HDT:=Lib.hid (plant_data hps HSP.out)
  clear hps hrow hsg hroot htree hout hb3 HI2 hR3 hso hN0
  go_upto_region 5 with (fail)
  rw [← hw3,← hgb]
  clear hw3 hgb
  go_wp2_with fail
  refine SV.out.mono ?_
  rintro e w4 ⟨rfl,hb4⟩
  have HI4:=Lib.hid (HI3.out.below_ hb4)
  have HG4:=Lib.hid (HG3.out.below hb4 HG3.out.lt)
  have HROW4:Hid (Row Shape.NodeD w4 (Old w4) (some ⟨bg,offg,none⟩) N ps.nodes):=Lib.hid (HROW3.out.below hb4)
  clear hb4 SV x0 x1 lx HI3 HG3 HROW3
  cases so with
  | false =>
   have HR4:Hid (R=failF 20):=Lib.hid (by rw [HR3.out]; rfl)
   go_wp2_with ((with_reducible refine at_store (ty:=50) (x:=.tmp 10) (y:=.tmp 36) ?_ ?_); exact rfl; refine wpList_store_blk rfl 50 (.tmp 10) (.tmp 36) rfl _ rfl HI4.out.res rfl (by kernel_rfl) rfl rfl ?_; intro w99 b99 g99)
   exact ret_blk rfl rfl b99 whole_Forecast rfl (by rw [HR4.out]; exact TellEnd.fail _ (HI4.out.below.grown g99 HI4.out.below.size (fun j hj=>by cases hj; have:=HCB.out; omega)))
  | true =>
   have AF:=Lib.hid (foldAllFit (c:=ce) w4 ((HE.out.keep (Keeps.old HI4.out.below)).more fun k hk=>Old.below HI4.out.below hk) (by omega))
   obtain ⟨af,haf⟩:∃ x,x=es.all fitB:=⟨_,rfl⟩
   rw [← haf] at AF HR3
   have HAF:=Lib.hid haf
   clear haf
   go_wp2_with fail
   refine AF.out.mono ?_
   rintro e w5 ⟨rfl,hb5⟩
   have HI5:=Lib.hid (HI4.out.below_ hb5)
   have HG5:=Lib.hid (HG4.out.below hb5 HG4.out.lt)
   have HROW5:Hid (Row Shape.NodeD w5 (Old w5) (some ⟨bg,offg,none⟩) N ps.nodes):=Lib.hid (HROW4.out.below hb5)
   clear hb5 AF HI4 HG4 HROW4
   cases af with
   | false =>
    have HR5:Hid (R=failF 80):=Lib.hid (by rw [HR3.out]; rfl)
    go_wp2_with ((with_reducible refine at_store (ty:=50) (x:=.tmp 10) (y:=.tmp 41) ?_ ?_); exact rfl; refine wpList_store_blk rfl 50 (.tmp 10) (.tmp 41) rfl _ rfl HI5.out.res rfl (by kernel_rfl) rfl rfl ?_; intro w99 b99 g99)
    exact ret_blk rfl rfl b99 whole_Forecast rfl (by rw [HR5.out]; exact TellEnd.fail _ (HI5.out.below.grown g99 HI5.out.below.size (fun j hj=>by cases hj; have:=HCB.out; omega)))
   | true =>
    have HR5:Hid (R=foldF (plantT ps.nodes) i0 es code c now):=Lib.hid (by rw [HR3.out]; rfl)
    clear HR3
    go_upto_region 11 with (fail)
    have HW5:Hid (0<w5.heap.size):=Lib.hid (Nat.lt_of_lt_of_le HMB.out HI5.out.below.size)
    have SK:Hid (∀ w',Below w5.heap.size w5 w'→(w'.cell? ⟨gb,0,none⟩=some (.slice (some ⟨bg,offg,none⟩) N c3)∧w'.cell? ⟨cb+1,0,none⟩=some (.int .i64 now.sec)∧w'.cell? ⟨cb+1,1,none⟩=some (.int .i64 now.nano))):=Lib.hid fun w' hb=>⟨(HG5.out.below hb HG5.out.lt).cell 0,(HI5.out.now.below hb HI5.out.now.lt).cell 0,(HI5.out.now.below hb HI5.out.now.lt).cell 1⟩
    have s0:=(SK.out w5 (Below.refl _ _)).1; have s1:=(SK.out w5 (Below.refl _ _)).2.1; have s2:=(SK.out w5 (Below.refl _ _)).2.2
    have BD:Hid (Below w5.heap.size w5 w5.drew):=Lib.hid ((Below.refl _ _).drew)
    have BDM:Hid (Below w5.heap.size w5 (w5.drew.alloc (.map #[] 0))):=Lib.hid (below_old BD.out (below_alloc' _ _))
    have HWD:Hid (w5.drew.heap.size=w5.heap.size):=Lib.hid rfl
    have HWE:Hid ((w5.drew.alloc (.map #[] 0)).heap.size=w5.heap.size+1):=Lib.hid (by rw [← HWD.out]; simp)
    have HLN:Hid (i0<(plantT ps.nodes).length):=Lib.hid (by rw [plantT_len]; exact (idx_get HRT.out.2.1).1)
    have HKN:Hid ((thD (plantT ps.nodes) i0).kind=2):=Lib.hid (plantT_kind (idx_get HRT.out.2.1).1 HRT.out.2.2)
    have FP0:Hid (Calls Tryz.prog 75 #[.agg #[.slice (some ⟨bg,offg,none⟩) N c3]] w5.drew (PlantF (plantT ps.nodes) i0 w5.drew)):=Lib.hid ((foldPlant w5.drew HRT.out.1 HRT.out.2.1 (HROW5.out.below BD.out) hN))
    have FP1:Hid (Calls Tryz.prog 75 #[.agg #[.slice (some ⟨bg,offg,none⟩) N c3]] (w5.drew.alloc (.map #[] 0)) (PlantF (plantT ps.nodes) i0 (w5.drew.alloc (.map #[] 0)))):=Lib.hid ((foldPlant (w5.drew.alloc (.map #[] 0)) HRT.out.1 HRT.out.2.1 (HROW5.out.below BDM.out) hN))
    go_cut [14] (fun v14 wx=>∃ (f mo:Nat) (hs:List Hn),v14=.pointer (some ⟨f,0,none⟩)∧FoldAt wx w5.heap.size f i0 mo now hs (plantT ps.nodes) []∧w5.heap.size≤f∧w5.heap.size≤mo∧Below w5.heap.size w5 wx)
    case first =>
     go_region_held3 (fun w'=>w'.cell? ⟨gb,0,none⟩=some (.slice (some ⟨bg,offg,none⟩) N c3)∧w'.cell? ⟨cb+1,0,none⟩=some (.int .i64 now.sec)∧w'.cell? ⟨cb+1,1,none⟩=some (.int .i64 now.nano))
      (first | assumption | exact SK.out _ BD.out | exact SK.out _ BDM.out | exact SK.out _ HB6.out | exact SK.out _ (below_old HB6.out (below_alloc' _ _)) | exact SK.out _ (below_old (below_old HB6.out (below_alloc' _ _)) (below_alloc' _ _)))
      (first
       | (go_at_call 75; refine FP0.out.mono ?_; rintro e w6 ⟨hs,rfl,hb6,hT6,hD6⟩; have HB6:=Lib.hid (below_old BD.out hb6); have HT6:=Lib.hid hT6; have HD6:=Lib.hid hD6; clear hb6 hT6 hD6)
       | (go_at_call 75; refine FP1.out.mono ?_; rintro e w6 ⟨hs,rfl,hb6,hT6,hD6⟩; have HB6:=Lib.hid (below_old BDM.out hb6); have HC6:=Lib.hid hb6; have HT6:=Lib.hid hT6; have HD6:=Lib.hid hD6; clear hb6 hT6 hD6))
     ·go_wp2_with fail
      go_meet
      case rel =>
       refine ⟨_,w6.heap.size,hs,rfl,FoldAt.start ?_ (((HT6.out.lower (Nat.le_of_eq HWD.out.symm)).below (below_alloc' _ _)).below (below_alloc' _ _)) HLN.out HKN.out ((IsMapP.new kP cJ w6).alloc _) (fun hk=>?_) ?_ (fun j t h e1 e2=>((HD6.out j t h e1 e2).below (below_alloc' _ _)).below (below_alloc' _ _)),?_,HB6.out.size,below_old (below_old HB6.out (below_alloc' _ _)) (below_alloc' _ _)⟩
       ·have:=Blk.new (w6.alloc (.map #[] 0)) 147 (foldC (adr hs i0) w6.heap.size now)
        rw [show (w6.alloc (.map #[] 0)).heap.size=w6.heap.size+1 by simp] at this
        exact this
       ·have:=(HT6.out.lt hk).1
        omega
       ·have:=HB6.out.size; simp; omega
       ·have:=HB6.out.size; omega
     ·go_wp2_with fail
      go_meet
      case rel =>
       have hmp:IsMapP kP cJ w6 w5.heap.size ([]:List (Nat×JobV)):=by
        have q:=IsMapP.new kP cJ w5.drew
        refine IsMapP.of_block q ?_
        exact HC6.out.block _ (by rw [HWE.out]; exact Nat.lt_succ_self _)
       refine ⟨_,w5.heap.size,hs,rfl,FoldAt.start ?_ ((HT6.out.lower (by rw [HWE.out]; omega)).below (below_alloc' _ _)) HLN.out HKN.out (hmp.alloc _) (fun hk=>?_) ?_ (fun j t h e1 e2=>(HD6.out j t h e1 e2).below (below_alloc' _ _)),HB6.out.size,Nat.le_refl _,below_old HB6.out (below_alloc' _ _)⟩
       ·exact Blk.new w6 147 (foldC (adr hs i0) w5.heap.size now)
       ·have:=(HT6.out.lt hk).2
        rw [HWE.out] at this
        omega
       ·have:=HB6.out.size; simp; omega
    case rest =>
     obtain ⟨w6,hw6e⟩:∃ y,y=wc:=⟨_,rfl⟩
     subst hw6e
     obtain ⟨f,mo,hs,rfl,hF6,hf,hmo,hb6⟩:=hcut
     have HF6:=Lib.hid hF6; have HB6:=Lib.hid hb6
     clear hF6 hb6 s0 s1 s2 FP0 FP1 BD BDM HWD HWE
     obtain ⟨w7,hw7⟩:∃ y,y=w6.alloc (.cells #[.slice none 0 0,.slice none 0 0,.int .i64 0,.int .i64 0] 50):=⟨_,rfl⟩
     obtain ⟨ob,hob⟩:∃ y,y=w6.heap.size:=⟨_,rfl⟩
     have hb7:Below w6.heap.size w6 w7:=by rw [hw7]; exact below_alloc' _ _
     have HF7:=Lib.hid (HF6.out.below hb7)
     have HB7:Hid (Below w5.heap.size w5 w7):=Lib.hid (below_old HB6.out hb7)
     have HO7:Hid (Blk w7 ob 50 #[.slice none 0 0,.slice none 0 0,.int .i64 0,.int .i64 0]):=Lib.hid (by rw [hw7,hob]; exact Blk.new _ _ _)
     have hob5:w5.heap.size≤ob:=by rw [hob]; exact HB6.out.size
     have HC7:Hid (Below w.heap.size w w7):=Lib.hid (below_old HI5.out.below HB7.out)
     have HI7:=Lib.hid (HI5.out.below_ HB7.out)
     have FW:=Lib.hid (foldWalk (B:=w5.heap.size) (cn:=ce) (c1:=c1) (c2:=c2) w7 m HF7.out hf hmo hob5 HO7.out ((HE.out.keep (Keeps.old HC7.out)).more fun k hk=>Nat.lt_of_lt_of_le hk HI5.out.below.size) hne HS.out ((H1.out.keep (Keeps.old HC7.out)).more fun k hk=>Nat.lt_of_lt_of_le hk HI5.out.below.size) ((H2.out.keep (Keeps.old HC7.out)).more fun k hk=>Nat.lt_of_lt_of_le hk HI5.out.below.size) hn1 hn2 (cfg_bytes (cfg_bounds HQ0.out)) HW5.out (by rw [HC7.out.cell HMB.out]; exact HM.out))
     obtain ⟨X,hX⟩:∃ x,x=walkF now i0 c es ⟨⟨plantT ps.nodes,[]⟩,[],0⟩:=⟨_,rfl⟩
     rw [← hX] at FW
     have HX:=Lib.hid hX
     have HOK:Hid (OkS (8192+66*65537) X.1.s):=Lib.hid (by
      rw [hX]
      have hst:=of_decide_eq_true (show decide _=true from HSO.out.symm)
      refine walkF_ok (cfg_bounds HQ0.out) ⟨⟨by omega,by omega⟩,⟨by omega,by omega⟩⟩ es _ 8192 (fun e he=>⟨List.all_eq_true.1 HAF.out.symm e he,(HS.out e he).link,(HS.out e he).data⟩) (Nat.zero_le _) ⟨plantT_ok HRT.out.1 HDT.out,fun p hp=>by cases hp⟩)
     have k0:=HI7.out.cfg.cell 0; have k1:=HI7.out.cfg.cell 1; have k2:=HI7.out.cfg.cell 2; have k3:=HI7.out.cfg.cell 3; have k4:=HI7.out.cfg.cell 4; have k5:=HI7.out.cfg.cell 5; have k6:=HI7.out.cfg.cell 6; have k7:=HI7.out.cfg.cell 7; have k8:=HI7.out.cfg.cell 8; have k9:=HI7.out.cfg.cell 9; have k10:=HI7.out.cfg.cell 10; have k11:=HI7.out.cfg.cell 11; have k12:=HI7.out.cfg.cell 12
     have lc:=HI7.out.cfg.lt
     unfold cfgC at k0 k1 k2 k3 k4 k5 k6 k7 k8 k9 k10 k11 k12 FW
     simp only [List.getElem?_toArray,List.getElem?_cons_succ,List.getElem?_cons_zero] at k0 k1 k2 k3 k4 k5 k6 k7 k8 k9 k10 k11 k12
     go_upto_region 13 with (fail)
     rw [← hw7,← hob]
     have HOB:=Lib.hid hob
     clear hw7 hob hb7 hX
     go_wp2_with fail
     refine FW.out.mono ?_
     rintro e w8 ⟨hs2,dv,hF8,hb8,hO8,hD8,rfl⟩
     obtain ⟨A8,n8,c8,rfl,h81,h82,-⟩:=hD8.rd
     have OB8:Hid (ObI w5.heap.size ob f i0 mo now (hs++hs2) X.1.s.ths X.1.s.off A8 n8 c8 X.1.done 0 w5 w8):=Lib.hid ⟨hO8,hD8,hF8,HB7.out.trans (hb8.mono (Nat.le_refl _))⟩
     clear hF8 hb8 hO8 hD8 FW k0 k1 k2 k3 k4 k5 k6 k7 k8 k9 k10 k11 k12 lc HF7 HF6 HI7 HO7 HC7 HB7
     have y2:=OB8.out.blk.cell 2; have f2:=OB8.out.blk.frozen 2; have lo:=OB8.out.blk.lt
     simp only [List.getElem?_toArray,List.getElem?_cons_succ,List.getElem?_cons_zero] at y2
     have OB9:=Lib.hid (OB8.out.set hob5 X.2)
     have OB10:=Lib.hid (OB9.out.set hob5 code)
     obtain ⟨xc,hxc⟩:∃ y,y=X.2:=⟨_,rfl⟩
     rw [← hxc] at OB9 OB10 ⊢
     have HXC:=Lib.hid hxc
     clear hxc
     go_upto_if 55 with (fail)
     obtain ⟨kk,hkk⟩:∃ y,y=if xc=0 then code else xc:=⟨_,rfl⟩
     obtain ⟨T2,hT2⟩:∃ y,y=if xc=0∧code=0 then finishF X.1.s.ths X.1.s.off else X.1.s.ths:=⟨_,rfl⟩
     have HKK:=Lib.hid hkk; have HT2:=Lib.hid hT2
     clear hkk hT2
     go_cut [] (fun wx=>ObI w5.heap.size ob f i0 mo now (hs++hs2) T2 X.1.s.off A8 n8 c8 X.1.done kk w5 wx)
     case first =>
      by_cases hx:xc=0
      ·have hx':(xc == 0)=true:=by simpa using hx
       by_cases hc0:code=0
       ·have hc':(code == 0)=true:=by simpa using hc0
        have FF:=Lib.hid (foldFinish _ OB10.out.fold)
        have E1:Hid (kk=code∧T2=finishF X.1.s.ths X.1.s.off):=Lib.hid ⟨by rw [HKK.out,if_pos hx],by rw [HT2.out,if_pos ⟨hx,hc0⟩]⟩
        clear hx hc0
        go_wp2_with fail
        refine FF.out.mono ?_
        rintro e w10 ⟨rfl,hF10,hc10⟩
        have OB11:=Lib.hid (OB10.out.finish hF10 hc10)
        clear hF10 hc10 FF
        go_wp2_with fail
        go_meet
        case rel=>rw [E1.out.1,E1.out.2]; exact OB11.out
       ·have hc':(code == 0)=false:=by simpa using hc0
        have E1:Hid (kk=code∧T2=X.1.s.ths):=Lib.hid ⟨by rw [HKK.out,if_pos hx],by rw [HT2.out,if_neg (fun k=>hc0 k.2)]⟩
        clear hx hc0
        go_wp2_with fail
        go_meet
        case rel=>rw [E1.out.1,E1.out.2]; exact OB10.out
      ·have hx':(xc == 0)=false:=by simpa using hx
       have E1:Hid (kk=xc∧T2=X.1.s.ths):=Lib.hid ⟨by rw [HKK.out,if_neg hx],by rw [HT2.out,if_neg (fun k=>hx k.1)]⟩
       clear hx
       go_wp2_with fail
       go_meet
       case rel=>rw [E1.out.1,E1.out.2]; exact OB9.out
     case rest =>
      obtain ⟨w11,hw11e⟩:∃ y,y=wc:=⟨_,rfl⟩
      subst hw11e
      have OB11:=Lib.hid hcut
      clear hcut y2 f2 lo OB8 OB9 OB10
      obtain ⟨bf,hbf⟩:∃ x,x=w11.heap.size:=⟨_,rfl⟩
      obtain ⟨w12,hw12⟩:∃ x,x=(w11.alloc (.map #[] 0)).alloc (.cells #[.slice none 0 0,.map (some bf),.int .i64 0] 152):=⟨_,rfl⟩
      have hs12:w12.heap.size=bf+2:=by rw [hw12,hbf]; simp
      have hb12:Below w11.heap.size w11 w12:=by rw [hw12]; exact ((below_alloc' _ _).trans ((below_alloc' _ _).mono (by simp)))
      have OKN:Hid (OkTs T2):=Lib.hid (by
       rw [HT2.out]
       split
       ·exact (finishF_ok HOK.out.1 HOK.out.2).oks (by omega)
       ·exact HOK.out.1.oks (by omega))
      have HF12:=Lib.hid (OB11.out.fold.below hb12)
      have LT12:LtAt (bf+1) bf (bf+2) (hs++hs2) ⟨[],[],0⟩ w12:=by
       refine ⟨⟨.slice none 0 0,fun _=>False,?_,Own.start _ _ _ _,fun _ h=>h.elim⟩,?_,Nat.le_refl _,fun p hp=>(by cases hp),by omega,by omega⟩
       ·have:=Blk.new (w11.alloc (.map #[] 0)) 152 #[.slice none 0 0,.map (some bf),.int .i64 0]
        rw [← hw12,show (w11.alloc (.map #[] 0)).heap.size=bf+1 by rw [hbf]; simp] at this
        exact this
       ·rw [hw12,hbf]; exact (IsMapP.new kP cW w11).alloc _
      have TB12:TreeB bf (hs++hs2) T2 w12:=by
       refine ⟨⟨_,HF12.out.tree⟩,fun k hk=>by rw [hbf]; exact (OB11.out.fold.tree.lt hk).1,fun j t x e1 e2=>?_⟩
       obtain ⟨Ad,cd,q1,q2,q3⟩:=OB11.out.fold.dat j t x e1 e2
       exact ⟨Ad,cd,q2,q1,(q3.keep hb12.block).more fun k hk=>by rw [hbf]; exact hk⟩
      have GA:=Lib.hid (foldAdd OKN.out (Nat.le_succ bf) (Nat.le_refl bf) (by omega) TFUEL ⟨[],[],0⟩ i0 [] (.slice none 0 0) w12 LT12 TB12 (Nat.le_of_eq hs12.symm) HF12.out.root ⟨0,Own.start _ _ _ _⟩ (fun p hp=>by cases hp) (by decide) (Nat.zero_le _) (by show 4194305≤4194305+0; omega))
      have HB12:Hid (Below w5.heap.size w5 w12):=Lib.hid (below_old OB11.out.below hb12)
      obtain ⟨RT,hRT⟩:∃ x,x=addT T2 TFUEL ⟨[],[],0⟩ i0 []:=⟨_,rfl⟩
      rw [← hRT] at GA
      have HRTT:=Lib.hid hRT
      have x0:=HF12.out.blk.cell 0; have lf:=HF12.out.blk.lt
      unfold foldC at x0
      simp only [List.getElem?_toArray,List.getElem?_cons_succ,List.getElem?_cons_zero] at x0
      go_upto_region 19 with (fail)
      rw [← hbf,← hw12]
      have HBF:=Lib.hid hbf
      have HB11:=Lib.hid hb12
      clear hw12 hbf LT12 TB12 hRT hb12
      go_wp2_with fail
      refine GA.out.mono ?_
      rintro e w13 ⟨hb13,-,hl13,rfl⟩
      have HL13:=Lib.hid hl13
      have hbf5:w5.heap.size≤bf:=by rw [HBF.out]; exact OB11.out.below.size
      have HB13:Hid (Below w5.heap.size w5 w13):=Lib.hid (HB12.out.trans (hb13.mono hbf5))
      have HO13:Hid (ObI w5.heap.size ob f i0 mo now (hs++hs2) T2 X.1.s.off A8 n8 c8 X.1.done kk w5 w13):=Lib.hid (OB11.out.below_ (HB11.out.trans (hb13.mono (Nat.le_of_eq HBF.out.symm))))
      have HI13:=Lib.hid (HI5.out.below_ HB13.out)
      clear hb13 hl13 GA x0 lf
      obtain ⟨ok,hok⟩:∃ x,x=RT.2:=⟨_,rfl⟩
      rw [← hok]
      have HOKR:=Lib.hid hok
      clear hok
      have HRF:Hid (R=if ok=true then ⟨RT.1.out,X.1.done,kk,X.1.done.length⟩ else failF 142):=Lib.hid (by
       rw [HR5.out]
       unfold foldF
       simp only
       rw [← HX.out,← HXC.out,← HT2.out,← HKK.out,← HRTT.out,← HOKR.out])
      cases ok with
      | false =>
       have HR6:Hid (R=failF 142):=Lib.hid (by rw [HRF.out]; rfl)
       go_wp2_with ((with_reducible refine at_store (ty:=50) (x:=.tmp 10) (y:=.tmp 70) ?_ ?_); exact rfl; refine wpList_store_blk rfl 50 (.tmp 10) (.tmp 70) rfl _ rfl HI13.out.res rfl (by kernel_rfl) rfl rfl ?_; intro w99 b99 g99)
       exact ret_blk rfl rfl b99 whole_Forecast rfl (by rw [HR6.out]; exact TellEnd.fail _ (HI13.out.below.grown g99 HI13.out.below.size (fun j hj=>by cases hj; have:=HCB.out; omega)))
      | true =>
       have HR6:Hid (R=⟨RT.1.out,X.1.done,kk,X.1.done.length⟩):=Lib.hid (by rw [HRF.out]; rfl)
       obtain ⟨v13,M13,hbl13,hown13,hM13⟩:=HL13.out.own
       obtain ⟨A9,n9,c9,rfl,h91,h92,-⟩:=hown13.rd
       have HOWN:=Lib.hid hown13; have HM13:=Lib.hid hM13; have HBL:=Lib.hid hbl13
       have x0:=hbl13.cell 0; have lbl:=hbl13.lt
       have y0:=HO13.out.blk.cell 0; have y1:=HO13.out.blk.cell 1; have y2:=HO13.out.blk.cell 2; have y3:=HO13.out.blk.cell 3
       have f0:=HO13.out.blk.frozen 0; have lo:=HO13.out.blk.lt
       simp only [List.getElem?_toArray,List.getElem?_cons_succ,List.getElem?_cons_zero] at x0 y0 y1 y2 y3
       obtain ⟨w14,hw14⟩:∃ x,x=w13.setCell ⟨ob,0,none⟩ (.slice A9 n9 c9):=⟨_,rfl⟩
       have hob12:ob≠cb+1+1:=by have:=HI5.out.res.lt; omega
       have hobb:ob<bf:=by rw [HBF.out]; exact OB11.out.blk.lt
       have HRS14:Hid (Blk w14 (cb+1+1) 50 #[.slice none 0 0,.slice none 0 0,.int .i64 0,.int .i64 0]):=Lib.hid (by rw [hw14]; exact HI13.out.res.far (p:=⟨ob,0,none⟩) (fun e=>hob12 e.symm) _)
       have HO14:Hid (Blk w14 ob 50 #[.slice A9 n9 c9,.slice A8 n8 c8,.int .i64 kk,.int .i64 X.1.done.length]):=Lib.hid (by rw [hw14]; simpa using HO13.out.blk.set_ 0 (.slice A9 n9 c9))
       have HC14:Hid (Cng (fun k=>k=ob∨k=cb+1+1) w13 w14):=Lib.hid (by rw [hw14]; exact Cng.of_cell (p:=⟨ob,0,none⟩) (.inl rfl))
       have HB14:Hid (Below w.heap.size w w14):=Lib.hid (by rw [hw14]; exact HI13.out.below.setCell (p:=⟨ob,0,none⟩) (by have:=HI5.out.below.size; show w.heap.size≤ob; omega) _)
       have z0:=HO14.out.cell 0; have z1:=HO14.out.cell 1; have z2:=HO14.out.cell 2; have z3:=HO14.out.cell 3; have lz:=HO14.out.lt
       simp only [List.getElem?_toArray,List.getElem?_cons_succ,List.getElem?_cons_zero] at z0 z1 z2 z3
       clear hbl13 hown13 hM13
       go_upto_region 22 with (fail)
       rw [← hw14]
       clear hw14 x0 y0 y1 y2 y3 f0 lo lbl
       go_wp2_with ((with_reducible refine at_store (ty:=50) (x:=.tmp 10) (y:=.tmp 74) ?_ ?_); exact rfl; refine wpList_store_blk rfl 50 (.tmp 10) (.tmp 74) rfl _ rfl HRS14.out rfl (by kernel_rfl) rfl rfl ?_; intro w99 b99 g99)
       have hc99:Cng (fun k=>k=ob∨k=cb+1+1) w13 w99:=HC14.out.trans ⟨g99.os,g99.tape,g99.output,g99.size,fun n hn hn'=>g99.block n hn (fun e=>by injection e with e; exact hn' (.inr e))⟩
       have nob:∀ (k:Nat) (cs:Array Value),(Blk w13 k 50 cs)→some k≠(Value.slice A9 n9 c9).ownBlock∧some k≠(Value.slice A8 n8 c8).ownBlock:=fun k cs hk=>⟨fun e=>by
        obtain ⟨cs,fz,hh⟩:=ownsType HOWN.out e.symm
        have b1:w13.heap[k]?=_:=hk
        rw [hh] at b1; injection b1 with b1; injection b1 with _ b1; exact absurd b1 (by decide),fun e=>by
        obtain ⟨cs,fz,hh⟩:=ownsType HO13.out.own e.symm
        have b1:w13.heap[k]?=_:=hk
        rw [hh] at b1; injection b1 with b1; injection b1 with _ b1; exact absurd b1 (by decide)⟩
       have n1':=nob ob _ HO13.out.blk
       have n2':=nob _ _ HI13.out.res
       have hw5:=HI5.out.below.size
       refine ret_blk rfl rfl b99 whole_Forecast rfl ?_
       rw [HR6.out]
       refine ⟨HB14.out.grown g99 HB14.out.size (fun j hj=>by cases hj; have:=HCB.out; omega),.slice A9 n9 c9,.slice A8 n8 c8,M13,rfl,(HOWN.out.cng hc99 (fun k hk=>?_)).low (by omega),fun n hn=>by have:=HM13.out n hn; omega,(HO13.out.own.cng hc99 (fun k hk=>?_)).low hw5⟩
       ·rcases hk with rfl | rfl
        ·exact ⟨n1'.1,fun hk=>by have:=HM13.out _ hk; omega⟩
        ·exact ⟨n2'.1,fun hk=>by have:=HM13.out _ hk; have:=HI5.out.res.lt; omega⟩
       ·rcases hk with rfl | rfl
        ·exact ⟨n1'.2,id⟩
        ·exact ⟨n2'.2,id⟩
 ·have HR2:Hid (R=failF 151):=Lib.hid (by rw [HR.out]; exact tellF_order HQ0.out (fun ps hp=>not_treeOf (hno ps hp)))
  clear hno
  go_wp2_with ((with_reducible refine at_store (ty:=50) (x:=.tmp 10) (y:=.tmp 31) ?_ ?_); exact rfl; refine wpList_store_blk rfl 50 (.tmp 10) (.tmp 31) rfl _ rfl HI2b.out.res rfl (by kernel_rfl) rfl rfl ?_; intro w99 b99 g99)
  exact ret_blk rfl rfl b99 whole_Forecast rfl (by rw [HR2.out]; exact TellEnd.fail _ (HI2b.out.below.grown g99 HI2b.out.below.size (fun j hj=>by cases hj; have:=HCB.out; omega)))
end Go.Proofs.YtfhfcipelgogjaaGreatDoor
namespace Go.Proofs.YtfhfcipelgogjaaGreatDoor
open Go.RowKit
attribute [local go_sem] cell?_over frozen?_over lt_over le_over
theorem foldTree {A Ae A1 A2:Option Addr} {n cn ne ce n1 c1 n2 c2:Nat} {ls:List LineD} {es:List EntryD} {c:ConfigD} {now:TimeD} (m:Int) (w:World) (hL:Row Shape.LineD w (Old w) A n ls) (hs:SmallP ls) (hn:n≤1000000000)
  (hE:Row Shape.EntryD w (Old w) Ae ne es) (hne:ne≤1000000) (hS:∀ e∈es,SmallE e) (h1:Row Shape.str w (Old w) A1 n1 c.include_) (h2:Row Shape.str w (Old w) A2 n2 c.exclude) (hn1:n1≤100000000) (hn2:n2≤100000000)
  (hmB:0<w.heap.size) (hm:w.cell? ⟨0,0,none⟩=some (.int .i64 m)) :
  Calls Tryz.prog 19 #[.slice A n cn,.slice Ae ne ce,.agg (cfgC c A1 n1 c1 A2 n2 c2),.agg #[.int .i64 now.sec,.int .i64 now.nano]] w (TellEnd (tellF ls es 0 c now) w):=by
 obtain ⟨R,hR⟩:∃ x,x=tellF ls es 0 c now:=⟨_,rfl⟩
 obtain ⟨w0,hw0⟩:∃ x,x=((w.alloc (.cells (cfgC c A1 n1 c1 A2 n2 c2) 42)).alloc (.cells #[.int .i64 now.sec,.int .i64 now.nano] 44)).alloc (.cells #[.slice none 0 0,.slice none 0 0,.int .i64 0,.int .i64 0] 50):=⟨_,rfl⟩
 have HI0:Hid (TlI w.heap.size (w.heap.size+1) (w.heap.size+1+1) c A1 n1 c1 A2 n2 c2 now w w0):=Lib.hid (by
  have e1:(w.alloc (.cells (cfgC c A1 n1 c1 A2 n2 c2) 42)).heap.size=w.heap.size+1:=by simp
  have e2:((w.alloc (.cells (cfgC c A1 n1 c1 A2 n2 c2) 42)).alloc (.cells #[.int .i64 now.sec,.int .i64 now.nano] 44)).heap.size=w.heap.size+1+1:=by simp
  have q1:=Blk.new w 42 (cfgC c A1 n1 c1 A2 n2 c2)
  have q2:=Blk.new (w.alloc (.cells (cfgC c A1 n1 c1 A2 n2 c2) 42)) 44 #[.int .i64 now.sec,.int .i64 now.nano]
  have q3:=Blk.new ((w.alloc (.cells (cfgC c A1 n1 c1 A2 n2 c2) 42)).alloc (.cells #[.int .i64 now.sec,.int .i64 now.nano] 44)) 50 #[.slice none 0 0,.slice none 0 0,.int .i64 0,.int .i64 0]
  rw [e1] at q2
  rw [e2] at q3
  rw [hw0]
  exact ⟨(q1.alloc _).alloc _,q2.alloc _,q3,((below_alloc' _ _).trans ((below_alloc' _ _).mono (by simp))).trans ((below_alloc' _ _).mono (by simp; omega))⟩)
 have HT:=Lib.hid (foldTell (cn:=cn) (ce:=ce) (c1:=c1) (c2:=c2) (now:=now) 0 m w0 ((hL.keep (Keeps.old HI0.out.below)).more fun k hk=>Old.below HI0.out.below hk) hs hn ((hE.keep (Keeps.old HI0.out.below)).more fun k hk=>Old.below HI0.out.below hk) hne hS
  ((h1.keep (Keeps.old HI0.out.below)).more fun k hk=>Old.below HI0.out.below hk) ((h2.keep (Keeps.old HI0.out.below)).more fun k hk=>Old.below HI0.out.below hk) hn1 hn2 (Nat.lt_of_lt_of_le hmB HI0.out.below.size) (by rw [HI0.out.below.cell hmB]; exact hm))
 rw [← hR] at HT ⊢
 obtain ⟨cb,hcb⟩:∃ x,x=w.heap.size:=⟨_,rfl⟩
 have HCB:=Lib.hid hcb
 unfold cfgC at hw0 HT ⊢
 clear hR hL hs hn hE hne hS h1 h2 hn1 hn2 hmB hm
 go_enter Tryz.func19,Tryz.ntmps19
 go_upto_region 1 with (fail)
 rw [← hw0]
 rw [← hcb] at HI0 ⊢
 have k0:=HI0.out.cfg.cell 0; have k1:=HI0.out.cfg.cell 1; have k2:=HI0.out.cfg.cell 2; have k3:=HI0.out.cfg.cell 3; have k4:=HI0.out.cfg.cell 4; have k5:=HI0.out.cfg.cell 5; have k6:=HI0.out.cfg.cell 6; have k7:=HI0.out.cfg.cell 7; have k8:=HI0.out.cfg.cell 8; have k9:=HI0.out.cfg.cell 9; have k10:=HI0.out.cfg.cell 10; have k11:=HI0.out.cfg.cell 11; have k12:=HI0.out.cfg.cell 12
 have lc:=HI0.out.cfg.lt
 have x0:=HI0.out.now.cell 0; have x1:=HI0.out.now.cell 1; have lx:=HI0.out.now.lt
 unfold cfgC at k0 k1 k2 k3 k4 k5 k6 k7 k8 k9 k10 k11 k12
 simp only [List.getElem?_toArray,List.getElem?_cons_succ,List.getElem?_cons_zero] at k0 k1 k2 k3 k4 k5 k6 k7 k8 k9 k10 k11 k12 x0 x1
 clear hw0 hcb
 go_wp2_with fail
 refine HT.out.mono ?_
 rintro e w1 ⟨hb1,lv,dv,M,rfl,hown,hM,hdone⟩
 have HI1:=Lib.hid (HI0.out.below_ hb1)
 have HOWN:=Lib.hid hown; have HM:=Lib.hid hM; have HD:=Lib.hid hdone
 obtain ⟨A9,n9,c9,rfl,h91,h92,-⟩:=hown.rd
 obtain ⟨A8,n8,c8,rfl,h81,h82,-⟩:=hdone.rd
 have HB1:=Lib.hid hb1
 clear hb1 hown hM hdone HT k0 k1 k2 k3 k4 k5 k6 k7 k8 k9 k10 k11 k12 lc x0 x1 lx
 go_wp2_with ((with_reducible refine at_store (ty:=50) (x:=.tmp 8) (y:=.tmp 13) ?_ ?_); exact rfl; refine wpList_store_blk rfl 50 (.tmp 8) (.tmp 13) rfl _ rfl HI1.out.res rfl (by kernel_rfl) rfl rfl ?_; intro w99 b99 g99)
 have hr:=HI0.out.res.lt
 have hw:=HI0.out.below.size
 refine ret_blk rfl rfl b99 whole_Forecast rfl ⟨HI1.out.below.grown g99 HI1.out.below.size (fun j hj=>by cases hj; have:=HCB.out; omega),_,_,M,rfl,(HOWN.out.kept g99 ?_ (fun n hn e=>?_)).low hw,fun n hn=>by have:=HM.out n hn; omega,(HD.out.kept g99 ?_ (fun _ h=>h.elim)).low hw⟩
 ·refine .inr fun e=>?_
  obtain ⟨cs,fz,hh⟩:=ownsType HOWN.out e
  have b1:w1.heap[cb+1+1]?=_:=HI1.out.res
  rw [hh] at b1; injection b1 with b1; injection b1 with _ b1; exact absurd b1 (by decide)
 ·injection e with e
  have:=HM.out n hn
  omega
 ·refine .inr fun e=>?_
  obtain ⟨cs,fz,hh⟩:=ownsType HD.out e
  have b1:w1.heap[cb+1+1]?=_:=HI1.out.res
  rw [hh] at b1; injection b1 with b1; injection b1 with _ b1; exact absurd b1 (by decide)
end Go.Proofs.YtfhfcipelgogjaaGreatDoor
namespace Go.Proofs.YtfhfcipelgogjaaGreatDoor
open Go.RowKit
attribute [local go_sem] cell?_over frozen?_over lt_over le_over
theorem row_of_blk {α:Type} {s:Shape α} {w:World} {g:Nat} {t:TypeId} {es:List Value} {a:α} (hb:Blk w g t es.toArray) (h:s.rd w (Old w) es a):Row s w (Old w) (some ⟨g,0,none⟩) 1 [a]:=by
 refine ⟨rfl,fun _=>⟨g,0,rfl,hb.lt,fun i hi=>?_⟩⟩
 have h0:i=0:=by simp at hi; omega
 subst h0
 refine ⟨es,fun j hj=>?_,h⟩
 have:=hb.cell j
 simpa using this
theorem law25Alive (m:Int) (w:World) (hmB:0<w.heap.size) (hm:w.cell? ⟨0,0,none⟩=some (.int .i64 m)) :
  Calls Tryz.prog 17 #[] w fun e w'=>e=.returned (.bool true)∧Below w.heap.size w w':=by
 obtain ⟨w1,hw1⟩:∃ x,x=w.alloc (.cells (cfgC c00 none 0 0 none 0 0) 42):=⟨_,rfl⟩
 obtain ⟨w2,hw2⟩:∃ x,x=w1.alloc (.cells #[.string ⟨#[46]⟩,.int .i64 2,.int .i64 493,.int .i64 0,.int .i64 0,.int .i64 0,.int .i64 0,.slice none 0 0,.string ⟨#[]⟩,.string ⟨#[]⟩] 60):=⟨_,rfl⟩
 obtain ⟨w3,hw3⟩:∃ x,x=w2.alloc (.cells #[.int .u8 120] 5 (1,2)):=⟨_,rfl⟩
 obtain ⟨w4,hw4⟩:∃ x,x=w3.alloc (.cells (entC e00 (some ⟨w.heap.size+1+1,0,none⟩) 1 1) 66):=⟨_,rfl⟩
 have s1:w1.heap.size=w.heap.size+1:=by rw [hw1]; simp
 have s2:w2.heap.size=w.heap.size+1+1:=by rw [hw2,World.size_alloc,s1]
 have s3:w3.heap.size=w.heap.size+1+1+1:=by rw [hw3,World.size_alloc,s2]
 have s4:w4.heap.size=w.heap.size+1+1+1+1:=by rw [hw4,World.size_alloc,s3]
 have b12:Below w1.heap.size w1 w2:=by rw [hw2]; exact below_alloc' _ _
 have b23:Below w2.heap.size w2 w3:=by rw [hw3]; exact below_alloc' _ _
 have b34:Below w3.heap.size w3 w4:=by rw [hw4]; exact below_alloc' _ _
 have b01:Below w.heap.size w w1:=by rw [hw1]; exact below_alloc' _ _
 have B4:Hid (Below w.heap.size w w4):=Lib.hid (below_old (below_old (below_old b01 b12) b23) b34)
 have BC:Hid (Blk w4 w.heap.size 42 (cfgC c00 none 0 0 none 0 0)):=Lib.hid (by
  have q:Blk w1 w.heap.size 42 (cfgC c00 none 0 0 none 0 0):=by rw [hw1]; exact Blk.new _ _ _
  exact ((q.below b12 q.lt).below b23 (by omega)).below b34 (by omega))
 have BL:Hid (Blk w4 (w.heap.size+1) 60 #[.string ⟨#[46]⟩,.int .i64 2,.int .i64 493,.int .i64 0,.int .i64 0,.int .i64 0,.int .i64 0,.slice none 0 0,.string ⟨#[]⟩,.string ⟨#[]⟩]):=Lib.hid (by
  have q:Blk w2 (w.heap.size+1) 60 #[.string ⟨#[46]⟩,.int .i64 2,.int .i64 493,.int .i64 0,.int .i64 0,.int .i64 0,.int .i64 0,.slice none 0 0,.string ⟨#[]⟩,.string ⟨#[]⟩]:=by rw [hw2,← s1]; exact Blk.new _ _ _
  exact (q.below b23 (by omega)).below b34 (by omega))
 have BE:Hid (Blk w4 (w.heap.size+1+1+1) 66 (entC e00 (some ⟨w.heap.size+1+1,0,none⟩) 1 1)):=Lib.hid (by rw [hw4,← s3]; exact Blk.new _ _ _)
 have cD:w4.cell? ⟨w.heap.size+1+1,0,none⟩=some (.int .u8 120):=by
  rw [b34.cell (show w.heap.size+1+1<w3.heap.size by omega),hw3,← s2]
  simp [World.cell?_alloc_mark]
 have RD:Row Shape.byte w4 (Old w4) (some ⟨w.heap.size+1+1,0,none⟩) 1 [120]:=by
  refine ⟨rfl,fun _=>⟨_,0,rfl,by show _<_; omega,fun i hi=>⟨[.int .u8 120],fun j hj=>?_,?_⟩⟩⟩
  ·have h0:i=0:=by simp at hi; omega
   have hj0:j=0:=by have e1:Shape.byte.size=1:=rfl; omega
   subst h0 hj0
   simpa using cD
  ·have h0:i=0:=by simp at hi; omega
   subst h0
   rfl
 have HT:Hid (Calls Tryz.prog 19 #[.slice (some ⟨w.heap.size+1,0,none⟩) 1 1,.slice (some ⟨w.heap.size+1+1+1,0,none⟩) 1 1,.agg (cfgC c00 none 0 0 none 0 0),.agg #[.int .i64 nw0.sec,.int .i64 nw0.nano]] w4 (TellEnd (tellF [l00] [e00] 0 c00 nw0) w4)):=Lib.hid (by
  refine foldTree m w4 (row_of_blk BL.out ?_) ?_ (by decide) (row_of_blk (es:=(entC e00 (some ⟨w.heap.size+1+1,0,none⟩) 1 1).toList) BE.out ?_) (by decide) ?_ Row.nil Row.nil (by decide) (by decide) (Nat.lt_of_lt_of_le hmB B4.out.size) (by rw [B4.out.cell hmB]; exact hm)
  ·refine ⟨none,0,0,rfl,by decide,⟨by decide,by decide⟩,⟨by decide,by decide⟩,⟨by decide,by decide⟩,⟨by decide,by decide⟩,⟨by decide,by decide⟩,⟨by decide,by decide⟩,by decide,by decide,Row.nil,by decide,by decide⟩
  ·intro d hd; simp only [List.mem_singleton] at hd; subst hd; exact ⟨by decide,by decide⟩
  ·exact ⟨_,1,1,rfl,⟨by decide,by decide⟩,by decide,by decide,⟨by decide,by decide⟩,⟨by decide,by decide⟩,⟨by decide,by decide⟩,by decide,by decide,⟨by decide,by decide⟩,⟨by decide,by decide⟩,by decide,by decide,RD⟩
  ·intro e he; simp only [List.mem_singleton] at he; subst he; exact ⟨by decide,by decide,by decide⟩)
 rw [alive00] at HT
 have kc:=Lib.run_convert_bytes_const (P:=Tryz.prog) w2 58 5 #[.int .u8 120] 1 1 Tryz.underlying58 Tryz.underlying5
 rw [s2] at kc
 have S4:=Lib.hid s4
 clear s1 s2 s3 s4 b12 b23 b34 b01 BC BL BE cD RD hm hmB
 simp only [cfgC,c00] at hw1
 simp only [entC,e00,t00] at hw4
 simp only [cfgC,c00,nw0] at HT
 rw [hw2,hw1] at kc
 rw [hw3,hw2,hw1] at hw4
 clear hw3 hw2 hw1
 go_enter Tryz.func17,Tryz.ntmps17
 go_wp2_with fail
 rw [← hw4]
 clear hw4 kc
 refine HT.out.mono ?_
 rintro e w5 ⟨hb5,lv,dv,M,rfl,hown,hM,hdone⟩
 obtain ⟨A9,n9,c9,rfl,h91,h92,hr9⟩:=hown.rd_old
 obtain ⟨A8,n8,c8,rfl,h81,h82,hr8⟩:=hdone.rd_old
 have B5:Hid (Below w.heap.size w w5):=Lib.hid (below_old B4.out hb5)
 have e9:n9=3:=hr9.1.symm
 have e8:n8=1:=hr8.1.symm
 subst e9 e8
 obtain ⟨b9,off9,es9,hl9,rfl,hb9,hc9,hd9⟩:=hr9.at_ (show 2<3 by omega)
 obtain ⟨b8,off8,es8,hl8,rfl,hb8,hc8,hd8⟩:=hr8.at_ (show 0<1 by omega)
 obtain ⟨_,_,_,rfl,-⟩:=hd9
 have hd8:es8=[.string ⟨#[97,47,98]⟩,.int .i64 1,.int .i64 0]:=hd8
 subst hd8
 have c9:=hc9 0 (by decide)
 have c8:=hc8 1 (by decide)
 have E1:Hid (Below w5.heap.size w5 w5):=Lib.hid (Below.refl _ _)
 have e10:Shape.LineD.size=10:=rfl
 have e3:Shape.DoneD.size=3:=rfl
 simp only [e10,e3,List.getElem?_cons_zero,List.getElem?_cons_succ] at c9 c8
 have d9:w5.cell? ⟨b9,off9+20,none⟩=some (.string ⟨#[97,47,98]⟩):=by simpa [L00] using c9
 have d8:w5.cell? ⟨b8,off8+1,none⟩=some (.int .i64 1):=by simpa using c8
 have lb9:b9<w5.heap.size:=hb9
 have lb8:b8<w5.heap.size:=hb8
 clear hr9 hr8 hc9 hc8 hown hM hdone HT hb5 c9 c8 hb9 hb8
 simp only
 go_wp2_with fail
 go_ret
 exact ⟨rfl,below_old B5.out (below_alloc' _ _)⟩
end Go.Proofs.YtfhfcipelgogjaaGreatDoor
