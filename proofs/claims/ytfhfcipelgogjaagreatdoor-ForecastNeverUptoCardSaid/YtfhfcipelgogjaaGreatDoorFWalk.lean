/- (*forecast.fold).walk: the entries one after the other. No condition but room and the variable MaxLen. -/
import Derived.Test.YtfhfcipelgogjaaGreatDoorFModAll
import Derived.Test.YtfhfcipelgogjaaGreatDoorDecideN
import Derived.Deep.DeepCutAuto
import Derived.Deep.CutRange
import Derived.Deep.CutBlock
set_option linter.unusedSectionVars false
set_option linter.unusedVariables false
set_option linter.unusedSimpArgs false
set_option maxHeartbeats 8000000
set_option maxRecDepth 100000
namespace Go.Proofs.YtfhfcipelgogjaaGreatDoor
open Go.RowKit
attribute [local go_sem] cell?_over frozen?_over lt_over le_over
def StopW (p:Prop):Prop:=p
theorem StopW.mk {p:Prop} (h:StopW p):p:=h
def WalkEnd (X:WSt×Int) (B f r mo ob:Nat) (now:TimeD) (hs:List Hn) (w:World) (e:Ending) (w':World):Prop:=
 ∃ hs2 dv,FoldAt w' B f r mo now (hs++hs2) X.1.s.ths X.1.s.off∧Below B w w'∧Blk w' ob 50 #[.slice none 0 0,dv,.int .i64 0,.int .i64 X.1.done.length]∧Own Shape.DoneD 62 w' B (fun _=>False) dv X.1.done∧e=.returned (.int .i64 X.2)
structure SmallE (e:EntryD):Prop where
 name:e.name.size≤100000000
 link:e.link.size≤100000000
 data:e.data.length≤100000000
theorem foldWalk {B f r mo ob:Nat} {now:TimeD} {hs:List Hn} {ths:List ThD} {c:ConfigD} {A A1 A2:Option Addr} {n cn n1 c1 n2 c2:Nat} {es:List EntryD} (w:World) (m:Int) (hF:FoldAt w B f r mo now hs ths []) (hBf:B≤f) (hBm:B≤mo) (hBo:B≤ob) (hO:Blk w ob 50 #[.slice none 0 0,.slice none 0 0,.int .i64 0,.int .i64 0])
  (hE:Row Shape.EntryD w (fun k=>k<B) A n es) (hn:n≤1000000) (hS:∀ e∈es,SmallE e) (h1:Row Shape.str w (fun k=>k<B) A1 n1 c.include_) (h2:Row Shape.str w (fun k=>k<B) A2 n2 c.exclude) (hn1:n1≤100000000) (hn2:n2≤100000000) (hmb:c.maxBytes≤1099511627776∧0≤c.maxBytes)
  (hmB:0<B) (hm:w.cell? ⟨0,0,none⟩=some (.int .i64 m)) :
  Calls Tryz.prog 76 #[.pointer (some ⟨f,0,none⟩),.slice A n cn,.agg (cfgC c A1 n1 c1 A2 n2 c2),.pointer (some ⟨ob,0,none⟩)] w (WalkEnd (walkF now r c es ⟨⟨ths,[]⟩,[],0⟩) B f r mo ob now hs w):=by
 obtain ⟨R,hR⟩:∃ x,x=walkF now r c es ⟨⟨ths,[]⟩,[],0⟩:=⟨_,rfl⟩
 rw [← hR]
 have HR:=Lib.hid hR; have HF:=Lib.hid hF; have HO:=Lib.hid hO; have HE:=Lib.hid hE; have HS:=Lib.hid hS; have H1:=Lib.hid h1; have H2:=Lib.hid h2; have HM:=Lib.hid hm
 have hBw:=hF.base
 obtain ⟨w0,hw0⟩:∃ x,x=w.alloc (.cells (cfgC c A1 n1 c1 A2 n2 c2) 42):=⟨_,rfl⟩
 have hQN:=Lib.hid (quotaNew c (A1:=A1) (A2:=A2) (n1:=n1) (c1:=c1) (n2:=n2) (c2:=c2) w0)
 have HB0:Hid (Below w.heap.size w w0):=Lib.hid (by rw [hw0]; exact below_alloc' _ _)
 have HC0:Hid (Blk w0 w.heap.size 42 (cfgC c A1 n1 c1 A2 n2 c2)):=Lib.hid (by rw [hw0]; exact Blk.new _ _ _)
 have k0:=HC0.out.cell 0; have k1:=HC0.out.cell 1; have k2:=HC0.out.cell 2; have k3:=HC0.out.cell 3; have k4:=HC0.out.cell 4; have k5:=HC0.out.cell 5; have k6:=HC0.out.cell 6; have k7:=HC0.out.cell 7; have k8:=HC0.out.cell 8; have k9:=HC0.out.cell 9; have k10:=HC0.out.cell 10; have k11:=HC0.out.cell 11; have k12:=HC0.out.cell 12
 have lc:=HC0.out.lt
 unfold cfgC at hw0 hQN k0 k1 k2 k3 k4 k5 k6 k7 k8 k9 k10 k11 k12 ⊢
 simp only [List.getElem?_toArray,List.getElem?_cons_succ,List.getElem?_cons_zero] at k0 k1 k2 k3 k4 k5 k6 k7 k8 k9 k10 k11 k12
 clear hR hF hO hE hS h1 h2 hm
 go_enter Tryz.func76,Tryz.ntmps76
 go_upto_region 1 with (fail)
 rw [← hw0]
 clear hw0
 go_wp2_with fail
 refine hQN.out.mono ?_
 rintro e w1 ⟨mt,rfl,hmt,hb1,hme⟩
 obtain ⟨cb,hcb⟩:∃ x,x=w.heap.size:=⟨_,rfl⟩
 have HCB:=Lib.hid hcb
 have HB1:Hid (Below w.heap.size w w1):=Lib.hid (HB0.out.trans (hb1.mono HB0.out.size))
 have HF1:=Lib.hid (HF.out.below HB1.out)
 have W0:Hid (WkI B f r mo ob cb now c A1 n1 c1 A2 n2 c2 w hs ⟨⟨ths,[]⟩,[],0⟩ w1):=Lib.hid ⟨HF1.out,⟨.slice none 0 0,HO.out.below HB1.out HO.out.lt,Own.start _ _ _ _,fun k hk=>by cases hk⟩,by rw [hcb]; exact HC0.out.below hb1 HC0.out.lt,HB1.out.mono hBw⟩
 have HME:=Lib.hid hme
 have hmt0:w.heap.size≤mt:=Nat.le_trans HB0.out.size hmt
 rw [← hcb] at hmt0
 rw [← hcb]
 clear hb1 hme k0 k1 k2 k3 k4 k5 k6 k7 k8 k9 k10 k11 k12 lc hQN hcb
 go_wp2_with fail
 go_loopw [20] (fun v20 wr=>∃ (q:Nat) (x:WSt) (hs2:List Hn),q≤n∧v20=.int .i64 q∧R=walkF now r c (es.drop q) x∧WkI B f r mo ob cb now c A1 n1 c1 A2 n2 c2 w (hs++hs2) x wr∧MeterAt wr mt c.maxEntries c.maxBytes x.done.length x.bytes∧x.done.length≤q∧0≤x.bytes∧x.bytes≤c.maxBytes) (fun v20 _=>n - (intOf v20).toNat)
 case atStart=>exact ⟨0,_,[],Nat.zero_le _,rfl,HR.out,by rw [List.append_nil]; exact W0.out,HME.out,Nat.le_refl _,Int.le_refl _,hmb.2⟩
 case round =>
  obtain ⟨q,x,hs2,hq,rfl,hRq,hW,hMT,hdq,hb0,hbm⟩:=hrel
  have HRq:=Lib.hid hRq; have HW:=Lib.hid hW; have HMT:=Lib.hid hMT
  clear hRq hW hMT
  have hlen:es.length=n:=HE.out.1
  by_cases hlt:q<n
  ·have hqs:(q:Int)<n:=by omega
   have hBr:B≤wr.heap.size:=Nat.le_trans hBw HW.out.below.size
   obtain ⟨b,off,esv,hkl,hA,hb,hc,hr⟩:=(HE.out.keep HW.out.below.block).at_ hlt
   subst hA
   obtain ⟨Ae,ne,ce,he,hne,hce,hrow⟩:=entC_of hr
   obtain ⟨e,hee⟩:∃ x,x=es[q]:=⟨_,rfl⟩
   rw [← hee] at he hrow
   have HSE:=Lib.hid (HS.out es[q] (List.getElem_mem hkl))
   rw [← hee] at HSE
   have HDR:Hid (es.drop q=e :: es.drop (q+1)):=Lib.hid (by rw [hee]; exact List.drop_eq_getElem_cons hkl)
   subst he
   have e11:Shape.EntryD.size=11:=rfl
   have k0:=hc 0 (by decide); have k1:=hc 1 (by decide); have k2:=hc 2 (by decide); have k3:=hc 3 (by decide); have k4:=hc 4 (by decide); have k5:=hc 5 (by decide); have k6:=hc 6 (by decide); have k7:=hc 7 (by decide); have k8:=hc 8 (by decide); have k9:=hc 9 (by decide); have k10:=hc 10 (by decide)
   simp only [e11,entC,Nat.add_zero,List.getElem?_cons_zero,List.getElem?_cons_succ] at k0 k1 k2 k3 k4 k5 k6 k7 k8 k9 k10
   have lb:b<wr.heap.size:=by omega
   have HROW:=Lib.hid hrow
   clear hc hee e11 hr hrow hb
   go_upto_region 5 with (fail)
   obtain ⟨w2,hw2⟩:∃ x,x=wr.alloc (.cells (entC e Ae ne ce) 66):=⟨_,rfl⟩
   have hw2':=hw2
   unfold entC at hw2'
   obtain ⟨Eb,hEb⟩:∃ x,x=wr.heap.size:=⟨_,rfl⟩
   rw [← hw2',← hEb]
   have HB2:Hid (Below wr.heap.size wr w2):=Lib.hid (by rw [hw2]; exact below_alloc' _ _)
   have HEB:Hid (Blk w2 Eb 66 (entC e Ae ne ce)):=Lib.hid (by rw [hw2,hEb]; exact Blk.new _ _ _)
   have HW2:=Lib.hid (HW.out.below_ HB2.out)
   have HM2:Hid (MeterAt w2 mt c.maxEntries c.maxBytes x.done.length x.bytes):=Lib.hid (HMT.out.below HB2.out (Blk.lt HMT.out))
   have HEBe:=Lib.hid hEb
   have QE:=Lib.hid (quotaEntry w2 HM2.out (by omega) (by omega))
   have STEP:Hid (R=if (stepF now r c x e).2=0 then walkF now r c (es.drop (q+1)) (stepF now r c x e).1 else stepF now r c x e):=Lib.hid (by rw [HRq.out,HDR.out]; rfl)
   clear hw2 hw2' hEb k0 k1 k2 k3 k4 k5 k6 k7 k8 k9 k10 lb
   go_wp2_with fail
   refine QE.out.mono ?_
   rintro en w3 ⟨hg3,hcase⟩
   have HG3:=Lib.hid hg3
   have HW3:Hid (WkI B f r mo ob cb now c A1 n1 c1 A2 n2 c2 w (hs++hs2) x w3):=Lib.hid (HW2.out.keep1 HM2.out (by decide) (by decide) (by decide) (by decide) (HW2.out.other HM2.out (by decide)) (fun i y=>by
    rcases i with _ | _ | _ | _ | i <;> simp) (by have:=HCB.out; omega) hg3)
   clear hg3 QE
   rcases hcase with ⟨hlt3,rfl,hm3⟩ | ⟨hlt3,rfl,hm3⟩
   ·have HE3:Hid (R=(x,200)):=Lib.hid (by
     have e1:stepF now r c x e=(x,200):=by unfold stepF; rw [if_pos hlt3]
     rw [STEP.out,e1]; rfl)
    obtain ⟨dv,ho1,ho2,ho3⟩:=HW3.out.out
    have HO1:=Lib.hid ho1; have HO2:=Lib.hid ho2
    clear ho1 ho2 ho3 hm3 hlt3
    go_wp2_with fail
    go_ret
    rw [HE3.out]
    exact ⟨hs2,dv,HW3.out.fold,HW3.out.below,HO1.out,HO2.out,rfl⟩
   ·have HLT3:=Lib.hid hlt3; have HM3:=Lib.hid hm3
    have HEB3:Hid (Blk w3 Eb 66 (entC e Ae ne ce)):=Lib.hid (HEB.out.grown HG3.out (fun e=>by injection e with e; exact HEB.out.ne_ (e ▸ HM2.out) (by decide) rfl))
    have HCF3:=Lib.hid HW3.out.cfg
    have hBw3:B≤w3.heap.size:=HW3.out.fold.base
    have hg0:=HW3.out.below
    have KB:Keeps (fun k=>k<B) wr w3:=fun k hk=>by
     have hk':k<B:=hk
     exact (HG3.out.block k (by have:=HB2.out.size; omega) (fun e=>by injection e with e; have:=HCB.out; omega)).trans (HB2.out.block k (by omega))
    have KO:∀ k,k<B→Old w3 k:=fun k hk=>by show k<w3.heap.size; omega
    have DI:Hid (DecIn e c w3 Ae ne A1 n1 A2 n2):=Lib.hid ⟨(HROW.out.keep KB).more KO,(H1.out.keep hg0.block).more KO,(H2.out.keep hg0.block).more KO,HSE.out.name,HSE.out.link,by have:=HSE.out.data; have:=HROW.out.1; omega,hn1,hn2⟩
    have DN:=Lib.hid (decideN e c (cd:=ce) (c1:=c1) (c2:=c2) w3 m DI.out ((hg0.cell (p:=⟨0,0,none⟩) hmB).trans HM.out))
    have a0:=HEB3.out.cell 0; have a1:=HEB3.out.cell 1; have a2:=HEB3.out.cell 2; have a3:=HEB3.out.cell 3; have a4:=HEB3.out.cell 4; have a5:=HEB3.out.cell 5; have a6:=HEB3.out.cell 6; have a7:=HEB3.out.cell 7; have a8:=HEB3.out.cell 8; have a9:=HEB3.out.cell 9; have a10:=HEB3.out.cell 10
    have k0:=HCF3.out.cell 0; have k1:=HCF3.out.cell 1; have k2:=HCF3.out.cell 2; have k3:=HCF3.out.cell 3; have k4:=HCF3.out.cell 4; have k5:=HCF3.out.cell 5; have k6:=HCF3.out.cell 6; have k7:=HCF3.out.cell 7; have k8:=HCF3.out.cell 8; have k9:=HCF3.out.cell 9; have k10:=HCF3.out.cell 10; have k11:=HCF3.out.cell 11; have k12:=HCF3.out.cell 12
    have lE:=HEB3.out.lt; have lC:=HCF3.out.lt
    unfold entC cfgC at DN
    unfold entC at a0 a1 a2 a3 a4 a5 a6 a7 a8 a9 a10
    unfold cfgC at k0 k1 k2 k3 k4 k5 k6 k7 k8 k9 k10 k11 k12
    simp only [List.getElem?_toArray,List.getElem?_cons_succ,List.getElem?_cons_zero] at a0 a1 a2 a3 a4 a5 a6 a7 a8 a9 a10 k0 k1 k2 k3 k4 k5 k6 k7 k8 k9 k10 k11 k12
    clear hlt3 hm3 hg0 KB KO
    go_wp2_with fail
    refine DN.out.mono ?_
    rintro en w4 ⟨hb4,v4,rfl,vp,vf,vd,rfl,hvp,hvf,hvd⟩
    obtain ⟨Ap,cp,hcp,rfl,hrp⟩:=hvp
    obtain ⟨Af,cf,hcf,rfl,hrf⟩:=hvf
    obtain ⟨Ad,cd,hcd,rfl,hrd⟩:=hvd
    obtain ⟨p,hp⟩:∃ y,y=planOf e c:=⟨_,rfl⟩
    rw [← hp] at hcp hrp hcf hrf hcd hrd
    rw [← hp]
    obtain ⟨np,hnp⟩:∃ y,y=p.parts.length:=⟨_,rfl⟩
    obtain ⟨nf,hnf⟩:∃ y,y=p.from_.length:=⟨_,rfl⟩
    obtain ⟨nd,hnd⟩:∃ y,y=p.data.length:=⟨_,rfl⟩
    rw [← hnp] at hcp hrp
    rw [← hnf] at hcf hrf
    rw [← hnd] at hcd hrd
    rw [← hnp,← hnf,← hnd]
    have HP:=Lib.hid hp; have HRP:=Lib.hid hrp; have HRF:=Lib.hid hrf; have HRD:=Lib.hid hrd; have HNP:=Lib.hid hnp; have HNF:=Lib.hid hnf; have HND:=Lib.hid hnd; have HCP:=Lib.hid hcp; have HCF:=Lib.hid hcf; have HCD:=Lib.hid hcd
    have HB4:=Lib.hid hb4
    have HW4:=Lib.hid (HW3.out.below_ hb4)
    have HM4:=Lib.hid (HM3.out.below hb4 (Blk.lt HM3.out))
    have HEB4:=Lib.hid (HEB3.out.below hb4 HEB3.out.lt)
    unfold planCells
    clear hb4 hp hrp hrf hrd hnp hnf hnd hcp hcf hcd DN a0 a1 a2 a3 a4 a5 a6 a7 a8 a9 a10 k0 k1 k2 k3 k4 k5 k6 k7 k8 k9 k10 k11 k12 lE lC
    go_wp2_with ((with_reducible refine at_store (ty:=209) (x:=.tmp 13) (y:=.tmp 31) ?_ ?_); exact rfl; refine wpList_store_blk rfl 209 (.tmp 13) (.tmp 31) rfl _ rfl (Blk.new w4 209 zeroPlan) rfl (by kernel_rfl) rfl rfl ?_; intro w6 b6 g6; refine StopW.mk ?_)
    unfold StopW
    have hb6:Below w4.heap.size w4 w6:=⟨g6.os,g6.tape,g6.output,by have:=g6.size; simp at this; omega,fun n hn=>(g6.block n (by simp; omega) (fun e=>by injection e with e; omega)).trans (Below.heap_alloc w4 _ n hn)⟩
    have HPB:Hid (Blk w6 w4.heap.size 209 (planCells p (.slice Ap np cp) (.slice Af nf cf) (.slice Ad nd cd))):=Lib.hid b6
    have HB6:=Lib.hid hb6
    obtain ⟨Pb,hPb⟩:∃ y,y=w4.heap.size:=⟨_,rfl⟩
    rw [← hPb] at HPB ⊢
    have HPBe:=Lib.hid hPb
    have HW6:=Lib.hid (HW4.out.below_ hb6)
    have HM6:=Lib.hid (HM4.out.below hb6 (Blk.lt HM4.out))
    have HEB6:=Lib.hid (HEB4.out.below hb6 HEB4.out.lt)
    have p0:=HPB.out.cell 0; have p1:=HPB.out.cell 1
    have a1:=HEB6.out.cell 1; have lE:=HEB6.out.lt; have lP:=HPB.out.lt
    unfold entC at a1
    unfold planCells at p0 p1
    simp only [List.getElem?_toArray,List.getElem?_cons_succ,List.getElem?_cons_zero] at p0 p1 a1
    clear b6 g6 hb6 hPb
    go_upto_if 41 with (fail)
    obtain ⟨w7,hw7⟩:∃ y,y=w6.alloc (.cells #[.string e.name,.int .i64 p.out,.int .i64 p.code] 62):=⟨_,rfl⟩
    obtain ⟨Db,hDb⟩:∃ y,y=w6.heap.size:=⟨_,rfl⟩
    rw [← hw7,← hDb]
    have HB7:Hid (Below w6.heap.size w6 w7):=Lib.hid (by rw [hw7]; exact below_alloc' _ _)
    have HDB:Hid (Blk w7 Db 62 #[.string e.name,.int .i64 p.out,.int .i64 p.code]):=Lib.hid (by rw [hw7,hDb]; exact Blk.new _ _ _)
    have HDBe:=Lib.hid hDb
    have HW7:=Lib.hid (HW6.out.below_ HB7.out)
    have HM7:=Lib.hid (HM6.out.below HB7.out (Blk.lt HM6.out))
    have HEB7:=Lib.hid (HEB6.out.below HB7.out HEB6.out.lt)
    have HPB7:=Lib.hid (HPB.out.below HB7.out HPB.out.lt)
    have HDV:Hid (∀ dv,w7.cell? ⟨ob,1,none⟩=some dv→∀ k,dv.ownBlock=some k→k<w3.heap.size):=Lib.hid (fun dv hdv k hk=>by
     obtain ⟨dv',o1,o2,_⟩:=HW3.out.out
     have e1:=o1.cell 1
     simp only [List.getElem?_toArray,List.getElem?_cons_succ,List.getElem?_cons_zero] at e1
     have e2:w7.cell? ⟨ob,1,none⟩=some dv':=(World.cell?_of_block (w:=w3) (a:=⟨ob,1,none⟩) (by
      have l:=o1.lt
      exact (HB7.out.block ob (by have:=HB4.out.size; have:=HB6.out.size; omega)).trans ((HB6.out.block ob (by have:=HB4.out.size; omega)).trans (HB4.out.block ob l)))).trans e1
     rw [hdv] at e2
     injection e2 with e2
     subst e2
     exact (o2.lt k hk).2)
    have hDbB:B≤Db:=by have:=HB4.out.size; have:=HB6.out.size; omega
    have hs37:w3.heap.size≤Db:=by have:=HB4.out.size; have:=HB6.out.size; omega
    clear hw7 hDb p0 p1 a1 lE lP
    go_cut [] (fun wx=>∃ (x1:FoldS) (by1:Int) (dd:DoneD) (hs3:List Hn),stepF now r c x e=(⟨x1,x.done++[dd],by1⟩,0)∧WkI B f r mo ob cb now c A1 n1 c1 A2 n2 c2 w (hs++hs3) ⟨x1,x.done,by1⟩ wx∧Blk wx Db 62 #[.string dd.name,.int .i64 dd.out,.int .i64 dd.code]∧MeterAt wx mt c.maxEntries c.maxBytes (x.done.length+1) by1∧0≤by1∧by1≤c.maxBytes)
    case first =>
     have p0:=HPB7.out.cell 0; have lP:=HPB7.out.lt
     unfold planCells at p0
     simp only [List.getElem?_toArray,List.getElem?_cons_zero] at p0
     by_cases hp0:p.out=0
     ·have hpb:(p.out == 0)=true:=by simpa using hp0
      have HP0:=Lib.hid hp0
      have a0:=HEB7.out.cell 0; have a9:=HEB7.out.cell 10; have lE:=HEB7.out.lt
      unfold entC at a0 a9
      simp only [List.getElem?_toArray,List.getElem?_cons_succ,List.getElem?_cons_zero] at a0 a9
      have hne:e.data.length=ne:=HROW.out.1
      obtain ⟨b1,hb1⟩:∃ y,y=if e.kind=1 then x.bytes+e.data.length else x.bytes:=⟨_,rfl⟩
      have HB1E:=Lib.hid hb1
      clear hp0 hb1
      go_upto_if 44 with (fail)
      go_cut [] (fun wx=>w7.grownBy wx (some mt)∧MeterAt wx mt c.maxEntries c.maxBytes (x.done.length+1) b1∧0≤b1∧b1≤c.maxBytes∧¬ (e.kind=1∧c.maxBytes<x.bytes+e.data.length))
      case first =>
       by_cases hk1:e.kind=1
       ·have hkb:(e.kind == 1)=true:=by simpa using hk1
        have QB:=Lib.hid (quotaBytes w7 ne HM7.out hb0 hbm hmb.1 (by have:=HSE.out.data; omega))
        have hne2:ne<9223372036854775807:=by have:=HSE.out.data; omega
        have HK1:=Lib.hid hk1; have HNE:=Lib.hid hne
        clear hk1 hne
        go_wp2_with fail
        refine QB.out.mono ?_
        rintro en w8 ⟨hg8,hcase⟩
        have HG8:=Lib.hid hg8
        rcases hcase with ⟨hlt8,rfl,hm8⟩ | ⟨hlt8,rfl,hm8⟩
        ·have HE8:Hid (R=(x,201)):=Lib.hid (by
          have e1:stepF now r c x e=(x,201):=by
           unfold stepF
           rw [if_neg (by have:=HLT3.out; omega),← HP.out,if_neg (by rw [HP0.out]; exact fun h=>h rfl),if_pos ⟨HK1.out,by rw [HNE.out]; exact hlt8⟩]
          rw [STEP.out,e1]; rfl)
         have HW8:Hid (WkI B f r mo ob cb now c A1 n1 c1 A2 n2 c2 w (hs++hs2) x w8):=Lib.hid (HW7.out.keep1 HM7.out (by decide) (by decide) (by decide) (by decide) (HW7.out.other HM7.out (by decide)) (fun i y=>by
          rcases i with _ | _ | _ | _ | i <;> simp) (by have:=HCB.out; omega) hg8)
         obtain ⟨dv,ho1,ho2,ho3⟩:=HW8.out.out
         have HO1:=Lib.hid ho1; have HO2:=Lib.hid ho2
         clear ho1 ho2 ho3 hm8 hlt8 hg8
         go_wp2_with fail
         go_ret
         rw [HE8.out]
         exact ⟨hs2,dv,HW8.out.fold,HW8.out.below,HO1.out,HO2.out,rfl⟩
        ·have HM8:=Lib.hid hm8; have HLT8:=Lib.hid hlt8
         clear hm8 hlt8 hg8
         go_wp2_with fail
         go_meet
         case rel =>
          have eb:b1=x.bytes+ne:=by rw [HB1E.out,if_pos HK1.out,HNE.out]
          have:=HLT8.out
          exact ⟨HG8.out,by rw [eb]; exact HM8.out,by omega,by omega,fun h=>by have:=h.2; rw [HNE.out] at this; omega⟩
       ·have hkb:(e.kind == 1)=false:=by simpa using hk1
        have HK1:=Lib.hid hk1
        clear hk1
        go_wp2_with fail
        go_meet
        case rel =>
         have eb:b1=x.bytes:=by rw [HB1E.out,if_neg HK1.out]
         exact ⟨grownBy_refl _ _,by rw [eb]; exact HM7.out,by omega,by omega,fun h=>HK1.out h.1⟩
      case rest =>
       obtain ⟨w8,hw8e⟩:∃ y,y=wc:=⟨_,rfl⟩
       subst hw8e
       obtain ⟨hg8,hm8,hb10,hb1m,hno⟩:=hcut
       have HG8:=Lib.hid hg8; have HM8:=Lib.hid hm8; have HNO:=Lib.hid hno
       have HW8:Hid (WkI B f r mo ob cb now c A1 n1 c1 A2 n2 c2 w (hs++hs2) x w8):=Lib.hid (HW7.out.keep1 HM7.out (by decide) (by decide) (by decide) (by decide) (HW7.out.other HM7.out (by decide)) (fun i y=>by
        rcases i with _ | _ | _ | _ | i <;> simp) (by have:=HCB.out; omega) hg8)
       have HPB8:Hid (Blk w8 Pb 209 (planCells p (.slice Ap np cp) (.slice Af nf cf) (.slice Ad nd cd))):=Lib.hid (HPB7.out.grown hg8 (fun e=>by injection e with e; exact HPB7.out.ne_ (e ▸ HM7.out) (by decide) rfl))
       have HDB8:Hid (Blk w8 Db 62 #[.string e.name,.int .i64 p.out,.int .i64 p.code]):=Lib.hid (HDB.out.grown hg8 (fun e=>by injection e with e; exact HDB.out.ne_ (e ▸ HM7.out) (by decide) rfl))
       have hmt3:mt<w3.heap.size:=Blk.lt HM3.out
       have hs4:=HB4.out.size; have hs6:=HB6.out.size; have hs7:=HB7.out.size; have hs8:=hg8.size
       have KN:∀ k,New w3 w4 k→w8.heap[k]?=w4.heap[k]?:=fun k hk=>by
        have h1:=hk.1; have h2:=hk.2
        exact (HG8.out.block k (by omega) (fun e=>by injection e with e; omega)).trans ((HB7.out.block k (by omega)).trans (HB6.out.block k h2))
       have KT:∀ k,New w3 w4 k→k<w8.heap.size∧¬ inTree (hs++hs2) x.s.ths k:=fun k hk=>by
        have h1:=hk.1; have h2:=hk.2
        exact ⟨by omega,fun h=>by have:=(HW3.out.fold.tree.lt h).1; omega⟩
       obtain ⟨q1,q2,q3⟩:=planSmall e c HSE.out.name HSE.out.link HSE.out.data
       rw [← HP.out] at q1 q2 q3
       have hvdE:∃ (A:Option Addr) (len c:Nat),Value.slice Ad nd cd=.slice A len c∧(0<len→∃ b o,A=some ⟨b,o,none⟩∧w3.heap.size≤b):=⟨Ad,nd,cd,rfl,fun h0=>by
        obtain ⟨b',o',e',hb',_⟩:=HRD.out.2 h0
        exact ⟨b',o',e',hb'.1⟩⟩
       have AI:Hid (ApplyIn w8 (hs++hs2) x.s.ths (jobOf p) Ap np cp Af nf cf (.slice Ad nd cd)):=Lib.hid ⟨(HRP.out.keep KN).more KT,⟨HCP.out,by have:=HNP.out; omega⟩,(HRF.out.keep KN).more KT,⟨HCF.out,by have:=HNF.out; omega⟩,⟨Ad,cd,by show p.data.length≤cd; rw [← HND.out]; exact HCD.out,by rw [HND.out]; rfl,by
        have h1:=(HRD.out.keep KN).more (M':=Old w8) (fun k hk=>(KT k hk).1)
        rw [HND.out] at h1; exact h1⟩,fun h4=>by
        have:=plan_hard (e:=e) (c:=c) (by rw [← HP.out]; exact HP0.out) (by rw [← HP.out]; exact h4)
        rw [← HP.out,← HNF.out] at this; exact this⟩
       have AP:=Lib.hid (foldApplyAll w8 HW8.out.fold AI.out)
       have APD:Hid (∀ en w9,ApplyEnd (applyF now r (jobOf p) x.s.ths x.s.off) (.slice Ad nd cd) B f r mo now (hs++hs2) x.s.ths w8 en w9→_):=Lib.hid (fun en w9 ha=>HW8.out.applied (by1:=b1) (k0:=w3.heap.size) ha hBm hvdE (fun dv hdv=>HDV.out dv (by
        have l:=HW7.out.out
        obtain ⟨dv',o1,_,_⟩:=l
        have e0:w8.cell? ⟨ob,1,none⟩=w7.cell? ⟨ob,1,none⟩:=World.cell?_of_block (w:=w7) (a:=⟨ob,1,none⟩) (HG8.out.block ob o1.lt (fun e=>by injection e with e; exact o1.ne_ (e ▸ HM7.out) (by decide) rfl))
        rw [← e0]; exact hdv)))
       have p2:=HPB8.out.cell 2; have p3:=HPB8.out.cell 3; have p4:=HPB8.out.cell 4; have p5:=HPB8.out.cell 5; have p6:=HPB8.out.cell 6; have p7:=HPB8.out.cell 7; have p8:=HPB8.out.cell 8; have p9:=HPB8.out.cell 9; have p10:=HPB8.out.cell 10; have p11:=HPB8.out.cell 11; have p12:=HPB8.out.cell 12; have p13:=HPB8.out.cell 13; have p14:=HPB8.out.cell 14
       have lP:=HPB8.out.lt
       unfold planCells at p2 p3 p4 p5 p6 p7 p8 p9 p10 p11 p12 p13 p14
       simp only [List.getElem?_toArray,List.getElem?_cons_succ,List.getElem?_cons_zero] at p2 p3 p4 p5 p6 p7 p8 p9 p10 p11 p12 p13 p14
       unfold jobC jobOf at AP
       dsimp only at AP
       clear hg8 hm8 hno KN KT hvdE q1 q2 q3
       go_wp2_with fail
       refine AP.out.mono ?_
       rintro en w9 ha
       obtain ⟨hs9,hw9,hc9,rfl⟩:=APD.out en w9 ha
       obtain ⟨X,hX⟩:∃ y,y=applyF now r (jobOf p) x.s.ths x.s.off:=⟨_,rfl⟩
       rw [← hX] at hw9 ⊢
       obtain ⟨xo,hxo⟩:∃ y,y=X.2.1:=⟨_,rfl⟩
       obtain ⟨xe,hxe⟩:∃ y,y=X.2.2:=⟨_,rfl⟩
       rw [← hxo,← hxe]
       have HX:=Lib.hid hX; have HXO:=Lib.hid hxo; have HXE:=Lib.hid hxe; have HW9:=Lib.hid hw9; have HC9:=Lib.hid hc9
       have nD:=HW8.out.fold.not_blk HDB8.out (by decide) (by decide)
       have nM:=HW8.out.fold.not_blk HM8.out (by decide) (by decide)
       have HDB9:Hid (Blk w9 Db 62 #[.string e.name,.int .i64 p.out,.int .i64 p.code]):=Lib.hid ((hc9.block Db HDB8.out.lt (fun h=>h.elim nD.1 nD.2.2)).trans HDB8.out)
       have HM9:Hid (MeterAt w9 mt c.maxEntries c.maxBytes (x.done.length+1) b1):=Lib.hid ((hc9.block mt (Blk.lt HM8.out) (fun h=>h.elim nM.1 nM.2.2)).trans HM8.out)
       have hDV9:∀ dv,w9.cell? ⟨ob,1,none⟩=some dv→some Db≠dv.ownBlock:=fun dv hdv e=>by
        obtain ⟨dv',o1,o2,_⟩:=HW8.out.out
        have nO:=HW8.out.fold.not_blk o1 (by decide) (by decide)
        have e1:w9.cell? ⟨ob,1,none⟩=w8.cell? ⟨ob,1,none⟩:=World.cell?_of_block (w:=w8) (a:=⟨ob,1,none⟩) (hc9.block ob o1.lt (fun h=>h.elim nO.1 nO.2.2))
        have e0:w8.cell? ⟨ob,1,none⟩=w7.cell? ⟨ob,1,none⟩:=by
         obtain ⟨dv7,o7,_,_⟩:=HW7.out.out
         exact World.cell?_of_block (w:=w7) (a:=⟨ob,1,none⟩) (HG8.out.block ob o7.lt (fun e=>by injection e with e; exact o7.ne_ (e ▸ HM7.out) (by decide) rfl))
        rw [e1,e0] at hdv
        have:=HDV.out dv hdv Db e.symm
        omega
       have d1:=HDB9.out.cell 1; have d2:=HDB9.out.cell 2; have f1:=HDB9.out.frozen 1; have f2:=HDB9.out.frozen 2; have lD:=HDB9.out.lt
       simp only [List.getElem?_toArray,List.getElem?_cons_succ,List.getElem?_cons_zero] at d1 d2
       clear ha hw9 hc9 hX hxo hxe p2 p3 p4 p5 p6 p7 p8 p9 p10 p11 p12 p13 p14 lP AP APD AI nD nM
       go_upto_if 64 with (fail)
       obtain ⟨w10,hw10⟩:∃ y,y=(w9.setCell ⟨Db,1,none⟩ (.int .i64 xo)).setCell ⟨Db,2,none⟩ (.int .i64 xe):=⟨_,rfl⟩
       rw [← hw10]
       have G10:w9.grownBy w10 (some Db):=by rw [hw10]; exact ⟨rfl,rfl,rfl,by simp [World.setCell],fun n hn hne=>(Below.heap_setCell _ _ _ n (fun e=>hne (by rw [e]))).trans (Below.heap_setCell _ _ _ n (fun e=>hne (by rw [e])))⟩
       have HDB10:Hid (Blk w10 Db 62 #[.string e.name,.int .i64 xo,.int .i64 xe]):=Lib.hid (by rw [hw10]; exact ((HDB9.out.set_ 1 _).set_ 2 _).to rfl)
       have HW10:Hid (WkI B f r mo ob cb now c A1 n1 c1 A2 n2 c2 w ((hs++hs2)++hs9) ⟨X.1,x.done,b1⟩ w10):=Lib.hid (HW9.out.keep1 HDB9.out (by decide) (by decide) (by decide) (by decide) hDV9 (fun i y=>by
        rcases i with _ | _ | _ | i <;> simp) hDbB G10)
       have HM10:Hid (MeterAt w10 mt c.maxEntries c.maxBytes (x.done.length+1) b1):=Lib.hid (HM9.out.grown G10 (fun e=>by injection e with e; exact HDB9.out.ne_ (e ▸ HM9.out) (by decide) rfl))
       have hDV10:∀ dv,w10.cell? ⟨ob,1,none⟩=some dv→some Db≠dv.ownBlock:=fun dv hdv=>hDV9 dv (by
        obtain ⟨dv',o1,_,_⟩:=HW9.out.out
        have e0:w10.cell? ⟨ob,1,none⟩=w9.cell? ⟨ob,1,none⟩:=World.cell?_of_block (w:=w9) (a:=⟨ob,1,none⟩) (G10.block ob o1.lt (fun e=>by injection e with e; exact o1.ne_ (e ▸ HDB9.out) (by decide) rfl))
        rw [← e0]; exact hdv)
       have SF:Hid (stepF now r c x e=if xe=175 then (⟨X.1,x.done,b1⟩,175) else (⟨X.1,x.done++[⟨e.name,if xe≠0 then 2 else xo,xe⟩],b1⟩,0)):=Lib.hid (by
        unfold stepF
        rw [if_neg (by have:=HLT3.out; omega),← HP.out,if_neg (by rw [HP0.out]; exact fun h=>h rfl),if_neg HNO.out,← HX.out,← HXO.out,← HXE.out,← HB1E.out])
       clear hw10 d1 d2 f1 f2 lD G10
       have d1:=HDB10.out.cell 1; have d2:=HDB10.out.cell 2; have f1:=HDB10.out.frozen 1; have lD:=HDB10.out.lt
       simp only [List.getElem?_toArray,List.getElem?_cons_succ,List.getElem?_cons_zero] at d1 d2
       by_cases h175:xe=175
       ·subst h175
        have HE9:Hid (R=(⟨X.1,x.done,b1⟩,175)):=Lib.hid (by rw [STEP.out,SF.out]; rfl)
        obtain ⟨dv,ho1,ho2,ho3⟩:=HW10.out.out
        have HO1:=Lib.hid ho1; have HO2:=Lib.hid ho2
        clear ho1 ho2 ho3
        go_wp2_with fail
        go_ret
        rw [HE9.out]
        exact ⟨hs2++hs9,dv,by rw [← List.append_assoc]; exact HW10.out.fold,HW10.out.below,HO1.out,HO2.out,rfl⟩
       ·have hx1:(xe == 175)=false:=by simpa using h175
        have H175:=Lib.hid h175
        clear h175
        by_cases hz:xe=0
        ·subst hz
         go_wp2_with fail
         go_meet
         case rel =>
          refine ⟨X.1,b1,⟨e.name,xo,0⟩,hs2++hs9,?_,by rw [← List.append_assoc]; exact HW10.out,HDB10.out,HM10.out,hb10,hb1m⟩
          rw [SF.out]; rfl
        ·have hzb:(xe != 0)=true:=by simpa using hz
         have HZ:=Lib.hid hz
         clear hz
         go_wp2_with fail
         go_meet
         case rel =>
          have G11:w10.grownBy (w10.setCell ⟨Db,1,none⟩ (.int .i64 2)) (some Db):=grown_setA _ _ _ _
          refine ⟨X.1,b1,⟨e.name,2,xe⟩,hs2++hs9,?_,?_,(HDB10.out.set_ 1 _).to rfl,HM10.out.grown G11 (fun e=>by injection e with e; exact HDB10.out.ne_ (e ▸ HM10.out) (by decide) rfl),hb10,hb1m⟩
          ·rw [SF.out,if_neg H175.out,if_pos HZ.out]
          ·rw [← List.append_assoc]
           exact HW10.out.keep1 HDB10.out (by decide) (by decide) (by decide) (by decide) hDV10 (fun i y=>by
            rcases i with _ | _ | _ | i <;> simp) hDbB G11
     ·have hpb:(p.out == 0)=false:=by simpa using hp0
      have HP0:=Lib.hid hp0
      clear hp0
      go_wp2_with fail
      go_meet
      case rel =>
       refine ⟨x.s,x.bytes,⟨e.name,p.out,p.code⟩,hs2,?_,HW7.out,HDB.out,HM7.out,hb0,hbm⟩
       unfold stepF
       rw [if_neg (by have:=HLT3.out; omega),← HP.out,if_pos HP0.out]
    case rest =>
     obtain ⟨w12,hw12e⟩:∃ y,y=wc:=⟨_,rfl⟩
     subst hw12e
     obtain ⟨x1,by1,dd,hs3,hsf,hw12,hdb12,hm12,hb0',hbm'⟩:=hcut
     have HSF:=Lib.hid hsf; have HW12:=Lib.hid hw12; have HDB12:=Lib.hid hdb12; have HM12:=Lib.hid hm12
     obtain ⟨dv,o1,o2,o3⟩:=hw12.out
     obtain ⟨Av,nv,cv,rfl,hncv,hcmv,hrv⟩:=o2.rd
     have O1:=Lib.hid o1; have O2:=Lib.hid o2; have O3:=Lib.hid o3
     have NEXT:Hid (R=walkF now r c (es.drop (q+1)) ⟨x1,x.done++[dd],by1⟩):=Lib.hid (by rw [STEP.out,hsf]; rfl)
     clear hsf hw12 hdb12 hm12 hrv o2 o3
     go_upto_region 20 with (fail)
     go_cut [] (fun wx=>WkI B f r mo ob cb now c A1 n1 c1 A2 n2 c2 w (hs++hs3) ⟨x1,x.done++[dd],by1⟩ (wx.setCell ⟨ob,3,none⟩ (.int .i64 ((x.done.length:Int)+1)))∧MeterAt wx mt c.maxEntries c.maxBytes (x.done.length+1) by1∧∃ v',Blk wx ob 50 #[.slice none 0 0,v',.int .i64 0,.int .i64 x.done.length])
     case first =>
      have y1:=o1.cell 1; have lo:=o1.lt
      have t0:=HDB12.out.cell 0; have t1:=HDB12.out.cell 1; have t2:=HDB12.out.cell 2; have lD:=HDB12.out.lt
      simp only [List.getElem?_toArray,List.getElem?_cons_succ,List.getElem?_cons_zero] at y1 t0 t1 t2
      refine wp_region_grow_tt [(6,madeOne 62 #[.string dd.name,.int .i64 dd.out,.int .i64 dd.code] w12.heap.size)] 7 10 _ _ rfl rfl (by kernel_rfl) [6] rfl (by kernel_rfl) (stays_cons (madeOne_stays _ _ _) stays_nil) ?_
      simp only [List.take_succ_cons,List.take_zero,List.drop_succ_cons,List.drop_zero]
      repeat (first
       | (refine g_w rfl ?_ (fun W=>?_) ?_; rotate_left; (focus (go_simp; (try with_reducible rfl); done)); simp only [Act.put,List.setIfInBounds_toArray,List.set_cons_zero,List.set_cons_succ])
       | (refine g_d rfl (by kernel_rfl) ?_ (fun δ=>?_) ?_; rotate_left; (focus (go_simp; (try with_reducible rfl); done)); simp only [Act.put,List.setIfInBounds_toArray,List.set_cons_zero,List.set_cons_succ]))
      refine g_new rfl (fun δ hF=>⟨(over w12 δ).heap.size,(over w12 δ).alloc (.cells #[.string dd.name,.int .i64 dd.out,.int .i64 dd.code] 62),?_,below_alloc' _ _,Blk.new _ _ _,size_over_le _ _⟩) (fun gN=>?_)
      ·clear hF
       go_simp; rfl
      simp only [Act.put,List.setIfInBounds_toArray,List.set_cons_zero,List.set_cons_succ]
      refine g_end fun δ hF=>?_
      have h6:(madeOne 62 #[.string dd.name,.int .i64 dd.out,.int .i64 dd.code] w12.heap.size).Fact gN (over w12 δ):=hF 6
      clear hF
      have srcN:=(src_blkT (s:=Shape.DoneD) (M:=fun _=>False) (a:=dd) h6.1 rfl)
      have hdl:x.done.length≤1000000:=by omega
      refine endTT_append (v:=.slice Av nv cv) elem_DoneD (.tmp 75) (.tmp 77) rfl rfl (O2.out.over_ δ) rfl srcN (fun _ h=>h.elim) (by simp; omega) (by simp [maxLen]; omega) (by have:=size_over_le w12 δ; have:=HW12.out.fold.base; omega) (fun v' w13 hown13 hg13 hat13=>?_)
      obtain ⟨A8,n8,c8,rfl,h81,h82,-⟩:=hown13.rd
      have O13:Hid (Own Shape.DoneD 62 w13 B (fun _=>False) (.slice A8 n8 c8) (x.done++[dd])):=Lib.hid (by simpa using hown13)
      have G13:=Lib.hid hg13; have AT13:=Lib.hid hat13
      have HWD:Hid (Below w12.heap.size w12 (over w12 δ)):=Lib.hid (below_over w12 δ)
      have nOb:some ob≠(Value.slice Av nv cv).ownBlock:=fun e=>by
       obtain ⟨cs,fz,hh⟩:=ownsType O2.out e.symm
       have b1:w12.heap[ob]?=_:=O1.out
       rw [hh] at b1; injection b1 with b1; injection b1 with _ b1; exact absurd b1 (by decide)
      have nMt:some mt≠(Value.slice Av nv cv).ownBlock:=fun e=>by
       obtain ⟨cs,fz,hh⟩:=ownsType O2.out e.symm
       have b1:w12.heap[mt]?=_:=HM12.out
       rw [hh] at b1; injection b1 with b1; injection b1 with _ b1; exact absurd b1 (by decide)
      have BO13:=Lib.hid ((O1.out.over_ δ).grown hg13 nOb)
      have BM13:Hid (MeterAt w13 mt c.maxEntries c.maxBytes (x.done.length+1) by1):=Lib.hid ((Blk.over_ HM12.out δ).grown hg13 nMt)
      have z1:=BO13.out.cell 1; have fz1:=BO13.out.frozen 1; have lz:=BO13.out.lt
      simp only [List.getElem?_toArray,List.getElem?_cons_succ,List.getElem?_cons_zero] at z1
      clear hown13 hg13 hat13 h6 srcN y1 t0 t1 t2 lo lD
      simp only [Act.put,List.setIfInBounds_toArray,List.set_cons_zero,List.set_cons_succ]
      repeat (refine g_mid (by kernel_rfl) ?_ ?_ ?_; rotate_left; (focus (go_simp; (try with_reducible rfl); done)); simp only [Act.put,List.setIfInBounds_toArray,List.set_cons_zero,List.set_cons_succ])
      refine g_mid_end ?_
      refine endT_of undef (w13.setCell ⟨ob,1,none⟩ (.slice A8 n8 c8)) (.inr ⟨?_,rfl⟩) ?_
      ·go_simp
      simp only [Act.put,List.setIfInBounds_toArray,List.set_cons_zero,List.set_cons_succ]
      refine g_tail_end ?_
      go_wp2_with fail
      go_meet
      case rel =>
       refine ⟨HW12.out.pushed HWD.out O1.out O2.out O3.out G13.out O13.out AT13.out hBo,BM13.out.far (fun e=>by
        have:Blk w13 ob 266 _:=e ▸ BM13.out
        exact this.ne_ BO13.out (by decide) rfl) _,.slice A8 n8 c8,(BO13.out.set_ 1 _).to rfl⟩
     case rest =>
      obtain ⟨w14,hw14e⟩:∃ y,y=wc:=⟨_,rfl⟩
      subst hw14e
      obtain ⟨hw14,hm14,v14,hb14⟩:=hcut
      have HW14:=Lib.hid hw14; have HM14:=Lib.hid hm14; have HB14:=Lib.hid hb14
      have y3:=hb14.cell 3; have f3:=hb14.frozen 3; have lo:=hb14.lt
      simp only [List.getElem?_toArray,List.getElem?_cons_succ,List.getElem?_cons_zero] at y3
      have hwr:IntKind.i64.wrap ((x.done.length:Int)+1)=(x.done.length:Int)+1:=by rw [IntKind.wrap_i64]; omega
      clear hw14 hm14 hb14 o1
      go_wp2_with fail
      go_roundw
      case rel =>
       refine ⟨q+1,_,hs3,by omega,by go_num,NEXT.out,HW14.out,?_,?_,hb0',hbm'⟩
       ·have h1:MeterAt (w14.setCell ⟨ob,3,none⟩ (.int .i64 ((x.done.length:Int)+1))) mt c.maxEntries c.maxBytes (x.done.length+1) by1:=Blk.far HM14.out (fun e=>by
         have:Blk w14 ob 266 _:=e ▸ HM14.out
         exact this.ne_ HB14.out (by decide) rfl) _
        have e:((x.done++[dd]).length:Int)=(x.done.length:Int)+1:=by rw [List.length_append]; rfl
        show MeterAt _ mt c.maxEntries c.maxBytes ((x.done++[dd]).length:Int) by1
        rw [e]; exact h1
       ·show (x.done++[dd]).length≤q+1
        rw [List.length_append]; simp; omega
      case measure=>simp [intOf]; omega
  ·have hqs:¬ (q:Int)<n:=by omega
   have HE0:Hid (R=(x,0)):=Lib.hid (by rw [HRq.out,List.drop_eq_nil_of_le (by omega)]; rfl)
   obtain ⟨dv,ho1,ho2,ho3⟩:=HW.out.out
   have HO1:=Lib.hid ho1; have HO2:=Lib.hid ho2
   clear ho1 ho2 ho3
   go_wp2_with fail
   go_ret
   rw [HE0.out]
   exact ⟨hs2,dv,HW.out.fold,HW.out.below,HO1.out,HO2.out,rfl⟩
end Go.Proofs.YtfhfcipelgogjaaGreatDoor
