/- (*forecast.fold).finish. No condition. -/
import Derived.Test.YtfhfcipelgogjaaGreatDoorFListAll
import Derived.Test.YtfhfcipelgogjaaGreatDoorFoldAll
set_option linter.unusedSectionVars false
set_option linter.unusedVariables false
set_option linter.unusedSimpArgs false
set_option maxHeartbeats 4000000
set_option maxRecDepth 100000
namespace Go.Proofs.YtfhfcipelgogjaaGreatDoor
open Go.RowKit
attribute [local go_sem] cell?_over frozen?_over lt_over le_over
def StopF (p:Prop):Prop:=p
theorem StopF.mk {p:Prop} (h:StopF p):p:=h
def gOf (hs:List Hn) (done:List (Nat×JobV)) (i:Nat):Option JobD:=(getKv done (adr hs i)).map (·.j)
structure FinI (B f r mo:Nat) (now:TimeD) (hs:List Hn) (ths:List ThD) (off:List (Nat×JobD)) (kv:List (Nat×JobV)) (it:Nat) (w:World) (done left:List (Nat×JobV)) (wr:World):Prop where
 it:MapItP kP cJ wr it mo kv left
 perm:(done++left).Perm kv
 fold:FoldAt wr B f r mo now hs (finBy (gOf hs done) ths) off
 cng:Cng (inTree hs ths) w wr
theorem inTree_fin {g:Nat→Option JobD} {hs:List Hn} {ths:List ThD} {k:Nat} (h:inTree hs (finBy g ths) k):inTree hs ths k:=by
 obtain ⟨j,t,hd,e1,e2,e3⟩:=h
 have hj:=(List.getElem?_eq_some_iff.1 e1).1
 have hj':j<ths.length:=by rwa [finBy_len] at hj
 have e:=thD_at hj
 rw [e1] at e
 injection e with e
 refine ⟨j,thD ths j,hd,thD_at hj',e2,e3.imp id fun ⟨a,b⟩=>⟨?_,b⟩⟩
 rw [e,finBy_at g ths hj'] at a
 cases hg:g j with
 | none=>rw [hg] at a; exact a
 | some x=>rw [hg] at a; exact a
theorem FoldAt.modes_ {w w':World} {B f r mo:Nat} {now:TimeD} {hs:List Hn} {ths:List ThD} {off:List (Nat×JobD)} (h:FoldAt w B f r mo now hs ths off) {d:Nat} {dh:Hn} {t:ThD} (hd:d<ths.length) (hk:t.kind=(thD ths d).kind) (hdt:t.data=(thD ths d).data) (hin:t.ins=(thD ths d).ins) (hh:hs[d]?=some dh)
  (hb:Blk w' dh.a 203 (thCells t dh.dv (mapOf (thD ths d) dh))) (hc:Cng (fun k=>k=dh.a) w w'):FoldAt w' B f r mo now hs (ths.set d t) off:=by
 have hT:TreeAt w' B hs (ths.set d t):=h.tree.upd (thD_at hd) hh hk hb (fun h2=>by
   rw [hin]
   have m:=h.tree.map d _ dh (thD_at hd) hh h2
   exact m.of_block (hc.block dh.m m.lt (m.ne_blk (h.tree.blk d _ dh (thD_at hd) hh)))) ⟨fun h2=>by rw [hin]; exact (h.tree.ok d _ (thD_at hd)).2.1 h2,by rw [hin]; exact (h.tree.ok d _ (thD_at hd)).2.2⟩ (hc.mono fun k hk=>.inl hk)
 have hinn:∀ k,k=dh.a→inTree hs ths k:=fun k hk'=>⟨d,thD ths d,dh,thD_at hd,hh,.inl hk'⟩
 refine ⟨(hc.block f h.blk.lt (fun e=>h.nof (hinn f e))).trans h.blk,hT,by rw [List.length_set]; exact h.root,by rw [kinds_set hd hk]; exact h.rkind,h.off.of_block (hc.block mo h.off.lt (fun e=>h.apart (hinn mo e))),fun e=>h.apart (inTree_set hd hk e),Nat.le_trans h.base hc.size,?_⟩
 intro j s k e1 e2
 have hj:=(List.getElem?_eq_some_iff.1 e1).1
 rw [List.length_set] at hj
 have e3:=thD_at (ths:=ths.set d t) (j:=j) (by rw [List.length_set]; exact hj)
 rw [e1] at e3
 injection e3 with e3
 have:s.data=(thD ths j).data:=by
  rw [e3,thD_set hd]
  by_cases hjd:j=d
  ·rw [if_pos hjd,hjd,hdt]
  ·rw [if_neg hjd]
 rw [this]
 exact (h.dat j _ k (thD_at hj) e2).cng hc fun n hn=>h.nobyte (hinn n hn)
theorem getKv_perm {κ β:Type} [DecidableEq κ] {a b:List (κ×β)} (h:a.Perm b) (hn:(b.map (·.1)).Nodup) (k:κ):getKv a k=getKv b k:=by
 have hna:(a.map (·.1)).Nodup:=(h.map _).nodup_iff.2 hn
 cases hb:getKv b k with
 | some v =>
  have hm:(k,v)∈a:=h.symm.subset (kvMem hb)
  obtain ⟨i,hi⟩:=List.getElem?_of_mem hm
  exact kvAt hna hi
 | none =>
  cases ha:getKv a k with
  | none=>rfl
  | some v =>
   have hm:(k,v)∈b:=h.subset (kvMem ha)
   obtain ⟨i,hi⟩:=List.getElem?_of_mem hm
   rw [kvAt hn hi] at hb
   cases hb
theorem getKv_out {κ β:Type} [DecidableEq κ] {a:List (κ×β)} {k:κ} (h:k∉a.map (·.1)):getKv a k=none:=by
 cases ha:getKv a k with
 | none=>rfl
 | some v=>exact absurd (List.mem_map_of_mem (f:=(·.1)) (kvMem ha)) h
theorem gOf_off {hs:List Hn} {kv:List (Nat×JobV)} {off:List (Nat×JobD)} (h2:kv.map (fun p=>(p.1,p.2.j))=off.map (fun p=>(adr hs p.1,p.2))) (h3:∀ p∈off,p.1<hs.length) (inj:∀ i j,i<hs.length→j<hs.length→adr hs i=adr hs j→i=j) {d:Nat} (hd:d<hs.length):gOf hs kv d=getKv off d:=by
 have e1:gOf hs kv d=getKv (kv.map (fun p=>(p.1,p.2.j))) (adr hs d):=by
  unfold gOf getKv
  rw [List.find?_map]
  show Option.map _ (Option.map _ _)=Option.map _ (Option.map _ _)
  rw [Option.map_map,Option.map_map]; rfl
 rw [e1,h2]
 clear e1 h2
 induction off with
 | nil=>rfl
 | cons p off ih =>
  have ih:=ih (fun q hq=>h3 q (List.mem_cons_of_mem _ hq))
  have hp:=h3 p (List.mem_cons_self ..)
  have hdec:decide (adr hs p.1=adr hs d)=decide (p.1=d):=by
   by_cases he:p.1=d
   ·rw [he]; simp
   ·rw [decide_eq_false he,decide_eq_false fun hh=>he (inj _ _ hp hd hh)]
  unfold getKv at *
  rw [List.map_cons,List.find?_cons,List.find?_cons]
  simp only [hdec]
  cases decide (p.1=d) with
  | true=>rfl
  | false=>exact ih
theorem getKv_snoc_ne {κ β:Type} [DecidableEq κ] {a:List (κ×β)} {k k':κ} {v:β} (h:k≠k'):getKv (a++[(k,v)]) k'=getKv a k':=by
 unfold getKv
 rw [List.find?_append]
 cases ha:a.find? fun p=>decide (p.1=k') with
 | some x=>rfl
 | none=>rw [Option.none_or,List.find?_cons,decide_eq_false h]; rfl
theorem getKv_snoc_eq {κ β:Type} [DecidableEq κ] {a:List (κ×β)} {k:κ} {v:β} (h:getKv a k=none):getKv (a++[(k,v)]) k=some v:=by
 unfold getKv at *
 rw [List.find?_append]
 cases ha:a.find? fun p=>decide (p.1=k) with
 | some x=>rw [ha] at h; cases h
 | none=>rw [Option.none_or,List.find?_cons,decide_eq_true rfl]; rfl
theorem fin_round {B f r mo d k:Nat} {now:TimeD} {hs:List Hn} {ths:List ThD} {off:List (Nat×JobD)} {kv done left left':List (Nat×JobV)} {v:JobV} {dh:Hn} {w wr w4 w5 w7:World} (hF:FoldAt w B f r mo now hs ths off) (hI:FinI B f r mo now hs ths off kv w.heap.size w done left wr)
  (hpl:left.Perm ((k,v) :: left')) (hit4:MapItP kP cJ w4 w.heap.size mo kv left') (hg4:wr.grownBy w4 (some w.heap.size)) (hb5:Below w4.heap.size w4 w5) (F5:FoldAt w5 B f r mo now hs (finBy (gOf hs done) ths) off) (hdt:d<ths.length) (hdh:hs[d]?=some dh) (hka:dh.a=k) (hgn:getKv done k=none)
  (hb:Blk w7 k 203 (thCells (settleT (thD (finBy (gOf hs done) ths) d) v.j) dh.dv (mapOf (thD (finBy (gOf hs done) ths) d) dh))) (hc:Cng (fun n=>n=k) w5 w7) :
  (∃ done left,FinI B f r mo now hs ths off kv w.heap.size w done left w7)∧w7.rangeLeft mo w.heap.size<wr.rangeLeft mo w.heap.size:=by
 have hadr:adr hs d=k:=by rw [adr_at hdh,hka]
 have hfl:d<(finBy (gOf hs done) ths).length:=by rw [finBy_len]; exact hdt
 have hin:inTree hs ths k:=⟨d,thD ths d,dh,thD_at hdt,hdh,.inl hka.symm⟩
 have hk1:k<w.heap.size:=(hF.tree.lt hin).1
 have hkmo:mo≠k:=fun e=>hF.apart (e ▸ hin)
 have hmow:=hF.off.lt
 have h5m:w5.heap[mo]?=w4.heap[mo]?:=hb5.block mo hit4.isMapP.lt
 have h5i:w5.heap[w.heap.size]?=w4.heap[w.heap.size]?:=hb5.block _ hit4.lt
 have hsz5:=hb5.size
 have it7:MapItP kP cJ w7 w.heap.size mo kv left':=hit4.of_blocks ((hc.block mo (by have:=hit4.isMapP.lt; omega) hkmo).trans h5m) ((hc.block _ (by have:=hit4.lt; omega) (by omega)).trans h5i)
 refine ⟨⟨done++[(k,v)],left',it7,perm_next hI.perm hpl,?_,?_⟩,?_⟩
 ·have hm:=F5.modes_ (d:=d) (dh:=dh) (t:=settleT (thD (finBy (gOf hs done) ths) d) v.j) hfl rfl rfl rfl hdh (by rw [hka]; exact hb) (by rw [hka]; exact hc)
  rw [finBy_step (gOf hs done) ths hdt (by unfold gOf; rw [hadr,hgn]; rfl)] at hm
  have e:finBy (fun i=>if i=d then some v.j else gOf hs done i) ths=finBy (gOf hs (done++[(k,v)])) ths:=finBy_congr fun i hi=>by
   by_cases hid:i=d
   ·subst hid
    rw [if_pos rfl]
    unfold gOf
    rw [hadr,getKv_snoc_eq hgn]; rfl
   ·rw [if_neg hid]
    unfold gOf
    rw [getKv_snoc_ne (fun e=>hid (hF.inj i d (by rw [hF.tree.len]; exact hi) (by rw [hF.tree.len]; exact hdt) (by rw [hadr]; exact e.symm)))]
  rw [e] at hm
  exact hm
 ·refine hI.cng.then_ (N:=fun n=>n=k∨n=w.heap.size) ?_ (fun n hn h=>h.elim (fun e=>e ▸ hin) (fun e=>by omega))
  refine Cng.trans (Cng.trans ⟨hg4.os,hg4.tape,hg4.output,hg4.size,fun n hn hne=>hg4.block n hn (fun e=>hne (.inr (by injection e)))⟩ (Cng.of_below hb5)) (hc.mono fun n hn=>.inl hn)
 ·rw [it7.left_eq,hI.it.left_eq]
  have:=hpl.length_eq
  rw [List.length_cons] at this
  omega
theorem foldFinish {B f r mo:Nat} {now:TimeD} {hs:List Hn} {ths:List ThD} {off:List (Nat×JobD)} (w:World) (hF:FoldAt w B f r mo now hs ths off) :
  Calls Tryz.prog 77 #[.pointer (some ⟨f,0,none⟩)] w fun e w'=>e=.returned (.tuple #[])∧FoldAt w' B f r mo now hs (finishF ths off) off∧Cng (inTree hs ths) w w':=by
 have HF:=Lib.hid hF
 have lf:=hF.blk.lt; have f3:=hF.blk.cell 3
 unfold foldC at f3
 simp only [List.getElem?_toArray,List.getElem?_cons_succ,List.getElem?_cons_zero] at f3
 obtain ⟨kv,hmap,hkv,hlt⟩:=hF.off
 have HKV:=Lib.hid hkv; have HM:=Lib.hid hmap
 clear hF hkv hmap
 go_enter Tryz.func77,Tryz.ntmps77
 go_wp2_with (first
  | (at_range; refine wpList_range_kvP rfl (.tmp 7) _ rfl und_off HM.out rfl ?_; intro w3 hit hg3 hz3))
 go_frame
 have hb3:Below w.heap.size w w3:=⟨hg3.os,hg3.tape,hg3.output,hg3.size,fun n hn=>hg3.block n hn (by simp)⟩
 have H0:Hid (FinI B f r mo now hs ths off kv w.heap.size w [] kv w3):=Lib.hid ⟨hit,List.Perm.refl _,by
  have:finBy (gOf hs []) ths=ths:=finBy_none ths
  rw [this]; exact HF.out.below hb3,Cng.of_below hb3⟩
 clear hit hg3 hz3 hb3 f3
 go_loopw [9] (fun _ wr=>∃ done left,FinI B f r mo now hs ths off kv w.heap.size w done left wr) (fun _ wr=>wr.rangeLeft mo w.heap.size)
 case atStart=>exact ⟨[],kv,H0.out⟩
 case round =>
  obtain ⟨done,left,hI⟩:=hrel
  have HI:=Lib.hid hI
  have IT:=Lib.hid hI.it
  clear hI H0
  go_wp2_with (first
   | (at_next; refine wpList_next_kvP rfl (.tmp 8) rfl rfl IT.out (fun hl0=>StopF.mk ?_) (fun k v left' w4 hpl hit4 hg4 hz4 hen=>StopF.mk ?_)))
  ·unfold StopF
   subst hl0
   go_wp2_with fail
   refine bodyPost_end (v:=.tuple #[]) (by simp [results,Tryz.results77,go_sem]) rfl ?_
   have hp:done.Perm kv:=by have:=HI.out.perm; rwa [List.append_nil] at this
   refine ⟨rfl,?_,HI.out.cng⟩
   have he:finBy (gOf hs done) ths=finishF ths off:=by
    unfold finishF
    refine finBy_congr fun i hi=>?_
    have hnd:(kv.map (·.1)).Nodup:=by obtain ⟨_,_,_,_,h,_⟩:=HM.out; exact h
    have e1:gOf hs done i=gOf hs kv i:=by unfold gOf; rw [getKv_perm hp hnd]
    rw [e1]
    exact gOf_off HKV.out hlt HF.out.inj (by rw [HF.out.tree.len]; exact hi)
   rw [← he]
   exact HI.out.fold
  ·unfold StopF
   have hen2:(Instr.entry (.pointer (some ⟨w.heap.size,0,none⟩))).run Tryz.prog w4=.ok (.tuple #[.pointer (some ⟨k,0,none⟩),.agg (jobC v.j (.slice v.vp.A v.vp.n v.vp.c) (.slice v.vf.A v.vf.n v.vf.c) (.slice v.vd.A v.vd.n v.vd.c))]) w4:=hen
   have HEN:=Lib.hid hen
   have HIT4:=Lib.hid hit4; have HG4:=Lib.hid hg4; have HPL:=Lib.hid hpl; have HZ4:=Lib.hid hz4
   unfold jobC at hen2
   clear hen hit4 hg4 hpl hz4
   obtain ⟨kj,hkj⟩:∃ x,x=v.j:=⟨_,rfl⟩
   obtain ⟨Jb,hJb⟩:∃ x,x=w4.heap.size:=⟨_,rfl⟩
   go_wp2_with fail
   rw [← hkj,← hJb]
   have HKJ:=Lib.hid hkj; have HJB:=Lib.hid hJb
   obtain ⟨w5,hw5⟩:∃ x,x=w4.alloc (.cells (jobC kj (.slice v.vp.A v.vp.n v.vp.c) (.slice v.vf.A v.vf.n v.vf.c) (.slice v.vd.A v.vd.n v.vd.c)) 207):=⟨_,rfl⟩
   have hw5':=hw5
   unfold jobC at hw5'
   rw [← hw5']
   have BJ:Hid (Blk w5 Jb 207 (jobC kj (.slice v.vp.A v.vp.n v.vp.c) (.slice v.vf.A v.vf.n v.vf.c) (.slice v.vd.A v.vd.n v.vd.c))):=Lib.hid (by rw [hw5,hJb]; exact Blk.new _ _ _)
   have HB5:Hid (Below w4.heap.size w4 w5):=Lib.hid (by rw [hw5]; exact below_alloc' _ _)
   clear hkj hJb hw5 hw5' hen2
   have hmem:(k,v)∈kv:=HI.out.perm.subset (List.mem_append_right _ (HPL.out.symm.subset (by simp)))
   have hmem2:(k,v.j)∈off.map (fun p=>(adr hs p.1,p.2)):=by rw [← HKV.out]; exact List.mem_map_of_mem (f:=fun p:Nat×JobV=>(p.1,p.2.j)) hmem
   obtain ⟨p,hp,hpe⟩:=List.mem_map.1 hmem2
   have hpk:adr hs p.1=k:=congrArg Prod.fst hpe
   clear hpe
   obtain ⟨d,hd⟩:∃ x,x=p.1:=⟨_,rfl⟩
   rw [← hd] at hpk
   have hdl:d<hs.length:=by rw [hd]; exact hlt p hp
   have hdt:d<ths.length:=by rw [← HF.out.tree.len]; exact hdl
   have hnk:k∉done.map (·.1):=by
    have hnd:(kv.map (·.1)).Nodup:=by obtain ⟨_,_,_,_,h,_⟩:=HM.out; exact h
    have h1:((done++left).map (·.1)).Nodup:=(HI.out.perm.map _).nodup_iff.2 hnd
    rw [List.map_append,List.nodup_append] at h1
    intro hk1
    exact h1.2.2 k hk1 k (List.mem_map.2 ⟨(k,v),HPL.out.symm.subset (by simp),rfl⟩) rfl
   have hgn:gOf hs done d=none:=by unfold gOf; rw [hpk,getKv_out hnk]; rfl
   obtain ⟨dh,hdh⟩:∃ h,hs[d]?=some h:=⟨_,List.getElem?_eq_getElem hdl⟩
   have hka:dh.a=k:=by rw [← hpk]; exact (adr_at hdh).symm
   have F4:FoldAt w4 B f r mo now hs (finBy (gOf hs done) ths) off:=HI.out.fold.keep (M:=fun n=>n=w.heap.size) ⟨HG4.out.os,HG4.out.tape,HG4.out.output,HG4.out.size,fun n hn hne=>HG4.out.block n hn (fun e=>hne (by injection e))⟩ (fun n hn=>by
    subst hn
    refine ⟨fun e=>Nat.lt_irrefl _ (HF.out.tree.lt (inTree_fin e)).1,fun e=>by have:=HF.out.blk.lt; omega,fun e=>by have:=HF.out.off.lt; omega,fun i x e=>?_⟩
    obtain ⟨_,_,_,_,_,_,_,_,_,hr,_⟩:=IT.out
    simp [World.cell?,hr] at e)
   have F5:=Lib.hid (F4.below HB5.out)
   have hfl:d<(finBy (gOf hs done) ths).length:=by rw [finBy_len]; exact hdt
   have BD:=F5.out.tree.blk d _ dh (thD_at hfl) hdh
   rw [hka] at BD
   have HBD:=Lib.hid BD
   obtain ⟨T,hT⟩:∃ x,x=thD (finBy (gOf hs done) ths) d:=⟨_,rfl⟩
   rw [← hT] at BD
   have HT:=Lib.hid hT
   have d2:=BD.cell 2; have d3:=BD.cell 3; have d4:=BD.cell 4; have d5:=BD.cell 5; have d6:=BD.cell 6
   have g2:=BD.frozen 2; have g3:=BD.frozen 3; have g4:=BD.frozen 4; have g5:=BD.frozen 5; have g6:=BD.frozen 6
   have ld:=BD.lt
   have j5:=BJ.out.cell 5; have j6:=BJ.out.cell 6; have j7:=BJ.out.cell 7; have j8:=BJ.out.cell 8; have j9:=BJ.out.cell 9; have j12:=BJ.out.cell 12
   have lj:=BJ.out.lt
   have hJk:Jb≠k:=fun e=>BJ.out.ne_ BD (by decide) e
   unfold jobC at j5 j6 j7 j8 j9 j12
   unfold thCells at d2 d3 d4 d5 d6
   simp only [List.getElem?_toArray,List.getElem?_cons_succ,List.getElem?_cons_zero] at j5 j6 j7 j8 j9 j12 d2 d3 d4 d5 d6
   have HGD:Hid (getKv done k=none):=Lib.hid (getKv_out hnk)
   have HKA:=Lib.hid hka; have HDH:=Lib.hid hdh
   clear hmem hmem2 hpk BD F4 hT hka hnk hdh
   go_region_held3 (fun w'=>w'.cell? ⟨Jb,5,none⟩=some (.int .i64 kj.mode)∧w'.cell? ⟨Jb,8,none⟩=some (.int .i64 kj.mtime.sec)∧w'.cell? ⟨Jb,9,none⟩=some (.int .i64 kj.mtime.nano)) (first | assumption | (refine ⟨?_,?_,?_⟩ <;> go_simp)) (fail)
   have g25:=hgn
   have BD6:Blk (((w5.setCell ⟨k,2,none⟩ (.int .i64 kj.mode)).setCell ⟨k,5,none⟩ (.int .i64 kj.mtime.sec)).setCell ⟨k,6,none⟩ (.int .i64 kj.mtime.nano)).drew k 203 (thCells { T with mode:=kj.mode,mtime:=kj.mtime } dh.dv (mapOf T dh)):=by
    have:=HBD.out
    rw [← HT.out] at this
    exact ((((this.set_ 2 _).set_ 5 _).set_ 6 _).drew).to rfl
   have BJ6:Blk (((w5.setCell ⟨k,2,none⟩ (.int .i64 kj.mode)).setCell ⟨k,5,none⟩ (.int .i64 kj.mtime.sec)).setCell ⟨k,6,none⟩ (.int .i64 kj.mtime.nano)).drew Jb 207 (jobC kj (.slice v.vp.A v.vp.n v.vp.c) (.slice v.vf.A v.vf.n v.vf.c) (.slice v.vd.A v.vd.n v.vd.c)):=(((BJ.out.far hJk _).far hJk _).far hJk _).drew
   have C6:Cng (fun n=>n=k) w5 (((w5.setCell ⟨k,2,none⟩ (.int .i64 kj.mode)).setCell ⟨k,5,none⟩ (.int .i64 kj.mtime.sec)).setCell ⟨k,6,none⟩ (.int .i64 kj.mtime.nano)).drew:=((((Cng.refl (fun n=>n=k) w5).set (b:=k) rfl _).set (b:=k) rfl _).set (b:=k) rfl _).drew
   obtain ⟨w6,hw6⟩:∃ x,x=(((w5.setCell ⟨k,2,none⟩ (.int .i64 kj.mode)).setCell ⟨k,5,none⟩ (.int .i64 kj.mtime.sec)).setCell ⟨k,6,none⟩ (.int .i64 kj.mtime.nano)).drew:=⟨_,rfl⟩
   rw [← hw6] at BD6 BJ6 C6 ⊢
   have HBD6:=Lib.hid BD6; have HBJ6:=Lib.hid BJ6; have HC6:=Lib.hid C6; have HGN:=Lib.hid hgn
   clear hw6 g25 j5 j6 j7 j8 j9 j12 d2 d3 d4 d5 d6 g2 g3 g4 g5 g6 ld lj C6 hgn
   have j6:=BJ6.cell 6; have j7:=BJ6.cell 7; have j11:=BJ6.cell 12; have lj:=BJ6.lt
   have d3:=BD6.cell 3; have d4:=BD6.cell 4; have g3:=BD6.frozen 3; have g4:=BD6.frozen 4; have ld:=BD6.lt
   unfold jobC at j6 j7 j11
   unfold thCells at d3 d4
   simp only [List.getElem?_toArray,List.getElem?_cons_succ,List.getElem?_cons_zero] at j6 j7 j11 d3 d4
   clear BD6 BJ6
   cases hki:kj.keepIds with
   | false =>
    rw [hki] at j11
    go_wp2_with fail
    case roundEnd =>
     refine fin_round HF.out HI.out HPL.out HIT4.out HG4.out HB5.out F5.out hdt HDH.out HKA.out HGD.out ?_ HC6.out
     rw [← HT.out,← HKJ.out]
     have:settleT T kj={ T with mode:=kj.mode,mtime:=kj.mtime }:=by unfold settleT; rw [hki]; rfl
     rw [this]
     exact HBD6.out
   | true =>
    rw [hki] at j11
    go_wp2_with fail
    go_region_held3 (fun w'=>w'.cell? ⟨Jb,6,none⟩=some (.int .i64 kj.uid)∧w'.cell? ⟨Jb,7,none⟩=some (.int .i64 kj.gid)) (first | assumption | (refine ⟨?_,?_⟩ <;> go_simp)) (fail)
    go_wp2_with fail
    case roundEnd =>
     refine fin_round HF.out HI.out HPL.out HIT4.out HG4.out HB5.out F5.out hdt HDH.out HKA.out HGD.out ?_ ((HC6.out.set (b:=k) rfl _).set (b:=k) rfl _).drew
     rw [← HT.out,← HKJ.out]
     have:settleT T kj={ T with mode:=kj.mode,mtime:=kj.mtime,uid:=kj.uid,gid:=kj.gid }:=by unfold settleT; rw [hki]; rfl
     rw [this]
     exact (((HBD6.out.set_ 3 _).set_ 4 _).drew).to rfl
end Go.Proofs.YtfhfcipelgogjaaGreatDoor
