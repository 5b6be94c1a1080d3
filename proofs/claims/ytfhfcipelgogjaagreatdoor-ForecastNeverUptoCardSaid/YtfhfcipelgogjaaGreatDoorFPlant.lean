/- forecast.plant: the things of a graph. The graph is well-formed. -/
import Derived.Test.YtfhfcipelgogjaaGreatDoorFoldAll
import Derived.Test.YtfhfcipelgogjaaGreatDoorPLawAll
import Derived.Test.YtfhfcipelgogjaaGreatDoorFListAll
import Derived.Test.YtfhfcipelgogjaaGreatDoorOwnAll
set_option linter.unusedSectionVars false
set_option linter.unusedVariables false
set_option linter.unusedSimpArgs false
set_option maxHeartbeats 4000000
set_option maxRecDepth 100000
namespace Go.Proofs.YtfhfcipelgogjaaGreatDoor
open Go.RowKit
attribute [local go_sem] cell?_over frozen?_over lt_over le_over
def thG (n:NodeD):ThD:=⟨n.kind,n.mode,n.uid,n.gid,n.mtime,n.data,n.target,[]⟩
def insG (gs:List NodeD) (es:List EntD):List (ByteArray×Nat):=es.map fun e=>(e.name,J gs e.id)
def plantP (gs:List NodeD) (i q:Nat):List ThD:=gs.zipIdx.map fun p=>{ thG p.1 with ins:=if p.2<i then insG gs p.1.ents else if p.2=i then insG gs (p.1.ents.take q) else [] }
def plantT (gs:List NodeD):List ThD:=plantP gs gs.length 0
def byL (hs:List Hn) (gs:List NodeD):List (Int×Nat):=(idx gs).map fun p=>(p.1,adr hs p.2)
theorem und_by:Tryz.prog.underlying 200=some (.map kI.ty 143):=Tryz.underlying200
structure FplI (B bg offg N c bb:Nat) (gs:List NodeD) (i:Nat) (w:World) (hs:List Hn) (wr:World):Prop where
 box:Blk wr w.heap.size 24 #[.slice (some ⟨bg,offg,none⟩) N c]
 len:hs.length=i
 tree:TreeAt wr B hs ((gs.take i).map thG)
 by_:IsMap kI cPt wr bb (byL hs (gs.take i))
 below:Below w.heap.size w wr
 dat:∀ (j:Nat) (t:ThD) (h:Hn),((gs.take i).map thG)[j]?=some t→hs[j]?=some h→DatV wr h.dv t.data
theorem plantP_get (gs:List NodeD) (i q k:Nat):(plantP gs i q)[k]?=gs[k]?.map fun n=>{ thG n with ins:=if k<i then insG gs n.ents else if k=i then insG gs (n.ents.take q) else [] }:=by
 unfold plantP
 rw [List.getElem?_map,List.getElem?_zipIdx]
 cases gs[k]? with
 | none=>rfl
 | some n=>simp
theorem plantP_len (gs:List NodeD) (i q:Nat):(plantP gs i q).length=gs.length:=by unfold plantP; simp
theorem plantP_at {gs:List NodeD} (i q:Nat) {k:Nat} (hk:k<gs.length):thD (plantP gs i q) k={ thG gs[k] with ins:=if k<i then insG gs gs[k].ents else if k=i then insG gs (gs[k].ents.take q) else [] }:=by
 unfold thD
 rw [List.getD_eq_getElem?_getD,plantP_get,List.getElem?_eq_getElem hk]; rfl
theorem plantP_zero (gs:List NodeD):plantP gs 0 0=gs.map thG:=by
 apply List.ext_getElem?
 intro k
 rw [plantP_get,List.getElem?_map]
 cases gs[k]? with
 | none=>rfl
 | some n =>
  simp only [Option.map_some]
  congr 1
  rw [if_neg (by omega),List.take_zero]
  show ThD.mk _ _ _ _ _ _ _ (if k=0 then insG gs [] else [])=_
  have:(if k=0 then insG gs [] else [])=([]:List (ByteArray×Nat)):=by split <;> rfl
  rw [this]; rfl
theorem plantP_next {gs:List NodeD} {i:Nat} (hi:i<gs.length):plantP gs i gs[i].ents.length=plantP gs (i+1) 0:=by
 apply List.ext_getElem?
 intro k
 rw [plantP_get,plantP_get]
 cases hk:gs[k]? with
 | none=>rfl
 | some n =>
  simp only [Option.map_some]
  congr 2
  by_cases h1:k<i
  ·rw [if_pos h1,if_pos (by omega)]
  ·rw [if_neg h1]
   by_cases h2:k=i
   ·subst h2
    rw [List.getElem?_eq_getElem hi] at hk
    injection hk with hk
    rw [if_pos rfl,if_pos (by omega),← hk,List.take_length]
   ·rw [if_neg h2,if_neg (by omega),List.take_zero]
    split <;> rfl
theorem plantP_step {gs:List NodeD} {i q:Nat} (hi:i<gs.length) (hq:q<gs[i].ents.length) (hn:gs[i].ents.Pairwise fun a b=>a.name≠b.name) :
  (plantP gs i q).set i { thD (plantP gs i q) i with ins:=putKv (thD (plantP gs i q) i).ins gs[i].ents[q].name (J gs gs[i].ents[q].id) }=plantP gs i (q+1):=by
 have hT:thD (plantP gs i q) i={ thG gs[i] with ins:=insG gs (gs[i].ents.take q) }:=by rw [plantP_at i q hi,if_neg (by omega),if_pos rfl]
 have hput:putKv (insG gs (gs[i].ents.take q)) gs[i].ents[q].name (J gs gs[i].ents[q].id)=insG gs (gs[i].ents.take (q+1)):=by
  have hno:hasKv (insG gs (gs[i].ents.take q)) gs[i].ents[q].name=false:=by
   rw [Bool.eq_false_iff]
   intro hh
   rw [hasKv_iff] at hh
   unfold insG at hh
   rw [List.map_map] at hh
   obtain ⟨e,he,hne⟩:=List.mem_map.1 hh
   obtain ⟨k,hk,hke⟩:=List.getElem_of_mem he
   rw [List.length_take] at hk
   rw [List.getElem_take] at hke
   rw [List.pairwise_iff_getElem] at hn
   refine hn k q (by omega) hq (by omega) ?_
   rw [hke]; exact hne
  unfold putKv
  rw [hno,List.take_succ_eq_append_getElem hq]
  unfold insG
  rw [List.map_append]; rfl
 rw [hT]
 apply List.ext_getElem?
 intro k
 rw [List.getElem?_set,plantP_len]
 by_cases hk:i=k
 ·subst hk
  rw [if_pos rfl,if_pos hi,plantP_get,List.getElem?_eq_getElem hi]
  simp only [Option.map_some]
  rw [if_neg (by omega),if_pos trivial,hput]
 ·rw [if_neg hk,plantP_get,plantP_get]
  cases gs[k]? with
  | none=>rfl
  | some n =>
   have hk':¬ k=i:=fun e=>hk e.symm
   simp only [Option.map_some,if_neg hk']
structure FplJ (bg offg N c bb:Nat) (gs:List NodeD) (i q:Nat) (w:World) (hs:List Hn) (wr:World):Prop where
 box:Blk wr w.heap.size 24 #[.slice (some ⟨bg,offg,none⟩) N c]
 tree:TreeAt wr (w.heap.size+2) hs (plantP gs i q)
 by_:IsMap kI cPt wr bb (byL hs gs)
 below:Below w.heap.size w wr
 dat:∀ (j:Nat) (t:ThD) (h:Hn),(plantP gs i q)[j]?=some t→hs[j]?=some h→DatV wr h.dv t.data
def StopP2 (p:Prop):Prop:=p
theorem StopP2.mk {p:Prop} (h:StopP2 p):p:=h
theorem scan_pair:∀ (l:List NodeD) (last:Int),scanB l last=true→(l.map (·.id)).Pairwise (·<·)
 | [],_,_=>List.Pairwise.nil
 | x :: l,last,h=>by
  unfold scanB at h
  simp only [Bool.and_eq_true,decide_eq_true_eq] at h
  obtain ⟨⟨⟨h1,h2⟩,h3⟩,h4⟩:=h
  rw [List.map_cons,List.pairwise_cons]
  refine ⟨fun y hy=>?_,scan_pair l x.id h4⟩
  obtain ⟨n,hn,rfl⟩:=List.mem_map.1 hy
  exact (scan_all l x.id h4 n hn).2.1
theorem wf_scan {gs:List NodeD} (h:WfG gs):scanB gs 0=true:=by
 have:=h.1
 unfold basicB at this
 simp only [Bool.and_eq_true] at this
 exact this.1.2
theorem wf_ids {gs:List NodeD} (h:WfG gs):((idx gs).map (·.1)).Nodup:=by
 rw [idx_keys]
 exact (scan_pair gs 0 (wf_scan h)).imp fun h=>by omega
theorem wf_at {gs:List NodeD} (h:WfG gs) {i:Nat} (hi:i<gs.length):getKv (idx gs) gs[i].id=some i:=
 kvAt (p:=(gs[i].id,i)) (wf_ids h) (idx_at gs (List.getElem?_eq_getElem hi))
theorem wf_kind {gs:List NodeD} (h:WfG gs) {n:NodeD} (hn:n∈gs):n.kind=1∨n.kind=2∨n.kind=3:=by
 have hs:=(scan_all gs 0 (wf_scan h) n hn).1
 unfold soundB withinB at hs
 simp only [Bool.and_eq_true,decide_eq_true_eq] at hs
 have:=hs.1.1.1.1.1.1
 omega
theorem byL_get {hs:List Hn} {gs:List NodeD} (id:Int):getKv (byL hs gs) id=(getKv (idx gs) id).map (adr hs):=by
 unfold getKv byL
 rw [List.find?_map]
 show Option.map _ (Option.map _ _)=Option.map _ (Option.map _ _)
 rw [Option.map_map,Option.map_map]; rfl
theorem idx_lt {gs:List NodeD}:∀ p∈idx gs,p.2<gs.length:=by
 intro p hp
 unfold idx at hp
 obtain ⟨q,hq,rfl⟩:=List.mem_map.1 hp
 obtain ⟨n,j⟩:=q
 exact (List.getElem?_eq_some_iff.1 (List.mem_zipIdx_iff_getElem?.1 hq)).1
theorem byL_push {hs:List Hn} {h:Hn} {gs:List NodeD} {i:Nat} (hW:WfG gs) (hi:i<gs.length) (hl:hs.length=i):putKv (byL hs (gs.take i)) gs[i].id h.a=byL (hs++[h]) (gs.take (i+1)):=by
 have hno:hasKv (byL hs (gs.take i)) gs[i].id=false:=by
  have h1:(byL hs (gs.take i)).map (·.1)=(gs.take i).map (·.id):=by
   unfold byL; rw [List.map_map,← idx_keys]; rfl
  rw [Bool.eq_false_iff]
  intro hh
  rw [hasKv_iff,h1] at hh
  obtain ⟨n,hn,he⟩:=List.mem_map.1 hh
  obtain ⟨k,hk,hkn⟩:=List.getElem_of_mem hn
  rw [List.length_take] at hk
  have hp:=scan_pair gs 0 (wf_scan hW)
  rw [List.pairwise_map,List.pairwise_iff_getElem] at hp
  have:=hp k i (by omega) hi (by omega)
  rw [List.getElem_take] at hkn
  rw [hkn] at this
  omega
 unfold putKv
 rw [hno]
 unfold byL
 rw [idx_take hi,List.map_append]
 have e1:(idx (gs.take i)).map (fun p=>(p.1,adr hs p.2))=(idx (gs.take i)).map (fun p=>(p.1,adr (hs++[h]) p.2)):=by
  refine List.map_congr_left fun p hp=>?_
  have:=idx_lt p hp
  rw [List.length_take] at this
  rw [adr_app (by omega)]
 rw [e1]
 have e2:adr (hs++[h]) i=h.a:=adr_at (by rw [List.getElem?_append_right (by omega),hl,Nat.sub_self]; rfl)
 simp [e2]
theorem FplI.push {bg offg N c i:Nat} {gs:List NodeD} {w wr wT w5:World} {hs:List Hn} {h:Hn} (hI:FplI (w.heap.size+2) bg offg N c (w.heap.size+1) gs i w hs wr) (hW:WfG gs) (hi:i<gs.length) (hb:Below wr.heap.size wr wT)
  (hk:Blk wT h.a 203 (thCells (thG gs[i]) h.dv (mapOf (thG gs[i]) h))) (hm:gs[i].kind=2→IsMap kN cPt wT h.m ([]:List (ByteArray×Nat))) (ha:wr.heap.size≤h.a) (hmm:wr.heap.size≤h.m) (hd:DatV w5 h.dv gs[i].data)
  (hm5:IsMap kI cPt w5 (w.heap.size+1) (putKv (byL hs (gs.take i)) gs[i].id h.a)) (ho5:Only (w.heap.size+1) wT w5):FplI (w.heap.size+2) bg offg N c (w.heap.size+1) gs (i+1) w (hs++[h]) w5:=by
 have hbl:=hI.by_.lt
 have hbox:=hI.box.lt
 have hsT:=hb.size
 have hwr:=hI.below.size
 have hgm:gs[i]∈gs:=List.getElem_mem hi
 have htk:(gs.take (i+1)).map thG=(gs.take i).map thG++[thG gs[i]]:=by rw [List.take_succ_eq_append_getElem hi,List.map_append]; rfl
 have hK:∀ k,k<wT.heap.size→k≠w.heap.size+1→w5.heap[k]?=wT.heap[k]?:=fun k _ hk=>ho5.block k hk
 have hlen:((gs.take i).map thG).length=i:=by rw [List.length_map,List.length_take]; omega
 have hby:∀ k,inTree hs ((gs.take i).map thG) k→k≠w.heap.size+1:=fun k hk=>by have:=(hI.tree.lt hk).2; omega
 have t1:TreeAt wT (w.heap.size+2) hs ((gs.take i).map thG):=hI.tree.below hb
 have t5:TreeAt w5 (w.heap.size+2) hs ((gs.take i).map thG):=t1.keeps fun k hk=>hK k (t1.lt hk).1 (hby k hk)
 have hh:h.a≠w.heap.size+1∧h.m≠w.heap.size+1:=by omega
 have hB5:Below w.heap.size wT w5:=⟨ho5.os,ho5.tape,ho5.output,Nat.le_of_eq ho5.size.symm,fun n hn=>ho5.block n (by omega)⟩
 have hsz5:=ho5.size
 refine ⟨(ho5.block _ (by omega)).trans (hI.box.below hb hbox),by rw [List.length_append,hI.len]; rfl,?_,?_,hI.below.trans ((hb.mono hwr).trans hB5),?_⟩
 ·rw [htk]
  refine t5.push ((ho5.block _ hh.1).trans hk) (fun h2=>by
    have hm':=hm h2
    exact hm'.of_block (ho5.block _ hh.2)) (wf_kind hW hgm) ⟨fun _=>rfl,fun p hp=>by cases hp⟩ (fun j s k e1 e2=>⟨fun e=>?_,fun e3 e=>?_⟩) ⟨by omega,by omega⟩
  ·have:=(hI.tree.blk j s k e1 e2).lt; omega
  ·have:=(hI.tree.map j s k e1 e2 e3).lt; omega
 ·rw [← byL_push hW hi hI.len]; exact hm5
 ·intro j t k e1 e2
  by_cases hj:j<i
  ·rw [htk,List.getElem?_append_left (by rw [hlen]; exact hj)] at e1
   rw [List.getElem?_append_left (by rw [hI.len]; exact hj)] at e2
   exact ((hI.dat j t k e1 e2).cng (M:=fun _=>False) (Cng.of_below hb) (fun _ h=>h.elim)).cng (M:=fun n=>n=w.heap.size+1) ⟨ho5.os,ho5.tape,ho5.output,Nat.le_of_eq ho5.size.symm,fun n _ hn=>ho5.block n hn⟩ (fun n hn=>by rw [hn]; exact nobyte_map (hI.by_.of_block (hb.block _ hbl)))
  ·have h1:=(List.getElem?_eq_some_iff.1 e2).1
   rw [List.length_append,hI.len] at h1
   have h1:j=i:=by simp at h1; omega
   subst h1
   rw [htk,List.getElem?_append_right (by rw [hlen]; exact Nat.le_refl _),hlen,Nat.sub_self] at e1
   rw [List.getElem?_append_right (by rw [hI.len]; exact Nat.le_refl _),hI.len,Nat.sub_self] at e2
   injection e1 with e1
   injection e2 with e2
   subst e1 e2
   exact hd
theorem ents_le {gs:List NodeD} (h:WfG gs) {n:NodeD} (hn:n∈gs):n.ents.length≤8192:=by
 have h1:=h.1
 unfold basicB at h1
 simp only [Bool.and_eq_true,decide_eq_true_eq] at h1
 have h2:∀ (l:List NodeD),n∈l→n.ents.length≤entsSum l:=by
  intro l
  induction l with
  | nil=>intro h; cases h
  | cons x l ih =>
   intro h
   rw [entsSum]
   rcases List.mem_cons.1 h with rfl | h
   ·omega
   ·have:=ih h; omega
 have:=h2 gs hn
 omega
theorem ent_facts {gs:List NodeD} {hs:List Hn} (hW:WfG gs) {i q:Nat} (hi:i<gs.length) (hq:q<gs[i].ents.length) :
  gs[i].kind=2∧getKv (byL hs gs) gs[i].id=some (adr hs i)∧getKv (byL hs gs) gs[i].ents[q].id=some (adr hs (J gs gs[i].ents[q].id))∧J gs gs[i].ents[q].id<gs.length∧gs[i].ents.Pairwise fun a b=>a.name≠b.name:=by
 obtain ⟨rank,hF⟩:=fit_of hW
 have hgm:gs[i]∈gs:=List.getElem_mem hi
 have hat:=wf_at hW hi
 have hG:G gs gs[i].id=gs[i]:=by rw [G_get hat,List.getD_eq_getElem?_getD,List.getElem?_eq_getElem hi]; rfl
 have hkn:Known gs gs[i].id:=⟨i,hat⟩
 obtain ⟨j,hj⟩:=hF.known gs[i].id gs[i].ents[q] hkn (by rw [hG]; exact List.getElem_mem hq)
 refine ⟨?_,by rw [byL_get,hat]; rfl,by rw [byL_get,hj,J_get hj]; rfl,by rw [J_get hj]; exact (idx_get hj).1,by have:=hF.names gs[i].id hkn; rwa [hG] at this⟩
 by_cases hk:gs[i].kind=2
 ·exact hk
 ·have:=sound_leaf (scan_all gs 0 (wf_scan hW) _ hgm).1 hk
  rw [this] at hq; cases hq
theorem FplJ.step {bg offg N c i q:Nat} {gs:List NodeD} {w wr wy w5:World} {hs:List Hn} {dh:Hn} (hJ:FplJ bg offg N c (w.heap.size+1) gs i q w hs wr) (hW:WfG gs) (hi:i<gs.length) (hq:q<gs[i].ents.length) (hh:hs[i]?=some dh) (hb:Below wr.heap.size wr wy)
  (hm5:IsMap kN cPt w5 dh.m (putKv (insA hs (thD (plantP gs i q) i).ins) gs[i].ents[q].name (adr hs (J gs gs[i].ents[q].id)))) (ho5:Only dh.m wy w5):FplJ bg offg N c (w.heap.size+1) gs i (q+1) w hs w5:=by
 obtain ⟨hk2,_,_,hjl,hpw⟩:=ent_facts (hs:=hs) hW hi hq
 have hil:i<(plantP gs i q).length:=by rw [plantP_len]; exact hi
 have hkd:(thD (plantP gs i q) i).kind=2:=by rw [plantP_at i q hi]; exact hk2
 have t1:=hJ.tree.below hb
 have hin:inTree hs (plantP gs i q) dh.m:=⟨i,_,dh,thD_at hil,hh,.inr ⟨hkd,rfl⟩⟩
 have hlo:=(hJ.tree.lt hin).2
 have hmb:dh.m≠dh.a:=(hJ.tree.map i _ dh (thD_at hil) hh hkd).ne_blk (hJ.tree.blk i _ dh (thD_at hil) hh)
 have hsw:=hJ.below.size
 have hbl:=hJ.by_.lt
 have hbx:=hJ.box.lt
 have hB5:Below w.heap.size wy w5:=⟨ho5.os,ho5.tape,ho5.output,Nat.le_of_eq ho5.size.symm,fun n hn=>ho5.block n (by omega)⟩
 rw [insA_put] at hm5
 have hT:TreeAt w5 (w.heap.size+2) hs ((plantP gs i q).set i { thD (plantP gs i q) i with ins:=putKv (thD (plantP gs i q) i).ins gs[i].ents[q].name (J gs gs[i].ents[q].id) }):=by
  refine t1.upd (thD_at hil) hh rfl ?_ (fun _=>hm5) ⟨fun e=>absurd hkd e,fun p hp=>?_⟩ ⟨ho5.os,ho5.tape,ho5.output,Nat.le_of_eq ho5.size.symm,fun n _ hn=>ho5.block n (fun e=>hn (.inr ⟨hkd,e⟩))⟩
  ·have:=(ho5.block dh.a (fun e=>hmb e.symm)).trans (t1.blk i _ dh (thD_at hil) hh)
   exact this
  ·rcases mem_put hp with hp | hp
   ·exact (t1.ok i _ (thD_at hil)).2.2 p hp
   ·rw [hp,plantP_len]; exact hjl
 rw [plantP_step hi hq hpw] at hT
 refine ⟨(ho5.block _ (by omega)).trans (hJ.box.below hb hbx),hT,(hJ.by_.of_block (hb.block _ hbl)).of_block (ho5.block _ (by omega)),hJ.below.trans ((hb.mono hsw).trans hB5),?_⟩
 intro j t h e1 e2
 have hj:j<gs.length:=by have:=(List.getElem?_eq_some_iff.1 e1).1; rwa [plantP_len] at this
 have e3:(plantP gs i q)[j]?=some (thD (plantP gs i q) j):=thD_at (by rw [plantP_len]; exact hj)
 have hd:t.data=(thD (plantP gs i q) j).data:=by
  have:=thD_at (ths:=plantP gs i (q+1)) (j:=j) (by rw [plantP_len]; exact hj)
  rw [e1] at this
  injection this with this
  rw [this,plantP_at _ _ hj,plantP_at _ _ hj]
 rw [hd]
 exact ((hJ.dat j _ h e3 e2).cng (M:=fun _=>False) (Cng.of_below hb) (fun _ h=>h.elim)).cng (M:=fun n=>n=dh.m) ⟨ho5.os,ho5.tape,ho5.output,Nat.le_of_eq ho5.size.symm,fun n _ hn=>ho5.block n hn⟩ (fun n hn=>by rw [hn]; exact nobyte_map (t1.map i _ dh (thD_at hil) hh hkd))
theorem FplJ.below_ {bg offg N c i q : Nat} {gs : List NodeD} {w wr wy : World} {hs : List Hn} (hJ : FplJ bg offg N c (w.heap.size + 1) gs i q w hs wr) (hb : Below wr.heap.size wr wy) : FplJ bg offg N c (w.heap.size + 1) gs i q w hs wy :=
  ⟨hJ.box.below hb hJ.box.lt, hJ.tree.below hb, hJ.by_.of_block (hb.block _ hJ.by_.lt), hJ.below.trans (hb.mono hJ.below.size), fun j t h e1 e2 => (hJ.dat j t h e1 e2).cng (M := fun _ => False) (Cng.of_below hb) (fun _ h => h.elim)⟩
theorem foldPlant {bg offg N c i0 : Nat} {gs : List NodeD} (w : World) (hW : WfG gs) (hR : getKv (idx gs) 1 = some i0) (hg : Row Shape.NodeD w (Old w) (some ⟨bg, offg, none⟩) N gs) (hN : N ≤ 1000000000) :
    Calls Tryz.prog 75 #[.agg #[.slice (some ⟨bg, offg, none⟩) N c]] w fun e w' => ∃ hs, e = .returned (.pointer (some ⟨adr hs i0, 0, none⟩)) ∧ Below w.heap.size w w' ∧ TreeAt w' w.heap.size hs (plantT gs) ∧ (∀ (j : Nat) (t : ThD) (h : Hn), (plantT gs)[j]? = some t → hs[j]? = some h → DatV w' h.dv t.data) := by
  have HW := Lib.hid hW; have HR := Lib.hid hR; have HG := Lib.hid hg
  have hl := hg.1
  clear hW hR hg
  have hmm := @run_makeMap Tryz.prog
  go_enter Tryz.func75, Tryz.ntmps75
  go_wp2_with fail
  go_loopw [15] (fun v15 wr => ∃ (i : Nat) (hs : List Hn), i ≤ N ∧ v15 = .int .i64 i ∧ FplI (w.heap.size + 2) bg offg N c (w.heap.size + 1) gs i w hs wr) (fun v15 _ => N - (intOf v15).toNat)
  case atStart =>
    refine ⟨0, [], Nat.zero_le _, rfl, (Blk.new w _ _).alloc _, rfl, ⟨rfl, (fun _ _ _ e => by simp at e), (fun _ _ _ e => by simp at e), (fun _ _ _ _ e => by simp at e), (fun _ _ _ _ _ _ e => by simp at e), (fun _ _ e => by simp at e), fun _ h => by cases h⟩, IsMap.new' (by simp), (below_alloc' _ _).trans ((below_alloc' _ _).mono (by simp)), fun _ _ _ e => by simp at e⟩
  case round =>
    obtain ⟨i, hs, hi, rfl, hI⟩ := hrel
    have HI := Lib.hid hI
    by_cases hlt : i < N
    · have hls : (i : Int) < N := by omega
      have hil : i < gs.length := by rw [hl]; exact hlt
      obtain ⟨d, hd⟩ : ∃ x, x = gs[i] := ⟨_, rfl⟩
      obtain ⟨A1, c1, A2, c2, hI64, hcell⟩ := node_at (Nat.le_refl _) HG.out hil hd
      obtain ⟨k0, k1, k2, k3, k4, k5, k6, k7, k8, k9, lbg, hrd, hre⟩ := hcell wr hI.below
      have HC := Lib.hid hcell; have HRD := Lib.hid hrd
      have lmap := hI.by_.lt; have lbox := hI.box.lt
      have hbox0 := hI.box.cell 0
      simp only [List.getElem?_toArray, List.getElem?_cons_zero] at hbox0
      have HD := Lib.hid hd
      clear hI hcell hrd hre hd
      by_cases hk2 : d.kind = 2
      · have hkb : (d.kind == 2) = true := by simpa using hk2
        go_wp2_with (refine wpList_mapUpdate_kv rfl (.tmp 43) (.tmp 45) (.tmp 46) _ rfl (K := kI) (cv := cPt) und_by (b := w.heap.size + 1) (kv := byL hs (gs.take i)) (((HI.out.by_.alloc _).alloc _).alloc _) d.id (wr.heap.size + 1) rfl rfl rfl (fun w5 hm5 ho5 => StopP2.mk ?_))
        unfold StopP2
        have HM5 := Lib.hid hm5; have HO5 := Lib.hid ho5
        have HD5 : Hid (Row Shape.byte w5 (Old w5) A1 d.data.length d.data) := Lib.hid (by
          have hs5 := ho5.size
          have hsw := HI.out.below.size
          simp only [World.size_alloc] at hs5
          refine (HRD.out.keep fun n hn => (ho5.block n (by omega)).trans ?_).more fun n hn => ?_
          · exact (((below_alloc' _ _).trans ((below_alloc' _ _).mono (by simp))).trans ((below_alloc' _ _).mono (by simp; omega))).block n (by omega)
          · show n < w5.heap.size; omega)
        clear hm5 ho5
        go_wp2_with fail
        go_roundw
        case rel =>
          refine ⟨i + 1, hs ++ [⟨wr.heap.size + 1, wr.heap.size + 1 + 1, .slice A1 d.data.length c1⟩], by omega, by go_num, ?_⟩
          refine HI.out.push HW.out hil ?_ ?_ ?_ ?_ ?_ ?_ (by rw [← HD.out]; exact HM5.out) HO5.out
          · exact ((below_alloc' _ _).trans ((below_alloc' _ _).mono (by simp))).trans ((below_alloc' _ _).mono (by simp; omega))
          · rw [← HD.out]
            have e : thCells (thG d) (.slice A1 d.data.length c1) (mapOf (thG d) ⟨wr.heap.size + 1, wr.heap.size + 1 + 1, .slice A1 d.data.length c1⟩) = #[.string ⟨#[]⟩, .int .i64 2, .int .i64 d.mode, .int .i64 d.uid, .int .i64 d.gid, .int .i64 d.mtime.sec, .int .i64 d.mtime.nano, .slice A1 d.data.length c1, .string d.target, .string ⟨#[]⟩, .map (some (wr.heap.size + 1 + 1))] := by simp [thCells, thG, mapOf, hk2]
            rw [e]
            exact (Blk.new' (by simp)).alloc _
          · exact fun _ => IsMap.new' (by simp)
          · show _ ≤ wr.heap.size + 1; omega
          · show _ ≤ wr.heap.size + 1 + 1; omega
          · rw [← HD.out]
            have := HI.out.below.size
            exact ⟨A1, c1, hI64.2.2.2.2.2.2.2.2, rfl, HD5.out⟩
        case measure => simp [intOf]; omega
      · have hkb : (d.kind == 2) = false := by simpa using hk2
        go_wp2_with (refine wpList_mapUpdate_kv rfl (.tmp 43) (.tmp 45) (.tmp 46) _ rfl (K := kI) (cv := cPt) und_by (b := w.heap.size + 1) (kv := byL hs (gs.take i)) ((HI.out.by_.alloc _).alloc _) d.id (wr.heap.size + 1) rfl rfl rfl (fun w5 hm5 ho5 => StopP2.mk ?_))
        unfold StopP2
        have HM5 := Lib.hid hm5; have HO5 := Lib.hid ho5
        have HD5 : Hid (Row Shape.byte w5 (Old w5) A1 d.data.length d.data) := Lib.hid (by
          have hs5 := ho5.size
          have hsw := HI.out.below.size
          simp only [World.size_alloc] at hs5
          refine (HRD.out.keep fun n hn => (ho5.block n (by omega)).trans ?_).more fun n hn => ?_
          · exact ((below_alloc' _ _).trans ((below_alloc' _ _).mono (by simp))).block n (by omega)
          · show n < w5.heap.size; omega)
        clear hm5 ho5
        go_wp2_with fail
        go_roundw
        case rel =>
          refine ⟨i + 1, hs ++ [⟨wr.heap.size + 1, wr.heap.size + 1, .slice A1 d.data.length c1⟩], by omega, by go_num, ?_⟩
          refine HI.out.push HW.out hil ?_ ?_ ?_ ?_ ?_ ?_ (by rw [← HD.out]; exact HM5.out) HO5.out
          · exact (below_alloc' _ _).trans ((below_alloc' _ _).mono (by simp))
          · rw [← HD.out]
            have e : thCells (thG d) (.slice A1 d.data.length c1) (mapOf (thG d) ⟨wr.heap.size + 1, wr.heap.size + 1, .slice A1 d.data.length c1⟩) = #[.string ⟨#[]⟩, .int .i64 d.kind, .int .i64 d.mode, .int .i64 d.uid, .int .i64 d.gid, .int .i64 d.mtime.sec, .int .i64 d.mtime.nano, .slice A1 d.data.length c1, .string d.target, .string ⟨#[]⟩, .map none] := by simp [thCells, thG, mapOf, hk2]
            rw [e]
            exact Blk.new' (by simp)
          · exact fun h => absurd (by rw [HD.out]; exact h) hk2
          · show _ ≤ wr.heap.size + 1; omega
          · show _ ≤ wr.heap.size + 1; omega
          · rw [← HD.out]
            have := HI.out.below.size
            exact ⟨A1, c1, hI64.2.2.2.2.2.2.2.2, rfl, HD5.out⟩
        case measure => simp [intOf]; omega
    · have hin : i = N := by omega
      have HJ : Hid (FplJ bg offg N c (w.heap.size + 1) gs 0 0 w hs wr) := Lib.hid (by
        have e : gs.take i = gs := List.take_of_length_le (by omega)
        refine ⟨HI.out.box, ?_, ?_, HI.out.below, ?_⟩
        · rw [plantP_zero]; have := HI.out.tree; rwa [e] at this
        · have := HI.out.by_; rwa [e] at this
        · rw [plantP_zero]; have := HI.out.dat; rwa [e] at this)
      have hbox0 := HI.out.box.cell 0; have lbox := HI.out.box.lt
      simp only [List.getElem?_toArray, List.getElem?_cons_zero] at hbox0
      have hls : ¬ (i : Int) < N := by omega
      clear HI hI
      go_wp2_with fail
      clear hbox0 lbox hls
      go_loopw [51] (fun v51 wr2 => ∃ (i : Nat), i ≤ N ∧ v51 = .int .i64 i ∧ FplJ bg offg N c (w.heap.size + 1) gs i 0 w hs wr2) (fun v51 _ => N - (intOf v51).toNat)
      case atStart => exact ⟨0, Nat.zero_le _, rfl, HJ.out⟩
      case round =>
        obtain ⟨i, hi, rfl, hJ⟩ := hrel
        have HJi := Lib.hid hJ
        clear HJ
        by_cases hlt : i < N
        · have hls : (i : Int) < N := by omega
          have hil : i < gs.length := by rw [hl]; exact hlt
          obtain ⟨d, hd⟩ : ∃ x, x = gs[i] := ⟨_, rfl⟩
          obtain ⟨A1, c1, A2, c2, hI64, hcell⟩ := node_at (Nat.le_refl _) HG.out hil hd
          obtain ⟨k0, k1, k2, k3, k4, k5, k6, k7, k8, k9, lbg, hrd, hre⟩ := hcell wr hJ.below
          have HC := Lib.hid hcell
          obtain ⟨n2, hn2⟩ : ∃ x, x = d.ents.length := ⟨_, rfl⟩
          rw [← hn2] at k9
          have HN2 := Lib.hid hn2; have HD := Lib.hid hd
          have hn2b : n2 < 9223372036854775807 := by have := ents_le HW.out (n := d) (by rw [HD.out]; exact List.getElem_mem hil); omega
          clear hJ hcell hrd hre hn2 hd
          go_wp2_with fail
          obtain ⟨Jn, hJn⟩ : ∃ x, x = wr.heap.size := ⟨_, rfl⟩
          have BN : Hid (Blk (wr.alloc (.cells #[.int .i64 d.id, .int .i64 d.kind, .int .i64 d.mode, .int .i64 d.uid, .int .i64 d.gid, .int .i64 d.mtime.sec, .int .i64 d.mtime.nano, .slice A1 d.data.length c1, .string d.target, .slice A2 n2 c2] 79)) Jn 79 #[.int .i64 d.id, .int .i64 d.kind, .int .i64 d.mode, .int .i64 d.uid, .int .i64 d.gid, .int .i64 d.mtime.sec, .int .i64 d.mtime.nano, .slice A1 d.data.length c1, .string d.target, .slice A2 n2 c2]) := Lib.hid (Blk.new' hJn)
          rw [← hJn]
          have HJA : Hid (FplJ bg offg N c (w.heap.size + 1) gs i 0 w hs (wr.alloc (.cells #[.int .i64 d.id, .int .i64 d.kind, .int .i64 d.mode, .int .i64 d.uid, .int .i64 d.gid, .int .i64 d.mtime.sec, .int .i64 d.mtime.nano, .slice A1 d.data.length c1, .string d.target, .slice A2 n2 c2] 79))) := Lib.hid (HJi.out.below_ (below_alloc' _ _))
          clear k0 k1 k2 k3 k4 k5 k6 k7 k8 k9 lbg hJn
          go_loopw [58] (fun v58 wr3 => ∃ (q : Nat), q ≤ n2 ∧ v58 = .int .i64 q ∧ FplJ bg offg N c (w.heap.size + 1) gs i q w hs wr3 ∧ Blk wr3 Jn 79 #[.int .i64 d.id, .int .i64 d.kind, .int .i64 d.mode, .int .i64 d.uid, .int .i64 d.gid, .int .i64 d.mtime.sec, .int .i64 d.mtime.nano, .slice A1 d.data.length c1, .string d.target, .slice A2 n2 c2]) (fun v58 _ => n2 - (intOf v58).toNat)
          case atStart => exact ⟨0, Nat.zero_le _, rfl, HJA.out, BN.out⟩
          case round =>
            obtain ⟨q, hq, rfl, hJ3, hBN⟩ := hrel
            have HJ3 := Lib.hid hJ3; have HBN := Lib.hid hBN
            clear HJA BN
            by_cases hlt2 : q < n2
            · have hqs : (q : Int) < n2 := by omega
              obtain ⟨-, -, -, -, -, -, -, -, -, -, -, -, hre⟩ := HC.out wr HJ3.out.below
              obtain ⟨b2, off2, es2, hkl, hA2, hbm, hc, hr⟩ := hre.at_ (by rw [← HN2.out]; exact hlt2)
              subst hA2
              obtain ⟨he2, hsz2, _⟩ := hr
              subst he2
              have e13 : Shape.EntD.size = 2 := rfl
              have c0 := hc 0 (by decide); have c1' := hc 1 (by decide)
              simp only [e13, Nat.add_zero, List.getElem?_cons_zero, List.getElem?_cons_succ] at c0 c1'
              have lb2 : b2 < wr.heap.size := by have := HJ3.out.below.size; omega
              obtain ⟨en, hen⟩ : ∃ x, x = d.ents[q] := ⟨_, rfl⟩
              rw [← hen] at c0 c1'
              have HEN := Lib.hid hen
              have hqe : q < gs[i].ents.length := by rw [← HD.out, ← HN2.out]; exact hlt2
              obtain ⟨hk2, hg1, hg2, hjl, hpw⟩ := ent_facts (hs := hs) HW.out hil hqe
              have hdn : gs[i].ents[q] = en := by rw [hen]; congr 2; exact HD.out.symm
              rw [hdn] at hg2 hjl
              have hid : gs[i].id = d.id := by rw [HD.out]
              rw [hid] at hg1
              obtain ⟨dh, hdh⟩ := HJ3.out.tree.hand (thD_at (by rw [plantP_len]; exact hil))
              have hpl : i < (plantP gs i q).length := by rw [plantP_len]; exact hil
              have BD := HJ3.out.tree.blk i _ dh (thD_at hpl) hdh
              have hkd : (thD (plantP gs i q) i).kind = 2 := by rw [plantP_at i q hil]; exact hk2
              have MD := HJ3.out.tree.map i _ dh (thD_at hpl) hdh hkd
              have hmo : mapOf (thD (plantP gs i q) i) dh = some dh.m := if_pos hkd
              rw [hmo] at BD
              rw [adr_at hdh] at hg1
              have lD := BD.lt; have x10 := BD.cell 10
              unfold thCells at x10
              simp only [List.getElem?_toArray, List.getElem?_cons_succ, List.getElem?_cons_zero] at x10
              obtain ⟨je, hje⟩ : ∃ x, x = J gs en.id := ⟨_, rfl⟩
              rw [← hje] at hg2 hjl
              have HJE := Lib.hid hje; have HG1 := Lib.hid hg1; have HG2 := Lib.hid hg2; have HDN := Lib.hid hdn; have HID := Lib.hid hid; have HDH := Lib.hid hdh; have HMD := Lib.hid MD; have HBD := Lib.hid BD
              have k0 := hBN.cell 0; have lbn := hBN.lt
              simp only [List.getElem?_toArray, List.getElem?_cons_zero] at k0
              clear hJ3 hBN hre hc hen hg1 hg2 hdn hid hdh MD BD hmo hje hkd hk2 hpw
              go_wp2_with fail
              obtain ⟨Je, hJe⟩ : ∃ x, x = wr.heap.size := ⟨_, rfl⟩
              obtain ⟨wy, hwy⟩ : ∃ x, x = wr.alloc (.cells #[.string en.name, .int .i64 en.id] 103) := ⟨_, rfl⟩
              rw [← hJe, ← hwy]
              have HBY : Hid (Below wr.heap.size wr wy) := Lib.hid (by rw [hwy]; exact below_alloc' _ _)
              have BE : Hid (Blk wy Je 103 #[.string en.name, .int .i64 en.id]) := Lib.hid (by rw [hwy]; exact Blk.new' hJe)
              have HJY := Lib.hid (HJ3.out.below_ HBY.out)
              have HMY : Hid (IsMap kN cPt wy dh.m (insA hs (thD (plantP gs i q) i).ins)) := Lib.hid (HMD.out.of_block (HBY.out.block _ HMD.out.lt))
              have HBDY := Lib.hid (HBD.out.below HBY.out HBD.out.lt)
              have HBNY := Lib.hid (HBN.out.below HBY.out HBN.out.lt)
              have k0 := HBNY.out.cell 0; have lbn := HBNY.out.lt; have x10 := HBDY.out.cell 10; have lD := HBDY.out.lt; have e0 := BE.out.cell 0; have e1 := BE.out.cell 1; have le := BE.out.lt
              unfold thCells at x10
              simp only [List.getElem?_toArray, List.getElem?_cons_succ, List.getElem?_cons_zero] at x10 k0 e0 e1
              clear hJe hwy c0 c1' lb2 hsz2 hbm
              have hzp : ∀ w, (zeroValue 143).run Tryz.prog w = .ok (.pointer none) w := fun w => Tryz.zeroValue143 w
              have L1 : ∀ δ, (Instr.lookup 200 (.map (some (w.heap.size + 1))) (.int .i64 d.id) false).run Tryz.prog (over wy δ) = .ok (.pointer (some ⟨dh.a, 0, none⟩)) (over wy δ) := fun δ => by
                have := run_lookup_kv0 und_by (HJY.out.by_.over_ δ) d.id (hzp (over wy δ))
                rw [HG1.out] at this
                exact this
              have L2 : ∀ δ, (Instr.lookup 200 (.map (some (w.heap.size + 1))) (.int .i64 en.id) false).run Tryz.prog (over wy δ) = .ok (.pointer (some ⟨adr hs je, 0, none⟩)) (over wy δ) := fun δ => by
                have := run_lookup_kv0 und_by (HJY.out.by_.over_ δ) en.id (hzp (over wy δ))
                rw [HG2.out] at this
                exact this
              refine wp_region_grow_t [] 13 _ rfl (by kernel_rfl) [] rfl (by kernel_rfl) stays_nil ?_
              simp only [List.take_succ_cons, List.take_zero, List.drop_succ_cons, List.drop_zero]
              repeat (first
                | (refine g_w rfl ?_ (fun W => ?_) ?_; rotate_left; (focus (go_simp; (try with_reducible rfl); done)); simp only [Act.put, List.setIfInBounds_toArray, List.set_cons_zero, List.set_cons_succ])
                | (refine g_d rfl (by kernel_rfl) ?_ (fun δ => ?_) ?_; rotate_left; (focus (go_simp; (try with_reducible rfl); done)); simp only [Act.put, List.setIfInBounds_toArray, List.set_cons_zero, List.set_cons_succ]))
              refine g_end fun δ _ => ?_
              have HO := Lib.hid (HMY.out.over_ δ)
              refine endT_mapUpd (.tmp 68) (.tmp 70) (.tmp 74) _ rfl und_in (K := kN) (cv := cPt) HO.out en.name (adr hs je) rfl rfl rfl (fun w5 hm5 ho5 => ?_)
              have HM5 := Lib.hid hm5; have HO5 := Lib.hid ho5
              clear hm5 ho5
              simp only [Act.put, List.setIfInBounds_toArray, List.set_cons_zero, List.set_cons_succ]
              refine g_tail_end ?_
              have HJ5 : Hid (FplJ bg offg N c (w.heap.size + 1) gs i (q + 1) w hs w5) := Lib.hid (by
                have hO5 : Only dh.m (over wy δ) w5 := HO5.out
                refine HJ3.out.step HW.out hil hqe HDH.out (HBY.out.trans ((below_over wy δ).mono HBY.out.size)) ?_ hO5
                rw [HDN.out, ← HJE.out]
                exact HM5.out)
              have HBN5 : Hid (Blk w5 Jn 79 #[.int .i64 d.id, .int .i64 d.kind, .int .i64 d.mode, .int .i64 d.uid, .int .i64 d.gid, .int .i64 d.mtime.sec, .int .i64 d.mtime.nano, .slice A1 d.data.length c1, .string d.target, .slice (some ⟨b2, off2, none⟩) n2 c2]) := Lib.hid (by
                have h1 := HBNY.out.over_ δ
                exact (HO5.out.block Jn (HMY.out.ne_blk HBNY.out).symm).trans h1)
              go_wp2_with fail
              go_roundw
              case rel => exact ⟨q + 1, by omega, by go_num, HJ5.out, HBN5.out⟩
              case measure => simp [intOf]; omega
            · have hqe : q = n2 := by omega
              have hqs : ¬ (q : Int) < n2 := by omega
              have HJN : Hid (FplJ bg offg N c (w.heap.size + 1) gs (i + 1) 0 w hs wr) := Lib.hid (by
                have e : n2 = gs[i].ents.length := by rw [HN2.out, HD.out]
                have h1 := HJ3.out
                rw [hqe, e] at h1
                have e2 := plantP_next hil
                exact ⟨h1.box, by rw [← e2]; exact h1.tree, h1.by_, h1.below, by rw [← e2]; exact h1.dat⟩)
              clear hJ3 hBN
              go_wp2_with fail
              go_roundw
              case rel => exact ⟨i + 1, by omega, by go_num, HJN.out⟩
              case measure => simp [intOf]; omega
        · have hie : i = N := by omega
          have hls : ¬ (i : Int) < N := by omega
          have HR1 : Hid (getKv (byL hs gs) 1 = some (adr hs i0)) := Lib.hid (by rw [byL_get, HR.out]; rfl)
          have HE : Hid (plantP gs i 0 = plantT gs) := Lib.hid (by unfold plantT; rw [hie, hl])
          have HBY := Lib.hid hJ.by_
          clear hJ
          go_wp2_with (refine wpList_lookup_kv0 rfl (.tmp 77) (.const (.int .i64 1)) _ rfl (K := kI) (cv := cPt) und_by (b := w.heap.size + 1) (kv := byL hs gs) HBY.out 1 (z := .pointer none) (Tryz.zeroValue143 _) rfl rfl ?_
                       rw [HR1.out]
                       dsimp only [Option.map, Option.getD, cPt])
          go_ret
          refine ⟨hs, rfl, HJi.out.below, ?_, ?_⟩
          · rw [← HE.out]
            have := HJi.out.tree
            exact ⟨this.len, this.blk, this.map, this.ainj, this.minj, this.ok, fun h hh => by have := this.lo h hh; omega⟩
          · rw [← HE.out]; exact HJi.out.dat
end Go.Proofs.YtfhfcipelgogjaaGreatDoor
