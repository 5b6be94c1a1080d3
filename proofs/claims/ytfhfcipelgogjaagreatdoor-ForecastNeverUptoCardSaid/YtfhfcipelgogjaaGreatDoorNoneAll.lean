/- What forecast.tell answers, in plain words. No code. A forecast without an entry that is wanted. Plain. forecast.Tree at the law's own example. Plain. -/
import Derived.Test.YtfhfcipelgogjaaGreatDoorFOk
import Derived.Test.YtfhfcipelgogjaaGreatDoorPlant0
import Derived.Test.YtfhfcipelgogjaaGreatDoorFWalk
import Derived.Test.YtfhfcipelgogjaaGreatDoorFinish
import Derived.Test.YtfhfcipelgogjaaGreatDoorFAdd
import Derived.KernelRfl
set_option linter.unusedSectionVars false
set_option linter.unusedVariables false
set_option linter.unusedSimpArgs false
namespace Go.Proofs.YtfhfcipelgogjaaGreatDoor
open Go.RowKit
structure FcD where
 lines:List LineD
 done:List DoneD
 code:Int
 index:Int
def failF (c:Int):FcD:=⟨[],[],c,0⟩
def TreeOf (ps:PSt) (ls:List LineD):Prop:=∃ i,RootG ps.nodes 1 i∧(tree0 ps.nodes i).2=true∧(tree0 ps.nodes i).1.out=ls
theorem wf_no {gs:List NodeD} (h:WfG gs):¬ NotWfG gs:=by
 obtain ⟨h1,kv,h2,h3⟩:=h
 rintro (h | h | ⟨kv',h4,h5⟩)
 ·rw [h1] at h; cases h
 ·rw [h2] at h; cases h
 ·rw [h2] at h4; injection h4 with h4; subst h4; exact h5 (falls_of h3)
theorem root_no {gs:List NodeD} {r:Int} {i:Nat} (h:RootG gs r i):¬ NoRootG gs r:=by
 obtain ⟨h1,h2,h3⟩:=h
 rintro (h | h | ⟨j,h4,h5⟩)
 ·exact wf_no h1 h
 ·rw [h2] at h; cases h
 ·rw [h2] at h4; injection h4 with h4; subst h4; exact h5 h3
theorem not_treeOf {ps:PSt} {ls:List LineD} (h:NoRootG ps.nodes 1∨∃ i,RootG ps.nodes 1 i∧¬ (tree0 ps.nodes i=(⟨ls,(tree0 ps.nodes i).1.first,(tree0 ps.nodes i).1.bytes⟩,true))):¬ TreeOf ps ls:=by
 rintro ⟨i,h1,h2,h3⟩
 rcases h with h | ⟨j,h4,h5⟩
 ·exact root_no h1 h
 ·have e:i=j:=by have a:=h1.2.1; have b:=h4.2.1; rw [a] at b; injection b
  subst e
  apply h5
  rw [← h3,← h2]
def foldF (ths:List ThD) (r:Nat) (es:List EntryD) (code:Int) (c:ConfigD) (now:TimeD):FcD:=
 let R:=walkF now r c es ⟨⟨ths,[]⟩,[],0⟩
 let k:=if R.2=0 then code else R.2
 let t2:=if R.2=0∧code=0 then finishF R.1.s.ths R.1.s.off else R.1.s.ths
 let T:=addT t2 TFUEL ⟨[],[],0⟩ r []
 if T.2=true then ⟨T.1.out,R.1.done,k,R.1.done.length⟩ else failF 142
open Classical in
noncomputable def tellF (ls:List LineD) (es:List EntryD) (code:Int) (c:ConfigD) (now:TimeD):FcD:=
 if cfgE c≠0 then failF (cfgE c)
 else match plantL 0 ls ⟨[],[]⟩ with
  | none=>failF 151
  | some ps=>if ¬ TreeOf ps ls then failF 151 else if stampOk now.sec now.nano=false then failF 20 else if es.all fitB=false then failF 80 else foldF (plantT ps.nodes) ((getKv (idx ps.nodes) 1).getD 0) es code c now
theorem tellF_cfg {ls:List LineD} {es:List EntryD} {code:Int} {c:ConfigD} {now:TimeD} (h:cfgE c≠0):tellF ls es code c now=failF (cfgE c):=by unfold tellF; rw [if_pos h]
theorem tellF_order {ls:List LineD} {es:List EntryD} {code:Int} {c:ConfigD} {now:TimeD} (h:¬ cfgE c≠0) (h2:∀ ps,plantL 0 ls ⟨[],[]⟩=some ps→¬ TreeOf ps ls):tellF ls es code c now=failF 151:=by
 unfold tellF
 rw [if_neg h]
 cases hp:plantL 0 ls ⟨[],[]⟩ with
 | none=>rfl
 | some ps=>simp only; rw [if_pos (h2 ps hp)]
theorem tellF_on {ls:List LineD} {es:List EntryD} {code:Int} {c:ConfigD} {now:TimeD} {ps:PSt} (h:¬ cfgE c≠0) (hp:plantL 0 ls ⟨[],[]⟩=some ps) (h2:TreeOf ps ls):tellF ls es code c now=if stampOk now.sec now.nano=false then failF 20 else if es.all fitB=false then failF 80 else foldF (plantT ps.nodes) ((getKv (idx ps.nodes) 1).getD 0) es code c now:=by
 unfold tellF
 rw [if_neg h,hp]
 simp only
 rw [if_neg (fun k=>k h2)]
def TellEnd (R:FcD) (w:World) (e:Ending) (w':World):Prop:=
 Below w.heap.size w w'∧∃ lv dv M,e=.returned (.agg #[lv,dv,.int .i64 R.code,.int .i64 R.index])∧Own Shape.LineD 60 w' w.heap.size M lv R.lines∧(∀ n,M n→w.heap.size≤n)∧Own Shape.DoneD 62 w' w.heap.size (fun _=>False) dv R.done
theorem TellEnd.fail {w w':World} (k:Int) (h:Below w.heap.size w w'):TellEnd (failF k) w (.returned (.agg #[.slice none 0 0,.slice none 0 0,.int .i64 k,.int .i64 0])) w':=
 ⟨h,_,_,fun _=>False,rfl,Own.start _ _ _ _,fun _ h=>h.elim,Own.start _ _ _ _⟩
theorem whole_Forecast:Whole Tryz.prog 50 4:=⟨by kernel_rfl,by kernel_rfl⟩
structure TlI (cb nb rb:Nat) (c:ConfigD) (A1:Option Addr) (n1 c1:Nat) (A2:Option Addr) (n2 c2:Nat) (now:TimeD) (w wr:World):Prop where
 cfg:Blk wr cb 42 (cfgC c A1 n1 c1 A2 n2 c2)
 now:Blk wr nb 44 #[.int .i64 now.sec,.int .i64 now.nano]
 res:Blk wr rb 50 #[.slice none 0 0,.slice none 0 0,.int .i64 0,.int .i64 0]
 below:Below w.heap.size w wr
theorem TlI.below_ {cb nb rb:Nat} {c:ConfigD} {A1:Option Addr} {n1 c1:Nat} {A2:Option Addr} {n2 c2:Nat} {now:TimeD} {w wr w':World} (h:TlI cb nb rb c A1 n1 c1 A2 n2 c2 now w wr) (hb:Below wr.heap.size wr w'):TlI cb nb rb c A1 n1 c1 A2 n2 c2 now w w':=
 ⟨h.cfg.below hb h.cfg.lt,h.now.below hb h.now.lt,h.res.below hb h.res.lt,below_old h.below hb⟩
theorem TreeAt.lower {w:World} {B B':Nat} {hs:List Hn} {ths:List ThD} (h:TreeAt w B hs ths) (hb:B'≤B):TreeAt w B' hs ths:=
 ⟨h.len,h.blk,h.map,h.ainj,h.minj,h.ok,fun k hk=>⟨Nat.le_trans hb (h.lo k hk).1,Nat.le_trans hb (h.lo k hk).2⟩⟩
theorem DatV.below {w w':World} {v:Value} {l:List UInt8} (h:DatV w v l) (hb:Below w.heap.size w w'):DatV w' v l:=h.cng (M:=fun _=>False) (Cng.of_below hb) (fun _ h=>h.elim)
theorem FoldAt.start {w:World} {B f r mo:Nat} {now:TimeD} {hs:List Hn} {ths:List ThD} (hb:Blk w f 147 (foldC (adr hs r) mo now)) (hT:TreeAt w B hs ths) (hr:r<ths.length) (hk:(thD ths r).kind=2) (hmo:IsMapP kP cJ w mo ([]:List (Nat×JobV))) (hap:¬ inTree hs ths mo) (hB:B≤w.heap.size)
  (hd:∀ (j:Nat) (t:ThD) (h:Hn),ths[j]?=some t→hs[j]?=some h→DatV w h.dv t.data):FoldAt w B f r mo now hs ths []:=
 ⟨hb,hT,hr,hk,⟨[],hmo,rfl,fun p hp=>by cases hp⟩,hap,hB,hd⟩
theorem nobyte_fc {w:World} {k n c:Nat} {A:Option Addr} {x y:Int} (h:Blk w k 50 #[.slice none 0 0,.slice A n c,.int .i64 x,.int .i64 y]):NoByte w k:=by
 intro i z e
 rw [h.cell] at e
 rcases i with _ | _ | _ | _ | i <;> simp at e
theorem FoldAt.atOb {w:World} {B f r mo ob i n c:Nat} {A:Option Addr} {x y:Int} {now:TimeD} {hs:List Hn} {ths:List ThD} {off:List (Nat×JobD)} (h:FoldAt w B f r mo now hs ths off) (hb:Blk w ob 50 #[.slice none 0 0,.slice A n c,.int .i64 x,.int .i64 y]) (v:Value):FoldAt (w.setCell ⟨ob,i,none⟩ v) B f r mo now hs ths off:=
 h.keep (M:=fun k=>k=ob) (Cng.of_cell (p:=⟨ob,i,none⟩) rfl) (fun k hk=>by
  subst hk
  obtain ⟨a,b,c⟩:=h.not_blk hb (by decide) (by decide)
  exact ⟨a,b,c,nobyte_fc hb⟩)
theorem plantL_small:∀ (ls:List LineD) (i:Nat) (ps ps':PSt),plantL i ls ps=some ps'→SmallP ls→ps.nodes.length≤i→EntOk i ps.nodes→(∀ p∈ps.ids,1≤p.2∧p.2≤ps.nodes.length)→∀ x∈ps'.nodes,x.data.length≤1000000000
 | [],i,ps,ps',h,_,_,he,_=>by
  injection h with h
  subst h
  exact fun x hx=>(he x hx).1
 | d :: r,i,ps,ps',h,hs,hc,he,hids=>by
  unfold plantL at h
  rw [Option.bind_eq_some_iff] at h
  obtain ⟨p1,h1,h2⟩:=h
  obtain ⟨a,b,c,e⟩:=plant1_keeps h1 hc he hids (hs d (by simp)).1 (hs d (by simp)).2
  exact plantL_small r (i+1) p1 ps' h2 (fun x hx=>hs x (List.mem_cons_of_mem _ hx)) a c e
theorem plant_data {ls:List LineD} {ps:PSt} (h:plantL 0 ls ⟨[],[]⟩=some ps) (hs:SmallP ls):∀ x∈ps.nodes,x.data.length≤1000000000:=
 plantL_small ls 0 _ _ h hs (Nat.le_refl _) (fun x hx=>by cases hx) (fun p hp=>by cases hp)
theorem plantT_len (gs:List NodeD):(plantT gs).length=gs.length:=plantP_len gs _ _
theorem plantT_kind {gs:List NodeD} {i:Nat} (h:i<gs.length) (hk:(gs.getD i default).kind=2):(thD (plantT gs) i).kind=2:=by
 unfold plantT
 rw [plantP_at _ _ h]
 rw [List.getD_eq_getElem?_getD,List.getElem?_eq_getElem h] at hk
 exact hk
structure ObI (B ob f r mo:Nat) (now:TimeD) (hs:List Hn) (ths:List ThD) (off:List (Nat×JobD)) (A:Option Addr) (n c:Nat) (dn:List DoneD) (k:Int) (w wr:World):Prop where
 blk:Blk wr ob 50 #[.slice none 0 0,.slice A n c,.int .i64 k,.int .i64 dn.length]
 own:Own Shape.DoneD 62 wr B (fun _=>False) (.slice A n c) dn
 fold:FoldAt wr B f r mo now hs ths off
 below:Below B w wr
theorem ObI.not {B ob f r mo:Nat} {now:TimeD} {hs:List Hn} {ths:List ThD} {off:List (Nat×JobD)} {A:Option Addr} {n c:Nat} {dn:List DoneD} {k:Int} {w wr:World} (h:ObI B ob f r mo now hs ths off A n c dn k w wr):some ob≠(Value.slice A n c).ownBlock:=fun e=>by
 obtain ⟨cs,fz,hh⟩:=ownsType h.own e.symm
 have b1:wr.heap[ob]?=_:=h.blk
 rw [hh] at b1; injection b1 with b1; injection b1 with _ b1; exact absurd b1 (by decide)
theorem ObI.set {B ob f r mo:Nat} {now:TimeD} {hs:List Hn} {ths:List ThD} {off:List (Nat×JobD)} {A:Option Addr} {n c:Nat} {dn:List DoneD} {k:Int} {w wr:World} (h:ObI B ob f r mo now hs ths off A n c dn k w wr) (hB:B≤ob) (v:Int):ObI B ob f r mo now hs ths off A n c dn v w (wr.setCell ⟨ob,2,none⟩ (.int .i64 v)):=by
 refine ⟨?_,h.own.cng (Cng.of_cell (M:=fun k=>k=ob) (p:=⟨ob,2,none⟩) rfl) (fun j hj=>⟨by subst hj; exact h.not,id⟩),h.fold.atOb h.blk _,h.below.setCell (p:=⟨ob,2,none⟩) hB _⟩
 simpa using h.blk.set_ 2 (.int .i64 v)
theorem ObI.below_ {B ob f r mo:Nat} {now:TimeD} {hs:List Hn} {ths:List ThD} {off:List (Nat×JobD)} {A:Option Addr} {n c:Nat} {dn:List DoneD} {k:Int} {w wr w':World} (h:ObI B ob f r mo now hs ths off A n c dn k w wr) (hb:Below wr.heap.size wr w'):ObI B ob f r mo now hs ths off A n c dn k w w':=
 ⟨h.blk.below hb h.blk.lt,h.own.kept (grownBy_below' (r:=none) hb) (by cases hv:(Value.slice A n c).ownBlock <;> simp) (fun _ h=>h.elim),h.fold.below hb,h.below.trans (hb.mono h.fold.base)⟩
theorem ObI.finish {B ob f r mo:Nat} {now:TimeD} {hs:List Hn} {ths ths2:List ThD} {off:List (Nat×JobD)} {A:Option Addr} {n c:Nat} {dn:List DoneD} {k:Int} {w wr w':World} (h:ObI B ob f r mo now hs ths off A n c dn k w wr) (hF:FoldAt w' B f r mo now hs ths2 off) (hc:Cng (inTree hs ths) wr w'):ObI B ob f r mo now hs ths2 off A n c dn k w w':=
 ⟨(hc.block ob h.blk.lt (h.fold.not_blk h.blk (by decide) (by decide)).1).trans h.blk,h.own.cng hc (fun j hj=>⟨fun e=>(h.fold.not_own h.own (by decide) (by decide) j e.symm).1 hj,id⟩),hF,h.below.trans (hc.below h.fold.base (fun n hn=>(h.fold.tree.lt hn).2))⟩
end Go.Proofs.YtfhfcipelgogjaaGreatDoor
namespace Go.Proofs.YtfhfcipelgogjaaGreatDoor
open Go.RowKit
variable {gs:List NodeD}
theorem ents_known (hW:WfG gs) {id:Int} (hk:Known gs id):EntsOk gs (G gs id).ents ⟨#[]⟩:=by
 obtain ⟨hb,kv,hkv,hends⟩:=hW
 obtain ⟨a,-,-⟩:=(enterAll_iff gs [] kv (by simp)).1 hkv
 exact a _ (G_mem hk)
theorem ents_asc:∀ (es:List EntD) (name:ByteArray),EntsOk gs es name→(es.map fun e=>e.name.data.toList).Pairwise (·<·)
 | [],_,_=>List.Pairwise.nil
 | e :: es,name,h=>by
  unfold EntsOk at h
  obtain ⟨h1,h2,h3,h4⟩:=h
  rw [List.map_cons]
  refine List.pairwise_cons.2 ⟨fun x hx=>?_,ents_asc es e.name h4⟩
  obtain ⟨y,hy,rfl⟩:=List.mem_map.1 hx
  exact ((entsOk_all es e.name h4).1 y hy).2.2
theorem thD_planted {id:Int} (hk:Known gs id):thD (plantT gs) (J gs id)={ thG (G gs id) with ins:=insG gs (G gs id).ents }:=by
 obtain ⟨j,hj⟩:=hk
 obtain ⟨hl,he⟩:=idx_get hj
 rw [J_get hj,G_get hj]
 unfold plantT
 rw [plantP_at _ _ hl,if_pos hl,List.getD_eq_getElem?_getD,List.getElem?_eq_getElem hl]
 rfl
theorem sortL_asc {l:List (List UInt8)} (h:l.Pairwise (·<·)):sortL l=l:=by
 unfold sortL
 refine List.mergeSort_of_pairwise (h.imp fun hab=>?_)
 exact decide_eq_true (List.le_of_lt hab)
theorem planted_corr (hW:WfG gs):Corr gs (plantT gs) (J gs) where
 inj a b ha hb h:=by
  rw [← G_id ha,← G_id hb]
  unfold G
  rw [h]
 same id hk:=by rw [thD_planted hk]; exact ⟨rfl,rfl,rfl,rfl,rfl,rfl,rfl⟩
 names id hk:=by
  rw [thD_planted hk]
  have ha:=ents_asc _ _ (ents_known hW hk)
  unfold namesT
  have e:((insG gs (G gs id).ents).map fun p=>p.1.data.toList)=(G gs id).ents.map fun e=>e.name.data.toList:=by
   unfold insG; rw [List.map_map]; rfl
  show (sortL ((insG gs (G gs id).ents).map fun p=>p.1.data.toList)).map _=_
  rw [e,sortL_asc ha,List.map_map]
  refine List.map_congr_left fun x _=>?_
  simp
 kids id hk e he:=by
  have hE:=ents_known hW hk
  obtain ⟨q1,q2⟩:=entsOk_all _ _ hE
  refine ⟨(q1 e he).1,?_⟩
  rw [thD_planted hk]
  show getKv (insG gs (G gs id).ents) e.name=some (J gs e.id)
  unfold insG
  generalize (G gs id).ents=es at he q2
  clear hE q1
  induction es with
  | nil=>cases he
  | cons x es ih =>
   obtain ⟨p1,p2⟩:=List.pairwise_cons.1 q2
   unfold getKv
   rw [List.map_cons,List.find?_cons]
   rcases List.mem_cons.1 he with rfl | he
   ·simp
   ·have hne:decide (x.name=e.name)=false:=decide_eq_false (p1 e he)
    simp only [hne]
    exact ih he p2
theorem planted_lines {ps:PSt} {ls:List LineD} (h:TreeOf ps ls):(addT (plantT ps.nodes) TFUEL ⟨[],[],0⟩ ((getKv (idx ps.nodes) 1).getD 0) []).2=true∧(addT (plantT ps.nodes) TFUEL ⟨[],[],0⟩ ((getKv (idx ps.nodes) 1).getD 0) []).1.out=ls:=by
 obtain ⟨i,hr,h2,h3⟩:=h
 have hk:Known ps.nodes 1:=⟨i,hr.2.1⟩
 have:=(add_corr (planted_corr hr.1) TFUEL ⟨[],[],0⟩ 1 [] hk (fun p hp=>by cases hp) (by simp)).1
 have e1:mapF (J ps.nodes) ⟨[],[],0⟩=⟨[],[],0⟩:=rfl
 have e2:pathT []=⟨#[46]⟩:=rfl
 have e3:J ps.nodes 1=(getKv (idx ps.nodes) 1).getD 0:=rfl
 rw [e1,e2] at this
 rw [← e3,this,J_get hr.2.1]
 exact ⟨h2,h3⟩
theorem reads_all:readB [42,42] 0=some [⟨2,fun _=>false⟩]:=by
 rw [readB_some (t:=⟨2,fun _=>false⟩) (j:=2) (by decide) rfl,readB_end (by decide)]; rfl
theorem next_all (x:List UInt8):∀ i,nextRow ⟨2,fun _=>false⟩ (fun i=>i == 0) x i=true
 | 0=>rfl
 | i+1=>by
  unfold nextRow
  rw [next_all x i]
  rfl
theorem none_chosen {c:ConfigD} (h:c.exclude=[⟨#[42,42]⟩]) (x:List UInt8):chosenV (bytesL c.include_) (bytesL c.exclude) x=false:=by
 have hh:hitsP x [42,42]=true:=by
  unfold hitsP
  rw [reads_all]
  show hitsT _ x=true
  unfold hitsT
  rw [List.any_eq_true]
  refine ⟨x.length,List.mem_range.2 (by omega),?_⟩
  have hr:reach [⟨2,fun _=>false⟩] x 1 x.length=true:=next_all x x.length
  simpa using hr
 unfold chosenV
 rw [h]
 show (_ && !([([42,42]:List UInt8)].any (hitsP x)))=false
 rw [List.any_cons,hh]
 simp
theorem none_plan {c:ConfigD} (h:c.exclude=[⟨#[42,42]⟩]) (e:EntryD):(planOf e c).out=2∨(planOf e c).out=3:=by
 unfold planOf
 split
 ·exact .inl rfl
 split
 ·exact .inl rfl
 split
 ·exact .inl rfl
 rw [none_chosen h,if_pos (.inl rfl)]
 exact .inr rfl
theorem none_walk {c:ConfigD} (h:c.exclude=[⟨#[42,42]⟩]) (now:TimeD) (r:Nat):∀ (es:List EntryD) (x:WSt),(∀ d∈x.done,d.out=2∨d.out=3)→(walkF now r c es x).1.s=x.s∧((walkF now r c es x).2=0∨(walkF now r c es x).2=200)∧∀ d∈(walkF now r c es x).1.done,d.out=2∨d.out=3
 | [],x,hx=>⟨rfl,.inl rfl,hx⟩
 | e :: es,x,hx=>by
  have ho:=none_plan h e
  have ho':(planOf e c).out≠0:=by rcases ho with h | h <;> rw [h] <;> decide
  by_cases hm:c.maxEntries≤x.done.length
  ·have e1:stepF now r c x e=(x,200):=by unfold stepF; rw [if_pos hm]
   have e2:walkF now r c (e :: es) x=(x,200):=by unfold walkF; rw [e1]; rfl
   rw [e2]
   exact ⟨rfl,.inr rfl,hx⟩
  ·have e1:stepF now r c x e=(⟨x.s,x.done++[⟨e.name,(planOf e c).out,(planOf e c).code⟩],x.bytes⟩,0):=by unfold stepF; rw [if_neg hm,if_pos ho']
   have e2:walkF now r c (e :: es) x=walkF now r c es ⟨x.s,x.done++[⟨e.name,(planOf e c).out,(planOf e c).code⟩],x.bytes⟩:=by
    rw [show walkF now r c (e :: es) x=if (stepF now r c x e).2=0 then walkF now r c es (stepF now r c x e).1 else stepF now r c x e from rfl,e1]; rfl
   rw [e2]
   refine none_walk h now r es _ fun d hd=>?_
   rcases List.mem_append.1 hd with hd | hd
   ·exact hx d hd
   ·simp only [List.mem_singleton] at hd; subst hd; exact ho
theorem firstE_in:∀ (l:List (List UInt8)),firstE l=0∨firstE l=21∨firstE l=110
 | []=>.inl rfl
 | p :: l=>by
  unfold firstE
  split
  ·exact firstE_in l
  ·unfold checkE
   split
   ·exact .inr (.inl rfl)
   split
   ·exact .inl rfl
   ·exact .inr (.inr rfl)
theorem cfgE_not (c:ConfigD):cfgE c≠200:=by
 unfold cfgE chosenE
 have h1:=firstE_in (bytesL c.include_); have h2:=firstE_in (bytesL c.exclude)
 split
 ·split
  ·rcases h2 with h | h | h <;> rw [h] <;> decide
  ·rcases h1 with h | h | h <;> rw [h] <;> decide
 ·decide
def NoneOk (R:FcD) (ls:List LineD):Prop:=((R.code=0∨R.code=200)→(∀ d∈R.done,d.out=2∨d.out=3)∧R.lines=ls)∧(¬ (R.code=0∨R.code=200)→R.lines=[])
theorem none_fail {k:Int} {ls:List LineD} (h0:k≠0) (h2:k≠200):NoneOk (failF k) ls:=⟨fun h=>(h.elim h0 h2).elim,fun _=>rfl⟩
theorem tell_none {c:ConfigD} (h:c.exclude=[⟨#[42,42]⟩]) (ls:List LineD) (es:List EntryD) (now:TimeD):NoneOk (tellF ls es 0 c now) ls:=by
 by_cases hc:cfgE c≠0
 ·rw [tellF_cfg hc]; exact none_fail hc (cfgE_not c)
 by_cases hp:∃ ps,plantL 0 ls ⟨[],[]⟩=some ps∧TreeOf ps ls
 ·obtain ⟨ps,hp,ht⟩:=hp
  rw [tellF_on hc hp ht]
  split
  ·exact none_fail (by decide) (by decide)
  split
  ·exact none_fail (by decide) (by decide)
  obtain ⟨q1,q2,q3⟩:=none_walk h now ((getKv (idx ps.nodes) 1).getD 0) es ⟨⟨plantT ps.nodes,[]⟩,[],0⟩ (fun d hd=>by cases hd)
  obtain ⟨p1,p2⟩:=planted_lines ht
  unfold foldF
  simp only
  generalize walkF now ((getKv (idx ps.nodes) 1).getD 0) c es ⟨⟨plantT ps.nodes,[]⟩,[],0⟩=R at q1 q2 q3
  have e1:(if R.2=0∧True then finishF R.1.s.ths R.1.s.off else R.1.s.ths)=plantT ps.nodes:=by
   rw [q1]
   split
   ·show finBy (getKv ([]:List (Nat×JobD))) (plantT ps.nodes)=_
    exact (finBy_congr fun i _=>rfl).trans (finBy_none _)
   ·rfl
  rw [e1,if_pos p1]
  refine ⟨fun _=>⟨q3,p2⟩,fun hn=>absurd ?_ hn⟩
  show (if R.2=0 then (0:Int) else R.2)=0∨(if R.2=0 then (0:Int) else R.2)=200
  rcases q2 with q | q <;> rw [q] <;> simp
 ·rw [tellF_order hc fun ps hp' ht=>hp ⟨ps,hp',ht⟩]
  exact none_fail (by decide) (by decide)
end Go.Proofs.YtfhfcipelgogjaaGreatDoor
namespace Go.Proofs.YtfhfcipelgogjaaGreatDoor
open Go.RowKit
def t00:TimeD:=⟨0,0⟩
def nw0:TimeD:=⟨7,0⟩
def l00:LineD:={ path:=⟨#[46]⟩,kind:=2,mode:=493,uid:=0,gid:=0,mtime:=t00,data:=[],target:=⟨#[]⟩,peer:=⟨#[]⟩ }
def e00:EntryD:={ kind:=1,name:=⟨#[97,47,98]⟩,link:=⟨#[]⟩,mode:=0,uid:=0,gid:=0,user:=⟨#[]⟩,group:=⟨#[]⟩,mtime:=t00,data:=[120] }
def c00:ConfigD:={ maxEntries:=9,maxBytes:=99,maxDepth:=4,maxName:=99,maxPax:=0,strip:=0,links:=0,replace:=0,umask:=0,keepSetid:=false,keepIds:=false,include_:=[],exclude:=[] }
def n00:NodeD:=nodeOf l00 1
theorem cfg00:¬ cfgE c00≠0:=by decide
theorem plant00:plantL 0 [l00] ⟨[],[]⟩=some ⟨[n00],[(⟨#[46]⟩,1)]⟩:=by kernel_rfl
theorem wf00:WfG [n00]:=⟨by kernel_rfl,[],by kernel_rfl,fun p hp=>by cases hp⟩
theorem tree00:(tree0 [n00] 0).2=true∧(tree0 [n00] 0).1.out=[l00]:=⟨by kernel_rfl,by kernel_rfl⟩
theorem treeOf00:TreeOf ⟨[n00],[(⟨#[46]⟩,1)]⟩ [l00]:=⟨0,⟨wf00,by kernel_rfl,by kernel_rfl⟩,tree00.1,tree00.2⟩
def T00:List ThD:=[⟨2,493,0,0,nw0,[],⟨#[]⟩,[(⟨#[97]⟩,1)]⟩,⟨2,493,0,0,nw0,[],⟨#[]⟩,[(⟨#[98]⟩,2)]⟩,⟨1,0,0,0,t00,[120],⟨#[]⟩,[]⟩]
theorem walk00:walkF nw0 0 c00 [e00] ⟨⟨plantT [n00],[]⟩,[],0⟩=(⟨⟨T00,[]⟩,[⟨⟨#[97,47,98]⟩,1,0⟩],1⟩,0):=by kernel_rfl
theorem names00:namesT (thD T00 0)=[⟨#[97]⟩]∧namesT (thD T00 1)=[⟨#[98]⟩]∧namesT (thD T00 2)=[]:=by
 refine ⟨?_,?_,?_⟩
 ·show (sortL [[97]]).map _=_
  rw [sortL_asc (List.pairwise_singleton _ _)]; rfl
 ·show (sortL [[98]]).map _=_
  rw [sortL_asc (List.pairwise_singleton _ _)]; rfl
 ·show (sortL []).map _=_
  rw [sortL_asc List.Pairwise.nil]; rfl
def L00:List LineD:=[⟨⟨#[46]⟩,2,493,0,0,nw0,[],⟨#[]⟩,⟨#[]⟩⟩,⟨⟨#[97]⟩,2,493,0,0,nw0,[],⟨#[]⟩,⟨#[]⟩⟩,⟨⟨#[97,47,98]⟩,1,0,0,0,t00,[120],⟨#[]⟩,⟨#[]⟩⟩]
def S00:TSt:=⟨L00,[(0,⟨#[46]⟩),(1,⟨#[97]⟩),(2,⟨#[97,47,98]⟩)],5⟩
theorem add00:addT T00 TFUEL ⟨[],[],0⟩ 0 []=(S00,true):=by
 obtain ⟨n0,n1,n2⟩:=names00
 have e2:∀ (f:Nat),addT T00 (f+1) ⟨[⟨⟨#[46]⟩,2,493,0,0,nw0,[],⟨#[]⟩,⟨#[]⟩⟩,⟨⟨#[97]⟩,2,493,0,0,nw0,[],⟨#[]⟩,⟨#[]⟩⟩],[(0,⟨#[46]⟩),(1,⟨#[97]⟩)],2⟩ 2 [⟨#[97]⟩,⟨#[98]⟩]=(S00,true):=fun f=>by
  unfold addT
  rw [n2,if_neg (by decide)]
  kernel_rfl
 have e1:∀ (f:Nat),addT T00 (f+1+1) ⟨[⟨⟨#[46]⟩,2,493,0,0,nw0,[],⟨#[]⟩,⟨#[]⟩⟩],[(0,⟨#[46]⟩)],1⟩ 1 [⟨#[97]⟩]=(S00,true):=fun f=>by
  unfold addT
  rw [n1,if_neg (by decide)]
  unfold addNs
  rw [show getKv (thD T00 1).ins ⟨#[98]⟩=some 2 from by kernel_rfl]
  simp only
  rw [show putT1 ⟨[⟨⟨#[46]⟩,2,493,0,0,nw0,[],⟨#[]⟩,⟨#[]⟩⟩],[(0,⟨#[46]⟩)],1⟩ 1 (thD T00 1) (pathT [⟨#[97]⟩])=⟨[⟨⟨#[46]⟩,2,493,0,0,nw0,[],⟨#[]⟩,⟨#[]⟩⟩,⟨⟨#[97]⟩,2,493,0,0,nw0,[],⟨#[]⟩,⟨#[]⟩⟩],[(0,⟨#[46]⟩),(1,⟨#[97]⟩)],2⟩ from by kernel_rfl]
  rw [show ([⟨#[97]⟩]++[⟨#[98]⟩]:List ByteArray)=[⟨#[97]⟩,⟨#[98]⟩] from rfl,e2 f]
  rfl
 rw [show TFUEL=4194302+1+1+1 from rfl]
 unfold addT
 rw [n0,if_neg (by decide)]
 unfold addNs
 rw [show getKv (thD T00 0).ins ⟨#[97]⟩=some 1 from by kernel_rfl]
 simp only
 rw [show putT1 ⟨[],[],0⟩ 0 (thD T00 0) (pathT [])=⟨[⟨⟨#[46]⟩,2,493,0,0,nw0,[],⟨#[]⟩,⟨#[]⟩⟩],[(0,⟨#[46]⟩)],1⟩ from by kernel_rfl]
 rw [show ([]++[⟨#[97]⟩]:List ByteArray)=[⟨#[97]⟩] from rfl,e1 4194302]
 rfl
theorem alive00:tellF [l00] [e00] 0 c00 nw0=⟨L00,[⟨⟨#[97,47,98]⟩,1,0⟩],0,1⟩:=by
 rw [tellF_on cfg00 plant00 treeOf00,if_neg (by decide),if_neg (by decide)]
 have e1:(getKv (idx [n00]) 1).getD 0=0:=by kernel_rfl
 show foldF (plantT [n00]) ((getKv (idx [n00]) 1).getD 0) [e00] 0 c00 nw0=_
 rw [e1]
 unfold foldF
 rw [walk00]
 simp only [and_self,if_true]
 have e2:finishF T00 []=T00:=(finBy_congr fun i _=>rfl).trans (finBy_none _)
 rw [e2,add00]
 rfl
end Go.Proofs.YtfhfcipelgogjaaGreatDoor
