/- What a fold leaves is a tree that can be planted. Plain. valiselaw25.ForecastPlants, walked. No condition but room. -/
import Derived.Test.YtfhfcipelgogjaaGreatDoorStpAll
import Derived.Test.YtfhfcipelgogjaaGreatDoorCopyAll
import Derived.Test.YtfhfcipelgogjaaGreatDoorSameAll
import Derived.Deep.DeepCutAuto
import Derived.Deep.CutRange
import Derived.Deep.CutBlock
set_option linter.unusedSectionVars false
set_option linter.unusedVariables false
set_option linter.unusedSimpArgs false
set_option maxHeartbeats 8000000
set_option maxRecDepth 100000
namespace Go.Proofs.YtfhfcipelgogjaaGreatDoor
open Go.RowKit
structure Tre (ths:List ThD):Prop where
 once:∀ i1 i2 n1 n2 j,(n1,j)∈(thD ths i1).ins→(n2,j)∈(thD ths i2).ins→(thD ths j).kind=2→i1=i2∧n1=n2
 rank:∃ rk:Nat→Nat,∀ i n j,(n,j)∈(thD ths i).ins→(thD ths j).kind=2→rk i<rk j
theorem Tre.sub {a b:List ThD} (h:Tre a) (hs:∀ i p,p∈(thD b i).ins→p∈(thD a i).ins) (hk:∀ i p,p∈(thD a i).ins→(thD b p.2).kind=(thD a p.2).kind):Tre b:=by
 refine ⟨fun i1 i2 n1 n2 j h1 h2 h3=>?_,?_⟩
 ·have h1:=hs _ _ h1
  have h2:=hs _ _ h2
  rw [hk _ _ h1] at h3
  exact h.once i1 i2 n1 n2 j h1 h2 h3
 ·obtain ⟨rk,hr⟩:=h.rank
  refine ⟨rk,fun i n j h1 h2=>?_⟩
  have h1:=hs _ _ h1
  rw [hk _ _ h1] at h2
  exact hr i n j h1 h2
section
variable {now:TimeD}
theorem Tre.put {a:List ThD} {d x:Nat} {name:ByteArray} (h:Tre a) (hd:d<a.length) (hf:getKv (thD a d).ins name=none) (hx:(thD a x).kind=2→(thD a x).ins=[]∧x≠d∧∀ i n,(n,x)∉(thD a i).ins):Tre (putT now a d name x):=by
 have hm:∀ i p,p∈(thD (putT now a d name x) i).ins→p∈(thD a i).ins∨(i=d∧p=(name,x)):=fun i p hp=>by
  rw [putT_at hd] at hp
  split at hp
  ·rename_i e
   subst e
   simp only at hp
   rw [put_free hf] at hp
   rcases List.mem_append.1 hp with hp | hp
   ·exact .inl hp
   ·exact .inr ⟨rfl,by simpa using hp⟩
  ·exact .inl hp
 have hk:∀ j,(thD (putT now a d name x) j).kind=(thD a j).kind:=fun j=>by
  rw [putT_at hd]
  split
  ·rename_i e; subst e; rfl
  ·rfl
 refine ⟨fun i1 i2 n1 n2 j h1 h2 h3=>?_,?_⟩
 ·rw [hk] at h3
  have g1:=hm _ _ h1
  have g2:=hm _ _ h2
  clear h1 h2
  rcases g1 with g1 | ⟨e1,g1⟩
  ·rcases g2 with g2 | ⟨e2,g2⟩
   ·exact h.once i1 i2 n1 n2 j g1 g2 h3
   ·injection g2 with h4 h5
    subst h5
    exact absurd g1 ((hx h3).2.2 i1 n1)
  ·injection g1 with h4 h5
   subst h5
   rcases g2 with g2 | ⟨e2,g2⟩
   ·exact absurd g2 ((hx h3).2.2 i2 n2)
   ·injection g2 with h6 h7
    exact ⟨by rw [e1,e2],by rw [h4,h6]⟩
 ·obtain ⟨rk,hr⟩:=h.rank
  refine ⟨fun j=>if j=x∧(thD a x).kind=2 then rk d+1 else rk j,fun i n j h1 h2=>?_⟩
  rw [hk] at h2
  have g1:=hm _ _ h1
  clear h1
  simp only
  rcases g1 with g1 | ⟨e1,g1⟩
  ·have h3:=hr i n j g1 h2
   have e2:¬ (j=x∧(thD a x).kind=2):=fun ⟨h5,h4⟩=>(hx h4).2.2 i n (h5 ▸ g1)
   have e3:¬ (i=x∧(thD a x).kind=2):=fun ⟨h5,h4⟩=>by
    have:=(hx h4).1
    rw [← h5] at this
    rw [this] at g1
    cases g1
   rw [if_neg e2,if_neg e3]
   exact h3
  ·injection g1 with h4 h5
   subst h5
   have e3:¬ (i=j∧(thD a j).kind=2):=fun ⟨h5,h4⟩=>(hx h4).2.1 (h5 ▸ e1)
   rw [if_neg e3,if_pos ⟨rfl,h2⟩,e1]
   omega
theorem Stp.tre {nv:Bool} {a b:List ThD} (s:Stp now nv a b) (hS:Shp a) (h:Tre a):Tre b:=by
 cases s with
 | new hd hk hg hf hi hs =>
  rename_i d name t
  have h2:Tre (a++[t]):=h.sub (fun i p hp=>by rw [thD_app' a t hi] at hp; exact hp) (fun i p hp=>by rw [thD_app (hS.rng i p hp)])
  refine h2.put (by rw [List.length_append]; omega) (by rw [thD_app hd]; exact hf) (fun _=>⟨by rw [thD_new]; exact hi,by omega,fun i n hm=>?_⟩)
  rw [thD_app' a t hi] at hm
  have:=hS.rng i _ hm
  exact absurd this (Nat.lt_irrefl _)
 | hard hd hk hg hf hx hxk=>exact h.put hd hf (fun h2=>absurd h2 hxk)
 | drop _ hd hk =>
  rename_i d name
  refine h.sub (fun i p hp=>?_) (fun i p hp=>?_)
  ·rw [dropT_at hd] at hp
   split at hp
   ·rename_i e; subst e; exact (List.mem_filter.1 hp).1
   ·exact hp
  ·rw [dropT_at hd]
   split
   ·rename_i e; rw [e]
   ·rfl
theorem Stps.tre {nv:Bool} {a b:List ThD} (s:Stps now nv a b) (hn:stampOk now.sec now.nano=true) (hS:Shp a) (h:Tre a):Tre b:=by
 induction s with
 | refl=>exact h
 | tail s1 s ih=>exact s.tre (s1.shp hn hS) ih
end
theorem fin_tre {nv:Bool} {ths:List ThD} {off:List (Nat×JobD)} (hS:Shp ths) (ho:OffS nv ths off) (h:Tre ths):Tre (finishF ths off):=
 h.sub (fun i p hp=>by rw [fin_ins] at hp; exact hp) (fun i p hp=>(fin_stay ho).kind _ (hS.rng i p hp))
theorem plantT_tre {gs:List NodeD} (hW:WfG gs):Tre (plantT gs):=by
 obtain ⟨rank,F⟩:=fit_of hW
 have ins0:∀ i,¬ i<gs.length→(thD (plantT gs) i).ins=[]:=fun i hi=>ins_out (by rw [plantT_len]; exact hi)
 have hm:∀ i n j,(n,j)∈(thD (plantT gs) i).ins→∃ (hi:i<gs.length) (x:Nat) (e:EntD),gs[i].ents[x]?=some e∧n=e.name∧j=J gs e.id∧Known gs e.id:=fun i n j h=>by
  by_cases hi:i<gs.length
  ·rw [plantT_get hi] at h
   have h:(n,j)∈insG gs gs[i].ents:=h
   unfold insG at h
   obtain ⟨e,he,h1⟩:=List.mem_map.1 h
   injection h1 with h1 h2
   obtain ⟨x,hx⟩:=List.getElem?_of_mem he
   refine ⟨hi,x,e,hx,h1.symm,h2.symm,F.known gs[i].id e (known_of hW (List.getElem_mem hi)) (by rw [G_self hW hi]; exact he)⟩
  ·rw [ins0 i hi] at h; cases h
 have hkind:∀ (id:Int),Known gs id→(thD (plantT gs) (J gs id)).kind=(G gs id).kind:=fun id hk=>by rw [thD_planted hk]; rfl
 refine ⟨fun i1 i2 n1 n2 j h1 h2 h3=>?_,fun i=>rank (gs.getD i default).id,fun i n j h1 h2=>?_⟩
 ·obtain ⟨l1,x,e1,a1,b1,c1,d1⟩:=hm _ _ _ h1
  obtain ⟨l2,y,e2,a2,b2,c2,d2⟩:=hm _ _ _ h2
  have he:e1.id=e2.id:=by
   rw [← G_id d1,← G_id d2]
   unfold G
   rw [← c1,← c2]
  rw [c1,hkind _ d1] at h3
  obtain ⟨q1,q2⟩:=F.once gs[i1].id gs[i2].id x y e1 e2 (known_of hW (List.getElem_mem l1)) (known_of hW (List.getElem_mem l2)) (by rw [G_self hW l1]; exact a1) (by rw [G_self hW l2]; exact a2) he h3
  have w1:=wf_at hW l1
  rw [q1,wf_at hW l2] at w1
  injection w1 with w1
  subst w1
  subst q2
  rw [a1] at a2
  injection a2 with a2
  exact ⟨rfl,by rw [b1,b2,a2]⟩
 ·obtain ⟨l1,x,e,a1,b1,c1,d1⟩:=hm _ _ _ h1
  rw [c1,hkind _ d1] at h2
  have:=F.fall gs[i].id e (known_of hW (List.getElem_mem l1)) (by rw [G_self hW l1]; exact List.mem_of_getElem? a1) h2
  have e1:gs.getD i default=gs[i]:=by rw [List.getD_eq_getElem?_getD,List.getElem?_eq_getElem l1]; rfl
  have e2:gs.getD j default=G gs e.id:=by rw [c1]; rfl
  simp only
  rw [e1,e2,G_id d1]
  exact this
section
variable {now:TimeD}
theorem wayF_len {mode:Int}:∀ (ps:List ByteArray) (ths:List ThD) (d:Nat),(wayF now mode ps ths d).1.length≤ths.length+ps.length
 | [],ths,d=>Nat.le_refl _
 | p :: ps,ths,d=>by
  unfold wayF
  rw [List.length_cons]
  split
  ·split
   ·split
    ·show ths.length≤_; omega
    ·split
     ·have:=wayF_len (mode:=mode) ps (putT now (ths++[dirD mode now]) d p ths.length) ths.length
      rw [putT_len,List.length_append,List.length_singleton] at this
      omega
     ·show ths.length≤_; omega
   ·split
    ·show ths.length≤_; omega
    ·split
     ·show ths.length≤_; omega
     ·rename_i x _ _ _
      have:=wayF_len (mode:=mode) ps ths x
      omega
  ·show ths.length≤_; omega
theorem placeF_len {j:JobD} {ths:List ThD} {off:List (Nat×JobD)} {d src:Nat} {name:ByteArray}:(placeF now j ths off d name src).1.ths.length≤ths.length+1:=by
 unfold placeF
 split
 ·show (putT now ths d name src).length≤_
  rw [putT_len]; omega
 ·show (putT now (ths++[freshD now j]) d name ths.length).length≤_
  rw [putT_len,List.length_append,List.length_singleton]; omega
theorem overF_len {j:JobD} {ths:List ThD} {off:List (Nat×JobD)} {d src:Nat} {name:ByteArray}:(overF now j ths off d name src).1.ths.length≤ths.length+1:=by
 unfold overF
 split
 ·exact placeF_len
 split
 ·exact Nat.le_succ _
 split
 ·exact Nat.le_succ _
 split
 ·exact Nat.le_succ _
 split
 ·exact Nat.le_succ _
 split
 ·exact Nat.le_succ _
 ·refine Nat.le_trans placeF_len ?_
  rw [dropT_len]; omega
theorem applyF_len {r:Nat} {j:JobD} {ths:List ThD} {off:List (Nat×JobD)} (hj:j.parts.length≤64):(applyF now r j ths off).1.ths.length≤ths.length+65:=by
 have w1:=wayF_len (now:=now) (mode:=j.dirMode) (j.parts.take (j.parts.length - 1)) ths r
 rw [List.length_take] at w1
 have w2:(wayF now j.dirMode (j.parts.take (j.parts.length - 1)) ths r).1.length≤ths.length+64:=by omega
 have w3:(wayF now j.dirMode (j.parts.take (j.parts.length - 1)) ths r).1.length≤ths.length+65:=by omega
 unfold applyF
 split
 ·show ths.length≤_; omega
 split
 ·simp only [wayF_none (now:=now) (-1) (by omega)]
  split
  ·show ths.length≤_; omega
  split
  ·exact w3
  split
  ·exact w3
  split
  ·exact w3
  split
  ·exact w3
  ·exact Nat.le_trans overF_len (by omega)
 ·simp only
  split
  ·exact w3
  split
  ·exact w3
  ·exact Nat.le_trans overF_len (by omega)
theorem walkF_len {r:Nat} {c:ConfigD}:∀ (es:List EntryD) (x:WSt),(∀ e∈es,(planOf e c).out=0→(planOf e c).parts.length≤64)→(walkF now r c es x).1.s.ths.length≤x.s.ths.length+65*es.length
 | [],x,_=>Nat.le_add_right _ _
 | e :: es,x,h=>by
  have h1:(stepF now r c x e).1.s.ths.length≤x.s.ths.length+65:=by
   unfold stepF
   split
   ·exact Nat.le_add_right _ _
   split
   ·exact Nat.le_add_right _ _
   rename_i h0
   have h0:(planOf e c).out=0:=by simpa using h0
   split
   ·exact Nat.le_add_right _ _
   split
   ·exact applyF_len (h e (by simp) h0)
   ·exact applyF_len (h e (by simp) h0)
  unfold walkF
  rw [List.length_cons]
  split
  ·have:=walkF_len (r:=r) es (stepF now r c x e).1 (fun e he=>h e (List.mem_cons_of_mem _ he))
   omega
  ·omega
end
def nodeT (ths:List ThD) (i:Nat):NodeD:=⟨(i:Int)+1,(thD ths i).kind,(thD ths i).mode,(thD ths i).uid,(thD ths i).gid,(thD ths i).mtime,(thD ths i).data,(thD ths i).target,(namesT (thD ths i)).map fun n=>⟨n,(((getKv (thD ths i).ins n).getD 0:Nat):Int)+1⟩⟩
def rowT (ths:List ThD) (P:Nat→Bool):List Nat:=(List.range ths.length).filter P
def grT (ths:List ThD) (P:Nat→Bool):List NodeD:=(rowT ths P).map (nodeT ths)
theorem rowT_mem {ths:List ThD} {P:Nat→Bool} {i:Nat}:i∈rowT ths P↔i<ths.length∧P i=true:=by unfold rowT; rw [List.mem_filter,List.mem_range]
theorem rowT_asc (ths:List ThD) (P:Nat→Bool):(rowT ths P).Pairwise (·<·):=List.Pairwise.filter _ List.pairwise_lt_range
theorem names_asc {t:ThD} (h:(t.ins.map (·.1)).Nodup):(namesT t).Pairwise fun a b=>a.data.toList<b.data.toList:=by
 have hn:=names_nodup h
 unfold namesT sortL at hn ⊢
 have hs:=List.pairwise_mergeSort (le:=fun x y:List UInt8=>decide (x≤y)) (fun a b c h1 h2=>by
  rw [decide_eq_true_eq] at *; exact List.le_trans h1 h2) (fun a b=>by
  rw [Bool.or_eq_true,decide_eq_true_eq,decide_eq_true_eq]; exact List.le_total a b) (t.ins.map fun p=>p.1.data.toList)
 unfold List.Nodup at hn
 rw [List.pairwise_map] at hn ⊢
 refine (hs.and hn).imp fun {a b} hab=>?_
 obtain ⟨h1,h2⟩:=hab
 rw [decide_eq_true_eq] at h1
 show a.toArray.toList<b.toArray.toList
 rw [List.toList_toArray,List.toList_toArray]
 apply Classical.byContradiction
 intro h3
 exact h2 (by rw [List.le_antisymm h1 (List.not_lt.1 h3)])
theorem names_mem {t:ThD} {n:ByteArray} (h:n∈namesT t):∃ j,getKv t.ins n=some j∧(n,j)∈t.ins:=by
 obtain ⟨j,hj⟩:=names_get h
 exact ⟨j,hj,get_mem hj⟩
theorem names_nil {t:ThD} (h:t.ins=[]):namesT t=[]:=by
 unfold namesT sortL; rw [h]; simp
theorem txt_of_lt {a b:ByteArray} (h:b.data.toList<a.data.toList):txtLe a b=false:=by
 unfold txtLe
 rw [Bool.or_eq_false_iff]
 constructor
 ·rw [← Bool.not_eq_true]
  intro h1
  have h1:pl a b=true:=h1
  rw [pl_iff] at h1
  exact List.lt_irrefl _ (List.lt_trans h h1)
 ·rw [Lib.toList_data,Lib.toList_data]
  rw [beq_eq_false_iff_ne]
  intro e
  rw [e] at h
  exact List.lt_irrefl _ h
section
variable {ths:List ThD} {P:Nat→Bool}
theorem gr_ids:((idx (grT ths P)).map (·.1)).Nodup:=by
 rw [idx_keys]
 unfold grT List.Nodup
 rw [List.map_map,List.pairwise_map]
 refine (rowT_asc ths P).imp fun {a b} hab=>?_
 show ((a:Int)+1)≠(b:Int)+1
 omega
theorem gr_known {i:Nat} (h:i∈rowT ths P):Known (grT ths P) ((i:Int)+1)∧G (grT ths P) ((i:Int)+1)=nodeT ths i:=by
 obtain ⟨k,hk⟩:=List.getElem?_of_mem h
 have hk2:(grT ths P)[k]?=some (nodeT ths i):=by unfold grT; rw [List.getElem?_map,hk]; rfl
 have:=kvAt (p:=((nodeT ths i).id,k)) gr_ids (idx_at _ hk2)
 have this:getKv (idx (grT ths P)) ((i:Int)+1)=some k:=this
 refine ⟨⟨k,this⟩,?_⟩
 rw [G_get this,List.getD_eq_getElem?_getD,hk2]; rfl
theorem gr_of {id:Int} (h:Known (grT ths P) id):∃ i,i∈rowT ths P∧id=(i:Int)+1:=by
 obtain ⟨k,hk⟩:=h
 obtain ⟨hl,he⟩:=idx_get hk
 have hm:=List.getElem_mem hl
 unfold grT at hm
 obtain ⟨i,hi,e⟩:=List.mem_map.1 hm
 exact ⟨i,hi,by rw [← he]; unfold grT; rw [← e]; rfl⟩
theorem gr_scan (hS:Shp ths) (hl:ths.length≤1099511627776):∀ (l:List Nat) (last:Int),l.Pairwise (·<·)→(∀ i∈l,i<ths.length∧last<(i:Int)+1)→scanB (l.map (nodeT ths)) last=true
 | [],_,_,_=>rfl
 | i :: l,last,hp,h=>by
  obtain ⟨p1,p2⟩:=List.pairwise_cons.1 hp
  obtain ⟨h1,h2⟩:=h i (by simp)
  rw [List.map_cons]
  unfold scanB
  have hs:=hS.snd i h1
  have e1:soundB (nodeT ths i)=true:=by
   unfold soundB withinB
   simp only [Bool.and_eq_true,Bool.not_eq_true',Bool.or_eq_false_iff,decide_eq_false_iff_not,decide_eq_true_eq]
   refine ⟨⟨⟨⟨⟨⟨hs.kind,hs.mode⟩,hs.uid⟩,hs.gid⟩,?_,?_⟩,hs.mtime⟩,hs.text⟩
   ·rintro ⟨h3,h4⟩
    have h3:(thD ths i).kind≠1:=h3
    have h4:0<(thD ths i).data.length:=h4
    rw [hs.data h3] at h4
    exact absurd h4 (Nat.lt_irrefl _)
   ·rintro ⟨h3,h4⟩
    have h3:(thD ths i).kind≠2:=h3
    have h4:0<((namesT (thD ths i)).map _).length:=h4
    rw [names_nil (hs.leaf h3)] at h4
    exact absurd h4 (Nat.lt_irrefl _)
  rw [e1,gr_scan hS hl l _ p2 (fun k hk=>⟨(h k (List.mem_cons_of_mem _ hk)).1,by have:=p1 k hk; show (i:Int)+1<_; omega⟩)]
  have e2:decide (last<(nodeT ths i).id)=true:=decide_eq_true h2
  have e3:decide ((nodeT ths i).id≤1099511627776)=true:=decide_eq_true (by show (i:Int)+1≤_; omega)
  rw [e2,e3]; rfl
def ClosedT (ths:List ThD) (P:Nat→Bool):Prop:=∀ i n j,P i=true→(n,j)∈(thD ths i).ins→P j=true
theorem gr_ents (hS:Shp ths) (hc:ClosedT ths P) {i:Nat} (hi:i∈rowT ths P):EntsOk (grT ths P) (nodeT ths i).ents ⟨#[]⟩:=by
 have key:∀ (ns:List ByteArray) (last:ByteArray),(∀ n∈ns,n∈namesT (thD ths i)∧last.data.toList<n.data.toList)→(ns.Pairwise fun a b=>a.data.toList<b.data.toList)→EntsOk (grT ths P) (ns.map fun n=>⟨n,(((getKv (thD ths i).ins n).getD 0:Nat):Int)+1⟩) last:=by
  intro ns
  induction ns with
  | nil=>intro _ _ _; trivial
  | cons n ns ih =>
   intro last h hp
   obtain ⟨p1,p2⟩:=List.pairwise_cons.1 hp
   obtain ⟨h1,h2⟩:=h n (by simp)
   obtain ⟨j,hj,hm⟩:=names_mem h1
   rw [List.map_cons]
   unfold EntsOk
   have hjr:j∈rowT ths P:=rowT_mem.2 ⟨hS.rng i _ hm,hc i n j (rowT_mem.1 hi).2 hm⟩
   refine ⟨?_,hS.good i _ hm,txt_of_lt h2,ih n (fun m hm=>⟨(h m (List.mem_cons_of_mem _ hm)).1,p1 m hm⟩) p2⟩
   show Known _ _
   simp only [hj,Option.getD_some]
   exact (gr_known hjr).1
 refine key _ _ (fun n hn=>⟨hn,?_⟩) (names_asc (hS.nd i))
 obtain ⟨j,hj,hm⟩:=names_mem hn
 have:=(hS.good i _ hm).1
 show ([]:List UInt8)<_
 cases h0:n.data.toList with
 | nil=>exact absurd h0 this
 | cons a l=>exact List.nil_lt_cons a l
theorem gr_once (hS:Shp ths) (hT:Tre ths) (hc:ClosedT ths P):OnceL (grT ths P) (grT ths P):=by
 intro k1 k2 x y n1 n2 e1 e2 hk1 hk2 hx hy he hd
 have at_:∀ (k x:Nat) (n:NodeD) (e:EntD),(grT ths P)[k]?=some n→n.ents[x]?=some e→∃ i j,(rowT ths P)[k]?=some i∧(namesT (thD ths i))[x]?=some e.name∧(e.name,j)∈(thD ths i).ins∧e.id=(j:Int)+1∧j∈rowT ths P:=by
  intro k x n e hk hx
  unfold grT at hk
  rw [List.getElem?_map] at hk
  cases hi:(rowT ths P)[k]? with
  | none=>rw [hi] at hk; cases hk
  | some i =>
   rw [hi] at hk
   injection hk with hk
   subst hk
   have hx:((namesT (thD ths i)).map fun n=>(⟨n,(((getKv (thD ths i).ins n).getD 0:Nat):Int)+1⟩:EntD))[x]?=some e:=hx
   rw [List.getElem?_map] at hx
   cases hn:(namesT (thD ths i))[x]? with
   | none=>rw [hn] at hx; cases hx
   | some m =>
    rw [hn] at hx
    injection hx with hx
    subst hx
    obtain ⟨j,hj,hm⟩:=names_mem (List.mem_of_getElem? hn)
    refine ⟨i,j,rfl,hn,hm,by simp only [hj,Option.getD_some],rowT_mem.2 ⟨hS.rng i _ hm,hc i m j (rowT_mem.1 (List.mem_of_getElem? hi)).2 hm⟩⟩
 obtain ⟨i1,j1,a1,b1,c1,d1,f1⟩:=at_ k1 x n1 e1 hk1 hx
 obtain ⟨i2,j2,a2,b2,c2,d2,f2⟩:=at_ k2 y n2 e2 hk2 hy
 have hj:j1=j2:=by omega
 subst hj
 rw [d1,(gr_known f1).2] at hd
 obtain ⟨q1,q2⟩:=hT.once i1 i2 e1.name e2.name j1 c1 c2 hd
 subst q1
 have hk:k1=k2:=nodup_idx ((rowT_asc ths P).imp fun h=>by omega) a1 a2
 subst hk
 rw [q2] at b1
 exact ⟨rfl,nodup_idx (names_nodup (hS.nd i1)) b1 b2⟩
theorem ends_of_falls {kv:List (Int×Int)} {rank:Int→Nat} (h:Falls kv rank):AllEnds kv:=by
 have key:∀ (n:Nat) (k:Int),rank k≤n→Ends kv k:=by
  intro n
  induction n with
  | zero =>
   intro k hk
   cases hg:getKv kv k with
   | none=>exact ends_none hg
   | some u=>have:=h k u hg; omega
  | succ n ih =>
   intro k hk
   cases hg:getKv kv k with
   | none=>exact ends_none hg
   | some u=>exact ends_some hg (ih u (by have:=h k u hg; omega))
 exact fun p _=>key _ p.1 (Nat.le_refl _)
theorem gr_wf (hS:Shp ths) (hT:Tre ths) (hc:ClosedT ths P) (hl:ths.length≤1099511627776) (h1:(rowT ths P).length≤4096) (h2:entsSum (grT ths P)≤8192):WfG (grT ths P):=by
 refine ⟨?_,?_⟩
 ·unfold basicB
  have e1:scanB (grT ths P) 0=true:=gr_scan hS hl _ 0 (rowT_asc ths P) (fun i hi=>⟨(rowT_mem.1 hi).1,by omega⟩)
  rw [e1,decide_eq_true h2]
  have e2:(grT ths P).length≤4096:=by unfold grT; rw [List.length_map]; exact h1
  rw [decide_eq_true e2]; rfl
 ·have ha:∀ n∈grT ths P,EntsOk (grT ths P) n.ents ⟨#[]⟩:=fun n hn=>by
   unfold grT at hn
   obtain ⟨i,hi,rfl⟩:=List.mem_map.1 hn
   exact gr_ents hS hc hi
  have hn:=nodup_of_once (gr_once hS hT hc)
  refine ⟨_,(enterAll_iff (grT ths P) [] _ (by simp)).2 ⟨ha,rfl,by simpa using hn⟩,?_⟩
  obtain ⟨rk,hr⟩:=hT.rank
  refine ends_of_falls (rank:=fun id=>rk (id - 1).toNat) fun k u hg=>?_
  have hm:=kvMem hg
  rw [List.nil_append] at hm
  obtain ⟨n,hn,hm⟩:=List.mem_flatMap.1 hm
  unfold grT at hn
  obtain ⟨i,hi,rfl⟩:=List.mem_map.1 hn
  unfold pairsOf at hm
  obtain ⟨d,hd,hm⟩:=List.mem_map.1 hm
  injection hm with q1 q2
  subst q1 q2
  obtain ⟨e,he,hk,rfl⟩:=mem_dirIds.1 hd
  have he:e∈(namesT (thD ths i)).map fun n=>(⟨n,(((getKv (thD ths i).ins n).getD 0:Nat):Int)+1⟩:EntD):=he
  clear hm hg
  obtain ⟨m,hm9,rfl⟩:=List.mem_map.1 he
  obtain ⟨j,hj,hmj⟩:=names_mem hm9
  have hjr:j∈rowT ths P:=rowT_mem.2 ⟨hS.rng i _ hmj,hc i m j (rowT_mem.1 hi).2 hmj⟩
  simp only [hj,Option.getD_some] at hk ⊢
  rw [(gr_known hjr).2] at hk
  have:=hr i m j hmj hk
  show rk (((i:Int)+1) - 1).toNat<rk (((j:Int)+1) - 1).toNat
  have e1:(((i:Int)+1) - 1).toNat=i:=by omega
  have e2:(((j:Int)+1) - 1).toNat=j:=by omega
  rw [e1,e2]
  exact this
def fT (id:Int):Nat:=(id - 1).toNat
theorem fT_at (i:Nat):fT ((i:Int)+1)=i:=by unfold fT; omega
theorem gr_corr (hS:Shp ths) (hc:ClosedT ths P):Corr (grT ths P) ths fT where
 inj a b ha hb h:=by
  obtain ⟨i,_,rfl⟩:=gr_of ha
  obtain ⟨j,_,rfl⟩:=gr_of hb
  rw [fT_at,fT_at] at h
  rw [h]
 same id hk:=by
  obtain ⟨i,hi,rfl⟩:=gr_of hk
  rw [fT_at,(gr_known hi).2]
  exact ⟨rfl,rfl,rfl,rfl,rfl,rfl,rfl⟩
 names id hk:=by
  obtain ⟨i,hi,rfl⟩:=gr_of hk
  rw [fT_at,(gr_known hi).2]
  show _=List.map _ (List.map _ _)
  rw [List.map_map]
  exact (List.map_id _).symm
 kids id hk e he:=by
  obtain ⟨i,hi,rfl⟩:=gr_of hk
  rw [(gr_known hi).2] at he
  have he:e∈(namesT (thD ths i)).map fun n=>(⟨n,(((getKv (thD ths i).ins n).getD 0:Nat):Int)+1⟩:EntD):=he
  obtain ⟨m,hm,rfl⟩:=List.mem_map.1 he
  obtain ⟨j,hj,hmj⟩:=names_mem hm
  have hjr:j∈rowT ths P:=rowT_mem.2 ⟨hS.rng i _ hmj,hc i m j (rowT_mem.1 hi).2 hmj⟩
  rw [fT_at]
  simp only [hj,Option.getD_some,fT_at]
  exact ⟨(gr_known hjr).1,trivial⟩
end
theorem nodup_lenG {α:Type} [DecidableEq α]:∀ (l m:List α),l.Nodup→(∀ x∈l,x∈m)→l.length≤m.length
 | [],m,_,_=>Nat.zero_le _
 | a :: l,m,hn,hs=>by
  rw [List.nodup_cons] at hn
  have ha:a∈m:=hs a (List.mem_cons_self ..)
  have:=nodup_lenG l (m.erase a) hn.2 fun x hx=>(List.mem_erase_of_ne (by rintro rfl; exact hn.1 hx)).2 (hs x (List.mem_cons_of_mem _ hx))
  rw [List.length_erase_of_mem ha] at this
  have hp:0<m.length:=List.length_pos_of_mem ha
  simp only [List.length_cons]
  omega
theorem root_of_not {gs:List NodeD} {r:Int} (h:¬ NoRootG gs r):∃ i,RootG gs r i:=by
 unfold NoRootG at h
 have h1:¬ NotWfG gs:=fun h'=>h (.inl h')
 have h2:getKv (idx gs) r≠none:=fun h'=>h (.inr (.inl h'))
 obtain ⟨i,hi⟩:=Option.ne_none_iff_exists'.1 h2
 refine ⟨i,?_,hi,Classical.byContradiction fun h3=>h (.inr (.inr ⟨i,hi,h3⟩))⟩
 unfold NotWfG at h1
 have a1:basicB gs=true:=by
  cases hb:basicB gs with
  | true=>rfl
  | false=>exact absurd (.inl hb) h1
 have a2:enterAll gs gs []≠none:=fun h'=>h1 (.inr (.inl h'))
 obtain ⟨kv,hkv⟩:=Option.ne_none_iff_exists'.1 a2
 have a3:∃ rank,Falls kv rank:=Classical.byContradiction fun h'=>h1 (.inr (.inr ⟨kv,hkv,h'⟩))
 obtain ⟨rank,hr⟩:=a3
 exact ⟨a1,kv,hkv,ends_of_falls hr⟩
theorem things_plant {ths:List ThD} {r:Nat} (hS:Shp ths) (hT:Tre ths) (hl:ths.length≤1099511627776) (hr:r<ths.length) (hk:(thD ths r).kind=2) (h:(addT ths TFUEL ⟨[],[],0⟩ r []).2=true) (hn:(addT ths TFUEL ⟨[],[],0⟩ r []).1.out.length≤4096) :
  ∃ ps,plantL 0 (addT ths TFUEL ⟨[],[],0⟩ r []).1.out ⟨[],[]⟩=some ps∧TreeOf ps (addT ths TFUEL ⟨[],[],0⟩ r []).1.out:=by
 have hlines:=add_lines hS.good h
 have hlen:(visF ths TFUEL r []).length≤4096:=by rw [hlines,linesV_len] at hn; exact hn
 have hV:=vis_good hS.good (f:=TFUEL) (i:=r)
 have hvm:∀ (q:List ByteArray) (i:Nat),resT ths r q=some i→(q,i)∈visF ths TFUEL r []:=fun q i hq=>by
  have:=vis_mem q TFUEL ⟨[],[],0⟩ r i [] h hq
  rw [List.nil_append] at this
  exact this
 have hP:∃ P:Nat→Bool,∀ i,P i=true↔∃ q,resT ths r q=some i:=by
  refine ⟨fun i=>decide (i∈(visF ths TFUEL r []).map (·.2)),fun i=>?_⟩
  rw [decide_eq_true_eq,List.mem_map]
  constructor
  ·rintro ⟨v,hv,rfl⟩
   exact ⟨v.1,(hV v hv).2⟩
  ·rintro ⟨q,hq⟩
   exact ⟨(q,i),hvm q i hq,rfl⟩
 obtain ⟨P,hP⟩:=hP
 have hc:ClosedT ths P:=fun i n j hi hm=>by
  obtain ⟨q,hq⟩:=(hP i).1 hi
  refine (hP j).2 ⟨q++[n],?_⟩
  rw [resT_app,hq]
  show resT ths i [n]=some j
  unfold resT
  have:getKv (thD ths i).ins n=some j:=by
   obtain ⟨k,hk⟩:=List.getElem?_of_mem hm
   exact kvAt (hS.nd i) hk
  rw [this]; rfl
 have hrr:r∈rowT ths P:=rowT_mem.2 ⟨hr,(hP r).2 ⟨[],rfl⟩⟩
 have h1:(rowT ths P).length≤4096:=by
  have:=nodup_lenG (rowT ths P) ((visF ths TFUEL r []).map (·.2)) ((rowT_asc ths P).imp fun h=>by omega) (fun i hi=>by
   obtain ⟨q,hq⟩:=(hP i).1 (rowT_mem.1 hi).2
   exact List.mem_map.2 ⟨(q,i),hvm q i hq,rfl⟩)
  rw [List.length_map] at this
  omega
 have h2:entsSum (grT ths P)≤8192:=by
  have hq:∃ way:Nat→List ByteArray,∀ i∈rowT ths P,resT ths r (way i)=some i:=by
   refine ⟨fun i=>(((visF ths TFUEL r []).find? fun u=>decide (u.2=i)).map (·.1)).getD [],fun i hi=>?_⟩
   obtain ⟨q,hq⟩:=(hP i).1 (rowT_mem.1 hi).2
   have hm:=hvm q i hq
   cases hf:(visF ths TFUEL r []).find? fun u=>decide (u.2=i) with
   | none =>
    have:=List.find?_eq_none.1 hf _ hm
    simp at this
   | some u =>
    have e:=List.find?_some hf
    have e:u.2=i:=by simpa using e
    have h9:=(hV u (List.mem_of_find?_eq_some hf)).2
    rw [e] at h9
    simp only [hf]
    exact h9
  obtain ⟨way,hway⟩:=hq
  have hsum:entsSum (grT ths P)=((rowT ths P).flatMap fun i=>(namesT (thD ths i)).map fun n=>way i++[n]).length:=by
   rw [entsSum_map,List.length_flatMap]
   unfold grT
   rw [List.map_map]
   congr 1
   refine List.map_congr_left fun i _=>?_
   show ((namesT (thD ths i)).map _).length=((namesT (thD ths i)).map _).length
   rw [List.length_map,List.length_map]
  rw [hsum]
  refine Nat.le_trans (nodup_lenG _ ((visF ths TFUEL r []).map (·.1)) ?_ ?_) (by rw [List.length_map]; omega)
  ·unfold List.Nodup
   rw [List.pairwise_flatMap]
   refine ⟨fun i _=>?_,?_⟩
   ·rw [List.pairwise_map]
    exact (names_nodup (hS.nd i)).imp fun {a b} hab he=>hab (by simpa using he)
   ·have hp:(rowT ths P).Pairwise fun a b=>a∈rowT ths P∧b∈rowT ths P∧a≠b:=by
     rw [List.pairwise_iff_getElem]
     intro a b ha hb hab
     have:=List.pairwise_iff_getElem.1 (rowT_asc ths P) a b ha hb hab
     exact ⟨List.getElem_mem ha,List.getElem_mem hb,by omega⟩
    refine hp.imp fun {a b} hab x hx y hy he=>?_
    obtain ⟨ma,mb,hne⟩:=hab
    obtain ⟨n,_,rfl⟩:=List.mem_map.1 hx
    obtain ⟨m,_,rfl⟩:=List.mem_map.1 hy
    have e:way a=way b:=(List.append_inj' he rfl).1
    have ra:=hway a ma
    rw [e,hway b mb] at ra
    injection ra with ra
    exact hne ra.symm
  ·intro x hx
   obtain ⟨i,hi,hx⟩:=List.mem_flatMap.1 hx
   obtain ⟨n,hn',rfl⟩:=List.mem_map.1 hx
   obtain ⟨j,hj,_⟩:=names_mem hn'
   refine List.mem_map.2 ⟨(way i++[n],j),hvm _ _ ?_,rfl⟩
   rw [resT_app,hway i hi]
   show resT ths i [n]=some j
   unfold resT
   rw [hj]; rfl
 have hW:=gr_wf hS hT hc hl h1 h2
 obtain ⟨⟨k,hk1⟩,hG⟩:=gr_known hrr
 have hRoot:RootG (grT ths P) ((r:Int)+1) k:=by
  refine ⟨hW,hk1,?_⟩
  have:=G_get hk1
  rw [hG] at this
  rw [← this]
  exact hk
 have hcorr:=(add_corr (gr_corr hS hc) TFUEL ⟨[],[],0⟩ ((r:Int)+1) [] ⟨k,hk1⟩ (fun p hp=>by cases hp) (by simp)).1
 rw [fT_at,J_get hk1] at hcorr
 have hcorr:addT ths TFUEL ⟨[],[],0⟩ r []=(mapF fT (addF (grT ths P) TFUEL ⟨[],[],0⟩ k ⟨#[46]⟩).1,(addF (grT ths P) TFUEL ⟨[],[],0⟩ k ⟨#[46]⟩).2):=hcorr
 have hout:(addT ths TFUEL ⟨[],[],0⟩ r []).1.out=(addF (grT ths P) TFUEL ⟨[],[],0⟩ k ⟨#[46]⟩).1.out:=by rw [hcorr]; rfl
 have hok:(addF (grT ths P) TFUEL ⟨[],[],0⟩ k ⟨#[46]⟩).2=true:=by rw [hcorr] at h; exact h
 rw [hout]
 obtain ⟨ps,ks,q1,-,-,q4,q5,q6⟩:=tree_plants (fuel:=4194304) (st:=(addF (grT ths P) TFUEL ⟨[],[],0⟩ k ⟨#[46]⟩).1) hRoot (by rw [← hok]; rfl)
 refine ⟨ps,q1,?_⟩
 obtain ⟨i,hi⟩:=root_of_not q4
 have:i=0:=by have:=hi.2.1; rw [q5] at this; injection this with this; exact this.symm
 subst this
 refine ⟨0,hi,?_,?_⟩
 ·show (addF ps.nodes (4194304+1) _ 0 _).2=true
  rw [q6]
 ·show (addF ps.nodes (4194304+1) _ 0 _).1.out=_
  rw [q6]; rfl
theorem le_sum_mem {x:Nat}:∀ {l:List Nat},x∈l→x≤l.sum
 | [],h=>by cases h
 | a :: l,h=>by
  rw [List.sum_cons]
  rcases List.mem_cons.1 h with rfl | h
  ·omega
  ·have:=le_sum_mem h; omega
theorem small_lines {ths:List ThD} {f r:Nat} (hS:Shp ths) (hd:∀ t∈ths,t.data.length≤1000000000) (hr:r<ths.length) (h:(addT ths f ⟨[],[],0⟩ r []).2=true):SmallP (addT ths f ⟨[],[],0⟩ r []).1.out:=by
 have hb:=(addT_bytes f ⟨[],[],0⟩ r [] (Nat.zero_le _) h).2
 rw [add_vis ths f _ _ _ h] at hb ⊢
 have hV:=vis_good hS.good (f:=f) (i:=r)
 obtain ⟨a,b⟩:=fold_lines ths (visF ths f r []) [] ⟨[],[],0⟩ (fun k=>rfl) (fun v hv=>path_pos (hV v hv).1)
 rw [a,List.nil_append]
 rw [b,Nat.zero_add] at hb
 intro l hl
 obtain ⟨n,hn⟩:=List.getElem?_of_mem hl
 rw [linesV_get] at hn
 cases hv:(visF ths f r [])[n]? with
 | none=>rw [hv] at hn; cases hn
 | some v =>
  rw [hv] at hn
  injection hn with hn
  have hm:=List.mem_of_getElem? hv
  have hlt:=res_lt hS _ _ _ hr (hV v hm).2
  have hn:lineT (pathT v.1) (thD ths v.2) (peerV ([]++(visF ths f r []).take n) v.2)=l:=hn
  subst hn
  constructor
  ·generalize peerV _ _=peer
   unfold lineT
   split
   ·exact hd _ (List.mem_of_getElem? (thD_at hlt))
   ·exact Nat.zero_le _
  ·rw [(lineT_cells _ _ _).1]
   have:=le_sum_mem (List.mem_map_of_mem (f:=fun v:List ByteArray×Nat=>(pathT v.1).size) hm)
   omega
def PlantsOk (R:FcD):Prop:=SmallP R.lines∧(R.lines=[]→R.code≠0)∧(R.lines≠[]→(∃ l,R.lines[0]?=some l∧l.path=⟨#[46]⟩)∧(R.lines.length≤4096→∃ ps,plantL 0 R.lines ⟨[],[]⟩=some ps∧TreeOf ps R.lines))
theorem plants_fail {k:Int} (h0:k≠0):PlantsOk (failF k):=⟨fun _ h=>(List.not_mem_nil h).elim,fun _=>h0,fun h=>absurd rfl h⟩
theorem add_lines_first {ths:List ThD} (hG:NamesG ths) {f i:Nat} (h:(addT ths f ⟨[],[],0⟩ i []).2=true):∃ l,(addT ths f ⟨[],[],0⟩ i []).1.out[0]?=some l∧l.path=⟨#[46]⟩:=by
 rw [add_lines hG h]
 cases f with
 | zero=>cases h
 | succ f =>
  refine ⟨_,by rw [linesV_get]; unfold visF; rfl,?_⟩
  exact (lineT_cells _ _ _).1
theorem tell_plants {c:ConfigD} (ls:List LineD) (es:List EntryD) (now:TimeD) (hls:SmallP ls) (hes:es.length≤1000000000∧∀ e∈es,e.link.size≤100000000∧e.data.length≤100000000):PlantsOk (tellF ls es 0 c now):=by
 by_cases hc:cfgE c≠0
 ·rw [tellF_cfg hc]; exact plants_fail hc
 by_cases hp:∃ ps,plantL 0 ls ⟨[],[]⟩=some ps∧TreeOf ps ls
 ·obtain ⟨ps,hp,ht⟩:=hp
  rw [tellF_on hc hp ht]
  split
  ·exact plants_fail (by decide)
  rename_i hst
  have hst:stampOk now.sec now.nano=true:=by simpa using hst
  split
  ·exact plants_fail (by decide)
  rename_i hfit
  have hfit:∀ e∈es,fitB e=true:=by simpa using hfit
  have hcb:(cfgBs c).all inB=true:=by
   have hc:cfgE c=0:=Classical.byContradiction hc
   unfold cfgE at hc
   split at hc
   ·assumption
   ·cases hc
  obtain ⟨i,hr,-,-⟩:=id ht
  obtain ⟨hW,hidx,hik⟩:=hr
  have hil:=(idx_get hidx).1
  have hS:=plantT_shp hW
  have hTr:=plantT_tre hW
  have hrl:i<(plantT ps.nodes).length:=by rw [plantT_len]; exact hil
  have hrk:=plantT_kind hil hik
  have hg4:ps.nodes.length≤4096:=by
   have:=hW.1
   unfold basicB at this
   simp only [Bool.and_eq_true,decide_eq_true_eq] at this
   exact this.1.1
  rw [hidx,Option.getD_some]
  obtain ⟨s1,s2⟩:=walkF_stps (nv:=false) (r:=i) (c:=c) hst es ⟨⟨plantT ps.nodes,[]⟩,[],0⟩ (fun e he ho=>jobS (hfit e he) hcb (fun h=>by cases h) ho) hS (fun p hp=>by cases hp) hrl hrk
  obtain ⟨t1,t2,t3,t4⟩:=(show 0≤now.nano∧now.nano<1000000000∧-1099511627777≤now.sec∧now.sec≤1099511627776 by
   unfold stampOk at hst
   have:=of_decide_eq_true hst
   omega)
  have s4:=walkF_ok (now:=now) (r:=i) (c:=c) hcb ⟨⟨by omega,by omega⟩,⟨by omega,by omega⟩⟩ es ⟨⟨plantT ps.nodes,[]⟩,[],0⟩ 8192 (fun e he=>⟨hfit e he,hes.2 e he⟩) (Nat.zero_le _) ⟨(plantT_ok hW (plant_data hp hls)).mono (Nat.le_add_right _ _),fun p hp=>by cases hp⟩
  have s3:=walkF_len (now:=now) (r:=i) (c:=c) es ⟨⟨plantT ps.nodes,[]⟩,[],0⟩ (fun e he ho=>(jobOk (hfit e he) (hes.2 e he).1 (hes.2 e he).2 hcb (by rw [ho]; simp)).few)
  have s3:(walkF now i c es ⟨⟨plantT ps.nodes,[]⟩,[],0⟩).1.s.ths.length≤(plantT ps.nodes).length+65*es.length:=s3
  rw [plantT_len] at s3
  unfold foldF
  simp only
  generalize walkF now i c es ⟨⟨plantT ps.nodes,[]⟩,[],0⟩=R at s1 s2 s3 s4
  have hS2:=s1.shp hst hS
  have hT2:=s1.tre hst hS hTr
  have hst2:=s1.stay
  have key:∀ t2,(t2=finishF R.1.s.ths R.1.s.off∨t2=R.1.s.ths)→Shp t2∧Tre t2∧Stay (plantT ps.nodes) t2∧t2.length=R.1.s.ths.length∧∀ t∈t2,t.data.length≤1000000000:=by
   rintro t2 (rfl | rfl)
   ·exact ⟨fin_shp hS2 s2,fin_tre hS2 s2 hT2,hst2.trans (fin_stay s2),finBy_len _ _,fun t ht=>(finishF_ok s4.1 s4.2 t ht).1.2.2.2.2.1⟩
   ·exact ⟨hS2,hT2,hst2,rfl,fun t ht=>(s4.1 t ht).1.2.2.2.2.1⟩
  obtain ⟨k1,k2,k3,k4,k5⟩:=key (if R.2=0∧True then finishF R.1.s.ths R.1.s.off else R.1.s.ths) (by split; exact .inl rfl; exact .inr rfl)
  generalize (if R.2=0∧True then finishF R.1.s.ths R.1.s.off else R.1.s.ths)=t2 at k1 k2 k3 k4 k5
  by_cases hT:(addT t2 TFUEL ⟨[],[],0⟩ i []).2=true
  ·rw [if_pos hT]
   refine ⟨small_lines k1 k5 (Nat.lt_of_lt_of_le hrl k3.len) hT,fun h0=>absurd h0 (add_lines_ne k1.good hT),fun _=>⟨add_lines_first k1.good hT,fun hn=>?_⟩⟩
   have:=hes.1
   exact things_plant k1 k2 (by omega) (Nat.lt_of_lt_of_le hrl k3.len) ((k3.kind i hrl).trans hrk) hT hn
  ·rw [if_neg hT]
   exact plants_fail (by decide)
 ·rw [tellF_order hc fun ps hp' ht=>hp ⟨ps,hp',ht⟩]
  exact plants_fail (by decide)
end Go.Proofs.YtfhfcipelgogjaaGreatDoor
namespace Go.Proofs.YtfhfcipelgogjaaGreatDoor
open Go.RowKit
attribute [local go_sem] cell?_over frozen?_over lt_over le_over
theorem plantsLaw {A Ae A1 A2:Option Addr} {n cn ne ce n1 c1 n2 c2:Nat} {ls:List LineD} {es:List EntryD} {c:ConfigD} {now:TimeD} (m:Int) (w:World) (hL:Row Shape.LineD w (Old w) A n ls) (hE:Row Shape.EntryD w (Old w) Ae ne es) (h1:Row Shape.str w (Old w) A1 n1 c.include_) (h2:Row Shape.str w (Old w) A2 n2 c.exclude) (hb:GvIn ls es n ne n1 n2)
  (hm:w.cell? ⟨0,0,none⟩=some (.int .i64 m)) :
  Calls Tryz.prog 5 #[.agg (gvC A n cn Ae ne ce c A1 n1 c1 A2 n2 c2 now)] w fun e w'=>e=.returned (.bool true)∧Below w.heap.size w w':=by
 have WL:Hid (0<w.heap.size):=Lib.hid (World.block_lt_of_cell? _ _ hm)
 have HM:Hid (∀ W,Below w.heap.size w W→W.cell? ⟨0,0,none⟩=some (.int .i64 m)):=Lib.hid fun W hb=>(hb.cell (p:=⟨0,0,none⟩) WL.out).trans hm
 have HB:=Lib.hid hb; have HL:=Lib.hid hL; have HE:=Lib.hid hE; have H1:=Lib.hid h1; have H2:=Lib.hid h2
 obtain ⟨w0,hw0⟩:∃ x,x=w.alloc (.cells (gvC A n cn Ae ne ce c A1 n1 c1 A2 n2 c2 now) 46):=⟨_,rfl⟩
 have HB0:Hid (Below w.heap.size w w0):=Lib.hid (by rw [hw0]; exact below_alloc' _ _)
 obtain ⟨xb,hxb⟩:∃ x,x=w.heap.size:=⟨_,rfl⟩
 have HX0:Hid (Blk w0 xb 46 (gvC A n cn Ae ne ce c A1 n1 c1 A2 n2 c2 now)):=Lib.hid (by rw [hw0,hxb]; exact Blk.new _ _ _)
 have AL:=Lib.hid (law25Alive m w0 (Nat.lt_of_lt_of_le WL.out HB0.out.size) (HM.out _ HB0.out))
 have HXB:=Lib.hid hxb
 clear hL hE h1 h2 hb hm
 unfold gvC at hw0 ⊢
 go_enter Tryz.func5,Tryz.ntmps5
 go_upto_region 1 with (fail)
 rw [← hw0,← hxb]
 clear hw0 hxb
 go_wp2_with fail
 refine AL.out.mono ?_
 rintro e w1 ⟨rfl,hb1⟩
 have HB1:=Lib.hid (below_old HB0.out hb1)
 have HX1:=Lib.hid (HX0.out.below hb1 HX0.out.lt)
 have x0:=HX1.out.cell 0; have x1:=HX1.out.cell 1; have x2:=HX1.out.cell 2; have x3:=HX1.out.cell 3; have x4:=HX1.out.cell 4; have x5:=HX1.out.cell 5; have x6:=HX1.out.cell 6; have x7:=HX1.out.cell 7; have x8:=HX1.out.cell 8; have x9:=HX1.out.cell 9; have x10:=HX1.out.cell 10; have x11:=HX1.out.cell 11; have x12:=HX1.out.cell 12; have x13:=HX1.out.cell 13; have x14:=HX1.out.cell 14; have x15:=HX1.out.cell 15; have x16:=HX1.out.cell 16
 have lx:=HX1.out.lt
 unfold gvC at x0 x1 x2 x3 x4 x5 x6 x7 x8 x9 x10 x11 x12 x13 x14 x15 x16
 simp only [List.getElem?_toArray,List.getElem?_cons_succ,List.getElem?_cons_zero] at x0 x1 x2 x3 x4 x5 x6 x7 x8 x9 x10 x11 x12 x13 x14 x15 x16
 clear hb1 AL HB0 HX0
 go_upto_region 3 with (fail)
 obtain ⟨w3,hw3⟩:∃ x,x=w1:=⟨_,rfl⟩
 subst hw3
 have HB3:=HB1
 have HX3:=HX1
 obtain ⟨R,hR⟩:∃ x,x=tellF ls es 0 c now:=⟨_,rfl⟩
 have HN:Hid (PlantsOk R):=Lib.hid (by rw [hR]; exact tell_plants ls es now HB.out.small ⟨by have:=HE.out.1; have:=HB.out.hne; omega,fun e he=>⟨by have:=HB.out.ents e he; have q:=this.link; omega,by have:=(HB.out.ents e he).data; omega⟩⟩)
 have HR:=Lib.hid hR
 clear hR
 refine wp_region_grow_t [(2,Made.row Shape.LineD ls w3.heap.size),(5,Made.row Shape.EntryD es w3.heap.size),(8,madeCfg c w3.heap.size),(11,madeFc R w3.heap.size),(12,Made.blk 50 #[.slice none 0 0,.slice none 0 0,.int .i64 0,.int .i64 0] w3.heap.size)] 13 _ rfl (by kernel_rfl) [2,5,8,11,12] rfl (by kernel_rfl) (stays_cons (row_stays _ _ _) (stays_cons (row_stays _ _ _) (stays_cons (cfg_stays _ _) (stays_cons (fc_stays _ _) (stays_cons (blk_stays _ _ _) stays_nil))))) ?_
 simp only [List.take_succ_cons,List.take_zero,List.drop_succ_cons,List.drop_zero]
 repeat (first
  | (refine g_w rfl ?_ (fun W=>?_) ?_; rotate_left; (focus (go_simp; (try with_reducible rfl); done)); simp only [Act.put,List.setIfInBounds_toArray,List.set_cons_zero,List.set_cons_succ])
  | (refine g_d rfl (by kernel_rfl) ?_ (fun δ=>?_) ?_; rotate_left; (focus (go_simp; (try with_reducible rfl); done)); simp only [Act.put,List.setIfInBounds_toArray,List.set_cons_zero,List.set_cons_succ]))
 refine g_call rfl 13 #[.slice A n cn] (fun W=>?_) (fun δ hF=>?_) (fun x15'=>?_)
 ·go_simp; try (constructor <;> with_reducible rfl)
 ·exact (copyLines (c:=cn) (over w3 δ) (HL.out.below (below_old HB3.out (below_over _ _))) HB.out.lines (by have:=HB.out.hn; omega)).mono fun e w' h=>lines_of h (size_over_le _ _)
 obtain ⟨A5,c5⟩:=x15'
 simp only [Act.put,List.setIfInBounds_toArray,List.set_cons_zero,List.set_cons_succ,enc_row]
 repeat (first
  | (refine g_w rfl ?_ (fun W=>?_) ?_; rotate_left; (focus (go_simp; (try with_reducible rfl); done)); simp only [Act.put,List.setIfInBounds_toArray,List.set_cons_zero,List.set_cons_succ])
  | (refine g_d rfl (by kernel_rfl) ?_ (fun δ=>?_) ?_; rotate_left; (focus (go_simp; (try with_reducible rfl); done)); simp only [Act.put,List.setIfInBounds_toArray,List.set_cons_zero,List.set_cons_succ]))
 refine g_call rfl 18 #[.slice Ae ne ce] (fun W=>?_) (fun δ hF=>?_) (fun x18'=>?_)
 ·go_simp; try (constructor <;> with_reducible rfl)
 ·exact (copyEntries (c:=ce) (over w3 δ) (HE.out.below (below_old HB3.out (below_over _ _))) (fun e he=>by have:=(HB.out.ents e he).data; omega) (by have:=HB.out.hne; omega)).mono fun e w' h=>entries_of h (size_over_le _ _)
 obtain ⟨A6,c6⟩:=x18'
 simp only [Act.put,List.setIfInBounds_toArray,List.set_cons_zero,List.set_cons_succ,enc_row]
 repeat (first
  | (refine g_w rfl ?_ (fun W=>?_) ?_; rotate_left; (focus (go_simp; (try with_reducible rfl); done)); simp only [Act.put,List.setIfInBounds_toArray,List.set_cons_zero,List.set_cons_succ])
  | (refine g_d rfl (by kernel_rfl) ?_ (fun δ=>?_) ?_; rotate_left; (focus (go_simp; (try with_reducible rfl); done)); simp only [Act.put,List.setIfInBounds_toArray,List.set_cons_zero,List.set_cons_succ]))
 refine g_call rfl 20 #[.agg (cfgC c A1 n1 c1 A2 n2 c2)] (fun W=>?_) (fun δ hF=>?_) (fun xc'=>?_)
 ·unfold cfgC
  go_simp; try (constructor <;> with_reducible rfl)
 ·exact (copyConfig (over w3 δ) (H1.out.below (below_old HB3.out (below_over _ _))) (H2.out.below (below_old HB3.out (below_over _ _))) (by have:=HB.out.hn1; omega) (by have:=HB.out.hn2; omega)).mono fun e w' h=>cfg_of h (size_over_le _ _)
 obtain ⟨⟨B1,d1⟩,⟨B2,d2⟩⟩:=xc'
 simp only [Act.put,List.setIfInBounds_toArray,List.set_cons_zero,List.set_cons_succ]
 repeat (first
  | (refine g_w rfl ?_ (fun W=>?_) ?_; rotate_left; (focus (go_simp; (try with_reducible rfl); done)); simp only [Act.put,List.setIfInBounds_toArray,List.set_cons_zero,List.set_cons_succ])
  | (refine g_d rfl (by kernel_rfl) ?_ (fun δ=>?_) ?_; rotate_left; (focus (go_simp; (try with_reducible rfl); done)); simp only [Act.put,List.setIfInBounds_toArray,List.set_cons_zero,List.set_cons_succ]))
 refine g_call rfl 19 #[.slice A5 ls.length c5,.slice A6 es.length c6,.agg (cfgC c B1 c.include_.length d1 B2 c.exclude.length d2),.agg #[.int .i64 now.sec,.int .i64 now.nano]] (fun W=>?_) (fun δ hF=>?_) (fun x22=>?_)
 ·unfold cfgC
  unfold madeCfg cfgC
  go_simp; try (constructor <;> with_reducible rfl)
 ·have h15:(Made.row Shape.LineD ls w3.heap.size).Fact (A5,c5) (over w3 δ):=hF 2 (by kernel_rfl)
  have h18:(Made.row Shape.EntryD es w3.heap.size).Fact (A6,c6) (over w3 δ):=hF 5 (by kernel_rfl)
  have hcf:(madeCfg c w3.heap.size).Fact ((B1,d1),(B2,d2)) (over w3 δ):=hF 8 (by kernel_rfl)
  have hbo:Below w3.heap.size w3 (over w3 δ):=below_over _ _
  have q1:=HL.out.1; have q2:=HE.out.1; have q3:=HB.out.hn; have q4:=HB.out.hne
  have:=foldTree (cn:=c5) (ce:=c6) (c1:=d1) (c2:=d2) (now:=now) m (over w3 δ) (h15.2.more fun k hk=>hk.2) HB.out.small (by omega) (h18.2.more fun k hk=>hk.2) (by omega) HB.out.ents (hcf.1.more fun k hk=>hk.2) (hcf.2.more fun k hk=>hk.2) (by have q5:=H1.out.1; have q6:=HB.out.hn1; omega) (by have q5:=H2.out.1; have q6:=HB.out.hn2; omega) (Nat.lt_of_lt_of_le WL.out (below_old HB3.out hbo).size) (HM.out _ (below_old HB3.out hbo))
  rw [← HR.out] at this
  refine this.mono fun e w' h=>?_
  obtain ⟨x,hx1,hx2⟩:=fc_of h (size_over_le _ _)
  exact ⟨x,hx1,h.1,hx2⟩
 simp only [Act.put,List.setIfInBounds_toArray,List.set_cons_zero,List.set_cons_succ]
 refine g_alloc rfl (Nat.le_refl _) (fun W=>?_) (fun g4=>?_)
 ·go_simp; try rfl
 simp only [Act.put,List.setIfInBounds_toArray,List.set_cons_zero,List.set_cons_succ]
 refine g_end fun δ hF=>?_
 have hfc:FcAt R w3.heap.size x22 (over w3 δ):=hF 11
 have hfb:Blk (over w3 δ) g4 50 #[.slice none 0 0,.slice none 0 0,.int .i64 0,.int .i64 0]∧w3.heap.size≤g4:=hF 12
 clear hF
 have ex:(madeFc R w3.heap.size).enc x22=.agg (fcC R x22):=rfl
 rw [ex]
 refine endT_store 50 (.tmp 3) (.tmp 19) rfl g4 rfl hfb.1 rfl (by kernel_rfl) rfl rfl (fun w4 b4 hg4 hs4=>?_)
 have hbo:Below w3.heap.size w3 (over w3 δ):=below_over _ _
 have HF4:=Lib.hid (hfc.store hfb.1 hg4)
 have HB34:Hid (Below w3.heap.size w3 w4):=Lib.hid (hbo.grown hg4 hbo.size (fun j hj=>by injection hj with hj; rw [← hj]; exact hfb.2))
 have HB4:Hid (Below w.heap.size w w4):=Lib.hid (below_old HB3.out HB34.out)
 have HX4:=Lib.hid (HX3.out.below HB34.out HX3.out.lt)
 have hb4:Blk w4 g4 50 (fcC R x22):=b4
 have HO4:=Lib.hid hb4
 clear hfc hfb hg4 hs4 b4 hb4 hbo x0 x1 x2 x3 x4 x5 x6 x7 x8 x9 x10 x11 x12 x13 x14 x15 x16 lx
 refine g_tail_end ?_
 simp only [Act.put,List.setIfInBounds_toArray,List.set_cons_zero,List.set_cons_succ]
 obtain ⟨⟨A9,c9⟩,⟨A8,c8⟩⟩:=x22
 have y0:=HO4.out.cell 0; have y1:=HO4.out.cell 1; have y2:=HO4.out.cell 2
 have lo:=HO4.out.lt
 unfold fcC at y0 y1 y2 ⊢
 simp only [List.getElem?_toArray,List.getElem?_cons_succ,List.getElem?_cons_zero] at y0 y1 y2
 obtain ⟨rc,hrc⟩:∃ x,x=R.code:=⟨_,rfl⟩
 obtain ⟨n9,hn9⟩:∃ x,x=R.lines.length:=⟨_,rfl⟩
 obtain ⟨n8,hn8⟩:∃ x,x=R.done.length:=⟨_,rfl⟩
 rw [← hrc] at y2; rw [← hn9] at y0; rw [← hn8] at y1
 rw [← hrc,← hn9,← hn8]
 have HRC:=Lib.hid hrc; have HN9:=Lib.hid hn9; have HN8:=Lib.hid hn8
 clear hrc hn9 hn8
 by_cases h9:n9=0
 ·have t1:(rc != 0)=true:=by
   have:R.lines=[]:=List.length_eq_zero_iff.1 (by rw [← HN9.out]; exact h9)
   have:=HN.out.2.1 this
   rw [← HRC.out] at this
   simpa using this
  subst h9
  go_wp2_with fail
  go_ret
  exact ⟨rfl,HB4.out⟩
 ·have hpos:0<n9:=by omega
  have hne:R.lines≠[]:=fun h0=>h9 (by rw [HN9.out,h0]; rfl)
  obtain ⟨⟨l0,hl0,hp0⟩,hpl⟩:=HN.out.2.2 hne
  rw [← HN9.out] at hpl
  have HPL:=Lib.hid hpl
  have HR9:Hid (Row Shape.LineD w4 (Old w4) A9 n9 R.lines):=Lib.hid (by
   have:=HF4.out.lines
   rw [← HN9.out] at this
   exact this.more fun k hk=>hk.2)
  obtain ⟨b9,off9,es9,hl9,rfl,hb9,hc9,hd9⟩:=HR9.out.at_ hpos
  have q1:=hc9 0 (by decide)
  have hd0:R.lines[0]=l0:=by rw [List.getElem?_eq_getElem hl9] at hl0; injection hl0
  rw [hd0] at hd9
  obtain ⟨A7,n7,c7,rfl,-⟩:=hd9
  rw [hp0] at q1
  have e3:Shape.LineD.size=10:=rfl
  simp only [e3,List.getElem?_cons_zero,Nat.zero_mul,Nat.add_zero] at q1
  have lb9:b9<w4.heap.size:=hb9
  have hn0:(n9:Int)≠0:=by omega
  have t0:((n9:Int) == 0)=false:=by simpa using hn0
  clear hc9 hb9 hd0 hl0 hp0 hpl hne e3 hn0
  by_cases h4:(n9:Int)>4096
  ·have t1:decide ((n9:Int)>4096)=true:=decide_eq_true h4
   go_wp2_with fail
   go_ret
   exact ⟨rfl,HB4.out⟩
  ·have t1:decide ((n9:Int)>4096)=false:=decide_eq_false h4
   have h4':n9≤4096:=by omega
   obtain ⟨ps,hps,htree⟩:=HPL.out h4'
   have hnn:ps.nodes.length≠0:=by
    obtain ⟨i,hi,-⟩:=htree
    have:=(idx_get hi.2.1).1
    omega
   have HCL:Hid (∀ W,Below w4.heap.size w4 W→Calls Tryz.prog 13 #[.slice (some ⟨b9,off9,none⟩) n9 c9] W fun e w'=>∃ A5 c5,e=.returned (.slice A5 n9 c5)∧Below W.heap.size W w'∧Row Shape.LineD w' (Old w') A5 n9 R.lines):=Lib.hid (fun W hW =>
    (copyLines (c:=c9) W (HR9.out.below hW) (fun d hd=>by have:=(HN.out.1 d hd).1; omega) (by omega)).mono fun e w' h=>by
     obtain ⟨v,δ,M,rfl,hw,hown,hM⟩:=h
     obtain ⟨A5,n5,c5,rfl,_,_,hrow⟩:=hown.rd_old
     have q1:=hrow.1
     have q2:=HR9.out.1
     have q3:n5=n9:=by omega
     subst q3
     exact ⟨A5,c5,rfl,by rw [hw]; exact below_over _ _,hrow⟩)
   have HGP:Hid (∀ W A5 c5,Row Shape.LineD W (Old W) A5 n9 R.lines→Calls Tryz.prog 15 #[.slice A5 n9 c5] W fun e w'=>Below W.heap.size W w'∧∃ A3 N c3,e=.returned (.tuple #[.agg #[.slice A3 N c3],.int .i64 0])∧(N:Int)>0):=Lib.hid (fun W A5 c5 hR =>
    (graphPlantE (c:=c5) W hR HN.out.1 (by omega)).mono fun e w' h=>by
     obtain ⟨hb,⟨ps',A3,N,c3,hps',rfl,hrow,-⟩ | ⟨-,hno⟩⟩:=h
     ·refine ⟨hb,A3,N,c3,rfl,?_⟩
      rw [hps] at hps'
      injection hps' with hps'
      have:=hrow.1
      rw [← hps'] at this
      omega
     ·exact absurd htree (not_treeOf (hno ps hps)))
   clear hps htree hnn h4'
   have CL:=Lib.hid (HCL.out w4 (Below.refl _ _))
   go_wp2_with fail
   refine CL.out.mono ?_
   rintro e w5 ⟨A5,c5,rfl,hb5,hr5⟩
   have HB5:=Lib.hid (below_old HB4.out hb5)
   have GP:=Lib.hid (HGP.out w5 A5 c5 hr5)
   clear hb5 hr5 CL
   go_wp2_with fail
   refine GP.out.mono ?_
   rintro e w6 ⟨hb6,A3,N,c3,rfl,hN⟩
   have HB6:=Lib.hid (below_old HB5.out hb6)
   have hN':decide ((N:Int)>0)=true:=decide_eq_true hN
   clear hb6 GP
   go_wp2_with fail
   go_ret
   refine ⟨?_,HB6.out.alloc HB6.out.size _⟩
   go_simp
   omega
end Go.Proofs.YtfhfcipelgogjaaGreatDoor
