/- What graph.Plant makes of lines, in plain words, and that a tree's lines are planted as they were told. No condition. Go's order of texts, and of lists of texts: plain. No condition. What is well-formed in a graph, as plain facts, both ways. No condition. A tree's lines are planted to a well-formed graph of the same tree. No condition. strings.LastIndexByte at a slash. No condition but room. -/
import Derived.Test.YtfhfcipelgogjaaGreatDoorAddAll
import Derived.Test.YtfhfcipelgogjaaGreatDoorBaseAt
import Derived.Sort.Walk0
set_option linter.unusedSectionVars false
set_option linter.unusedVariables false
set_option linter.unusedSimpArgs false
namespace Go.Proofs.YtfhfcipelgogjaaGreatDoor
open Go.RowKit
structure PSt where
 nodes:List NodeD
 ids:List (ByteArray×Int)
def lastSl:List UInt8→Option Nat
 | []=>none
 | b :: r=>match lastSl r with
  | some k=>some (k+1)
  | none=>if b=47 then some 0 else none
def parentOf (ids:List (ByteArray×Int)) (p:ByteArray):Int×ByteArray:=match lastSl p.data.toList with
 | none=>(1,p)
 | some k=>((getKv ids (p.extract 0 k)).getD 0,p.extract (k+1) p.size)
def nodeOf (l:LineD) (id:Int):NodeD:=⟨id,l.kind,l.mode,l.uid,l.gid,l.mtime,l.data,l.target,[]⟩
def addEnt (ns:List NodeD) (k:Nat) (e:EntD):List NodeD:=ns.modify k fun n=>{ n with ents:=n.ents++[e] }
def newId (ps:PSt) (l:LineD):Int:=if l.peer.size=0 then (ps.nodes.length:Int)+1 else (getKv ps.ids l.peer).getD 0
def nodes1 (ps:PSt) (l:LineD):List NodeD:=if l.peer.size=0 then ps.nodes++[nodeOf l ((ps.nodes.length:Int)+1)] else ps.nodes
def plant1 (top:Bool) (ps:PSt) (l:LineD):Option PSt:=
 if hasKv ps.ids l.path=true∨newId ps l=0 then none
 else if top=true then some ⟨nodes1 ps l,putKv ps.ids l.path (newId ps l)⟩
 else if (parentOf ps.ids l.path).1=0 then none
 else some ⟨addEnt (nodes1 ps l) ((parentOf ps.ids l.path).1 - 1).toNat ⟨(parentOf ps.ids l.path).2,newId ps l⟩,putKv ps.ids l.path (newId ps l)⟩
def plantL:Nat→List LineD→PSt→Option PSt
 | _,[],ps=>some ps
 | i,l :: r,ps=>(plant1 (decide (i=0)) ps l).bind (plantL (i+1) r)
def plantR:List LineD→PSt→Option PSt
 | [],ps=>some ps
 | l :: r,ps=>(plant1 false ps l).bind (plantR r)
theorem plantL_succ:∀ (L:List LineD) (i:Nat) (ps:PSt),plantL (i+1) L ps=plantR L ps
 | [],_,_=>rfl
 | l :: r,i,ps=>by
  unfold plantL plantR
  rw [decide_eq_false (by omega)]
  congr 1
  funext q
  exact plantL_succ r (i+1) q
theorem plantR_append:∀ (A B:List LineD) (ps:PSt),plantR (A++B) ps=(plantR A ps).bind (plantR B)
 | [],_,_=>rfl
 | a :: A,B,ps=>by
  rw [List.cons_append]
  unfold plantR
  cases plant1 false ps a with
  | none=>rfl
  | some q=>exact plantR_append A B q
section
variable (gs:List NodeD)
def J (id:Int):Nat:=(getKv (idx gs) id).getD 0
def G (id:Int):NodeD:=gs.getD (J gs id) default
def Known (id:Int):Prop:=∃ j,getKv (idx gs) id=some j
def ren (ks:List Int) (e:EntD):EntD:=⟨e.name,(ks.idxOf e.id:Int)+1⟩
def copyN (n:NodeD) (id:Int) (es:List EntD):NodeD:={ n with id:=id,ents:=es }
def nodesOf (ks:List Int) (m:Nat→Nat):List NodeD:=ks.zipIdx.map fun p=>copyN (G gs p.1) ((p.2:Int)+1) (((G gs p.1).ents.take (m p.2)).map (ren ks))
def keys (st:LSt):List Int:=st.first.map (·.1)
structure Fit (rank:Int→Nat):Prop where
 known:∀ (id:Int) (e:EntD),Known gs id→e∈(G gs id).ents→Known gs e.id
 good:∀ (id:Int) (e:EntD),Known gs id→e∈(G gs id).ents→GoodP e.name
 names:∀ id,Known gs id→(G gs id).ents.Pairwise fun a b=>a.name≠b.name
 once:∀ (i1 i2:Int) (x y:Nat) (e1 e2:EntD),Known gs i1→Known gs i2→(G gs i1).ents[x]?=some e1→(G gs i2).ents[y]?=some e2→e1.id=e2.id→(G gs e1.id).kind=2→i1=i2∧x=y
 fall:∀ (id:Int) (e:EntD),Known gs id→e∈(G gs id).ents→(G gs e.id).kind=2→rank id<rank e.id
 leaf:∀ id,Known gs id→(G gs id).kind≠2→(G gs id).ents=[]
structure Inv (rank:Int→Nat) (root:Int) (st:LSt) (ps:PSt) (m:Nat→Nat):Prop where
 nodes:ps.nodes=nodesOf gs (keys st) m
 nodup:(keys st).Nodup
 known:∀ id∈keys st,Known gs id
 le:∀ (k:Nat) id,(keys st)[k]?=some id→m k≤(G gs id).ents.length
 in_:∀ (k:Nat) id,(keys st)[k]?=some id→∀ e∈(G gs id).ents.take (m k),e.id∈keys st
 ids:∀ (k:Nat) p,st.first[k]?=some p→getKv ps.ids p.2=some ((k:Int)+1)∧p.2.size≠0∧p.2.size≤4194304
 dirs:∀ id∈keys st,(G gs id).kind=2→rank root≤rank id∧(id=root∨∃ k i e x,(keys st)[k]?=some i∧x<m k∧(G gs i).ents[x]?=some e∧e.id=id)
end
variable {gs:List NodeD}
theorem J_get {id:Int} {j:Nat} (h:getKv (idx gs) id=some j):J gs id=j:=by unfold J; rw [h]; rfl
theorem G_get {id:Int} {j:Nat} (h:getKv (idx gs) id=some j):G gs id=gs.getD j default:=by unfold G; rw [J_get h]
theorem G_id {id:Int} (h:Known gs id):(G gs id).id=id:=by
 obtain ⟨j,hj⟩:=h
 obtain ⟨hl,he⟩:=idx_get hj
 rw [G_get hj,List.getD_eq_getElem?_getD,List.getElem?_eq_getElem hl]
 exact he
theorem G_mem {id:Int} (h:Known gs id):G gs id∈gs:=by
 obtain ⟨j,hj⟩:=h
 obtain ⟨hl,he⟩:=idx_get hj
 rw [G_get hj,List.getD_eq_getElem?_getD,List.getElem?_eq_getElem hl]
 exact List.getElem_mem hl
def Under (p q:ByteArray):Prop:=q=p∨∃ t:List UInt8,q.data.toList=p.data.toList++47 :: t
theorem ba_ext {a b:ByteArray} (h:a.data.toList=b.data.toList):a=b:=by
 cases a; cases b
 simp only [Array.toList_inj] at h
 rw [h]
theorem good_slash {n:ByteArray} (h:GoodP n):(47:UInt8)∉n.data.toList:=fun hm=>h.2.2.2.2 (.inl hm)
theorem sub_list (top:Bool) (path name:ByteArray):(subPath top path name).data.toList=(if top=true then [] else path.data.toList++[47])++name.data.toList:=by
 unfold subPath
 cases top <;> simp [ByteArray.data_append]
theorem cancel_slash:∀ (a b s t:List UInt8),(47:UInt8)∉a→(47:UInt8)∉b→(s=[]∨∃ r,s=47 :: r)→(t=[]∨∃ r,t=47 :: r)→a++s=b++t→a=b
 | [],[],_,_,_,_,_,_,_=>rfl
 | [],y :: b,s,t,_,hb,hs,_,h=>by
  exfalso
  rcases hs with rfl | ⟨r,rfl⟩
  ·simp at h
  ·simp at h; exact hb (by rw [← h.1]; simp)
 | x :: a,[],s,t,ha,_,_,ht,h=>by
  exfalso
  rcases ht with rfl | ⟨r,rfl⟩
  ·simp at h
  ·simp at h; exact ha (by rw [h.1]; simp)
 | x :: a,y :: b,s,t,ha,hb,hs,ht,h=>by
  simp only [List.cons_append,List.cons.injEq] at h
  rw [h.1,cancel_slash a b s t (fun hm=>ha (List.mem_cons_of_mem _ hm)) (fun hm=>hb (List.mem_cons_of_mem _ hm)) hs ht h.2]
theorem under_tail {p q:ByteArray} (h:Under p q):∃ s,q.data.toList=p.data.toList++s∧(s=[]∨∃ r,s=47 :: r):=by
 rcases h with rfl | ⟨t,ht⟩
 ·exact ⟨[],by simp,.inl rfl⟩
 ·exact ⟨47 :: t,ht,.inr ⟨t,rfl⟩⟩
theorem under_two {top:Bool} {path n1 n2 q:ByteArray} (h1:(47:UInt8)∉n1.data.toList) (h2:(47:UInt8)∉n2.data.toList) (u1:Under (subPath top path n1) q) (u2:Under (subPath top path n2) q):n1=n2:=by
 obtain ⟨s,hs,ks⟩:=under_tail u1
 obtain ⟨t,ht,kt⟩:=under_tail u2
 rw [hs,sub_list,sub_list,List.append_assoc,List.append_assoc,List.append_cancel_left_eq] at ht
 exact ba_ext (cancel_slash _ _ s t h1 h2 ks kt ht)
theorem under_sub {path name q:ByteArray} (u:Under (subPath false path name) q):∃ t,q.data.toList=path.data.toList++47 :: t:=by
 obtain ⟨s,hs,-⟩:=under_tail u
 rw [sub_list] at hs
 exact ⟨name.data.toList++s,by simpa using hs⟩
theorem under_up {path name q:ByteArray} (u:Under (subPath false path name) q):Under path q:=.inr (under_sub u)
theorem under_self {path name:ByteArray} (u:Under (subPath false path name) path):False:=by
 obtain ⟨t,ht⟩:=under_sub u
 have:=congrArg List.length ht
 simp at this
theorem lastSl_none:∀ (l:List UInt8),(47:UInt8)∉l→lastSl l=none
 | [],_=>rfl
 | b :: r,h=>by
  unfold lastSl
  rw [lastSl_none r fun hm=>h (List.mem_cons_of_mem _ hm)]
  simp only
  rw [if_neg (fun e=>h (by rw [e]; simp))]
theorem lastSl_at:∀ (a b:List UInt8),(47:UInt8)∉b→lastSl (a++47 :: b)=some a.length
 | [],b,h=>by
  rw [List.nil_append]
  unfold lastSl
  rw [lastSl_none b h]
  rfl
 | x :: a,b,h=>by
  rw [List.cons_append]
  unfold lastSl
  rw [lastSl_at a b h]
  rfl
theorem parent_sub {ids:List (ByteArray×Int)} {top:Bool} {path name:ByteArray} {k:Nat} (hn:(47:UInt8)∉name.data.toList) (hk:getKv ids path=some ((k:Int)+1)) (ht:top=true→k=0):parentOf ids (subPath top path name)=((k:Int)+1,name):=by
 unfold parentOf
 cases top with
 | true =>
  have e:subPath true path name=name:=rfl
  rw [e,lastSl_none _ hn,ht rfl]
  rfl
 | false =>
  have e:=sub_list false path name
  have e':(subPath false path name).data.toList=path.data.toList++47 :: name.data.toList:=by rw [e]; simp
  rw [e',lastSl_at _ _ hn]
  simp only
  have x1:(subPath false path name).extract 0 path.data.toList.length=path:=by
   apply ba_ext
   rw [ByteArray.data_extract,Array.toList_extract,e']
   simp
  have x2:(subPath false path name).extract (path.data.toList.length+1) (subPath false path name).size=name:=by
   apply ba_ext
   rw [ByteArray.data_extract,Array.toList_extract,← size_list,e']
   have d:List.drop (path.size+1) (path.data.toList++47 :: name.data.toList)=name.data.toList:=by
    rw [← size_list path]; simp [List.drop_append]
   simp
   rw [d]
   exact List.take_of_length_le (by rw [size_list]; omega)
  rw [x1,x2,hk]
  rfl
theorem getKv_append {κ β:Type} [DecidableEq κ] {kv more:List (κ×β)} {k:κ} {v:β} (h:getKv kv k=some v):getKv (kv++more) k=some v:=by
 unfold getKv at h ⊢
 rw [List.find?_append]
 cases hf:kv.find? (fun p=>decide (p.1=k)) with
 | none=>rw [hf] at h; cases h
 | some p=>rw [hf] at h; exact h
theorem getKv_snoc {κ β:Type} [DecidableEq κ] {kv:List (κ×β)} {k:κ} {v:β} (h:hasKv kv k=false):getKv (kv++[(k,v)]) k=some v:=by
 unfold getKv
 rw [List.find?_append]
 have:kv.find? (fun p=>decide (p.1=k))=none:=by
  rw [List.find?_eq_none]
  intro p hp hd
  have:hasKv kv k=true:=List.any_eq_true.2 ⟨p,hp,hd⟩
  rw [h] at this; cases this
 rw [this]
 simp
theorem putKv_fresh {κ β:Type} [DecidableEq κ] {kv:List (κ×β)} {k:κ} {v:β} (h:hasKv kv k=false):putKv kv k v=kv++[(k,v)]:=by unfold putKv; rw [h]; rfl
theorem ren_grow {ks more:List Int} {es:List EntD} (h:∀ e∈es,e.id∈ks):es.map (ren (ks++more))=es.map (ren ks):=by
 apply List.map_congr_left
 intro e he
 unfold ren
 rw [List.idxOf_append,if_pos (h e he)]
theorem nodesOf_length (ks:List Int) (m:Nat→Nat):(nodesOf gs ks m).length=ks.length:=by unfold nodesOf; simp
theorem nodesOf_get {ks:List Int} {m:Nat→Nat} {k:Nat} {id:Int} (h:ks[k]?=some id):(nodesOf gs ks m)[k]?=some (copyN (G gs id) ((k:Int)+1) (((G gs id).ents.take (m k)).map (ren ks))):=by
 unfold nodesOf
 rw [List.getElem?_map,List.getElem?_zipIdx,h]
 simp
theorem nodesOf_push {ks:List Int} {m:Nat→Nat} {id:Int} (h:∀ k i,ks[k]?=some i→∀ e∈(G gs i).ents.take (m k),e.id∈ks) (h0:m ks.length=0):nodesOf gs (ks++[id]) m=nodesOf gs ks m++[copyN (G gs id) ((ks.length:Int)+1) []]:=by
 apply List.ext_getElem?
 intro k
 rcases Nat.lt_trichotomy k ks.length with hk | hk | hk
 ·rw [List.getElem?_append_left (by rw [nodesOf_length]; exact hk)]
  have e1:ks[k]?=some ks[k]:=List.getElem?_eq_getElem hk
  rw [nodesOf_get (id:=ks[k]) (by rw [List.getElem?_append_left hk]; exact e1),nodesOf_get e1,ren_grow (h k _ e1)]
 ·subst hk
  rw [List.getElem?_append_right (by rw [nodesOf_length]; exact Nat.le_refl _),nodesOf_length,Nat.sub_self]
  rw [nodesOf_get (id:=id) (by rw [List.getElem?_append_right (Nat.le_refl _)]; simp),h0]
  rfl
 ·rw [List.getElem?_eq_none (by rw [nodesOf_length]; simp; omega),List.getElem?_eq_none (by rw [List.length_append,nodesOf_length]; simp; omega)]
def bump (m:Nat→Nat) (k:Nat):Nat→Nat:=fun j=>if j=k then m k+1 else m j
theorem nodesOf_bump {ks:List Int} {m:Nat→Nat} {k:Nat} {id:Int} {e:EntD} (hk:ks[k]?=some id) (he:(G gs id).ents[m k]?=some e):addEnt (nodesOf gs ks m) k (ren ks e)=nodesOf gs ks (bump m k):=by
 apply List.ext_getElem?
 intro j
 unfold addEnt
 rw [List.getElem?_modify]
 by_cases hj:j<ks.length
 ·have e1:ks[j]?=some ks[j]:=List.getElem?_eq_getElem hj
  rw [nodesOf_get e1,nodesOf_get e1]
  by_cases hjk:k=j
  ·subst hjk
   rw [hk] at e1
   injection e1 with e1
   rw [← e1]
   have:bump m k k=m k+1:=if_pos rfl
   rw [this,List.take_add_one,he]
   simp [copyN]
  ·have:bump m k j=m j:=if_neg (fun h=>hjk h.symm)
   rw [this]
   simp [hjk]
 ·rw [List.getElem?_eq_none (by rw [nodesOf_length]; omega),List.getElem?_eq_none (by rw [nodesOf_length]; omega)]
  rfl
def TL (gs:List NodeD) (l:LineD):Prop:=∃ id path peer,Known gs id∧l=lineAt path (G gs id) peer∧path.size≠0∧path.size≤4194304∧peer.size≤4194304∧(peer.size≠0→(G gs id).kind≠2)
structure Fr (gs:List NodeD) (k:Nat) (U:ByteArray→Prop) (st st':LSt) (ps ps':PSt) (m m':Nat→Nat):Prop where
 lines:∃ L,st'.out=st.out++L∧plantR L ps=some ps'∧∀ l∈L,TL gs l
 first:∃ more,st'.first=st.first++more
 same:∀ j,j<st.first.length→j≠k→m' j=m j
 full:∀ (j:Nat) id,st.first.length≤j→(keys st')[j]?=some id→m' j=(G gs id).ents.length
 ids:∃ more,ps'.ids=ps.ids++more∧∀ p∈more,U p.1
theorem keys_grow {st st':LSt} (h:∃ more,st'.first=st.first++more) {k:Nat} {id:Int} (hk:(keys st)[k]?=some id):(keys st')[k]?=some id:=by
 obtain ⟨more,e⟩:=h
 unfold keys at hk ⊢
 rw [e,List.map_append,List.getElem?_append_left]
 ·exact hk
 ·exact (List.getElem?_eq_some_iff.1 hk).1
theorem keys_len (st:LSt):(keys st).length=st.first.length:=by unfold keys; simp
theorem key_lt {st:LSt} {k:Nat} {id:Int} (hk:(keys st)[k]?=some id):k<st.first.length:=by
 rw [← keys_len]; exact (List.getElem?_eq_some_iff.1 hk).1
theorem Fr.trans {k:Nat} {U V W:ByteArray→Prop} {a b c:LSt} {p q r:PSt} {m n o:Nat→Nat} (h1:Fr gs k U a b p q m n) (h2:Fr gs k V b c q r n o) (hk:k<a.first.length) (hU:∀ x,U x→W x) (hV:∀ x,V x→W x):Fr gs k W a c p r m o:=by
 obtain ⟨L1,e1,f1,z1⟩:=h1.lines
 obtain ⟨L2,e2,f2,z2⟩:=h2.lines
 obtain ⟨M1,g1⟩:=h1.first
 obtain ⟨M2,g2⟩:=h2.first
 obtain ⟨I1,i1,j1⟩:=h1.ids
 obtain ⟨I2,i2,j2⟩:=h2.ids
 have hlen:a.first.length≤b.first.length:=by rw [g1]; simp
 refine ⟨⟨L1++L2,by rw [e2,e1,List.append_assoc],by rw [plantR_append,f1]; exact f2,fun l hl=>(List.mem_append.1 hl).elim (z1 l) (z2 l)⟩,⟨M1++M2,by rw [g2,g1,List.append_assoc]⟩,fun j hj hn=>?_,fun j id hj hid=>?_,⟨I1++I2,by rw [i2,i1,List.append_assoc],fun x hx=>?_⟩⟩
 ·rw [h2.same j (by omega) hn,h1.same j hj hn]
 ·by_cases hb:b.first.length≤j
  ·exact h2.full j id hb hid
  ·have hb':j<b.first.length:=by omega
   rw [h2.same j hb' (by omega)]
   refine h1.full j id hj ?_
   have hjb:j<(keys b).length:=by rw [keys_len]; exact hb'
   have:(keys b)[j]?=some ((keys b)[j]'hjb):=List.getElem?_eq_getElem hjb
   rw [keys_grow h2.first this] at hid
   rw [← hid]; exact this
 ·rcases List.mem_append.1 hx with h | h
  ·exact hU _ (j1 x h)
  ·exact hV _ (j2 x h)
def CallOk (gs:List NodeD) (rank:Int→Nat) (root:Int) (rec:LSt→Nat→ByteArray→LSt×Bool):Prop:=∀ (st:LSt) (ps:PSt) (m:Nat→Nat) (k:Nat) (i:Int) (e:EntD) (path:ByteArray) (st':LSt),
 Inv gs rank root st ps m→st.out≠[]→(keys st)[k]?=some i→(G gs i).ents[m k]?=some e→parentOf ps.ids path=((k:Int)+1,e.name)→path.size≠0→(∀ p∈ps.ids,¬ Under path p.1)→rec st (J gs e.id) path=(st',true) →
 ∃ ps' m',Inv gs rank root st' ps' m'∧m' k=m k+1∧Fr gs k (Under path) st st' ps ps' m m'
theorem getKv_at {κ β:Type} [DecidableEq κ]:∀ {kv:List (κ×β)} {k:Nat} {p:κ×β},(kv.map (·.1)).Nodup→kv[k]?=some p→getKv kv p.1=some p.2
 | [],k,p,_,h=>by simp at h
 | q :: kv,0,p,_,h=>by
  simp only [List.getElem?_cons_zero,Option.some.injEq] at h
  subst h
  simp [getKv]
 | q :: kv,k+1,p,hn,h=>by
  simp only [List.getElem?_cons_succ] at h
  rw [List.map_cons,List.nodup_cons] at hn
  have ih:=getKv_at hn.2 h
  have hne:q.1≠p.1:=fun e=>hn.1 (by rw [e]; exact List.mem_map_of_mem (List.mem_of_getElem? h))
  unfold getKv at ih ⊢
  rw [List.find?_cons,decide_eq_false hne]
  exact ih
theorem kids {rank:Int→Nat} {root:Int} {rec:LSt→Nat→ByteArray→LSt×Bool} (hF:Fit gs rank) (hrec:CallOk gs rank root rec) (top:Bool) (path:ByteArray) (kk:Nat) (id:Int):∀ (es:List EntD) (st:LSt) (ps:PSt) (m:Nat→Nat) (st':LSt),
  Inv gs rank root st ps m→(keys st)[kk]?=some id→(G gs id).ents.drop (m kk)=es→st.out≠[]→getKv ps.ids path=some ((kk:Int)+1)→(top=true→kk=0)→path.size≠0→(∀ e∈es,∀ p∈ps.ids,¬ Under (subPath top path e.name) p.1)→addEs gs rec top path es st=(st',true) →
  ∃ ps' m',Inv gs rank root st' ps' m'∧m' kk=(G gs id).ents.length∧Fr gs kk (fun q=>∃ e∈es,Under (subPath top path e.name) q) st st' ps ps' m m'
 | [],st,ps,m,st',hi,hk,hd,ho,hp,ht,hz,hf,h=>by
  unfold addEs at h
  injection h with h _
  subst h
  have h1:=List.drop_eq_nil_iff.1 hd
  have h2:=hi.le kk id hk
  refine ⟨ps,m,hi,by omega,⟨[],by simp,rfl,fun l hl=>(by cases hl)⟩,⟨[],by simp⟩,fun _ _ _=>rfl,fun j i hj hi'=>?_,⟨[],by simp,fun p hp=>by cases hp⟩⟩
  have:=key_lt hi'
  omega
 | e :: es,st,ps,m,st',hi,hk,hd,ho,hp,ht,hz,hf,h=>by
  have hkn:Known gs id:=hi.known id (List.mem_of_getElem? hk)
  have hlt:m kk<(G gs id).ents.length:=by
   have:=congrArg List.length hd
   rw [List.length_drop,List.length_cons] at this
   omega
  have he:(G gs id).ents[m kk]?=some e:=by
   have:((G gs id).ents.drop (m kk))[0]?=some e:=by rw [hd]; rfl
   rwa [List.getElem?_drop,Nat.add_zero] at this
  have hd':(G gs id).ents.drop (m kk+1)=es:=by rw [← List.drop_drop,hd]; rfl
  have hmem:e∈(G gs id).ents:=List.mem_of_getElem? he
  have hes:∀ x∈es,x∈(G gs id).ents:=fun x hx=>List.mem_of_mem_drop (hd ▸ List.mem_cons_of_mem _ hx:x∈(G gs id).ents.drop (m kk))
  obtain ⟨j,hj⟩:=hF.known id e hkn hmem
  have hg:=hF.good id e hkn hmem
  unfold addEs at h
  rw [hj] at h
  simp only at h
  by_cases h1:(rec st j (subPath top path e.name)).2=true
  ·rw [if_pos h1] at h
   obtain ⟨ps1,m1,i1,k1,f1⟩:=hrec st ps m kk id e (subPath top path e.name) (rec st j (subPath top path e.name)).1 hi ho hk he (parent_sub (good_slash hg) hp ht) (by
     rw [← size_list,sub_list]
     rw [List.length_append]
     have:=hg.1
     have:0<e.name.data.toList.length:=List.length_pos_iff.2 hg.1
     omega) (hf e (List.mem_cons_self ..)) (by rw [J_get hj]; exact Prod.ext rfl h1)
   have hne:∀ x∈es,e.name≠x.name:=by
    have hp2:=(hF.names id hkn).sublist (List.drop_sublist (m kk) _)
    rw [hd,List.pairwise_cons] at hp2
    exact hp2.1
   obtain ⟨I1,ie,iu⟩:=f1.ids
   obtain ⟨L1,le1,-,-⟩:=f1.lines
   obtain ⟨ps2,m2,i2,k2,f2⟩:=kids hF hrec top path kk id es _ ps1 m1 st' i1 (keys_grow f1.first hk) (by rw [k1]; exact hd') (by rw [le1]; simp [ho]) (by rw [ie]; exact getKv_append hp) ht hz (fun x hx p hp' hu=>by
    rw [ie] at hp'
    rcases List.mem_append.1 hp' with hq | hq
    ·exact hf x (List.mem_cons_of_mem _ hx) p hq hu
    ·exact hne x hx (under_two (good_slash hg) (good_slash (hF.good id x hkn (hes x hx))) (iu p hq) hu)) h
   exact ⟨ps2,m2,i2,k2,f1.trans f2 (key_lt hk) (fun q hq=>⟨e,List.mem_cons_self ..,hq⟩) fun q ⟨x,hx,hq⟩=>⟨x,List.mem_cons_of_mem _ hx,hq⟩⟩
  ·rw [if_neg h1] at h
   injection h with _ h
   cases h
theorem peer_of {st:LSt} {n:NodeD} (hn:hasKv st.first n.id=false):peerOf st n=⟨#[]⟩:=by
 unfold peerOf
 have:getKv st.first n.id=none:=by
  cases hg:getKv st.first n.id with
  | none=>rfl
  | some v=>have:=hasKv_iff st.first n.id |>.2 (get_has hg); rw [hn] at this; cases this
 rw [this]; rfl
theorem plant_line (st:LSt) (n:NodeD) (path:ByteArray) (id:Int) (h:(peerOf st n).size=0):nodeOf (lineAt path n (peerOf st n)) id=copyN n id []:=by
 unfold lineAt
 rw [if_pos h]
 rfl
theorem nodup_at {l:List Int} (h:l.Nodup) {i j:Nat} {x:Int} (hi:l[i]?=some x) (hj:l[j]?=some x):i=j:=by
 obtain ⟨a,b⟩:=List.getElem?_eq_some_iff.1 hi
 obtain ⟨c,d⟩:=List.getElem?_eq_some_iff.1 hj
 unfold List.Nodup at h
 rw [List.pairwise_iff_getElem] at h
 rcases Nat.lt_trichotomy i j with h1 | h1 | h1
 ·exact absurd (b.trans d.symm) (h i j a c h1)
 ·exact h1
 ·exact absurd (d.trans b.symm) (h j i c a h1)
theorem idxOf_at {l:List Int} {x:Int} (h:x∈l):l[l.idxOf x]?=some x:=by
 have:=List.idxOf_lt_length_of_mem h
 rw [List.getElem?_eq_getElem this,List.getElem_idxOf this]
theorem fresh_has {ids:List (ByteArray×Int)} {path:ByteArray} (h:∀ p∈ids,¬ Under path p.1):hasKv ids path=false:=by
 rw [← Bool.not_eq_true,hasKv_iff]
 intro hm
 obtain ⟨p,hp,he⟩:=List.mem_map.1 hm
 exact h p hp (.inl he)
theorem callOk {rank:Int→Nat} {root:Int} (hF:Fit gs rank):∀ (fuel:Nat),CallOk gs rank root (addF gs fuel)
 | 0=>fun st ps m k i e path st' _ _ _ _ _ _ _ h=>by injection h with _ h; cases h
 | fuel+1=>fun st ps m k i e path st' hi ho hk he hpar hz hfr h=>by
  have hik:Known gs i:=hi.known i (List.mem_of_getElem? hk)
  have hek:Known gs e.id:=hF.known i e hik (List.mem_of_getElem? he)
  obtain ⟨n,hn⟩:∃ n,n=G gs e.id:=⟨_,rfl⟩
  have hnid:n.id=e.id:=by rw [hn]; exact G_id hek
  have hdirI:(G gs i).kind=2:=by
   apply Classical.byContradiction
   intro hne
   rw [hF.leaf i hik hne] at he
   cases he
  have hout:st.out.isEmpty=false:=by cases hx:st.out with | nil=>exact absurd hx ho | cons _ _=>rfl
  unfold addF at h
  split at h
  ·injection h with _ h; cases h
  ·rename_i hover
   have hpm:path.size≤4194304:=by omega
   rw [hout] at h
   have hgj:gs.getD (J gs e.id) default=n:=hn.symm
   rw [hgj] at h
   have hlen:ps.nodes.length=(keys st).length:=by rw [hi.nodes,nodesOf_length]
   have hkl:k<(keys st).length:=(List.getElem?_eq_some_iff.1 hk).1
   have hp1:((k:Int)+1 - 1).toNat=k:=by omega
   have hne0:¬ ((k:Int)+1=0):=by omega
   by_cases hv:e.id∈keys st
   ·-- met before
    have hidx:=idxOf_at hv
    obtain ⟨kk,hkk⟩:∃ x,x=(keys st).idxOf e.id:=⟨_,rfl⟩
    rw [← hkk] at hidx
    obtain ⟨p,hp,hpid⟩:∃ p,st.first[kk]?=some p∧p.1=e.id:=by
     unfold keys at hidx
     rw [List.getElem?_map,Option.map_eq_some_iff] at hidx
     exact hidx
    obtain ⟨hids,hsz,hszm⟩:=hi.ids kk p hp
    have hpeer:peerOf st n=p.2:=by
     unfold peerOf
     rw [hnid,← hpid,getKv_at hi.nodup hp]
     rfl
    have hnd:n.kind≠2:=by
     intro h2
     rw [hn] at h2
     obtain ⟨hr,hd⟩:=hi.dirs e.id hv h2
     rcases hd with hd | ⟨k',i',e',x',hk',hx',he',hid'⟩
     ·have h3:=(hi.dirs i (List.mem_of_getElem? hk) hdirI).1
      have h4:=hF.fall i e hik (List.mem_of_getElem? he) h2
      rw [hd] at h4
      omega
     ·obtain ⟨h5,h6⟩:=hF.once i' i x' (m k) e' e (hi.known i' (List.mem_of_getElem? hk')) hik he' he hid' (by rw [hid']; exact h2)
      subst h5
      have:=nodup_at hi.nodup hk' hk
      subst this
      omega
    have hnil:n.ents=[]:=by rw [hn] at hnd ⊢; exact hF.leaf _ hek hnd
    rw [hnil] at h
    unfold addEs at h
    injection h with h _
    have hf':st'.first=st.first:=by rw [← h]; unfold put1; rw [hpeer]; exact if_neg hsz
    have hks:keys st'=keys st:=by unfold keys; rw [hf']
    have hline:=lineAt_cells path n (peerOf st n)
    obtain ⟨l,hl⟩:∃ l,l=lineAt path n (peerOf st n):=⟨_,rfl⟩
    rw [← hl] at hline
    have hnew:newId ps l=(kk:Int)+1:=by
     unfold newId
     rw [hline.2.2.2.2.2.2.1,hpeer,if_neg hsz,hids]
     rfl
    have hnd1:nodes1 ps l=ps.nodes:=by
     unfold nodes1
     rw [hline.2.2.2.2.2.2.1,hpeer,if_neg hsz]
    have hstep:plant1 false ps l=some ⟨nodesOf gs (keys st) (bump m k),ps.ids++[(path,(kk:Int)+1)]⟩:=by
     unfold plant1
     rw [hnew,hnd1,hline.1,fresh_has hfr,hpar,putKv_fresh (fresh_has hfr)]
     rw [if_neg (by simp; omega),if_neg (by decide),if_neg hne0,hp1]
     have:(⟨e.name,(kk:Int)+1⟩:EntD)=ren (keys st) e:=by unfold ren; rw [← hkk]
     simp only
     rw [this,hi.nodes,nodesOf_bump hk he]
    refine ⟨⟨nodesOf gs (keys st) (bump m k),ps.ids++[(path,(kk:Int)+1)]⟩,bump m k,⟨by rw [hks],by rw [hks]; exact hi.nodup,by rw [hks]; exact hi.known,fun j id hj=>?_,fun j id hj=>?_,fun j q hj=>?_,fun id hid h2=>?_⟩,if_pos rfl,⟨[l],by rw [← h,hl]; rfl,by unfold plantR; rw [hstep]; rfl,fun y hy=>by simp at hy; subst hy; exact ⟨e.id,path,peerOf st n,hek,by rw [hl,hn],hz,hpm,by rw [hpeer]; exact hszm,fun _=>by rw [← hn]; exact hnd⟩⟩,⟨[],by rw [hf']; simp⟩,fun j _ hj=>if_neg hj,fun j id hj hid=>?_,⟨[(path,(kk:Int)+1)],rfl,fun p hp=>?_⟩⟩
    ·rw [hks] at hj
     by_cases hjk:j=k
     ·subst hjk
      have:bump m j j=m j+1:=if_pos rfl
      rw [this]
      rw [hk] at hj; injection hj with hj; subst hj
      exact (List.getElem?_eq_some_iff.1 he).1
     ·have:bump m k j=m j:=if_neg hjk
      rw [this]; exact hi.le j id hj
    ·rw [hks] at hj ⊢
     by_cases hjk:j=k
     ·subst hjk
      have:bump m j j=m j+1:=if_pos rfl
      rw [this]
      rw [hk] at hj; injection hj with hj; subst hj
      intro x hx
      rw [List.take_add_one,he,List.mem_append] at hx
      rcases hx with hx | hx
      ·exact hi.in_ j i hk x hx
      ·simp at hx; rw [hx]; exact hv
     ·have:bump m k j=m j:=if_neg hjk
      rw [this]; exact hi.in_ j id hj
    ·rw [hf'] at hj
     exact ⟨getKv_append (hi.ids j q hj).1,(hi.ids j q hj).2⟩
    ·rw [hks] at hid ⊢
     obtain ⟨a,b⟩:=hi.dirs id hid h2
     refine ⟨a,b.imp (fun h=>h) fun ⟨k',i',e',x',c1,c2,c3,c4⟩=>⟨k',i',e',x',c1,?_,c3,c4⟩⟩
     unfold bump
     split
     ·rename_i hh; subst hh; omega
     ·exact c2
    ·have:=key_lt hid
     rw [hf'] at this
     omega
    ·simp at hp; subst hp; exact .inl rfl
   ·-- new
    have hhas:hasKv st.first n.id=false:=by
     rw [← Bool.not_eq_true,hasKv_iff,hnid]; exact hv
    have hpeer:=peer_of hhas
    have hps:(peerOf st n).size=0:=by rw [hpeer]; rfl
    obtain ⟨s1,hs1⟩:∃ s,s=put1 st n path:=⟨_,rfl⟩
    rw [← hs1] at h
    have hf1:s1.first=st.first++[(e.id,path)]:=by
     rw [hs1]; unfold put1
     simp only
     rw [if_pos hps,putKv_fresh hhas,hnid]
    have hk1:keys s1=keys st++[e.id]:=by unfold keys; rw [hf1]; simp
    have hline:=lineAt_cells path n (peerOf st n)
    have hnode:=plant_line st n path ((ps.nodes.length:Int)+1) hps
    obtain ⟨l,hl⟩:∃ l,l=lineAt path n (peerOf st n):=⟨_,rfl⟩
    rw [← hl] at hline hnode
    have hnew:newId ps l=(ps.nodes.length:Int)+1:=by
     unfold newId
     rw [hline.2.2.2.2.2.2.1,if_pos hps]
    have hnd1:nodes1 ps l=ps.nodes++[copyN n ((ps.nodes.length:Int)+1) []]:=by
     unfold nodes1
     rw [hline.2.2.2.2.2.2.1,if_pos hps,hnode]
    obtain ⟨m0,hm0⟩:∃ m0:Nat→Nat,m0=fun j=>if j=(keys st).length then 0 else m j:=⟨_,rfl⟩
    have hm0l:m0 (keys st).length=0:=by rw [hm0]; exact if_pos rfl
    have hm0j:∀ j,j<(keys st).length→m0 j=m j:=fun j hj=>by rw [hm0]; exact if_neg (by omega)
    have hnm:nodesOf gs (keys st) m=nodesOf gs (keys st) m0:=by
     apply List.ext_getElem?
     intro j
     by_cases hj:j<(keys st).length
     ·have e1:(keys st)[j]?=some (keys st)[j]:=List.getElem?_eq_getElem hj
      rw [nodesOf_get e1,nodesOf_get e1,hm0j j hj]
     ·rw [List.getElem?_eq_none (by rw [nodesOf_length]; omega),List.getElem?_eq_none (by rw [nodesOf_length]; omega)]
    have hkA:(keys st++[e.id])[k]?=some i:=by rw [List.getElem?_append_left hkl]; exact hk
    have hren:ren (keys st++[e.id]) e=⟨e.name,(ps.nodes.length:Int)+1⟩:=by
     unfold ren
     rw [List.idxOf_append,if_neg hv,hlen]
     simp
    have hpush:ps.nodes++[copyN n ((ps.nodes.length:Int)+1) []]=nodesOf gs (keys st++[e.id]) m0:=by
     rw [nodesOf_push (fun j id hj=>by rw [hm0j j ((List.getElem?_eq_some_iff.1 hj).1)]; exact hi.in_ j id hj) hm0l,← hnm,← hi.nodes,hn,hlen]
    obtain ⟨m1,hm1⟩:∃ m1,m1=bump m0 k:=⟨_,rfl⟩
    have hm1k:m1 k=m k+1:=by rw [hm1,← hm0j k hkl]; exact if_pos rfl
    have hm1j:∀ j,j<(keys st).length→j≠k→m1 j=m j:=fun j hj hn=>by rw [hm1,← hm0j j hj]; exact if_neg hn
    have hm1l:m1 (keys st).length=0:=by rw [hm1,← hm0l]; exact if_neg (by omega)
    have hstep:plant1 false ps l=some ⟨nodesOf gs (keys st++[e.id]) m1,ps.ids++[(path,(ps.nodes.length:Int)+1)]⟩:=by
     unfold plant1
     rw [hnew,hnd1,hline.1,fresh_has hfr,hpar,putKv_fresh (fresh_has hfr)]
     rw [if_neg (by simp; omega),if_neg (by decide),if_neg hne0,hp1]
     simp only
     rw [← hren,hpush,hm1,nodesOf_bump hkA (by rw [hm0j k hkl]; exact he)]
    have hi1:Inv gs rank root s1 ⟨nodesOf gs (keys st++[e.id]) m1,ps.ids++[(path,(ps.nodes.length:Int)+1)]⟩ m1:=by
     have hcase:∀ (j:Nat) id,(keys st++[e.id])[j]?=some id→(keys st)[j]?=some id∨j=(keys st).length∧id=e.id:=fun j id hj=>by
      rcases Nat.lt_trichotomy j (keys st).length with h1 | h1 | h1
      ·rw [List.getElem?_append_left h1] at hj; exact .inl hj
      ·subst h1; rw [List.getElem?_append_right (Nat.le_refl _)] at hj; simp at hj; exact .inr ⟨rfl,hj.symm⟩
      ·rw [List.getElem?_eq_none (by simp; omega)] at hj; cases hj
     refine ⟨by rw [hk1],?_,?_,fun j id hj=>?_,fun j id hj=>?_,fun j q hj=>?_,fun id hid h2=>?_⟩
     ·rw [hk1,List.nodup_append]
      refine ⟨hi.nodup,by simp,fun a ha b hb=>?_⟩
      simp at hb; subst hb
      rintro rfl; exact hv ha
     ·rw [hk1]
      intro id hid
      rcases List.mem_append.1 hid with h1 | h1
      ·exact hi.known id h1
      ·simp at h1; rw [h1]; exact hek
     ·rw [hk1] at hj
      rcases hcase j id hj with h1 | ⟨rfl,rfl⟩
      ·by_cases hjk:j=k
       ·subst hjk
        rw [hk] at h1; injection h1 with h1; subst h1
        rw [hm1k]
        exact (List.getElem?_eq_some_iff.1 he).1
       ·rw [hm1j j ((List.getElem?_eq_some_iff.1 h1).1) hjk]; exact hi.le j id h1
      ·rw [hm1l]; exact Nat.zero_le _
     ·rw [hk1] at hj ⊢
      rcases hcase j id hj with h1 | ⟨rfl,rfl⟩
      ·by_cases hjk:j=k
       ·subst hjk
        rw [hk] at h1; injection h1 with h1; subst h1
        rw [hm1k]
        intro x hx
        rw [List.take_add_one,he,List.mem_append] at hx
        rcases hx with hx | hx
        ·exact List.mem_append_left _ (hi.in_ j i hk x hx)
        ·simp at hx; rw [hx]; simp
       ·rw [hm1j j ((List.getElem?_eq_some_iff.1 h1).1) hjk]
        intro x hx
        exact List.mem_append_left _ (hi.in_ j id h1 x hx)
      ·rw [hm1l]; intro x hx; simp at hx
     ·rw [hf1] at hj
      rcases Nat.lt_trichotomy j st.first.length with h1 | h1 | h1
      ·rw [List.getElem?_append_left h1] at hj
       exact ⟨getKv_append (hi.ids j q hj).1,(hi.ids j q hj).2⟩
      ·subst h1
       rw [List.getElem?_append_right (Nat.le_refl _)] at hj
       simp at hj
       subst hj
       refine ⟨?_,hz,hpm⟩
       have:(st.first.length:Int)=(ps.nodes.length:Int):=by rw [hlen,keys_len]
       simp only [this]
       exact getKv_snoc (fresh_has hfr)
      ·rw [List.getElem?_eq_none (by simp; omega)] at hj; cases hj
     ·rw [hk1] at hid ⊢
      rcases List.mem_append.1 hid with h1 | h1
      ·obtain ⟨a,b⟩:=hi.dirs id h1 h2
       refine ⟨a,b.imp (fun x=>x) fun ⟨k',i',e',x',c1,c2,c3,c4⟩=>⟨k',i',e',x',?_,?_,c3,c4⟩⟩
       ·rw [List.getElem?_append_left ((List.getElem?_eq_some_iff.1 c1).1)]; exact c1
       ·by_cases hkk:k'=k
        ·subst hkk; rw [hm1k]; omega
        ·rw [hm1j k' ((List.getElem?_eq_some_iff.1 c1).1) hkk]; exact c2
      ·simp at h1
       subst h1
       have h3:=(hi.dirs i (List.mem_of_getElem? hk) hdirI).1
       have h4:=hF.fall i e hik (List.mem_of_getElem? he) h2
       exact ⟨by omega,.inr ⟨k,i,e,m k,hkA,by rw [hm1k]; omega,he,rfl⟩⟩
    have hkl1:(keys s1)[(keys st).length]?=some e.id:=by rw [hk1,List.getElem?_append_right (Nat.le_refl _)]; simp
    have hpk:getKv (ps.ids++[(path,(ps.nodes.length:Int)+1)]) path=some (((keys st).length:Int)+1):=by
     rw [← hlen]; exact getKv_snoc (fresh_has hfr)
    obtain ⟨ps2,m2,i2,k2,f2⟩:=kids hF (callOk (root:=root) hF fuel) false path (keys st).length e.id n.ents s1 _ m1 st' hi1 hkl1 (by rw [hm1l,hn]; rfl) (by rw [hs1]; unfold put1; simp) hpk (fun h=>by cases h) hz (fun x hx p hp hu=>by
     rcases List.mem_append.1 hp with hq | hq
     ·exact hfr p hq (under_up hu)
     ·simp at hq; subst hq; exact under_self hu) h
    obtain ⟨L,eL,fL,zL⟩:=f2.lines
    obtain ⟨I,eI,uI⟩:=f2.ids
    have hall:∀ y∈l :: L,TL gs y:=by
     intro y hy
     rcases List.mem_cons.1 hy with rfl | hy
     ·exact ⟨e.id,path,peerOf st n,hek,by rw [hl,hn],hz,hpm,by rw [hps]; exact Nat.zero_le _,fun h0=>absurd hps h0⟩
     ·exact zL y hy
    refine ⟨ps2,m2,i2,?_,⟨l :: L,by rw [eL,hs1,hl]; simp [put1],by unfold plantR; rw [hstep]; exact fL,hall⟩,?_,fun j hj hjk=>?_,fun j id hj hid=>?_,⟨(path,(ps.nodes.length:Int)+1) :: I,by rw [eI]; simp,fun p hp=>?_⟩⟩
    ·rw [f2.same k (by rw [hf1]; have:=key_lt hk; simp; omega) (by omega),hm1k]
    ·obtain ⟨more,em⟩:=f2.first
     exact ⟨(e.id,path) :: more,by rw [em,hf1]; simp⟩
    ·rw [f2.same j (by rw [hf1]; simp; omega) (by rw [keys_len]; omega)]
     exact hm1j j (by rw [keys_len]; exact hj) hjk
    ·by_cases hjl:j=(keys st).length
     ·subst hjl
      rw [k2]
      rw [keys_grow f2.first hkl1] at hid
      injection hid with hid
      rw [hid]
     ·refine f2.full j id (by rw [hf1]; rw [keys_len] at hjl; simp; omega) hid
    ·rcases List.mem_cons.1 hp with rfl | hp
     ·exact .inl rfl
     ·obtain ⟨x,hx,hu⟩:=uI p hp
      exact under_up hu
end Go.Proofs.YtfhfcipelgogjaaGreatDoor
namespace Go.Proofs.YtfhfcipelgogjaaGreatDoor
def pl (a b:ByteArray):Bool:=Op.bytesLess a.toList b.toList
theorem pl_iff (a b:ByteArray):pl a b=true↔a.data.toList<b.data.toList:=by
 unfold pl; rw [Go.Proofs.bytesLess_eq,ByteArray.toList_eq,ByteArray.toList_eq,decide_eq_true_iff]
def within (d p:List ByteArray):Bool:=decide (p.take d.length=d)
end Go.Proofs.YtfhfcipelgogjaaGreatDoor
namespace Go.Proofs.YtfhfcipelgogjaaGreatDoor
open Go.RowKit
section
variable (gs:List NodeD)
def EntsOk:List EntD→ByteArray→Prop
 | [],_=>True
 | e :: es,name=>Known gs e.id∧GoodP e.name∧txtLe e.name name=false∧EntsOk es e.name
def dirIds (es:List EntD):List Int:=(es.filter fun e=>decide ((G gs e.id).kind=2)).map (·.id)
def pairsOf (nid:Int) (es:List EntD):List (Int×Int):=(dirIds gs es).map fun d=>(d,nid)
end
variable {gs:List NodeD}
theorem dirIds_yes {e:EntD} {es:List EntD} (h:(G gs e.id).kind=2):dirIds gs (e :: es)=e.id :: dirIds gs es:=by
 unfold dirIds; rw [List.filter_cons,if_pos (by simpa using h)]; rfl
theorem dirIds_no {e:EntD} {es:List EntD} (h:(G gs e.id).kind≠2):dirIds gs (e :: es)=dirIds gs es:=by
 unfold dirIds; rw [List.filter_cons,if_neg (by simpa using h)]
theorem pairs_keys (nid:Int) (es:List EntD):(pairsOf gs nid es).map (·.1)=dirIds gs es:=by
 unfold pairsOf; rw [List.map_map]; exact List.map_id' _
theorem enterF_iff (nid:Int):∀ (es:List EntD) (name:ByteArray) (kv kv':List (Int×Int)),(kv.map (·.1)).Nodup →
  (enterF gs nid es name kv=some kv'↔EntsOk gs es name∧kv'=kv++pairsOf gs nid es∧(kv.map (·.1)++dirIds gs es).Nodup)
 | [],name,kv,kv',hn=>by
  unfold enterF EntsOk pairsOf dirIds
  simp only [Option.some.injEq,List.filter_nil,List.map_nil,List.append_nil,true_and]
  exact ⟨fun h=>⟨h.symm,hn⟩,fun h=>h.1.symm⟩
 | e :: es,name,kv,kv',hn=>by
  unfold enterF EntsOk
  cases hk:getKv (idx gs) e.id with
  | none =>
   simp only
   refine ⟨fun h=>(by cases h),fun h=>?_⟩
   obtain ⟨⟨⟨j,hj⟩,_⟩,_⟩:=h
   rw [hk] at hj; cases hj
  | some i =>
   have hG:=G_get hk
   have hKn:Known gs e.id:=⟨i,hk⟩
   simp only
   by_cases h1:GoodP e.name
   ·rw [if_neg (by simpa using h1)]
    by_cases h2:txtLe e.name name=true
    ·rw [if_pos h2]
     exact ⟨fun h=>by (cases h),fun h=>by rw [h2] at h; simp at h⟩
    ·rw [if_neg h2]
     have h2':txtLe e.name name=false:=by simpa using h2
     by_cases h3:(gs.getD i default).kind=2
     ·have h3':(G gs e.id).kind=2:=by rw [hG]; exact h3
      rw [if_neg (by simpa using h3),dirIds_yes h3']
      have hp:pairsOf gs nid (e :: es)=(e.id,nid) :: pairsOf gs nid es:=by unfold pairsOf; rw [dirIds_yes h3']; rfl
      rw [hp]
      by_cases h4:hasKv kv e.id=true
      ·rw [if_pos h4]
       refine ⟨fun h=>by (cases h),fun h=>?_⟩
       obtain ⟨_,_,h5⟩:=h
       rw [List.nodup_append] at h5
       exact absurd rfl (h5.2.2 e.id ((hasKv_iff _ _).1 h4) e.id (List.mem_cons_self ..))
      ·rw [if_neg h4]
       have hnk:e.id∉kv.map (·.1):=fun hm=>h4 ((hasKv_iff _ _).2 hm)
       have hn':((kv++[(e.id,nid)]).map (·.1)).Nodup:=by
        rw [List.map_append,List.nodup_append]
        refine ⟨hn,by simp,fun a ha b hb=>?_⟩
        simp at hb; subst hb
        rintro rfl; exact hnk ha
       rw [enterF_iff nid es e.name (kv++[(e.id,nid)]) kv' hn']
       rw [List.append_assoc,List.map_append,List.append_assoc]
       exact ⟨fun ⟨a,b,c⟩=>⟨⟨hKn,h1,h2',a⟩,b,c⟩,fun ⟨⟨_,_,_,a⟩,b,c⟩=>⟨a,b,c⟩⟩
     ·have h3':(G gs e.id).kind≠2:=by rw [hG]; exact h3
      rw [if_pos h3,dirIds_no h3']
      have hp:pairsOf gs nid (e :: es)=pairsOf gs nid es:=by unfold pairsOf; rw [dirIds_no h3']
      rw [hp,enterF_iff nid es e.name kv kv' hn]
      exact ⟨fun ⟨a,b⟩=>⟨⟨hKn,h1,h2',a⟩,b⟩,fun ⟨⟨_,_,_,a⟩,b⟩=>⟨a,b⟩⟩
   ·rw [if_pos h1]
    exact ⟨fun h=>by (cases h),fun h=>absurd h.1.2.1 h1⟩
theorem enterAll_iff:∀ (l:List NodeD) (kv kv':List (Int×Int)),(kv.map (·.1)).Nodup →
  (enterAll gs l kv=some kv'↔(∀ n∈l,EntsOk gs n.ents ⟨#[]⟩)∧kv'=kv++l.flatMap (fun n=>pairsOf gs n.id n.ents)∧(kv.map (·.1)++l.flatMap (fun n=>dirIds gs n.ents)).Nodup)
 | [],kv,kv',hn=>by
  unfold enterAll
  simp only [Option.some.injEq,List.flatMap_nil,List.append_nil,List.not_mem_nil,false_implies,implies_true,true_and]
  exact ⟨fun h=>⟨h.symm,hn⟩,fun h=>h.1.symm⟩
 | n :: l,kv,kv',hn=>by
  unfold enterAll
  rw [Option.bind_eq_some_iff]
  simp only [List.flatMap_cons,List.forall_mem_cons]
  constructor
  ·rintro ⟨kv1,h1,h2⟩
   obtain ⟨a,b,c⟩:=(enterF_iff n.id n.ents _ kv kv1 hn).1 h1
   have hn1:(kv1.map (·.1)).Nodup:=by rw [b,List.map_append,pairs_keys]; exact c
   obtain ⟨d,e,f⟩:=(enterAll_iff l kv1 kv' hn1).1 h2
   rw [b,List.map_append,pairs_keys,List.append_assoc] at f
   exact ⟨⟨a,d⟩,by rw [e,b,List.append_assoc],f⟩
  ·rintro ⟨⟨a,d⟩,e,f⟩
   rw [← List.append_assoc] at f
   have c:(kv.map (·.1)++dirIds gs n.ents).Nodup:=(List.nodup_append.1 f).1
   refine ⟨kv++pairsOf gs n.id n.ents,(enterF_iff n.id n.ents _ kv _ hn).2 ⟨a,rfl,c⟩,?_⟩
   refine (enterAll_iff l _ kv' (by rw [List.map_append,pairs_keys]; exact c)).2 ⟨d,by rw [e,List.append_assoc],?_⟩
   rw [List.map_append,pairs_keys]; exact f
def OnceL (gs l:List NodeD):Prop:=∀ (k1 k2 x y:Nat) (n1 n2:NodeD) (e1 e2:EntD),l[k1]?=some n1→l[k2]?=some n2→n1.ents[x]?=some e1→n2.ents[y]?=some e2→e1.id=e2.id→(G gs e1.id).kind=2→k1=k2∧x=y
theorem mem_dirIds {es:List EntD} {d:Int}:d∈dirIds gs es↔∃ e∈es,(G gs e.id).kind=2∧e.id=d:=by
 unfold dirIds
 simp only [List.mem_map,List.mem_filter,decide_eq_true_eq]
 exact ⟨fun ⟨e,⟨a,b⟩,c⟩=>⟨e,a,b,c⟩,fun ⟨e,a,b,c⟩=>⟨e,⟨a,b⟩,c⟩⟩
theorem onceL_of {l:List NodeD} (h:(l.flatMap fun n=>dirIds gs n.ents).Nodup):OnceL gs l:=by
 unfold List.Nodup at h
 rw [List.pairwise_flatMap] at h
 obtain ⟨h1,h2⟩:=h
 intro k1 k2 x y n1 n2 e1 e2 hk1 hk2 hx hy he hd
 have hd2:(G gs e2.id).kind=2:=by rw [← he]; exact hd
 have m1:e1.id∈dirIds gs n1.ents:=mem_dirIds.2 ⟨e1,List.mem_of_getElem? hx,hd,rfl⟩
 have m2:e2.id∈dirIds gs n2.ents:=mem_dirIds.2 ⟨e2,List.mem_of_getElem? hy,hd2,rfl⟩
 obtain ⟨a1,b1⟩:=List.getElem?_eq_some_iff.1 hk1
 obtain ⟨a2,b2⟩:=List.getElem?_eq_some_iff.1 hk2
 rw [List.pairwise_iff_getElem] at h2
 have hk:k1=k2:=by
  rcases Nat.lt_trichotomy k1 k2 with h3 | h3 | h3
  ·exact absurd he (h2 k1 k2 a1 a2 h3 e1.id (by rw [b1]; exact m1) e2.id (by rw [b2]; exact m2))
  ·exact h3
  ·exact absurd he.symm (h2 k2 k1 a2 a1 h3 e2.id (by rw [b2]; exact m2) e1.id (by rw [b1]; exact m1))
 subst hk
 have hn:n1=n2:=by rw [← b1,← b2]
 subst hn
 refine ⟨rfl,?_⟩
 have h5:=h1 n1 (List.mem_of_getElem? hk1)
 unfold dirIds at h5
 rw [List.pairwise_map,List.pairwise_filter,List.pairwise_iff_getElem] at h5
 obtain ⟨c1,d1⟩:=List.getElem?_eq_some_iff.1 hx
 obtain ⟨c2,d2⟩:=List.getElem?_eq_some_iff.1 hy
 rcases Nat.lt_trichotomy x y with h3 | h3 | h3
 ·exact absurd he (by have:=h5 x y c1 c2 h3 (by rw [d1]; simpa using hd) (by rw [d2]; simpa using hd2); rw [d1,d2] at this; exact this)
 ·exact h3
 ·exact absurd he.symm (by have:=h5 y x c2 c1 h3 (by rw [d2]; simpa using hd2) (by rw [d1]; simpa using hd); rw [d1,d2] at this; exact this)
theorem nodup_of_once {l:List NodeD} (h:OnceL gs l):(l.flatMap fun n=>dirIds gs n.ents).Nodup:=by
 unfold List.Nodup
 rw [List.pairwise_flatMap]
 refine ⟨fun n hn=>?_,?_⟩
 ·unfold dirIds
  rw [List.pairwise_map,List.pairwise_filter,List.pairwise_iff_getElem]
  intro x y hx hy hxy h1 h2 he
  obtain ⟨k,hk⟩:=List.getElem?_of_mem hn
  have:=(h k k x y n n _ _ hk hk (List.getElem?_eq_getElem hx) (List.getElem?_eq_getElem hy) he (by simpa using h1)).2
  omega
 ·rw [List.pairwise_iff_getElem]
  intro i j hi hj hij a ha b hb he
  obtain ⟨e1,c1,c2,c3⟩:=mem_dirIds.1 ha
  obtain ⟨e2,d1,d2,d3⟩:=mem_dirIds.1 hb
  obtain ⟨x,hx⟩:=List.getElem?_of_mem c1
  obtain ⟨y,hy⟩:=List.getElem?_of_mem d1
  have:=(h i j x y _ _ e1 e2 (List.getElem?_eq_getElem hi) (List.getElem?_eq_getElem hj) hx hy (by rw [c3,d3,he]) c2).1
  omega
def depth (kv:List (Int×Int)):Nat→Int→Nat
 | 0,_=>0
 | n+1,k=>match getKv kv k with
  | none=>0
  | some u=>depth kv n u+1
theorem depth_stable {kv:List (Int×Int)}:∀ (n:Nat) (k:Int),endsB kv n k=true→depth kv (n+1) k=depth kv n k
 | 0,k,h=>by
  unfold endsB at h
  unfold depth
  cases hg:getKv kv k with
  | none=>rfl
  | some u=>rw [hg] at h; cases h
 | n+1,k,h=>by
  unfold endsB at h
  conv=>lhs; unfold depth
  conv=>rhs; unfold depth
  cases hg:getKv kv k with
  | none=>rfl
  | some u =>
   rw [hg] at h
   simp only
   rw [depth_stable n u h]
theorem endsB_up {kv : List (Int × Int)} : ∀ (n : Nat) (k : Int), endsB kv n k = true → endsB kv (n + 1) k = true
  | 0, k, h => by
    unfold endsB at h ⊢
    cases hg : getKv kv k with
    | none => rfl
    | some u => rw [hg] at h; cases h
  | n + 1, k, h => by
    unfold endsB at h
    conv => lhs; unfold endsB
    cases hg : getKv kv k with
    | none => rfl
    | some u => rw [hg] at h; exact endsB_up n u h
theorem endsB_le {kv : List (Int × Int)} {n : Nat} {k : Int} (h : endsB kv n k = true) : ∀ (m : Nat), n ≤ m → endsB kv m k = true
  | 0, hm => by have : n = 0 := by omega
                subst this; exact h
  | m + 1, hm => by
    by_cases he : n = m + 1
    · subst he; exact h
    · exact endsB_up m k (endsB_le h m (by omega))
theorem ends_bound {kv:List (Int×Int)}:∀ (l:List (Int×Int)),(∀ p∈l,Ends kv p.1)→∃ B,∀ p∈l,endsB kv B p.1=true
 | [],_=>⟨0,fun p hp=>(by cases hp)⟩
 | p :: l,h=>by
  obtain ⟨n,hn⟩:=h p (List.mem_cons_self ..)
  obtain ⟨B,hB⟩:=ends_bound l fun q hq=>h q (List.mem_cons_of_mem _ hq)
  refine ⟨max n B,fun q hq=>?_⟩
  rcases List.mem_cons.1 hq with rfl | hq
  ·exact endsB_le hn _ (Nat.le_max_left ..)
  ·exact endsB_le (hB q hq) _ (Nat.le_max_right ..)
theorem falls_of {kv:List (Int×Int)} (h:AllEnds kv):∃ rank,Falls kv rank:=by
 obtain ⟨B,hB⟩:=ends_bound kv h
 have hall:∀ k,endsB kv B k=true:=fun k=>by
  cases hg:getKv kv k with
  | none=>exact endsB_le (n:=0) (by unfold endsB; rw [hg]; rfl) B (Nat.zero_le _)
  | some u =>
   obtain ⟨p,hp,he⟩:=List.mem_map.1 (get_has hg)
   rw [← he]; exact hB p hp
 refine ⟨depth kv (B+1),fun k u hu=>?_⟩
 have e1:depth kv (B+1) k=depth kv B u+1:=by
  conv=>lhs; unfold depth
  rw [hu]
 rw [e1,depth_stable B u (hall u)]
 omega
theorem txtLt_of {a b:ByteArray} (h:txtLe a b=false):b.data.toList<a.data.toList:=by
 unfold txtLe at h
 rw [Bool.or_eq_false_iff] at h
 obtain ⟨h1,h2⟩:=h
 have h3:¬ a.data.toList<b.data.toList:=fun hl=>by
  have:=(pl_iff a b).2 hl
  unfold pl at this
  rw [this] at h1; cases h1
 have h4:a.data.toList≠b.data.toList:=fun he=>by
  rw [Lib.toList_data,Lib.toList_data,he] at h2
  simp at h2
 apply Classical.byContradiction
 intro h5
 exact h4 (List.le_antisymm (List.not_lt.1 h5) (List.not_lt.1 h3))
theorem entsOk_all:∀ (es:List EntD) (name:ByteArray),EntsOk gs es name→(∀ e∈es,Known gs e.id∧GoodP e.name∧name.data.toList<e.name.data.toList)∧es.Pairwise fun a b=>a.name≠b.name
 | [],_,_=>⟨fun e he=>(by cases he),List.Pairwise.nil⟩
 | e :: es,name,h=>by
  unfold EntsOk at h
  obtain ⟨h1,h2,h3,h4⟩:=h
  obtain ⟨a,b⟩:=entsOk_all es e.name h4
  have hlt:=txtLt_of h3
  refine ⟨fun x hx=>?_,List.pairwise_cons.2 ⟨fun x hx he=>?_,b⟩⟩
  ·rcases List.mem_cons.1 hx with rfl | hx
   ·exact ⟨h1,h2,hlt⟩
   ·exact ⟨(a x hx).1,(a x hx).2.1,List.lt_trans hlt (a x hx).2.2⟩
  ·have:=(a x hx).2.2
   rw [he] at this
   exact List.lt_irrefl _ this
theorem scan_all:∀ (l:List NodeD) (last:Int),scanB l last=true→∀ n∈l,soundB n=true∧last<n.id∧n.id≤1099511627776
 | [],_,_=>fun n hn=>by cases hn
 | x :: l,last,h=>by
  unfold scanB at h
  simp only [Bool.and_eq_true,decide_eq_true_eq] at h
  obtain ⟨⟨⟨h1,h2⟩,h3⟩,h4⟩:=h
  intro n hn
  rcases List.mem_cons.1 hn with rfl | hn
  ·exact ⟨h3,h1,h2⟩
  ·obtain ⟨a,b,c⟩:=scan_all l x.id h4 n hn
   exact ⟨a,by omega,c⟩
theorem sound_leaf {n:NodeD} (h:soundB n=true) (hk:n.kind≠2):n.ents=[]:=by
 unfold soundB at h
 simp only [Bool.and_eq_true,Bool.not_eq_true',Bool.or_eq_false_iff,decide_eq_false_iff_not,not_and] at h
 have:=h.1.1.2.2 hk
 exact List.eq_nil_of_length_eq_zero (by omega)
theorem fit_of (h:WfG gs):∃ rank,Fit gs rank:=by
 obtain ⟨hb,kv,hkv,hends⟩:=h
 obtain ⟨a,b,c⟩:=(enterAll_iff gs [] kv (by simp)).1 hkv
 simp only [List.map_nil,List.nil_append] at b c
 obtain ⟨rank,hr⟩:=falls_of hends
 have hon:=onceL_of c
 have hsc:scanB gs 0=true:=by unfold basicB at hb; simp only [Bool.and_eq_true] at hb; exact hb.1.2
 have hkeys:(kv.map (·.1)).Nodup:=by
  have e:kv.map (·.1)=gs.flatMap fun n=>dirIds gs n.ents:=by
   rw [b,List.map_flatMap]
   congr 1
   funext n
   exact pairs_keys _ _
  rw [e]; exact c
 have hE:∀ id,Known gs id→EntsOk gs (G gs id).ents ⟨#[]⟩:=fun id hk=>a _ (G_mem hk)
 refine ⟨rank,fun id e hk he=>((entsOk_all _ _ (hE id hk)).1 e he).1,fun id e hk he=>((entsOk_all _ _ (hE id hk)).1 e he).2.1,fun id hk=>(entsOk_all _ _ (hE id hk)).2,?_,?_,fun id hk=>sound_leaf (scan_all gs 0 hsc _ (G_mem hk)).1⟩
 ·intro i1 i2 x y e1 e2 h1 h2 hx hy he hd
  have g1:gs[J gs i1]?=some (G gs i1):=by
   obtain ⟨j,hj⟩:=h1
   obtain ⟨hl,_⟩:=idx_get hj
   rw [J_get hj,G_get hj,List.getD_eq_getElem?_getD,List.getElem?_eq_getElem hl]; rfl
  have g2:gs[J gs i2]?=some (G gs i2):=by
   obtain ⟨j,hj⟩:=h2
   obtain ⟨hl,_⟩:=idx_get hj
   rw [J_get hj,G_get hj,List.getD_eq_getElem?_getD,List.getElem?_eq_getElem hl]; rfl
  obtain ⟨c1,c2⟩:=hon _ _ x y _ _ e1 e2 g1 g2 hx hy he hd
  refine ⟨?_,c2⟩
  rw [← G_id h1,← G_id h2]
  rw [c1,g2] at g1
  injection g1 with g1
  rw [g1]
 ·intro id e hk he hd
  apply hr
  have hm:(e.id,id)∈kv:=by
   rw [b,List.mem_flatMap]
   refine ⟨G gs id,G_mem hk,?_⟩
   unfold pairsOf
   rw [G_id hk]
   exact List.mem_map.2 ⟨e.id,mem_dirIds.2 ⟨e,he,hd,rfl⟩,rfl⟩
  obtain ⟨k,hk'⟩:=List.getElem?_of_mem hm
  exact getKv_at hkeys hk'
end Go.Proofs.YtfhfcipelgogjaaGreatDoor
namespace Go.Proofs.YtfhfcipelgogjaaGreatDoor
open Go.RowKit
variable {gs:List NodeD}
structure Full (gs:List NodeD) (ks:List Int) (hs:List NodeD):Prop where
 nodup:ks.Nodup
 known:∀ id∈ks,Known gs id
 closed:∀ id∈ks,∀ e∈(G gs id).ents,e.id∈ks
 nodes:hs=ks.zipIdx.map fun p=>copyN (G gs p.1) ((p.2:Int)+1) ((G gs p.1).ents.map (ren ks))
theorem Full.len {ks:List Int} {hs:List NodeD} (h:Full gs ks hs):hs.length=ks.length:=by rw [h.nodes]; simp
theorem Full.at_ {ks:List Int} {hs:List NodeD} (h:Full gs ks hs) {k:Nat} {id:Int} (hk:ks[k]?=some id):hs[k]?=some (copyN (G gs id) ((k:Int)+1) ((G gs id).ents.map (ren ks))):=by
 rw [h.nodes,List.getElem?_map,List.getElem?_zipIdx,hk]; simp
theorem Full.at' {ks:List Int} {hs:List NodeD} (h:Full gs ks hs) {k:Nat} {n:NodeD} (hk:hs[k]?=some n):∃ id,ks[k]?=some id∧n=copyN (G gs id) ((k:Int)+1) ((G gs id).ents.map (ren ks)):=by
 have hl:=(List.getElem?_eq_some_iff.1 hk).1
 rw [h.len] at hl
 have e1:ks[k]?=some ks[k]:=List.getElem?_eq_getElem hl
 refine ⟨_,e1,?_⟩
 rw [h.at_ e1] at hk
 injection hk with hk
 exact hk.symm
theorem idx_keys (l:List NodeD):(idx l).map (·.1)=l.map (·.id):=by
 unfold idx
 rw [List.map_map]
 apply List.ext_getElem?
 intro i
 simp [List.getElem?_map,List.getElem?_zipIdx]
 cases l[i]? <;> rfl
theorem idx_at (l:List NodeD) {k:Nat} {n:NodeD} (h:l[k]?=some n):(idx l)[k]?=some (n.id,k):=by
 unfold idx
 rw [List.getElem?_map,List.getElem?_zipIdx,h]; simp
theorem Full.idsNodup {ks:List Int} {hs:List NodeD} (h:Full gs ks hs):((idx hs).map (·.1)).Nodup:=by
 rw [idx_keys]
 unfold List.Nodup
 rw [List.pairwise_map,List.pairwise_iff_getElem]
 intro i j hi hj hij he
 obtain ⟨a,_,b⟩:=h.at' (List.getElem?_eq_getElem hi)
 obtain ⟨c,_,d⟩:=h.at' (List.getElem?_eq_getElem hj)
 rw [b,d] at he
 have:(i:Int)+1=(j:Int)+1:=he
 omega
theorem Full.get {ks:List Int} {hs:List NodeD} (h:Full gs ks hs) {k:Nat} {id:Int} (hk:ks[k]?=some id):getKv (idx hs) ((k:Int)+1)=some k:=by
 have:=idx_at hs (h.at_ hk)
 exact getKv_at h.idsNodup this
theorem Full.G {ks:List Int} {hs:List NodeD} (h:Full gs ks hs) {id:Int} (hid:id∈ks):G hs ((ks.idxOf id:Int)+1)=copyN (G gs id) ((ks.idxOf id:Int)+1) ((G gs id).ents.map (ren ks)):=by
 have hk:=idxOf_at hid
 rw [G_get (h.get hk),List.getD_eq_getElem?_getD,h.at_ hk]; rfl
theorem Full.known' {ks:List Int} {hs:List NodeD} (h:Full gs ks hs) {id:Int} (hid:id∈ks):Known hs ((ks.idxOf id:Int)+1):=⟨_,h.get (idxOf_at hid)⟩
theorem idx_inj {ks:List Int} {a b:Int} (ha:a∈ks) (hb:b∈ks) (h:(ks.idxOf a:Int)+1=(ks.idxOf b:Int)+1):a=b:=by
 have h1:=idxOf_at ha
 have h2:=idxOf_at hb
 have:ks.idxOf a=ks.idxOf b:=by omega
 rw [this,h2] at h1
 injection h1 with h1
 exact h1.symm
theorem Full.ents {ks:List Int} {hs:List NodeD} (h:Full gs ks hs):∀ (es:List EntD) (name:ByteArray),EntsOk gs es name→(∀ e∈es,e.id∈ks)→EntsOk hs (es.map (ren ks)) name
 | [],_,_,_=>trivial
 | e :: es,name,h1,h2=>by
  unfold EntsOk at h1
  obtain ⟨a,b,c,d⟩:=h1
  exact ⟨h.known' (h2 e (List.mem_cons_self ..)),b,c,Full.ents h es e.name d fun x hx=>h2 x (List.mem_cons_of_mem _ hx)⟩
theorem Full.once {ks : List Int} {hs : List NodeD} {rank : Int → Nat} (h : Full gs ks hs) (hF : Fit gs rank) : OnceL hs hs := by
  intro k1 k2 x y n1 n2 e1 e2 hk1 hk2 hx hy he hd
  obtain ⟨i1, a1, b1⟩ := h.at' hk1
  obtain ⟨i2, a2, b2⟩ := h.at' hk2
  subst b1 b2
  have hx' : ((Go.Proofs.YtfhfcipelgogjaaGreatDoor.G gs i1).ents.map (ren ks))[x]? = some e1 := hx
  have hy' : ((Go.Proofs.YtfhfcipelgogjaaGreatDoor.G gs i2).ents.map (ren ks))[y]? = some e2 := hy
  rw [List.getElem?_map, Option.map_eq_some_iff] at hx' hy'
  obtain ⟨f1, c1, d1⟩ := hx'
  obtain ⟨f2, c2, d2⟩ := hy'
  subst d1 d2
  have m1 := List.mem_of_getElem? a1
  have m2 := List.mem_of_getElem? a2
  have r1 : f1.id ∈ ks := h.closed i1 m1 f1 (List.mem_of_getElem? c1)
  have r2 : f2.id ∈ ks := h.closed i2 m2 f2 (List.mem_of_getElem? c2)
  have hid : f1.id = f2.id := idx_inj r1 r2 he
  have hd' : (Go.Proofs.YtfhfcipelgogjaaGreatDoor.G gs f1.id).kind = 2 := by
    have : (Go.Proofs.YtfhfcipelgogjaaGreatDoor.G hs ((ks.idxOf f1.id : Int) + 1)).kind = 2 := hd
    rw [h.G r1] at this
    exact this
  obtain ⟨q1, q2⟩ := hF.once i1 i2 x y f1 f2 (h.known i1 m1) (h.known i2 m2) c1 c2 hid hd'
  subst q1
  exact ⟨nodup_at h.nodup a1 a2, q2⟩
theorem sum_erase {f : Nat → Nat} {a : Nat} : ∀ (m : List Nat), a ∈ m → (m.map f).sum = f a + ((m.erase a).map f).sum
  | [], h => by cases h
  | b :: m, h => by
    by_cases hb : b = a
    · subst hb; simp
    · have hm : a ∈ m := by rcases List.mem_cons.1 h with h | h
                            · exact absurd h.symm hb
                            · exact h
      rw [List.erase_cons_tail (by simpa using hb)]
      simp only [List.map_cons, List.sum_cons]
      rw [sum_erase m hm]
      omega
theorem nodup_sum (f:Nat→Nat):∀ (l m:List Nat),l.Nodup→(∀ x∈l,x∈m)→(l.map f).sum≤(m.map f).sum
 | [],m,_,_=>Nat.zero_le _
 | a :: l,m,hn,hs=>by
  rw [List.nodup_cons] at hn
  have ha:a∈m:=hs a (List.mem_cons_self ..)
  have:=nodup_sum f l (m.erase a) hn.2 fun x hx=>(List.mem_erase_of_ne (by rintro rfl; exact hn.1 hx)).2 (hs x (List.mem_cons_of_mem _ hx))
  rw [sum_erase m ha]
  simp only [List.map_cons,List.sum_cons]
  omega
theorem entsSum_map:∀ (l:List NodeD),entsSum l=(l.map fun n=>n.ents.length).sum
 | []=>rfl
 | n :: l=>by unfold entsSum; rw [entsSum_map l]; rfl
theorem range_sum (l:List NodeD):((List.range l.length).map fun j=>(l.getD j default).ents.length).sum=entsSum l:=by
 rw [entsSum_map]
 congr 1
 apply List.ext_getElem?
 intro i
 rw [List.getElem?_map,List.getElem?_map]
 by_cases hi:i<l.length
 ·rw [List.getElem?_range hi,List.getElem?_eq_getElem hi]
  simp [List.getD_eq_getElem?_getD,List.getElem?_eq_getElem hi]
 ·rw [List.getElem?_eq_none (by simpa using hi),List.getElem?_eq_none (by omega)]; rfl
theorem sum_one:∀ (l:List Nat),(l.map fun _=>1).sum=l.length
 | []=>rfl
 | a :: l=>by rw [List.map_cons,List.sum_cons,sum_one l,List.length_cons]; omega
theorem lst_eq {a a':List LineD} {b b':List (Int×ByteArray)} {c c':Nat} (h1:a=a') (h2:b=b') (h3:c=c'):LSt.mk a b c=LSt.mk a' b' c':=by rw [h1,h2,h3]
theorem Full.sum {ks:List Int} {hs:List NodeD} (h:Full gs ks hs):hs.length≤gs.length∧entsSum hs≤entsSum gs:=by
 have hJ:∀ id∈ks,J gs id<gs.length:=fun id hid=>by
  obtain ⟨j,hj⟩:=h.known id hid
  rw [J_get hj]; exact (idx_get hj).1
 have hn:(ks.map (J gs)).Nodup:=by
  unfold List.Nodup
  rw [List.pairwise_map]
  refine (List.Pairwise.imp_of_mem ?_ h.nodup)
  intro a b ha hb hab he
  apply hab
  rw [← G_id (h.known a ha),← G_id (h.known b hb)]
  unfold Go.Proofs.YtfhfcipelgogjaaGreatDoor.G
  rw [he]
 have hsub:∀ x∈ks.map (J gs),x∈List.range gs.length:=fun x hx=>by
  obtain ⟨id,hid,rfl⟩:=List.mem_map.1 hx
  exact List.mem_range.2 (hJ id hid)
 refine ⟨?_,?_⟩
 ·have:=nodup_sum (fun _=>1) _ _ hn hsub
  rw [h.len]
  rw [sum_one,sum_one,List.length_map,List.length_range] at this
  exact this
 ·have:=nodup_sum (fun j=>(gs.getD j default).ents.length) _ _ hn hsub
  rw [range_sum] at this
  refine Nat.le_trans (Nat.le_of_eq ?_) this
  rw [entsSum_map,h.nodes,List.map_map,List.map_map]
  congr 1
  apply List.ext_getElem?
  intro i
  simp only [List.getElem?_map,List.getElem?_zipIdx]
  cases ks[i]? with
  | none=>rfl
  | some id=>simp [copyN,Go.Proofs.YtfhfcipelgogjaaGreatDoor.G]
theorem scan_of:∀ (l:List NodeD) (last:Int),(∀ (k:Nat) n,l[k]?=some n→soundB n=true∧n.id=last+(k:Int)+1∧n.id≤1099511627776)→0≤last→scanB l last=true
 | [],_,_,_=>rfl
 | n :: l,last,h,h0=>by
  unfold scanB
  obtain ⟨a,b,c⟩:=h 0 n rfl
  rw [a,decide_eq_true (show last<n.id by omega),decide_eq_true c]
  simp only [Bool.and_true,Bool.true_and]
  refine scan_of l n.id (fun k x hx=>?_) (by omega)
  obtain ⟨d,e,f⟩:=h (k+1) x hx
  refine ⟨d,?_,f⟩
  rw [e,b]; omega
theorem sound_copy {n:NodeD} {id:Int} {es:List EntD} (h:soundB n=true) (hl:es.length=n.ents.length):soundB (copyN n id es)=true:=by
 unfold soundB at h ⊢
 have e:(copyN n id es).ents.length=n.ents.length:=hl
 rw [e]
 exact h
theorem Full.wf {ks:List Int} {hs:List NodeD} (hW:WfG gs) (h:Full gs ks hs):¬ NotWfG hs:=by
 obtain ⟨rank,hF⟩:=fit_of hW
 obtain ⟨hb,kv0,hkv0,_⟩:=hW
 have hE:=((enterAll_iff gs [] kv0 (by simp)).1 hkv0).1
 unfold basicB at hb
 simp only [Bool.and_eq_true,decide_eq_true_eq] at hb
 obtain ⟨⟨hb1,hb2⟩,hb3⟩:=hb
 obtain ⟨hs1,hs2⟩:=h.sum
 have hbas:basicB hs=true:=by
  unfold basicB
  rw [decide_eq_true (by omega),decide_eq_true (by omega),scan_of hs 0 (fun k n hk=>?_) (by omega)]
  ·rfl
  ·obtain ⟨id,hid,rfl⟩:=h.at' hk
   have hkl:=(List.getElem?_eq_some_iff.1 hk).1
   refine ⟨sound_copy (scan_all gs 0 hb2 _ (G_mem (h.known id (List.mem_of_getElem? hid)))).1 (by simp),?_,?_⟩
   ·show (k:Int)+1=_; omega
   ·show (k:Int)+1≤_; omega
 obtain ⟨kv',hkv'⟩:∃ kv',kv'=([]:List (Int×Int))++hs.flatMap (fun n=>pairsOf hs n.id n.ents):=⟨_,rfl⟩
 have hall:enterAll hs hs []=some kv':=(enterAll_iff hs [] kv' (by simp)).2 ⟨fun n hn=>by
  obtain ⟨k,hk⟩:=List.getElem?_of_mem hn
  obtain ⟨id,hid,rfl⟩:=h.at' hk
  have hm:=List.mem_of_getElem? hid
  exact h.ents _ _ (hE _ (G_mem (h.known id hm))) (h.closed id hm),hkv',by
   rw [List.map_nil,List.nil_append]
   exact nodup_of_once (h.once hF)⟩
 rintro (h1 | h1 | ⟨kv,h1,h2⟩)
 ·rw [hbas] at h1; cases h1
 ·rw [hall] at h1; cases h1
 ·rw [hall] at h1
  injection h1 with h1
  subst h1
  refine h2 ⟨fun k=>rank (ks.getD (k - 1).toNat 0),fun d u hdu=>?_⟩
  have hm:(d,u)∈kv':=by
   unfold getKv at hdu
   rw [Option.map_eq_some_iff] at hdu
   obtain ⟨p,hp,hp2⟩:=hdu
   have h3:=List.find?_some hp
   have h4:=List.mem_of_find?_eq_some hp
   rw [decide_eq_true_eq] at h3
   rw [← h3,← hp2]; exact h4
  rw [hkv',List.nil_append,List.mem_flatMap] at hm
  obtain ⟨n,hn,hm⟩:=hm
  unfold pairsOf at hm
  obtain ⟨d',hd',he⟩:=List.mem_map.1 hm
  injection he with e1 e2
  subst e1 e2
  obtain ⟨k,hk⟩:=List.getElem?_of_mem hn
  obtain ⟨id,hid,rfl⟩:=h.at' hk
  obtain ⟨e,c1,c2,c3⟩:=mem_dirIds.1 hd'
  obtain ⟨f,f1,f2⟩:=List.mem_map.1 (show e∈(Go.Proofs.YtfhfcipelgogjaaGreatDoor.G gs id).ents.map (ren ks) from c1)
  subst f2
  have hmid:=List.mem_of_getElem? hid
  have hmf:=h.closed id hmid f f1
  have hkd:(Go.Proofs.YtfhfcipelgogjaaGreatDoor.G gs f.id).kind=2:=by
   have:(Go.Proofs.YtfhfcipelgogjaaGreatDoor.G hs ((ks.idxOf f.id:Int)+1)).kind=2:=c2
   rw [h.G hmf] at this
   exact this
  have hfall:=hF.fall id f (h.known id hmid) f1 hkd
  rw [← c3]
  have z1:(((k:Int)+1) - 1).toNat=k:=by omega
  have z2:(((ks.idxOf f.id:Int)+1) - 1).toNat=ks.idxOf f.id:=by omega
  show rank (ks.getD (((k:Int)+1) - 1).toNat 0)<rank (ks.getD (((ks.idxOf f.id:Int)+1) - 1).toNat 0)
  rw [z1,z2,List.getD_eq_getElem?_getD,hid,List.getD_eq_getElem?_getD,idxOf_at hmf]
  exact hfall
def mapSt (ks:List Int) (st:LSt):LSt:=⟨st.out,st.first.map fun p=>((ks.idxOf p.1:Int)+1,p.2),st.bytes⟩
theorem has_map {ks:List Int} {id:Int} (hid:id∈ks):∀ (l:List (Int×ByteArray)),(∀ p∈l,p.1∈ks)→getKv (l.map fun p=>((ks.idxOf p.1:Int)+1,p.2)) ((ks.idxOf id:Int)+1)=getKv l id∧hasKv (l.map fun p=>((ks.idxOf p.1:Int)+1,p.2)) ((ks.idxOf id:Int)+1)=hasKv l id
 | [],_=>⟨rfl,rfl⟩
 | p :: l,h=>by
  obtain ⟨a,b⟩:=has_map hid l fun q hq=>h q (List.mem_cons_of_mem _ hq)
  have hp:=h p (List.mem_cons_self ..)
  have hd:decide (((ks.idxOf p.1:Int)+1)=((ks.idxOf id:Int)+1))=decide (p.1=id):=by
   by_cases he:p.1=id
   ·rw [he]; simp
   ·rw [decide_eq_false he,decide_eq_false fun hh=>he (idx_inj hp hid hh)]
  unfold getKv hasKv at *
  rw [List.map_cons,List.find?_cons,List.find?_cons,List.any_cons,List.any_cons]
  simp only [hd]
  refine ⟨?_,by rw [b]⟩
  cases decide (p.1=id) with
  | true=>rfl
  | false=>exact a
theorem put_map {ks:List Int} {id:Int} (hid:id∈ks) (path:ByteArray) (l:List (Int×ByteArray)) (h:∀ p∈l,p.1∈ks):putKv (l.map fun p=>((ks.idxOf p.1:Int)+1,p.2)) ((ks.idxOf id:Int)+1) path=(putKv l id path).map fun p=>((ks.idxOf p.1:Int)+1,p.2):=by
 unfold putKv
 rw [(has_map hid l h).2]
 split
 ·rw [List.map_map,List.map_map]
  apply List.map_congr_left
  intro p hp
  simp only [Function.comp]
  by_cases he:p.1=id
  ·rw [if_pos he,if_pos (by rw [he])]
  ·rw [if_neg he,if_neg (fun hh=>he (idx_inj (h p hp) hid hh))]
 ·simp
def InK (ks:List Int) (st:LSt):Prop:=∀ p∈st.first,p.1∈ks
theorem put_in {ks:List Int} {id:Int} (hid:id∈ks) (path:ByteArray) (l:List (Int×ByteArray)) (h:∀ p∈l,p.1∈ks):∀ p∈putKv l id path,p.1∈ks:=by
 intro p hp
 unfold putKv at hp
 split at hp
 ·obtain ⟨q,hq,rfl⟩:=List.mem_map.1 hp
  split
  ·exact hid
  ·exact h q hq
 ·rcases List.mem_append.1 hp with hp | hp
  ·exact h p hp
  ·simp at hp; subst hp; exact hid
theorem add_map {ks:List Int} {hs:List NodeD} {rank:Int→Nat} (hF:Fit gs rank) (h:Full gs ks hs):∀ (fuel:Nat) (st:LSt) (id:Int) (path:ByteArray),id∈ks→InK ks st →
  addF hs fuel (mapSt ks st) (ks.idxOf id) path=(mapSt ks (addF gs fuel st (J gs id) path).1,(addF gs fuel st (J gs id) path).2)∧InK ks (addF gs fuel st (J gs id) path).1
 | 0,st,id,path,_,hi=>⟨rfl,hi⟩
 | fuel+1,st,id,path,hid,hi=>by
  have hkn:=h.known id hid
  have hgj:gs.getD (J gs id) default=Go.Proofs.YtfhfcipelgogjaaGreatDoor.G gs id:=rfl
  have hhj:hs.getD (ks.idxOf id) default=copyN (Go.Proofs.YtfhfcipelgogjaaGreatDoor.G gs id) ((ks.idxOf id:Int)+1) ((Go.Proofs.YtfhfcipelgogjaaGreatDoor.G gs id).ents.map (ren ks)):=by
   rw [List.getD_eq_getElem?_getD,h.at_ (idxOf_at hid)]; rfl
  unfold addF
  rw [hgj,hhj]
  have hb:(mapSt ks st).bytes=st.bytes:=rfl
  rw [hb]
  by_cases hc:4194304<st.bytes+path.size
  ·rw [if_pos hc,if_pos hc]
   exact ⟨rfl,hi⟩
  ·rw [if_neg hc,if_neg hc]
   obtain ⟨n,hn⟩:∃ n,n=Go.Proofs.YtfhfcipelgogjaaGreatDoor.G gs id:=⟨_,rfl⟩
   rw [← hn]
   have hnid:n.id=id:=by rw [hn]; exact G_id hkn
   have hpeer:peerOf (mapSt ks st) (copyN n ((ks.idxOf id:Int)+1) (n.ents.map (ren ks)))=peerOf st n:=by
    unfold peerOf
    have:=(has_map hid st.first hi).1
    rw [hnid]
    exact congrArg (fun o:Option ByteArray=>o.getD ⟨#[]⟩) this
   have hput:put1 (mapSt ks st) (copyN n ((ks.idxOf id:Int)+1) (n.ents.map (ren ks))) path=mapSt ks (put1 st n path):=by
    unfold put1
    rw [hpeer]
    unfold mapSt
    refine lst_eq rfl ?_ rfl
    simp only
    split
    ·rw [hnid]; exact put_map hid path st.first hi
    ·rfl
   have hin:InK ks (put1 st n path):=by
    unfold put1 InK
    simp only
    split
    ·rw [hnid]; exact put_in hid path st.first hi
    ·exact hi
   rw [hput]
   have ho:(mapSt ks st).out=st.out:=rfl
   rw [ho]
   have he:∀ e∈n.ents,e.id∈ks:=by rw [hn]; exact h.closed id hid
   have hen:(copyN n ((ks.idxOf id:Int)+1) (n.ents.map (ren ks))).ents=n.ents.map (ren ks):=rfl
   rw [hen]
   clear hput hpeer hc hb hgj hhj
   revert hin
   generalize put1 st n path=s1
   generalize n.ents=es at he
   clear hn hen
   induction es generalizing s1 with
   | nil=>exact fun hin=>⟨rfl,hin⟩
   | cons e es ih =>
    intro hin
    have hek:=he e (List.mem_cons_self ..)
    obtain ⟨j,hj⟩:=h.known e.id hek
    have hh:=h.get (idxOf_at hek)
    rw [List.map_cons]
    unfold addEs
    have hre:(ren ks e).id=(ks.idxOf e.id:Int)+1:=rfl
    rw [hj,hre,hh]
    simp only
    have hnm:(ren ks e).name=e.name:=rfl
    rw [hnm]
    obtain ⟨r1,r2⟩:=add_map hF h fuel s1 e.id (subPath st.out.isEmpty path e.name) hek hin
    rw [J_get hj] at r1 r2
    rw [r1]
    simp only
    by_cases hc2:(addF gs fuel s1 j (subPath st.out.isEmpty path e.name)).2=true
    ·rw [if_pos hc2,if_pos hc2]
     exact ih _ (fun x hx=>he x (List.mem_cons_of_mem _ hx)) r2
    ·rw [if_neg hc2,if_neg hc2]
     exact ⟨rfl,r2⟩
theorem tree_plants {root:Int} {i:Nat} {fuel:Nat} {st:LSt} (hr:RootG gs root i) (h:addF gs (fuel+1) ⟨[],[],0⟩ i ⟨#[46]⟩=(st,true)) :
  ∃ ps ks,plantL 0 st.out ⟨[],[]⟩=some ps∧(∀ l∈st.out,TL gs l)∧Full gs ks ps.nodes∧¬ NoRootG ps.nodes 1∧getKv (idx ps.nodes) 1=some 0∧addF ps.nodes (fuel+1) ⟨[],[],0⟩ 0 ⟨#[46]⟩=(mapSt ks st,true):=by
 obtain ⟨hW,hk,hkd⟩:=hr
 obtain ⟨rank,hF⟩:=fit_of hW
 have hJ:J gs root=i:=J_get hk
 have hKn:Known gs root:=⟨i,hk⟩
 have hGi:gs.getD i default=G gs root:=by rw [G_get hk]
 have h':=h
 unfold addF at h'
 have hsz:(ByteArray.mk #[46]).size=1:=rfl
 rw [hsz,if_neg (by show ¬ 4194304<0+1; omega),hGi] at h'
 obtain ⟨n,hn⟩:∃ n,n=G gs root:=⟨_,rfl⟩
 rw [← hn] at h'
 have hnid:n.id=root:=by rw [hn]; exact G_id hKn
 have hpeer:peerOf ⟨[],[],0⟩ n=⟨#[]⟩:=rfl
 obtain ⟨l,hl⟩:∃ l,l=lineAt ⟨#[46]⟩ n ⟨#[]⟩:=⟨_,rfl⟩
 have hput:put1 ⟨[],[],0⟩ n ⟨#[46]⟩=⟨[l],[(root,⟨#[46]⟩)],1⟩:=by
  unfold put1; rw [hpeer,hl,hnid]; rfl
 rw [hput] at h'
 have hline:=lineAt_cells ⟨#[46]⟩ n ⟨#[]⟩
 rw [← hl] at hline
 have hnode:nodeOf l 1=copyN n 1 []:=by rw [hl]; rfl
 have hstep:plant1 true ⟨[],[]⟩ l=some ⟨nodesOf gs [root] (fun _=>0),[(⟨#[46]⟩,1)]⟩:=by
  have e1:newId ⟨[],[]⟩ l=1:=by unfold newId; rw [hline.2.2.2.2.2.2.1]; rfl
  have e2:nodes1 ⟨[],[]⟩ l=[copyN n 1 []]:=by
   unfold nodes1; rw [hline.2.2.2.2.2.2.1,if_pos (show (ByteArray.mk #[]).size=0 from rfl)]
   show []++[nodeOf l (0+1)]=_
   rw [← hnode]; rfl
  unfold plant1
  rw [e1,e2,hline.1,if_neg (by simp [hasKv]),if_pos rfl]
  congr 2
  ·unfold nodesOf; rw [hn]; rfl
 have hinv:Inv gs rank root ⟨[l],[(root,⟨#[46]⟩)],1⟩ ⟨nodesOf gs [root] (fun _=>0),[(⟨#[46]⟩,1)]⟩ (fun _=>0):=by
  refine ⟨rfl,by simp [keys],fun id hid=>?_,fun _ _ _=>Nat.zero_le _,fun k id hk e he=>?_,fun k p hp=>?_,fun id hid h2=>?_⟩
  ·simp [keys] at hid; rw [hid]; exact hKn
  ·simp at he
  ·cases k with
   | zero=>simp at hp; subst hp; exact ⟨rfl,by show (ByteArray.mk #[46]).size≠0; decide,by show (ByteArray.mk #[46]).size≤4194304; decide⟩
   | succ k=>simp at hp
  ·simp [keys] at hid; subst hid; exact ⟨Nat.le_refl _,.inl rfl⟩
 obtain ⟨ps,m,i2,k2,f2⟩:=kids hF (callOk (root:=root) hF fuel) true ⟨#[46]⟩ 0 root n.ents _ _ _ st hinv rfl (by rw [hn]; rfl) (by simp) rfl (fun _=>rfl) (by decide) (fun e he p hp hu=>by
  simp at hp; subst hp
  have hg:=hF.good root e hKn (by rw [← hn]; exact he)
  rcases hu with hu | ⟨t,ht⟩
  ·have e1:(ByteArray.mk #[46])=e.name:=hu
   exact hg.2.1 (by rw [← e1])
  ·have e1:([46]:List UInt8)=e.name.data.toList++47 :: t:=ht
   cases hx:e.name.data.toList with
   | nil=>exact hg.1 hx
   | cons a b =>
    rw [hx] at e1
    have:=congrArg List.length e1
    simp at this) h'
 obtain ⟨L,eL,fL,zL⟩:=f2.lines
 obtain ⟨more,em⟩:=f2.first
 have hfull:∀ (j:Nat) id,(keys st)[j]?=some id→m j=(G gs id).ents.length:=fun j id hj=>by
  by_cases h0:j=0
  ·subst h0
   have:(keys st)[0]?=some root:=by unfold keys; rw [em]; rfl
   rw [this] at hj; injection hj with hj
   rw [k2,hj]
  ·exact f2.full j id (by show 1≤j; omega) hj
 have hF':Full gs (keys st) ps.nodes:=by
  refine ⟨i2.nodup,i2.known,fun id hid e he=>?_,?_⟩
  ·obtain ⟨k,hk⟩:=List.getElem?_of_mem hid
   refine i2.in_ k id hk e ?_
   rw [hfull k id hk,List.take_length]; exact he
  ·rw [i2.nodes]
   unfold nodesOf
   apply List.ext_getElem?
   intro k
   simp only [List.getElem?_map,List.getElem?_zipIdx]
   cases hk:(keys st)[k]? with
   | none=>rfl
   | some id =>
    simp only [Option.map_some,Nat.zero_add]
    rw [hfull k id hk,List.take_length]
 have hroot:(keys st)[0]?=some root:=by unfold keys; rw [em]; rfl
 have hmem:root∈keys st:=List.mem_of_getElem? hroot
 have hi0:(keys st).idxOf root=0:=nodup_at i2.nodup (idxOf_at hmem) hroot
 refine ⟨ps,keys st,?_,?_,hF',?_,by have:=hF'.get hroot; simpa using this,?_⟩
 ·rw [eL]
  show plantL 0 (l :: L) _=_
  unfold plantL
  rw [decide_eq_true rfl,hstep]
  show plantL 1 L _=_
  rw [plantL_succ]; exact fL
 ·rw [eL]
  intro y hy
  rcases List.mem_append.1 hy with hy | hy
  ·simp at hy
   subst hy
   refine ⟨root,⟨#[46]⟩,⟨#[]⟩,hKn,by rw [hl,hn],by decide,by decide,by decide,fun h0=>absurd rfl h0⟩
  ·exact zL y hy
 ·rintro (h1 | h1 | ⟨j,h1,h2⟩)
  ·exact hF'.wf hW h1
  ·have:=hF'.get hroot
   have h1':getKv (idx ps.nodes) (((0:Nat):Int)+1)=none:=h1
   rw [this] at h1'; cases h1'
  ·have:=hF'.get hroot
   have h1':getKv (idx ps.nodes) (((0:Nat):Int)+1)=some j:=h1
   rw [this] at h1'
   injection h1' with h1'
   subst h1'
   apply h2
   rw [List.getD_eq_getElem?_getD,hF'.at_ hroot]
   show (G gs root).kind=2
   rw [← hGi]; exact hkd
 ·have:=(add_map hF hF' (fuel+1) ⟨[],[],0⟩ root ⟨#[46]⟩ hmem (fun p hp=>(by cases hp))).1
  rw [hJ,h,hi0] at this
  exact this
end Go.Proofs.YtfhfcipelgogjaaGreatDoor
namespace Go.Proofs.YtfhfcipelgogjaaGreatDoor
open Go.RowKit
attribute [local go_sem] cell?_over frozen?_over lt_over le_over
def lastIx (s:ByteArray):Int:=match lastSl s.data.toList with
 | none=>-1
 | some k=>(k:Int)
theorem lastIx_none {s:ByteArray} (h:(47:UInt8)∉s.data.toList):lastIx s=-1:=by unfold lastIx; rw [lastSl_none _ h]
theorem lastIx_at {s : ByteArray} {k : Nat} (hk : s.data.toList[k]? = some 47) (h : (47 : UInt8) ∉ s.data.toList.drop (k + 1)) : lastIx s = k := by
  obtain ⟨hl, he⟩ := List.getElem?_eq_some_iff.1 hk
  have e : s.data.toList = s.data.toList.take k ++ 47 :: s.data.toList.drop (k + 1) := by
    conv => lhs; rw [← List.take_append_drop k s.data.toList]
    rw [List.drop_eq_getElem_cons hl, he]
  unfold lastIx
  rw [e, lastSl_at _ _ h, List.length_take, Nat.min_eq_left (by omega)]
theorem lastIndexStr (s : ByteArray) (w : World) (hs : s.size ≤ 4294967280) : Calls Tryz.prog 70 #[.string s, .int .u8 47] w fun e w' => e = .returned (.int .i64 (lastIx s)) ∧ w' = w := by
  obtain ⟨R, hR⟩ : ∃ R, R = lastIx s := ⟨_, rfl⟩
  rw [← hR]
  have HR := Lib.hid hR
  obtain ⟨n, hn⟩ : ∃ n, n = s.size := ⟨_, rfl⟩
  have HN := Lib.hid hn
  have hnl : s.data.toList.length = n := by rw [hn, Array.length_toList]; rfl
  have HNL := Lib.hid hnl
  clear hR hnl
  go_enter Tryz.func70, Tryz.ntmps70
  go_wp2_with fail
  go_loopw [5] (fun v5 wr => ∃ k : Nat, k ≤ n ∧ v5 = .int .i64 ((k : Int) - 1) ∧ (47 : UInt8) ∉ s.data.toList.drop k ∧ wr = w) (fun v5 _ => (intOf v5 + 1).toNat)
  case atStart => exact ⟨n, Nat.le_refl _, by rw [hn], by rw [← HNL.out, List.drop_length]; exact List.not_mem_nil, rfl⟩
  case round =>
    obtain ⟨k, hk, rfl, hno, rfl⟩ := hrel
    have NO := Lib.hid hno
    clear hno
    cases k with
    | zero =>
      have HE : Hid (R = -1) := Lib.hid (by rw [HR.out]; exact lastIx_none (by have := NO.out; simpa using this))
      go_wp2_with fail
      go_ret
      rw [HE.out]
      exact ⟨rfl, rfl⟩
    | succ k =>
      have hlt : k < s.size := by omega
      have hge : ((k + 1 : Nat) : Int) - 1 ≥ 0 := by omega
      have hkl : k < s.data.toList.length := by rw [HNL.out]; omega
      obtain ⟨b, hb⟩ : ∃ b, b = s.data.toList[k] := ⟨_, rfl⟩
      have HB := Lib.hid hb
      have hix : s[k] = b := by rw [hb]; rfl
      have he1 : ((k + 1 : Nat) : Int) - 1 = (k : Int) := by omega
      rw [he1]
      clear hb hge he1
      have hbk : s.data.toList[k]? = some b := by rw [HB.out]; exact List.getElem?_eq_getElem hkl
      have HBK := Lib.hid hbk
      clear hbk
      by_cases hc : b = 47
      · have hc1 : ((b.toNat : Int) == 47) = true := by rw [hc]; rfl
        have HE : Hid (R = k) := Lib.hid (by rw [HR.out]; exact lastIx_at (by rw [HBK.out, hc]) NO.out)
        clear hc
        go_wp2_with fail
        go_ret
        rw [HE.out]
        exact ⟨rfl, rfl⟩
      · have hc1 : ((b.toNat : Int) == 47) = false := by
          rw [beq_eq_false_iff_ne]; intro e
          exact hc (UInt8.toNat_inj.1 (by have : b.toNat = 47 := by omega
                                          rw [this]; rfl))
        have NO2 : Hid ((47 : UInt8) ∉ s.data.toList.drop k) := Lib.hid (by
          rw [List.drop_eq_getElem_cons hkl, ← HB.out]
          intro hm
          rcases List.mem_cons.1 hm with h | h
          · exact hc h.symm
          · exact NO.out h)
        clear hc
        go_wp2_with fail
        go_roundw
        case rel => exact ⟨k, by omega, rfl, NO2.out, trivial⟩
        case measure => simp [intOf]
theorem lastIndexByte (s:ByteArray) (w:World) (hs:s.size≤4294967280):Calls Tryz.prog 37 #[.string s,.int .u8 47] w fun e w'=>e=.returned (.int .i64 (lastIx s))∧w'=w:=by
 have LI:=Lib.hid (lastIndexStr s w hs)
 go_enter Tryz.func37,Tryz.ntmps37
 go_wp2_with fail
 refine LI.out.mono ?_
 rintro e w' ⟨rfl,rfl⟩
 go_wp2_with fail
 go_ret
 exact ⟨rfl,rfl⟩
end Go.Proofs.YtfhfcipelgogjaaGreatDoor
