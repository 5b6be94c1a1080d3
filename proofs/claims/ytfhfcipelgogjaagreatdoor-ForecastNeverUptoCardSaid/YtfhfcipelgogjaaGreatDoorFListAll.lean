/- What (*forecast.lister).add leaves, in plain words, and how the lister lies in memory. No condition. The lines of a tree of things that answers a graph are the graph's. No code. slices.Sorted(maps.Keys(m)) at a map of names to things, off the shelf's contracts. No condition but room. forecast's finish: the model, and one step of it. No code. What forecast's lister keeps while a line is added. No condition. -/
import Derived.Test.YtfhfcipelgogjaaGreatDoorFoldAll
import Derived.Test.YtfhfcipelgogjaaGreatDoorPlanAll
import Derived.Test.YtfhfcipelgogjaaGreatDoorAddAll
import Derived.Test.YtfhfcipelgogjaaGreatDoorOwnAll
import Derived.Test.YtfhfcipelgogjaaGreatDoorPLawAll
import Derived.Test.YtfhfcipelgogjaaGreatDoorThingAll
import Derived.Test.YtfhfcipelgogjaaGreatDoorLayKeys
import Derived.Shelf.SlIter.Nil
import Derived.Shelf.SortM.Plain
import Derived.Shelf.SortM.SortNone
import Derived.Test.YtfhfcipelgogjaaGreatDoorSymAll
import Derived.Test.YtfhfcipelgogjaaGreatDoorRegAll
set_option linter.unusedSectionVars false
set_option linter.unusedVariables false
set_option linter.unusedSimpArgs false
set_option maxHeartbeats 1000000
namespace Go.Proofs.YtfhfcipelgogjaaGreatDoor
open Go.RowKit
structure TSt where
 out:List LineD
 first:List (Nat×ByteArray)
 bytes:Nat
def pathT (ps:List ByteArray):ByteArray:=if ps=[] then ⟨#[46]⟩ else ⟨(joinP (ps.map (·.data.toList))).toArray⟩
def peerT (st:TSt) (i:Nat):ByteArray:=(getKv st.first i).getD ⟨#[]⟩
def lineT (path:ByteArray) (t:ThD) (peer:ByteArray):LineD:=
 if peer.size=0 then ⟨path,t.kind,t.mode,t.uid,t.gid,t.mtime,t.data,t.target,peer⟩ else ⟨path,t.kind,t.mode,t.uid,t.gid,t.mtime,[],⟨#[]⟩,peer⟩
def sortL (l:List (List UInt8)):List (List UInt8):=l.mergeSort fun x y=>decide (x≤y)
def namesT (t:ThD):List ByteArray:=(sortL (t.ins.map fun p=>p.1.data.toList)).map fun l=>⟨l.toArray⟩
def addNs (t:ThD) (rec:TSt→Nat→List ByteArray→TSt×Bool) (ps:List ByteArray):List ByteArray→TSt→TSt×Bool
 | [],st=>(st,true)
 | n :: ns,st=>match getKv t.ins n with
  | none=>(st,false)
  | some j=>if (rec st j (ps++[n])).2=true then addNs t rec ps ns (rec st j (ps++[n])).1 else ((rec st j (ps++[n])).1,false)
def putT1 (st:TSt) (i:Nat) (t:ThD) (path:ByteArray):TSt:=⟨st.out++[lineT path t (peerT st i)],if (peerT st i).size=0 then putKv st.first i path else st.first,st.bytes+path.size⟩
def addT (ths:List ThD):Nat→TSt→Nat→List ByteArray→TSt×Bool
 | 0,st,_,_=>(st,false)
 | f+1,st,i,ps=>if 4194304<st.bytes+(pathT ps).size then (⟨st.out,st.first,st.bytes+(pathT ps).size⟩,false)
  else addNs (thD ths i) (addT ths f) ps (namesT (thD ths i)) (putT1 st i (thD ths i) (pathT ps))
theorem addNs_bytes {t:ThD} {rec:TSt→Nat→List ByteArray→TSt×Bool} (hr:∀ st j p,st.bytes≤4194304→(rec st j p).2=true→st.bytes≤(rec st j p).1.bytes∧(rec st j p).1.bytes≤4194304) (ps:List ByteArray):∀ (ns:List ByteArray) (st:TSt),st.bytes≤4194304→(addNs t rec ps ns st).2=true→st.bytes≤(addNs t rec ps ns st).1.bytes∧(addNs t rec ps ns st).1.bytes≤4194304
 | [],st,hb,_=>⟨Nat.le_refl _,hb⟩
 | n :: ns,st,hb,h=>by
  unfold addNs at h ⊢
  cases hk:getKv t.ins n with
  | none=>rw [hk] at h; cases h
  | some j =>
   rw [hk] at h
   simp only at h ⊢
   by_cases h1:(rec st j (ps++[n])).2=true
   ·rw [if_pos h1] at h ⊢
    obtain ⟨a1,a2⟩:=hr _ _ _ hb h1
    obtain ⟨b1,b2⟩:=addNs_bytes hr ps ns _ a2 h
    exact ⟨Nat.le_trans a1 b1,b2⟩
   ·rw [if_neg h1] at h; cases h
theorem addT_bytes {ths:List ThD}:∀ (f:Nat) (st:TSt) (j:Nat) (p:List ByteArray),st.bytes≤4194304→(addT ths f st j p).2=true→st.bytes≤(addT ths f st j p).1.bytes∧(addT ths f st j p).1.bytes≤4194304
 | 0,st,j,p,_,h=>by cases h
 | f+1,st,j,p,hb,h=>by
  unfold addT at h ⊢
  by_cases h1:4194304<st.bytes+(pathT p).size
  ·rw [if_pos h1] at h; cases h
  ·rw [if_neg h1] at h ⊢
   have:=addNs_bytes (t:=thD ths j) (rec:=addT ths f) (addT_bytes f) p _ (putT1 st j (thD ths j) (pathT p)) (by show st.bytes+(pathT p).size≤_; omega) h
   exact ⟨Nat.le_trans (Nat.le_add_right _ _) this.1,this.2⟩
def KeepS (w w':World):Prop:=∀ (k:Nat) (cs:Array Value) (fr:Nat×Nat),w.heap[k]?=some (Obj.cells cs 9 fr)→w'.heap[k]?=some (Obj.cells cs 9 fr)
theorem KeepS.refl (w:World):KeepS w w:=fun _ _ _ h=>h
theorem KeepS.trans {a b c:World} (h:KeepS a b) (k:KeepS b c):KeepS a c:=fun n cs fr e=>k n cs fr (h n cs fr e)
theorem KeepS.of_below {w w':World} (h:Below w.heap.size w w'):KeepS w w':=fun k cs fr e=>(h.block k (Array.getElem?_eq_some_iff.1 e).1).trans e
theorem KeepS.of_grown {w w':World} {row:Option Nat} (h:w.grownBy w' row) (hr:∀ k,row=some k→∀ cs fr,w.heap[k]?≠some (Obj.cells cs 9 fr)):KeepS w w':=fun k cs fr e=>(h.block k (Array.getElem?_eq_some_iff.1 e).1 (fun h0=>hr k h0.symm cs fr e)).trans e
theorem not_str_of_map {P:Program} {κ β:Type} [DecidableEq κ] {K:KeyP P κ} {cv:β→Value} {w:World} {k:Nat} {kv:List (κ×β)} (h:IsMapP K cv w k kv):∀ cs fr,w.heap[k]?≠some (Obj.cells cs 9 fr):=by
 obtain ⟨es,c,hb,_⟩:=h
 intro cs fr e; rw [hb] at e; cases e
theorem not_str_of_blk {w:World} {k:Nat} {t:TypeId} {cs:Array Value} (h:Blk w k t cs) (ht:t≠9):∀ cs fr,w.heap[k]?≠some (Obj.cells cs 9 fr):=by
 intro c fr e
 have h:w.heap[k]?=_:=h
 rw [h] at e; injection e with e; injection e with _ e; exact ht e
theorem not_str_of_own {α:Type} {s:Shape α} {t:TypeId} {w:World} {base:Nat} {M:Nat→Prop} {v:Value} {l:List α} (h:Own s t w base M v l) (ht:t≠9):∀ k,v.ownBlock=some k→∀ cs fr,w.heap[k]?≠some (Obj.cells cs 9 fr):=by
 intro k hk c fr e
 obtain ⟨cs,fz,hh⟩:=ownsType h hk
 rw [hh] at e; injection e with e; injection e with _ e; exact ht e
theorem Own.keepS {w w':World} {base:Nat} {v:Value} {l:List ByteArray} (h:Own Shape.str 9 w base (fun _=>False) v l) (hk:KeepS w w') (hs:w.heap.size≤w'.heap.size):Own Shape.str 9 w' base (fun _=>False) v l:=by
 obtain ⟨xs,h1,h2,h3⟩:=h
 refine ⟨xs,⟨h1.1,h1.2.imp id ?_⟩,h2.keep (fun _ h=>h.elim),fun _ h=>h.elim⟩
 rintro ⟨g,cap,cur,hv,hb,hh,r⟩
 exact ⟨g,cap,cur,hv,hb,hk _ _ _ hh,r⟩
theorem und_firstT:Tryz.prog.underlying 150=some (.map kP.ty 216):=Tryz.underlying150
def firstA (hs:List Hn) (l:List (Nat×ByteArray)):List (Nat×ByteArray):=l.map fun p=>(adr hs p.1,p.2)
structure LtAt (bl bf B:Nat) (hs:List Hn) (st:TSt) (w:World):Prop where
 own:∃ (v:Value) (M:Nat→Prop),Blk w bl 152 #[v,.map (some bf),.int .i64 st.bytes]∧Own Shape.LineD 60 w B M v st.out∧∀ n,M n→B≤n
 first:IsMapP kP cW w bf (firstA hs st.first)
 len:st.out.length≤st.bytes
 paths:∀ p∈st.first,p.2.size≤4194304∧p.1<hs.length
 ltl:bl<B
 ltf:bf<B
end Go.Proofs.YtfhfcipelgogjaaGreatDoor
namespace Go.Proofs.YtfhfcipelgogjaaGreatDoor
open Go.RowKit
variable {gs:List NodeD}
structure Corr (gs:List NodeD) (ths:List ThD) (f:Int→Nat):Prop where
 inj:∀ a b,Known gs a→Known gs b→f a=f b→a=b
 same:∀ id,Known gs id→(thD ths (f id)).kind=(G gs id).kind∧(thD ths (f id)).mode=(G gs id).mode∧(thD ths (f id)).uid=(G gs id).uid∧(thD ths (f id)).gid=(G gs id).gid∧(thD ths (f id)).mtime=(G gs id).mtime∧(thD ths (f id)).data=(G gs id).data∧(thD ths (f id)).target=(G gs id).target
 names:∀ id,Known gs id→namesT (thD ths (f id))=(G gs id).ents.map (·.name)
 kids:∀ id,Known gs id→∀ e∈(G gs id).ents,Known gs e.id∧getKv (thD ths (f id)).ins e.name=some (f e.id)
def mapF (f:Int→Nat) (st:LSt):TSt:=⟨st.out,st.first.map fun p=>(f p.1,p.2),st.bytes⟩
def AllKn (gs:List NodeD) (st:LSt):Prop:=∀ p∈st.first,Known gs p.1
theorem hasF {ths:List ThD} {f:Int→Nat} (hC:Corr gs ths f) {id:Int} (hid:Known gs id):∀ (l:List (Int×ByteArray)),(∀ p∈l,Known gs p.1)→getKv (l.map fun p=>(f p.1,p.2)) (f id)=getKv l id∧hasKv (l.map fun p=>(f p.1,p.2)) (f id)=hasKv l id
 | [],_=>⟨rfl,rfl⟩
 | p :: l,h=>by
  obtain ⟨a,b⟩:=hasF hC hid l fun q hq=>h q (List.mem_cons_of_mem _ hq)
  have hp:=h p (List.mem_cons_self ..)
  have hd:decide (f p.1=f id)=decide (p.1=id):=by
   by_cases he:p.1=id
   ·rw [he]; simp
   ·rw [decide_eq_false he,decide_eq_false fun hh=>he (hC.inj _ _ hp hid hh)]
  unfold getKv hasKv at *
  rw [List.map_cons,List.find?_cons,List.find?_cons,List.any_cons,List.any_cons]
  simp only [hd]
  refine ⟨?_,by rw [b]⟩
  cases decide (p.1=id) with
  | true=>rfl
  | false=>exact a
theorem putF {ths:List ThD} {f:Int→Nat} (hC:Corr gs ths f) {id:Int} (hid:Known gs id) (path:ByteArray) (l:List (Int×ByteArray)) (h:∀ p∈l,Known gs p.1):putKv (l.map fun p=>(f p.1,p.2)) (f id) path=(putKv l id path).map fun p=>(f p.1,p.2):=by
 unfold putKv
 rw [(hasF hC hid l h).2]
 split
 ·rw [List.map_map,List.map_map]
  apply List.map_congr_left
  intro p hp
  simp only [Function.comp]
  by_cases he:p.1=id
  ·rw [if_pos he,if_pos (by rw [he])]
  ·rw [if_neg he,if_neg (fun hh=>he (hC.inj _ _ (h p hp) hid hh))]
 ·simp
theorem put_kn {id:Int} (hid:Known gs id) (path:ByteArray) (l:List (Int×ByteArray)) (h:∀ p∈l,Known gs p.1):∀ p∈putKv l id path,Known gs p.1:=by
 intro p hp
 unfold putKv at hp
 split at hp
 ·obtain ⟨q,hq,rfl⟩:=List.mem_map.1 hp
  split
  ·exact hid
  ·exact h q hq
 ·rcases List.mem_append.1 hp with hp | hp
  ·exact h p hp
  ·simp at hp; subst hp; exact hid
theorem tst_eq {a a':List LineD} {b b':List (Nat×ByteArray)} {c c':Nat} (h1:a=a') (h2:b=b') (h3:c=c'):TSt.mk a b c=TSt.mk a' b' c':=by rw [h1,h2,h3]
theorem path_snoc (ps:List ByteArray) (n:ByteArray) (top:Bool) (ht:top=true↔ps=[]):pathT (ps++[n])=subPath top (pathT ps) n:=by
 unfold pathT subPath
 rw [if_neg (by simp)]
 cases top with
 | true =>
  have:=ht.1 rfl
  subst this
  rw [if_pos rfl]
  exact ba_ext (by show ((joinP [n.data.toList]).toArray).toList=_; unfold joinP; rw [Lib.join_one])
 | false =>
  have h0:ps≠[]:=fun h=>by have:=ht.2 h; cases this
  rw [if_neg (by decide),if_neg h0]
  refine ba_ext ?_
  rw [ByteArray.data_append,ByteArray.data_append]
  show ((joinP ((ps++[n]).map (·.data.toList))).toArray).toList=_
  rw [List.map_append]
  show (joinP (ps.map (·.data.toList)++[n.data.toList]))=_
  rw [join_snoc (by simpa using h0)]
  simp
theorem add_corr {ths:List ThD} {f:Int→Nat} (hC:Corr gs ths f):∀ (fuel:Nat) (st:LSt) (id:Int) (ps:List ByteArray),Known gs id→AllKn gs st→(st.out.isEmpty=true↔ps=[]) →
  addT ths fuel (mapF f st) (f id) ps=(mapF f (addF gs fuel st (J gs id) (pathT ps)).1,(addF gs fuel st (J gs id) (pathT ps)).2)∧AllKn gs (addF gs fuel st (J gs id) (pathT ps)).1∧(st.out≠[]→(addF gs fuel st (J gs id) (pathT ps)).1.out≠[])
 | 0,st,id,ps,_,hi,_=>⟨rfl,hi,fun h=>h⟩
 | fuel+1,st,id,ps,hid,hi,htop=>by
  have hgj:gs.getD (J gs id) default=G gs id:=rfl
  unfold addF addT
  rw [hgj]
  have hb:(mapF f st).bytes=st.bytes:=rfl
  rw [hb]
  by_cases hc:4194304<st.bytes+(pathT ps).size
  ·rw [if_pos hc,if_pos hc]
   exact ⟨rfl,hi,fun h=>h⟩
  ·rw [if_neg hc,if_neg hc]
   obtain ⟨n,hn⟩:∃ n,n=G gs id:=⟨_,rfl⟩
   obtain ⟨t,ht⟩:∃ t,t=thD ths (f id):=⟨_,rfl⟩
   obtain ⟨s1,s2,s3,s4,s5,s6,s7⟩:=hC.same id hid
   have hnm:=hC.names id hid
   have hkd:=hC.kids id hid
   rw [← hn] at s1 s2 s3 s4 s5 s6 s7 hnm hkd ⊢
   rw [← ht] at s1 s2 s3 s4 s5 s6 s7 hnm hkd ⊢
   have hnid:n.id=id:=by rw [hn]; exact G_id hid
   have hpeer:peerT (mapF f st) (f id)=peerOf st n:=by
    unfold peerT peerOf
    have:=(hasF hC hid st.first hi).1
    rw [hnid]
    exact congrArg (fun o:Option ByteArray=>o.getD ⟨#[]⟩) this
   have hput:putT1 (mapF f st) (f id) t (pathT ps)=mapF f (put1 st n (pathT ps)):=by
    unfold putT1 put1
    rw [hpeer]
    unfold mapF
    refine tst_eq ?_ ?_ rfl
    ·unfold lineT lineAt; rw [s1,s2,s3,s4,s5,s6,s7]
    ·simp only
     split
     ·rw [hnid]; exact putF hC hid (pathT ps) st.first hi
     ·rfl
   have hin:AllKn gs (put1 st n (pathT ps)):=by
    unfold put1 AllKn
    simp only
    split
    ·rw [hnid]; exact put_kn hid (pathT ps) st.first hi
    ·exact hi
   have hne:(put1 st n (pathT ps)).out≠[]:=by unfold put1; simp
   rw [hput,hnm]
   clear hput hpeer hc hb hgj s1 s2 s3 s4 s5 s6 s7 hnm
   revert hin hne
   generalize put1 st n (pathT ps)=s1
   generalize n.ents=es at hkd
   clear hn
   induction es generalizing s1 with
   | nil=>exact fun hin hne=>⟨rfl,hin,fun _=>hne⟩
   | cons e es ih =>
    intro hin hne
    obtain ⟨hek,hge⟩:=hkd e (List.mem_cons_self ..)
    obtain ⟨j,hj⟩:=hek
    rw [List.map_cons]
    unfold addEs addNs
    rw [hj,hge]
    simp only
    have hps:s1.out.isEmpty=true↔ps++[e.name]=[]:=by simp [hne]
    obtain ⟨r1,r2,r3⟩:=add_corr hC fuel s1 e.id (ps++[e.name]) ⟨j,hj⟩ hin hps
    rw [J_get hj,path_snoc ps e.name st.out.isEmpty htop] at r1 r2 r3
    rw [r1]
    simp only
    by_cases hc2:(addF gs fuel s1 j (subPath st.out.isEmpty (pathT ps) e.name)).2=true
    ·rw [if_pos hc2,if_pos hc2]
     exact ih _ (fun x hx=>hkd x (List.mem_cons_of_mem _ hx)) r2 (r3 hne)
    ·rw [if_neg hc2,if_neg hc2]
     exact ⟨rfl,r2,fun _=>r3 hne⟩
end Go.Proofs.YtfhfcipelgogjaaGreatDoor
namespace Go.Proofs.YtfhfcipelgogjaaGreatDoor
open Go.RowKit Go.Maps Go.Sort Go.Shelf
abbrev sortLs (l:List (List UInt8)):List (List UInt8):=l.mergeSort fun x y=>decide (x≤y)
def anyR:Value→Option (DataW Unit×List MemPlace):=fun _=>some (.lit (.bool true),[])
theorem keysOwn {w:World} {m:Nat} {kv:List (ByteArray×Nat)} (h:IsMap kN cPt w m kv) (hsz:∀ p∈kv,p.1.size≤maxLen) (hlen:kv.length≤maxLen) :
  ∃ D:DataW Unit,w.ownsMap Tryz.prog 9 anyR m kv.length D∧Maps.size D=kv.length∧(strKeys D).Perm (kv.map (·.1.data.toList)):=by
 obtain ⟨es,clock,hb,hes,hnd,hst⟩:=h
 have hl:es.toList.length=kv.length:=by have:=congrArg List.length hes; simpa using this
 have hrd:∀ x∈es.toList,∃ p∈kv,x.key=.string p.1∧WideElems.rd Tryz.prog 9 anyR x=some (.string p.1.data.toList,.lit (.bool true)):=by
  intro x hx
  have h1:(x.key,x.val)∈kv.map (fun p=>(kN.kf p.1,cPt p.2)):=by rw [← hes]; exact List.mem_map_of_mem hx
  obtain ⟨p,hp,he⟩:=List.mem_map.1 h1
  injection he with he1 he2
  refine ⟨p,hp,he1.symm,?_⟩
  have hk:keyOf Tryz.prog 9 x.key=some (.string p.1.data.toList):=by rw [← he1]; exact WideMaps.keyOf_string_mk Tryz.underlying9 (hsz p hp)
  have:=WideElems.rd_mk (P:=Tryz.prog) (k:=9) (R:=anyR) (key:=x.key) (val:=x.val) (born:=x.born) hk rfl
  exact this
 have hkn:(es.toList.map (·.key)).Nodup:=by
  have e:es.toList.map (·.key)=kv.map (fun p=>kN.kf p.1):=by
   have:=congrArg (List.map (fun x:Value×Value=>x.1)) hes
   rw [List.map_map,List.map_map] at this
   exact this
  rw [e]
  have:kv.map (fun p=>kN.kf p.1)=(kv.map (·.1)).map kN.kf:=by rw [List.map_map]; rfl
  rw [this,List.nodup_iff_pairwise_ne,List.pairwise_map]
  exact (List.nodup_iff_pairwise_ne.1 hnd).imp fun hne e=>hne (by have e:Value.string _=Value.string _:=e; injection e)
 refine ⟨_,⟨es,clock,hb,⟨by rw [← Array.length_toList,hl]; exact hlen,⟨hst.1,hst.2,hkn⟩,fun x hx=>?_⟩,by rw [← Array.length_toList,hl]; exact Nat.le_refl _,rfl⟩,?_,?_⟩
 ·obtain ⟨p,_,_,h2⟩:=hrd x hx
  exact ⟨_,h2⟩
 ·rw [Maps.size_eq,length_sorted,List.length_map,hl]
 ·refine ((WideShapes.sorted_perm _).map _).trans ?_
  rw [List.map_map]
  have h1:es.toList.map (fun x=>x.key)=kv.map (fun p=>kN.kf p.1):=by
   have:=congrArg (List.map Prod.fst) hes
   rw [List.map_map,List.map_map] at this
   exact this
  have h2:es.toList.map ((fun p=>strOf p.1) ∘ WideElems.rg Tryz.prog 9 anyR)=es.toList.map (fun x=>match x.key with | .string s=>s.data.toList | _=>[]):=by
   refine List.map_congr_left fun x hx=>?_
   obtain ⟨p,_,h1,h2⟩:=hrd x hx
   simp only [Function.comp,WideElems.rg_of h2,h1]
   rfl
  rw [h2]
  have h3:es.toList.map (fun x=>match x.key with | .string s=>s.data.toList | _=>[])=(es.toList.map (fun x=>x.key)).map (fun k=>match k with | .string s=>s.data.toList | _=>[]):=by rw [List.map_map]; rfl
  rw [h3,h1,List.map_map]
  exact List.Perm.refl _
theorem Tryz.sorts (m:Nat):AnyZ.SortsIn Tryz.prog Tryz.sortedTh_ren Fence.wide m:=
 ⟨fun blk off cap ss W hH hblk hsz=>callsIn_wide.2 (AnyM.slices_Sort_string Tryz.sortTh blk off cap ss W hH hblk hsz),
  fun p cap W=>callsIn_wide.2 (AnyM.slices_Sort_string_none Tryz.sortTh p cap W)⟩
theorem mapsKeys (mb:Option Nat) (W:World):Calls Tryz.prog 114 #[.map mb] W fun e w'=>e=.returned (.func (.func 174) #[] #[.pointer (some ⟨W.heap.size,0,none⟩)])∧w'=W.alloc (.cells #[.map mb] 201):=
 callsIn_wide.1 (AnyZ.keys_in Tryz.keysTh Fence.wide 5 trivial rfl mb W)
theorem own_sorted {w:World} {base:Nat} {v:Value} {l:List (List UInt8)} (hsz:∀ x∈l,x.length≤maxLen) (h:w.ownsRow base 9 1 v l.length (l.map encStr)):Own Shape.str 9 w base (fun _=>False) v (l.map fun x=>(⟨x.toArray⟩:ByteArray)):=by
 refine ⟨l.map encStr,by rw [List.length_map]; exact h,?_,fun _ h=>h.elim⟩
 clear h
 induction l with
 | nil=>rfl
 | cons x l ih=>exact ⟨[encStr x],l.map encStr,rfl,⟨rfl,hsz x (by simp)⟩,ih fun y hy=>hsz y (by simp [hy])⟩
theorem sortedKeys {m:Nat} {kv:List (ByteArray×Nat)} (w:World) (h:IsMap kN cPt w m kv) (hsz:∀ p∈kv,p.1.size≤maxLen) (hlen:kv.length≤1000000000) :
  Calls Tryz.prog 113 #[.func (.func 174) #[] #[.pointer (some ⟨w.heap.size,0,none⟩)]] (w.alloc (.cells #[.map (some m)] 201)) fun e w' =>
   ∃ v,e=.returned v∧Own Shape.str 9 w' (w.heap.size+1) (fun _=>False) v ((sortLs (kv.map (·.1.data.toList))).map fun x=>(⟨x.toArray⟩:ByteArray))∧Below w.heap.size w w':=by
 obtain ⟨D0,hown,hs,hp⟩:=keysOwn h hsz (by simp only [maxLen]; omega)
 have hbl:=hown.lt
 have hseq:SeqGives Fence.wide 2 Tryz.prog 174 #[.pointer (some ⟨w.heap.size,0,none⟩)] encStr (fun ss=>ss.Perm (strKeys D0)) (Maps.size D0) (w.alloc (.cells #[.map (some m)] 201)):=
  AnyZ.keys_gives (ρ:=Tryz.keysTh_ren) { Tryz.keysTh with } Fence.wide _ trivial rfl (by omega) w.heap.size m _ D0 _ (by simp) (by simp) (by
   obtain ⟨es,clock,hb,Ft,hs,hD⟩:=hown
   exact ⟨es,clock,(Below.heap_alloc _ _ m hbl).trans hb,Ft,hs,hD⟩)
 refine (callsIn_wide.1 (AnyZ.sorted_in Tryz.sortedTh Fence.wide 5 trivial trivial trivial trivial rfl (by omega) (Tryz.sorts _) (enters_of Tryz.func173 (by kernel_rfl) rfl) 174 #[.pointer (some ⟨w.heap.size,0,none⟩)] trivial (enters_of Tryz.func174 (by kernel_rfl) rfl) _ _ (by rw [hs]; simp only [maxLen]; omega) (by rw [hs]; omega) _ hseq)).mono ?_
 rintro e w' ⟨v,ss,rfl,hS,hrow,_,hb⟩
 have hperm:ss.Perm (kv.map (·.1.data.toList)):=hS.trans hp
 have hsort:(ss.mergeSort fun x y=>decide (x≤y))=sortLs (kv.map (·.1.data.toList)):=mergeSort_of_perm hperm
 have hlen:(sortLs (kv.map (·.1.data.toList))).length=ss.length:=by rw [← hsort,List.length_mergeSort]
 rw [hsort,← hlen] at hrow
 have hsz1:(w.alloc (.cells #[.map (some m)] 201)).heap.size=w.heap.size+1:=by simp
 rw [hsz1] at hrow hb
 refine ⟨v,rfl,own_sorted (fun x hx=>?_) hrow,(below_alloc' w _).trans (hb.mono (by omega))⟩
 have:x∈kv.map (·.1.data.toList):=(List.mergeSort_perm _ _).mem_iff.1 hx
 obtain ⟨p,hp,rfl⟩:=List.mem_map.1 this
 rw [Array.length_toList]
 exact hsz p hp
theorem sortedKeysNil (w:World) :
  Calls Tryz.prog 113 #[.func (.func 174) #[] #[.pointer (some ⟨w.heap.size,0,none⟩)]] (w.alloc (.cells #[.map none] 201)) fun e w' =>
   ∃ v,e=.returned v∧Own Shape.str 9 w' (w.heap.size+1) (fun _=>False) v ([]:List ByteArray)∧Below w.heap.size w w':=by
 have hseq:SeqGives Fence.wide 2 Tryz.prog 174 #[.pointer (some ⟨w.heap.size,0,none⟩)] encStr (fun ss:List (List UInt8)=>ss=[]) 0 (w.alloc (.cells #[.map none] 201)):=
  AnyZ.keys_gives_nil (ρ:=Tryz.keysTh_ren) { Tryz.keysTh with } Fence.wide _ trivial rfl w.heap.size _ (by simp) (by simp)
 refine (callsIn_wide.1 (AnyZ.sorted_in Tryz.sortedTh Fence.wide 5 trivial trivial trivial trivial rfl (by omega) (Tryz.sorts _) (enters_of Tryz.func173 (by kernel_rfl) rfl) 174 #[.pointer (some ⟨w.heap.size,0,none⟩)] trivial (enters_of Tryz.func174 (by kernel_rfl) rfl) _ 0 (Nat.zero_le _) (by omega) _ hseq)).mono ?_
 rintro e w' ⟨v,ss,rfl,hS,hrow,hnil,hb⟩
 have hv:=hnil.2 hS
 subst hv
 have hsz1:(w.alloc (.cells #[.map none] 201)).heap.size=w.heap.size+1:=by simp
 rw [hsz1] at hb
 exact ⟨_,rfl,Own.start _ _ _ _,(below_alloc' w _).trans (hb.mono (by omega))⟩
theorem sortedKeysO {mb:Option Nat} {kv:List (ByteArray×Nat)} (w:World) (h:∀ m,mb=some m→IsMap kN cPt w m kv) (h0:mb=none→kv=[]) (hsz:∀ p∈kv,p.1.size≤maxLen) (hlen:kv.length≤1000000000) :
  Calls Tryz.prog 113 #[.func (.func 174) #[] #[.pointer (some ⟨w.heap.size,0,none⟩)]] (w.alloc (.cells #[.map mb] 201)) fun e w' =>
   ∃ v,e=.returned v∧Own Shape.str 9 w' (w.heap.size+1) (fun _=>False) v ((sortLs (kv.map (·.1.data.toList))).map fun x=>(⟨x.toArray⟩:ByteArray))∧Below w.heap.size w w':=by
 cases mb with
 | some m=>exact sortedKeys w (h m rfl) hsz hlen
 | none =>
  have:=h0 rfl
  subst this
  exact (sortedKeysNil w).mono fun e w' h=>by simpa [sortLs] using h
end Go.Proofs.YtfhfcipelgogjaaGreatDoor
namespace Go.Proofs.YtfhfcipelgogjaaGreatDoor
open Go.RowKit
def settleT (t:ThD) (j:JobD):ThD:={ t with mode:=j.mode,mtime:=j.mtime,uid:=if j.keepIds then j.uid else t.uid,gid:=if j.keepIds then j.gid else t.gid }
def finBy (g:Nat→Option JobD) (ths:List ThD):List ThD:=ths.mapIdx fun i t=>match g i with | some j=>settleT t j | none=>t
def finishF (ths:List ThD) (off:List (Nat×JobD)):List ThD:=finBy (getKv off) ths
theorem finBy_len (g:Nat→Option JobD) (ths:List ThD):(finBy g ths).length=ths.length:=by unfold finBy; simp
theorem finBy_at (g:Nat→Option JobD) (ths:List ThD) {i:Nat} (h:i<ths.length):thD (finBy g ths) i=match g i with | some j=>settleT (thD ths i) j | none=>thD ths i:=by
 unfold thD finBy
 simp only [List.getD_eq_getElem?_getD,List.getElem?_mapIdx,List.getElem?_eq_getElem h,Option.map_some,Option.getD_some]
theorem finBy_none (ths:List ThD):finBy (fun _=>none) ths=ths:=by
 unfold finBy
 apply List.ext_getElem?
 intro i
 rw [List.getElem?_mapIdx]
 cases ths[i]? <;> rfl
theorem finBy_congr {g h:Nat→Option JobD} {ths:List ThD} (e:∀ i,i<ths.length→g i=h i):finBy g ths=finBy h ths:=by
 apply List.ext_getElem?
 intro i
 unfold finBy
 rw [List.getElem?_mapIdx,List.getElem?_mapIdx]
 by_cases hi:i<ths.length
 ·rw [e i hi]
 ·rw [List.getElem?_eq_none (Nat.le_of_not_lt hi)]; rfl
theorem finBy_step (g:Nat→Option JobD) (ths:List ThD) {d:Nat} {j:JobD} (hd:d<ths.length) (hg:g d=none):(finBy g ths).set d (settleT (thD (finBy g ths) d) j)=finBy (fun i=>if i=d then some j else g i) ths:=by
 apply List.ext_getElem?
 intro i
 rw [List.getElem?_set]
 have e1:thD (finBy g ths) d=thD ths d:=by rw [finBy_at g ths hd,hg]
 by_cases hi:d=i
 ·subst hi
  rw [if_pos rfl,if_pos (by rw [finBy_len]; exact hd),e1]
  unfold finBy
  rw [List.getElem?_mapIdx,thD_at hd]
  simp
 ·rw [if_neg hi]
  unfold finBy
  rw [List.getElem?_mapIdx,List.getElem?_mapIdx]
  have e2:(if i=d then some j else g i)=g i:=if_neg (fun e=>hi e.symm)
  dsimp only
  rw [e2]
theorem kvMem {κ β:Type} [DecidableEq κ] {kv:List (κ×β)} {k:κ} {v:β} (h:getKv kv k=some v):(k,v)∈kv:=by
 unfold getKv at h
 rw [Option.map_eq_some_iff] at h
 obtain ⟨p,hp,hp2⟩:=h
 have h3:=List.find?_some hp
 have h4:=List.mem_of_find?_eq_some hp
 rw [decide_eq_true_eq] at h3
 rw [← h3,← hp2]; exact h4
theorem kvAt {κ β:Type} [DecidableEq κ]:∀ {kv:List (κ×β)} {k:Nat} {p:κ×β},(kv.map (·.1)).Nodup→kv[k]?=some p→getKv kv p.1=some p.2
 | [],k,p,_,h=>by simp at h
 | q :: kv,0,p,_,h=>by
  simp only [List.getElem?_cons_zero,Option.some.injEq] at h
  subst h
  simp [getKv]
 | q :: kv,k+1,p,hn,h=>by
  simp only [List.getElem?_cons_succ] at h
  rw [List.map_cons,List.nodup_cons] at hn
  have ih:=kvAt hn.2 h
  have hne:q.1≠p.1:=fun e=>hn.1 (by rw [e]; exact List.mem_map_of_mem (List.mem_of_getElem? h))
  unfold getKv at ih ⊢
  rw [List.find?_cons,decide_eq_false hne]
  exact ih
end Go.Proofs.YtfhfcipelgogjaaGreatDoor
namespace Go.Proofs.YtfhfcipelgogjaaGreatDoor
open Go.RowKit
attribute [local go_sem] cell?_over frozen?_over lt_over le_over
structure OkT (t:ThD):Prop where
 mode:I64 t.mode
 uid:I64 t.uid
 gid:I64 t.gid
 sec:I64 t.mtime.sec
 nano:I64 t.mtime.nano
 data:t.data.length≤1000000000
 target:t.target.size≤100000000
 ins:t.ins.length≤1000000000
 names:∀ p∈t.ins,0<p.1.size∧p.1.size≤50000000
def OkTs (ths:List ThD):Prop:=∀ t∈ths,OkT t
theorem OkTs.at_ {ths:List ThD} (h:OkTs ths) {i:Nat} (hi:i<ths.length):OkT (thD ths i):=h _ (List.mem_of_getElem? (thD_at hi))
structure TreeB (B0:Nat) (hs:List Hn) (ths:List ThD) (w:World):Prop where
 base:∃ B,TreeAt w B hs ths
 lt:∀ k,inTree hs ths k→k<B0
 dat:∀ (j:Nat) (t:ThD) (h:Hn),ths[j]?=some t→hs[j]?=some h→∃ A c,h.dv=.slice A t.data.length c∧t.data.length≤c∧Row Shape.byte w (fun n=>n<B0) A t.data.length t.data
theorem TreeB.below {B0:Nat} {hs:List Hn} {ths:List ThD} {w w':World} (h:TreeB B0 hs ths w) (hb:Below B0 w w'):TreeB B0 hs ths w':=
 ⟨h.base.imp fun B t=>t.keeps fun k hk=>hb.block k (h.lt k hk),h.lt,fun j t x e1 e2=>by
  obtain ⟨A,c,h1,h2,h3⟩:=h.dat j t x e1 e2
  exact ⟨A,c,h1,h2,h3.keep hb.block⟩⟩
def SV (w:World) (v:Value) (l:List ByteArray):Prop:=∃ base,Own Shape.str 9 w base (fun _=>False) v l
theorem SV.keep {w w':World} {v:Value} {l:List ByteArray} (h:SV w v l) (hk:KeepS w w') (hs:w.heap.size≤w'.heap.size):SV w' v l:=h.imp fun _ o=>o.keepS hk hs
def FAddEnd (bl bf B B0:Nat) (hs:List Hn) (R:TSt×Bool) (w:World) (e:Ending) (w':World):Prop:=
 Below B0 w w'∧KeepS w w'∧LtAt bl bf B hs R.1 w'∧e=.returned (.bool R.2)
theorem path_size (ps:List ByteArray) (hne:∀ p∈ps,0<p.size):0<(pathT ps).size∧totL (ps.map (·.data.toList))≤(pathT ps).size+1:=by
 unfold pathT
 by_cases h:ps=[]
 ·subst h; exact ⟨by decide,by decide⟩
 ·rw [if_neg h]
  show 0<(joinP (ps.map (·.data.toList))).toArray.size∧_≤(joinP (ps.map (·.data.toList))).toArray.size+1
  rw [List.size_toArray]
  cases ps with
  | nil=>exact absurd rfl h
  | cons x r =>
   have hx:0<x.data.toList.length:=by rw [Array.length_toList]; exact hne x (by simp)
   have e:∀ r:List (List UInt8),(Lib.joinTail [47] r).length=totL r:=by
    intro r
    induction r with
    | nil=>rfl
    | cons y r ih=>unfold Lib.joinTail at ih ⊢; rw [List.map_cons,List.flatten_cons,List.length_append,ih]; simp only [totL,List.length_append,List.length_cons,List.length_nil]; omega
   unfold joinP
   rw [List.map_cons,Lib.join_cons,List.length_append,e]
   simp only [totL]
   omega
theorem textsL_data (ps:List ByteArray):textsL (ps.map (·.data.toList))=ps:=by
 unfold textsL
 rw [List.map_map]
 conv=>rhs; rw [← List.map_id ps]
 exact List.map_congr_left fun p _=>by simp
theorem peerT_size {bl bf B:Nat} {hs:List Hn} {st:TSt} {w:World} (h:LtAt bl bf B hs st w) (i:Nat):(peerT st i).size≤4194304:=by
 unfold peerT
 cases hk:getKv st.first i with
 | none=>exact Nat.zero_le _
 | some q=>exact (h.paths _ (kvMem hk)).1
theorem firstA_get {hs:List Hn} {l:List (Nat×ByteArray)} (hl:∀ p∈l,p.1<hs.length) (inj:∀ i j,i<hs.length→j<hs.length→adr hs i=adr hs j→i=j) {d:Nat} (hd:d<hs.length):getKv (firstA hs l) (adr hs d)=getKv l d∧hasKv (firstA hs l) (adr hs d)=hasKv l d:=by
 induction l with
 | nil=>exact ⟨rfl,rfl⟩
 | cons p l ih =>
  obtain ⟨a,b⟩:=ih fun q hq=>hl q (List.mem_cons_of_mem _ hq)
  have hp:=hl p (List.mem_cons_self ..)
  have hdc:decide (adr hs p.1=adr hs d)=decide (p.1=d):=by
   by_cases he:p.1=d
   ·rw [he]; simp
   ·rw [decide_eq_false he,decide_eq_false fun hh=>he (inj _ _ hp hd hh)]
  unfold getKv hasKv firstA at *
  rw [List.map_cons,List.find?_cons,List.find?_cons,List.any_cons,List.any_cons]
  simp only [hdc]
  refine ⟨?_,by rw [b]⟩
  cases decide (p.1=d) with
  | true=>rfl
  | false=>exact a
theorem firstA_put {hs:List Hn} {l:List (Nat×ByteArray)} (hl:∀ p∈l,p.1<hs.length) (inj:∀ i j,i<hs.length→j<hs.length→adr hs i=adr hs j→i=j) {d:Nat} (hd:d<hs.length) (x:ByteArray):putKv (firstA hs l) (adr hs d) x=firstA hs (putKv l d x):=by
 unfold putKv
 rw [(firstA_get hl inj hd).2]
 unfold firstA
 split
 ·rw [List.map_map,List.map_map]
  refine List.map_congr_left fun p hp=>?_
  simp only [Function.comp]
  by_cases he:p.1=d
  ·rw [if_pos he,if_pos (by rw [he])]
  ·rw [if_neg he,if_neg (fun hh=>he (inj _ _ (hl p hp) hd hh))]
 ·simp
theorem TreeB.inj {B0:Nat} {hs:List Hn} {ths:List ThD} {w:World} (h:TreeB B0 hs ths w):∀ i j,i<hs.length→j<hs.length→adr hs i=adr hs j→i=j:=fun i j hi hj e=>by
 obtain ⟨B,t⟩:=h.base
 have e1:hs[i]?=some hs[i]:=List.getElem?_eq_getElem hi
 have e2:hs[j]?=some hs[j]:=List.getElem?_eq_getElem hj
 rw [adr_at e1,adr_at e2] at e
 exact t.ainj i j _ _ e1 e2 e
theorem TreeB.len {B0:Nat} {hs:List Hn} {ths:List ThD} {w:World} (h:TreeB B0 hs ths w):hs.length=ths.length:=by obtain ⟨B,t⟩:=h.base; exact t.len
theorem TreeB.var {B0:Nat} {hs:List Hn} {ths:List ThD} {w:World} (h:TreeB B0 hs ths w) {d:Nat} (hd:d<hs.length):IsVar (adr hs d) w:=by
 obtain ⟨B,t⟩:=h.base
 have e1:hs[d]?=some hs[d]:=List.getElem?_eq_getElem hd
 rw [adr_at e1]
 exact (t.blk d _ _ (thD_at (by rw [← h.len]; exact hd)) e1).isVar
theorem LtAt.below {bl bf B:Nat} {hs:List Hn} {st:TSt} {w w':World} (h:LtAt bl bf B hs st w) (hb:Below w.heap.size w w'):LtAt bl bf B hs st w':=by
 obtain ⟨v,M,b,o,hM⟩:=h.own
 exact ⟨⟨v,M,b.below hb b.lt,o.kept (grownBy_below' (r:=none) hb) (by cases hv:v.ownBlock <;> simp) (fun _ _=>by simp),hM⟩,h.first.of_block (hb.block bf h.first.lt),h.len,h.paths,h.ltl,h.ltf⟩
theorem path_le (ps:List ByteArray):(pathT ps).size≤totL (ps.map (·.data.toList))+1:=by
 unfold pathT
 by_cases h:ps=[]
 ·rw [if_pos h]; show 1≤_; omega
 ·rw [if_neg h]
  show (joinP (ps.map (·.data.toList))).toArray.size≤_
  rw [List.size_toArray]
  have:=join_tot (ps.map (·.data.toList))
  omega
theorem lt_of {bl bf B:Nat} {hs:List Hn} {st:TSt} {w w':World} {v':Value} {M':Nat→Prop} {out':List LineD} {first':List (Nat×ByteArray)} {nb:Nat} (h:LtAt bl bf B hs st w) (b:Blk w' bl 152 #[v',.map (some bf),.int .i64 nb]) (o:Own Shape.LineD 60 w' B M' v' out') (hM:∀ n,M' n→B≤n) (hf:IsMapP kP cW w' bf (firstA hs first')) (hlen:out'.length≤nb) (hp:∀ p∈first',p.2.size≤4194304∧p.1<hs.length):LtAt bl bf B hs ⟨out',first',nb⟩ w':=
 ⟨⟨v',M',b,o,hM⟩,hf,hlen,hp,h.ltl,h.ltf⟩
theorem Own.cng {α:Type} {s:Shape α} {e:TypeId} {w w':World} {base:Nat} {M N:Nat→Prop} {v:Value} {l:List α} (h:Own s e w base M v l) (hc:Cng N w w') (hN:∀ k,N k→some k≠v.ownBlock∧¬ M k):Own s e w' base M v l:=by
 obtain ⟨xs,h1,h2,h3⟩:=h
 refine ⟨xs,⟨h1.1,h1.2.imp id ?_⟩,h2.keep (fun n hn=>hc.block n (h3 n hn).1 (fun hk=>(hN n hk).2 hn)),fun n hn=>⟨Nat.lt_of_lt_of_le (h3 n hn).1 hc.size,(h3 n hn).2⟩⟩
 rintro ⟨g,cap,cur,hv,hb,hh,r⟩
 refine ⟨g,cap,cur,hv,hb,(hc.block g (Array.getElem?_eq_some_iff.1 hh).1 (fun hk=>?_)).trans hh,r⟩
 have:=(hN g hk).1
 rw [hv] at this
 exact this rfl
theorem lt_append {bl bf B B0 nv cv nb n5 c5:Nat} {hs:List Hn} {st:TSt} {w wc wd w5:World} {Av A5:Option Addr} {M M':Nat→Prop} {fs:List (Nat×ByteArray)} {ln:LineD} (HL:LtAt bl bf B hs st w) (hbl:B0≤bl) (hlf:bl≠bf) (HBC:Below B0 w wc) (hB0:B0≤w.heap.size) (hMC:IsMapP kP cW wc bf (firstA hs fs)) (hw:Below wc.heap.size wc wd) (KC:KeepS w wc)
  (OC:Own Shape.LineD 60 wc B M (.slice Av nv cv) st.out) (O5:Own Shape.LineD 60 w5 B M' (.slice A5 n5 c5) (st.out++[ln])) (hM':∀ n,M' n→B≤n) (G5:wd.grownBy w5 (Value.slice Av nv cv).ownBlock)
  (BL5:Blk w5 bl 152 #[.slice Av nv cv,.map (some bf),.int .i64 nb]) (hlen:st.out.length+1≤nb) (hp:∀ q∈fs,q.2.size≤4194304∧q.1<hs.length) :
  Below B0 w (w5.setCell ⟨bl,0,none⟩ (.slice A5 n5 c5))∧KeepS w (w5.setCell ⟨bl,0,none⟩ (.slice A5 n5 c5))∧LtAt bl bf B hs ⟨st.out++[ln],fs,nb⟩ (w5.setCell ⟨bl,0,none⟩ (.slice A5 n5 c5)):=by
 have hl:=HL.ltl; have hf:=HL.ltf
 have hws:=hw.size
 have K:∀ k,k<wc.heap.size→k<B→k≠bl→(w5.setCell ⟨bl,0,none⟩ (.slice A5 n5 c5)).heap[k]?=wc.heap[k]?:=fun k h1 h2 h3=>by
  refine (Below.heap_setCell w5 _ _ k h3).trans ((G5.block k (by omega) (fun e=>?_)).trans (hw.block k h1))
  have:=(OC.lt k e.symm).1
  omega
 have g6:=grown_setA w5 bl 0 (.slice A5 n5 c5)
 have k5:KeepS wd w5:=KeepS.of_grown G5 (fun k hk=>by
  have h1:=not_str_of_own OC (by decide) k hk
  intro cs fr e
  have hlt:=(OC.lt k hk).2
  rw [hw.block k hlt] at e
  exact h1 cs fr e)
 refine ⟨⟨g6.os.trans (G5.os.trans (hw.os.trans HBC.os)),g6.tape.trans (G5.tape.trans (hw.tape.trans HBC.tape)),g6.output.trans (G5.output.trans (hw.output.trans HBC.output)),?_,fun n hn=>?_⟩,((KC.trans (KeepS.of_below hw)).trans k5).trans (KeepS.of_grown g6 (fun k e=>by injection e with e; subst e; exact not_str_of_blk BL5 (by decide))),lt_of HL ?_ (O5.kept g6 ?_ ?_) hM' (hMC.of_block (K bf hMC.lt hf (Ne.symm hlf))) (by simpa using hlen) hp⟩
 ·have h1:=HBC.size; have h2:=G5.size; have h3:=g6.size; omega
 ·exact (K n (by have:=HBC.size; omega) (by omega) (by omega)).trans (HBC.block n hn)
 ·exact (BL5.set_ 0 (.slice A5 n5 c5)).to (by simp)
 ·cases hv:(Value.slice A5 n5 c5).ownBlock with
  | none=>exact .inl rfl
  | some k=>right; intro e; injection e with e; have:=(O5.lt k hv).1; omega
 ·intro n hn e; injection e with e; have:=hM' n hn; omega
def madeStrs (l:List ByteArray) (n:Nat):Made:=⟨Value,undef,fun v=>v,fun v W=>∃ base,n≤base∧base≤W.heap.size∧Own Shape.str 9 W base (fun _=>False) v l⟩
theorem strs_stays (l:List ByteArray) (n:Nat):∀ x W W',Gr W W'→(madeStrs l n).Fact x W→(madeStrs l n).Fact x W':=fun x W W' h ⟨b,h1,h2,h3⟩=>⟨b,h1,Nat.le_trans h2 h.size,h3.kept (grownBy_below' (r:=none) h) (by cases hv:Value.ownBlock x <;> simp) (fun _ h=>h.elim)⟩
theorem enc_strs (l:List ByteArray) (n:Nat) (v:Value):(madeStrs l n).enc v=v:=rfl
theorem insA_names (hs:List Hn) (l:List (ByteArray×Nat)):(insA hs l).map (·.1.data.toList)=l.map (·.1.data.toList):=by unfold insA; rw [List.map_map]; rfl
theorem isSomeHas {κ β:Type} [DecidableEq κ] {kv:List (κ×β)} {k:κ}:(getKv kv k).isSome=hasKv kv k:=by
 rw [Bool.eq_iff_iff,hasKv_iff,Option.isSome_iff_exists]
 constructor
 ·rintro ⟨v,hv⟩; exact get_has hv
 ·intro h
  obtain ⟨p,hp,he⟩:=List.mem_map.1 h
  unfold getKv
  cases hf:kv.find? fun q=>decide (q.1=k) with
  | none =>
   have:=List.find?_eq_none.1 hf p hp
   simp [he] at this
  | some q=>exact ⟨q.2,rfl⟩
theorem names_get {T:ThD} {nm:ByteArray} (h:nm∈namesT T):∃ j,getKv T.ins nm=some j:=by
 unfold namesT at h
 obtain ⟨l,hl,rfl⟩:=List.mem_map.1 h
 have h2:l∈T.ins.map (fun p=>p.1.data.toList):=(List.mergeSort_perm _ _).mem_iff.1 hl
 obtain ⟨p,hp,rfl⟩:=List.mem_map.1 h2
 have e:(⟨p.1.data.toList.toArray⟩:ByteArray)=p.1:=by simp
 rw [e]
 have h3:hasKv T.ins p.1=true:=(hasKv_iff _ _).2 (List.mem_map_of_mem hp)
 have:=isSomeHas (kv:=T.ins) (k:=p.1)
 rw [h3,Option.isSome_iff_exists] at this
 exact this
theorem LtAt.keys {bl bf B B0:Nat} {hs:List Hn} {ths:List ThD} {st:TSt} {w:World} (h:LtAt bl bf B hs st w) (hT:TreeB B0 hs ths w):∀ p∈firstA hs st.first,IsVar p.1 w:=by
 intro p hp
 obtain ⟨q,hq,rfl⟩:=List.mem_map.1 hp
 exact hT.var (h.paths q hq).2
end Go.Proofs.YtfhfcipelgogjaaGreatDoor
