/- Where parts lead in a tree of things, and its lines in the order of the visits. Plain. What the fold does to the things, as a row of small steps. Plain. With ReplaceNever each path leads where it led, and what is no directory says what it said. Plain. -/
import Derived.Test.YtfhfcipelgogjaaGreatDoorFListAll
import Derived.Test.YtfhfcipelgogjaaGreatDoorNoneAll
set_option linter.unusedSectionVars false
set_option linter.unusedVariables false
set_option linter.unusedSimpArgs false
namespace Go.Proofs.YtfhfcipelgogjaaGreatDoor
open Go.RowKit
def resT (ths:List ThD):Nat→List ByteArray→Option Nat
 | i,[]=>some i
 | i,p :: ps=>match getKv (thD ths i).ins p with
  | none=>none
  | some j=>resT ths j ps
def visF (ths:List ThD):Nat→Nat→List ByteArray→List (List ByteArray×Nat)
 | 0,_,_=>[]
 | f+1,i,ps=>(ps,i) :: (namesT (thD ths i)).flatMap fun n=>visF ths f ((getKv (thD ths i).ins n).getD 0) (ps++[n])
def stepV (ths:List ThD) (st:TSt) (v:List ByteArray×Nat):TSt:=putT1 st v.2 (thD ths v.2) (pathT v.1)
theorem addNs_vis {ths:List ThD} {f:Nat} (hr:∀ st i ps,(addT ths f st i ps).2=true→(addT ths f st i ps).1=(visF ths f i ps).foldl (stepV ths) st) (i:Nat) (ps:List ByteArray):∀ (ns:List ByteArray) (s:TSt),(addNs (thD ths i) (addT ths f) ps ns s).2=true →
  (addNs (thD ths i) (addT ths f) ps ns s).1=(ns.flatMap fun n=>visF ths f ((getKv (thD ths i).ins n).getD 0) (ps++[n])).foldl (stepV ths) s
 | [],s,_=>rfl
 | n :: ns,s,hs=>by
  unfold addNs at hs ⊢
  cases hk:getKv (thD ths i).ins n with
  | none=>rw [hk] at hs; cases hs
  | some j =>
   rw [hk] at hs
   simp only at hs ⊢
   by_cases h1:(addT ths f s j (ps++[n])).2=true
   ·rw [if_pos h1] at hs ⊢
    rw [List.flatMap_cons,List.foldl_append,hk,Option.getD_some,← hr s j _ h1]
    exact addNs_vis hr i ps ns _ hs
   ·rw [if_neg h1] at hs; cases hs
theorem add_vis (ths:List ThD):∀ (f:Nat) (st:TSt) (i:Nat) (ps:List ByteArray),(addT ths f st i ps).2=true→(addT ths f st i ps).1=(visF ths f i ps).foldl (stepV ths) st
 | 0,_,_,_,h=>by cases h
 | f+1,st,i,ps,h=>by
  unfold addT at h ⊢
  by_cases hc:4194304<st.bytes+(pathT ps).size
  ·rw [if_pos hc] at h; cases h
  ·rw [if_neg hc] at h ⊢
   unfold visF
   rw [List.foldl_cons]
   exact addNs_vis (add_vis ths f) i ps _ _ h
theorem addNs_sub {ths:List ThD} {f i:Nat} {ps:List ByteArray}:∀ (ns:List ByteArray) (s:TSt),(addNs (thD ths i) (addT ths f) ps ns s).2=true→∀ n∈ns,∃ j st',getKv (thD ths i).ins n=some j∧(addT ths f st' j (ps++[n])).2=true
 | [],s,_,n,hn=>by cases hn
 | m :: ns,s,hs,n,hn=>by
  unfold addNs at hs
  cases hk:getKv (thD ths i).ins m with
  | none=>rw [hk] at hs; cases hs
  | some j =>
   rw [hk] at hs
   simp only at hs
   by_cases h1:(addT ths f s j (ps++[m])).2=true
   ·rw [if_pos h1] at hs
    rcases List.mem_cons.1 hn with rfl | hn
    ·exact ⟨j,s,hk,h1⟩
    ·exact addNs_sub ns _ hs n hn
   ·rw [if_neg h1] at hs; cases hs
theorem add_sub {ths:List ThD} {f i:Nat} {ps:List ByteArray} {st:TSt} (h:(addT ths (f+1) st i ps).2=true) {n:ByteArray} (hn:n∈namesT (thD ths i)):∃ j st',getKv (thD ths i).ins n=some j∧(addT ths f st' j (ps++[n])).2=true:=by
 unfold addT at h
 by_cases hc:4194304<st.bytes+(pathT ps).size
 ·rw [if_pos hc] at h; cases h
 ·rw [if_neg hc] at h
  exact addNs_sub _ _ h n hn
theorem get_names {t:ThD} {n:ByteArray} {j:Nat} (h:getKv t.ins n=some j):n∈namesT t:=by
 unfold namesT sortL
 refine List.mem_map.2 ⟨n.data.toList,(List.mergeSort_perm _ _).mem_iff.2 (List.mem_map.2 ⟨(n,j),get_mem h,rfl⟩),by simp⟩
theorem vis_mem {ths:List ThD}:∀ (rest:List ByteArray) (f:Nat) (st:TSt) (i k:Nat) (ps:List ByteArray),(addT ths f st i ps).2=true→resT ths i rest=some k→(ps++rest,k)∈visF ths f i ps
 | _,0,_,_,_,_,h,_=>by cases h
 | [],f+1,st,i,k,ps,h,hr=>by
  unfold resT at hr
  injection hr with hr
  subst hr
  unfold visF
  rw [List.append_nil]
  exact List.mem_cons_self ..
 | p :: rest,f+1,st,i,k,ps,h,hr=>by
  unfold resT at hr
  cases hk:getKv (thD ths i).ins p with
  | none=>rw [hk] at hr; cases hr
  | some j =>
   rw [hk] at hr
   have hn:=get_names hk
   obtain ⟨j',st',h1,h2⟩:=add_sub h hn
   rw [hk] at h1
   injection h1 with h1
   subst h1
   have:=vis_mem rest f st' j k (ps++[p]) h2 hr
   unfold visF
   refine List.mem_cons_of_mem _ (List.mem_flatMap.2 ⟨p,hn,?_⟩)
   rw [hk,Option.getD_some]
   rw [List.append_assoc] at this
   exact this
theorem mem_vis {ths:List ThD}:∀ (f i:Nat) (ps q:List ByteArray) (k:Nat),(q,k)∈visF ths f i ps→∃ rest,q=ps++rest∧resT ths i rest=some k
 | 0,_,_,_,_,h=>by unfold visF at h; cases h
 | f+1,i,ps,q,k,h=>by
  unfold visF at h
  rcases List.mem_cons.1 h with h | h
  ·injection h with h1 h2
   subst h1 h2
   exact ⟨[],by simp,rfl⟩
  ·obtain ⟨n,hn,h⟩:=List.mem_flatMap.1 h
   obtain ⟨j,hj⟩:=names_get hn
   rw [hj,Option.getD_some] at h
   obtain ⟨rest,h1,h2⟩:=mem_vis f j (ps++[n]) q k h
   refine ⟨n :: rest,by rw [h1]; simp,?_⟩
   unfold resT
   rw [hj]
   exact h2
theorem resT_cons (ths:List ThD) (i:Nat) (p:ByteArray) (ps:List ByteArray):resT ths i (p :: ps)=(getKv (thD ths i).ins p).bind fun j=>resT ths j ps:=by
 show (match getKv (thD ths i).ins p with | none=>none | some j=>resT ths j ps)=_
 cases getKv (thD ths i).ins p <;> rfl
theorem resT_app {ths:List ThD}:∀ (a b:List ByteArray) (i:Nat),resT ths i (a++b)=(resT ths i a).bind fun j=>resT ths j b
 | [],b,i=>rfl
 | p :: a,b,i=>by
  rw [List.cons_append,resT_cons,resT_cons]
  cases getKv (thD ths i).ins p with
  | none=>rfl
  | some j=>exact resT_app a b j
def KeysNd (ths:List ThD):Prop:=∀ i,((thD ths i).ins.map (·.1)).Nodup
theorem names_nodup {t:ThD} (h:(t.ins.map (·.1)).Nodup):(namesT t).Nodup:=by
 unfold namesT sortL
 have h1:(t.ins.map fun p=>p.1.data.toList).Nodup:=by
  have e:(t.ins.map fun p=>p.1.data.toList)=(t.ins.map (·.1)).map fun b=>b.data.toList:=by rw [List.map_map]; rfl
  rw [e]
  unfold List.Nodup at h ⊢
  rw [List.pairwise_map]
  exact h.imp fun hab hh=>hab (ba_ext hh)
 have h2:=(List.mergeSort_perm (t.ins.map fun p=>p.1.data.toList) (fun x y=>decide (x≤y))).nodup_iff.2 h1
 unfold List.Nodup at h2 ⊢
 rw [List.pairwise_map]
 refine h2.imp fun hab hh=>hab ?_
 injection hh with hh
 simpa using congrArg Array.toList hh
theorem vis_nodup {ths:List ThD} (hn:KeysNd ths):∀ (f i:Nat) (ps:List ByteArray),((visF ths f i ps).map (·.1)).Nodup
 | 0,_,_=>by unfold visF; exact List.nodup_nil
 | f+1,i,ps=>by
  unfold visF
  rw [List.map_cons,List.nodup_cons]
  refine ⟨fun h=>?_,?_⟩
  ·obtain ⟨v,hv,he⟩:=List.mem_map.1 h
   obtain ⟨n,-,hv⟩:=List.mem_flatMap.1 hv
   obtain ⟨q,k⟩:=v
   obtain ⟨rest,h1,-⟩:=mem_vis f _ _ q k hv
   have he:q=ps:=he
   rw [he] at h1
   have:=congrArg List.length h1
   simp at this
  ·rw [List.map_flatMap]
   unfold List.Nodup
   rw [List.pairwise_flatMap]
   refine ⟨fun n _=>vis_nodup hn f _ _,?_⟩
   refine (names_nodup (hn i)).imp fun {a b} hab x hx y hy he=>?_
   obtain ⟨v,hv,rfl⟩:=List.mem_map.1 hx
   obtain ⟨u,hu,rfl⟩:=List.mem_map.1 hy
   obtain ⟨r1,e1,-⟩:=mem_vis f _ _ v.1 v.2 hv
   obtain ⟨r2,e2,-⟩:=mem_vis f _ _ u.1 u.2 hu
   have he:v.1=u.1:=he
   rw [e1,e2,List.append_assoc,List.append_assoc,List.append_cancel_left_eq] at he
   simp at he
   exact hab he.1
theorem tail_slash (l:List (List UInt8)):Lib.joinTail [47] l=[]∨∃ r,Lib.joinTail [47] l=47 :: r:=by
 cases l with
 | nil=>exact .inl rfl
 | cons a l=>exact .inr ⟨_,by unfold Lib.joinTail; simp; rfl⟩
theorem tail_inj:∀ (a b:List (List UInt8)),(∀ x∈a,(47:UInt8)∉x)→(∀ x∈b,(47:UInt8)∉x)→Lib.joinTail [47] a=Lib.joinTail [47] b→a=b
 | [],[],_,_,_=>rfl
 | [],y :: b,_,_,h=>by unfold Lib.joinTail at h; simp at h
 | x :: a,[],_,_,h=>by unfold Lib.joinTail at h; simp at h
 | x :: a,y :: b,ha,hb,h=>by
  have ex:∀ (x:List UInt8) (a:List (List UInt8)),Lib.joinTail [47] (x :: a)=47 :: (x++Lib.joinTail [47] a):=fun x a=>by unfold Lib.joinTail; simp
  rw [ex,ex] at h
  injection h with _ h
  have e:=cancel_slash x y _ _ (ha x (by simp)) (hb y (by simp)) (tail_slash a) (tail_slash b) h
  subst e
  rw [List.append_cancel_left_eq] at h
  rw [tail_inj a b (fun z hz=>ha z (List.mem_cons_of_mem _ hz)) (fun z hz=>hb z (List.mem_cons_of_mem _ hz)) h]
theorem joinP_inj {a b:List (List UInt8)} (ha:∀ x∈a,(47:UInt8)∉x) (hb:∀ x∈b,(47:UInt8)∉x) (ha0:a≠[]) (hb0:b≠[]) (h:joinP a=joinP b):a=b:=by
 cases a with
 | nil=>exact absurd rfl ha0
 | cons x a =>
  cases b with
  | nil=>exact absurd rfl hb0
  | cons y b =>
   unfold joinP at h
   rw [Lib.join_cons,Lib.join_cons] at h
   have e:=cancel_slash x y _ _ (ha x (by simp)) (hb y (by simp)) (tail_slash a) (tail_slash b) h
   subst e
   rw [List.append_cancel_left_eq] at h
   rw [tail_inj a b (fun z hz=>ha z (List.mem_cons_of_mem _ hz)) (fun z hz=>hb z (List.mem_cons_of_mem _ hz)) h]
theorem join_nonempty {x:List UInt8} (a:List (List UInt8)) (h:x≠[]):joinP (x :: a)≠[]:=by
 unfold joinP
 rw [Lib.join_cons]
 intro h0
 exact h (List.append_eq_nil_iff.1 h0).1
theorem path_list {ps:List ByteArray} (h:ps≠[]):(pathT ps).data.toList=joinP (ps.map (·.data.toList)):=by
 unfold pathT; rw [if_neg h]
theorem path_pos {ps:List ByteArray} (h:∀ p∈ps,GoodP p):(pathT ps).size≠0:=by
 cases ps with
 | nil=>show (ByteArray.mk #[46]).size≠0; decide
 | cons p ps =>
  rw [← size_list,path_list (by simp),List.map_cons]
  intro h0
  exact join_nonempty (ps.map (·.data.toList)) (h p (by simp)).1 (List.length_eq_zero_iff.1 h0)
theorem path_not_dot {p:ByteArray} {ps:List ByteArray} (h:∀ q∈p :: ps,GoodP q):pathT (p :: ps)≠⟨#[46]⟩:=by
 intro e
 have e:(pathT (p :: ps)).data.toList=(⟨#[46]⟩:ByteArray).data.toList:=by rw [e]
 rw [path_list (by simp),List.map_cons] at e
 unfold joinP at e
 rw [Lib.join_cons] at e
 have hp:=h p (by simp)
 have e2:=cancel_slash p.data.toList [46] _ [] (good_slash hp) (by decide) (tail_slash _) (.inl rfl) (by simpa using e)
 exact hp.2.1 e2
theorem path_inj {a b:List ByteArray} (ha:∀ p∈a,GoodP p) (hb:∀ p∈b,GoodP p) (h:pathT a=pathT b):a=b:=by
 cases a with
 | nil =>
  cases b with
  | nil=>rfl
  | cons q b=>exact absurd h.symm (path_not_dot hb)
 | cons p a =>
  cases b with
  | nil=>exact absurd h (path_not_dot ha)
  | cons q b =>
   have e:(pathT (p :: a)).data.toList=(pathT (q :: b)).data.toList:=by rw [h]
   rw [path_list (by simp),path_list (by simp)] at e
   have hs:∀ l:List ByteArray,(∀ p∈l,GoodP p)→∀ x∈l.map (·.data.toList),(47:UInt8)∉x:=fun l hl x hx=>by
    obtain ⟨y,hy,rfl⟩:=List.mem_map.1 hx
    exact good_slash (hl y hy)
   have e2:=joinP_inj (hs _ ha) (hs _ hb) (by simp) (by simp) e
   exact List.map_inj_right (fun x y hxy=>ba_ext hxy) |>.1 e2
def peerV (seen:List (List ByteArray×Nat)) (k:Nat):ByteArray:=((seen.find? fun u=>decide (u.2=k)).map fun u=>pathT u.1).getD ⟨#[]⟩
def linesV (ths:List ThD):List (List ByteArray×Nat)→List (List ByteArray×Nat)→List LineD
 | _,[]=>[]
 | seen,v :: L=>lineT (pathT v.1) (thD ths v.2) (peerV seen v.2) :: linesV ths (seen++[v]) L
theorem linesV_cons (ths:List ThD) (seen:List (List ByteArray×Nat)) (v:List ByteArray×Nat) (L:List (List ByteArray×Nat)):linesV ths seen (v :: L)=lineT (pathT v.1) (thD ths v.2) (peerV seen v.2) :: linesV ths (seen++[v]) L:=rfl
theorem linesV_len (ths:List ThD):∀ (L seen:List (List ByteArray×Nat)),(linesV ths seen L).length=L.length
 | [],_=>rfl
 | v :: L,seen=>by unfold linesV; rw [List.length_cons,List.length_cons,linesV_len ths L]
theorem linesV_get (ths:List ThD):∀ (L seen:List (List ByteArray×Nat)) (n:Nat),(linesV ths seen L)[n]?=L[n]?.map fun v=>lineT (pathT v.1) (thD ths v.2) (peerV (seen++L.take n) v.2)
 | [],_,_=>rfl
 | v :: L,seen,0=>by unfold linesV; simp
 | v :: L,seen,n+1=>by
  unfold linesV
  rw [List.getElem?_cons_succ,List.getElem?_cons_succ,linesV_get ths L,List.append_assoc]
  rfl
theorem getKv_putKvV {β:Type} (kv:List (Nat×β)) (k k':Nat) (v:β) (h:getKv kv k=none):getKv (putKv kv k v) k'=if k'=k then some v else getKv kv k':=by
 have hh:hasKv kv k=false:=by
  have:=isSomeHas (kv:=kv) (k:=k)
  rw [h] at this
  exact this.symm
 rw [putKv_fresh hh]
 unfold getKv
 rw [List.find?_append,List.find?_singleton]
 by_cases he:k'=k
 ·subst he
  have hn:(kv.find? fun p=>decide (p.1=k'))=none:=by
   unfold getKv at h
   exact Option.map_eq_none_iff.1 h
  rw [hn,if_pos rfl]
  simp
 ·rw [if_neg he]
  have:decide (k=k')=false:=decide_eq_false fun e=>he e.symm
  simp only [this]
  cases kv.find? fun p=>decide (p.1=k') <;> rfl
def FirstV (st:TSt) (seen:List (List ByteArray×Nat)):Prop:=∀ k,getKv st.first k=(seen.find? fun u=>decide (u.2=k)).map fun u=>pathT u.1
theorem fold_lines (ths:List ThD):∀ (L seen:List (List ByteArray×Nat)) (st:TSt),FirstV st seen→(∀ v∈seen++L,(pathT v.1).size≠0) →
  (L.foldl (stepV ths) st).out=st.out++linesV ths seen L∧(L.foldl (stepV ths) st).bytes=st.bytes+(L.map fun v=>(pathT v.1).size).sum
 | [],seen,st,_,_=>⟨by unfold linesV; simp,by simp⟩
 | v :: L,seen,st,hf,hs=>by
  have hp:peerT st v.2=peerV seen v.2:=by unfold peerT peerV; rw [hf]
  have hf2:FirstV (stepV ths st v) (seen++[v]):=by
   intro k
   unfold stepV putT1
   simp only
   rw [List.find?_append,List.find?_singleton]
   by_cases hz:(peerT st v.2).size=0
   ·rw [if_pos hz]
    have hnone:getKv st.first v.2=none:=by
     unfold peerT at hz
     rw [hf] at hz ⊢
     cases hx:seen.find? fun u=>decide (u.2=v.2) with
     | none=>rfl
     | some u =>
      rw [hx] at hz
      exact absurd hz (hs u (List.mem_append_left _ (List.mem_of_find?_eq_some hx)))
    rw [getKv_putKvV _ _ _ _ hnone]
    by_cases hk:k=v.2
    ·subst hk
     rw [hf] at hnone
     rw [Option.map_eq_none_iff.1 hnone]
     simp
    ·rw [if_neg hk,hf]
     have:decide (v.2=k)=false:=decide_eq_false fun e=>hk e.symm
     simp only [this]
     cases seen.find? fun u=>decide (u.2=k) <;> rfl
   ·rw [if_neg hz,hf]
    by_cases hk:k=v.2
    ·subst hk
     cases hx:seen.find? fun u=>decide (u.2=v.2) with
     | none =>
      exfalso
      apply hz
      unfold peerT
      rw [hf,hx]
      rfl
     | some u=>rfl
    ·have:decide (v.2=k)=false:=decide_eq_false fun e=>hk e.symm
     simp only [this]
     cases seen.find? fun u=>decide (u.2=k) <;> rfl
  obtain ⟨a,b⟩:=fold_lines ths L (seen++[v]) (stepV ths st v) hf2 (by rw [List.append_assoc]; exact hs)
  rw [List.foldl_cons,a,b,linesV_cons,← hp]
  constructor
  ·show st.out++[_]++_=_
   rw [List.append_assoc]; rfl
  ·show st.bytes+(pathT v.1).size+_=_
   rw [List.map_cons,List.sum_cons]; omega
def NamesG (ths:List ThD):Prop:=∀ i,∀ p∈(thD ths i).ins,GoodP p.1
theorem res_good {ths:List ThD} (h:NamesG ths):∀ (ps:List ByteArray) (i k:Nat),resT ths i ps=some k→∀ p∈ps,GoodP p
 | [],_,_,_,p,hp=>by cases hp
 | q :: ps,i,k,hr,p,hp=>by
  unfold resT at hr
  cases hk:getKv (thD ths i).ins q with
  | none=>rw [hk] at hr; cases hr
  | some j =>
   rw [hk] at hr
   rcases List.mem_cons.1 hp with rfl | hp
   ·exact h i _ (get_mem hk)
   ·exact res_good h ps j k hr p hp
theorem vis_good {ths:List ThD} (h:NamesG ths) {f i:Nat}:∀ v∈visF ths f i [],(∀ p∈v.1,GoodP p)∧resT ths i v.1=some v.2:=by
 intro v hv
 obtain ⟨rest,h1,h2⟩:=mem_vis f i [] v.1 v.2 hv
 rw [List.nil_append] at h1
 rw [h1]
 exact ⟨res_good h _ _ _ h2,h2⟩
theorem add_lines {ths:List ThD} (hG:NamesG ths) {f i:Nat} (h:(addT ths f ⟨[],[],0⟩ i []).2=true):(addT ths f ⟨[],[],0⟩ i []).1.out=linesV ths [] (visF ths f i []):=by
 rw [add_vis ths f _ _ _ h]
 exact (fold_lines ths _ [] ⟨[],[],0⟩ (fun k=>rfl) (fun v hv=>path_pos (vis_good hG v hv).1)).1
end Go.Proofs.YtfhfcipelgogjaaGreatDoor
namespace Go.Proofs.YtfhfcipelgogjaaGreatDoor
open Go.RowKit
structure SndT (t:ThD):Prop where
 kind:1≤t.kind∧t.kind≤3
 mode:0≤t.mode∧t.mode≤4095
 uid:0≤t.uid∧t.uid≤2147483647
 gid:0≤t.gid∧t.gid≤2147483647
 mtime:stampOk t.mtime.sec t.mtime.nano=true
 data:t.kind≠1→t.data=[]
 leaf:t.kind≠2→t.ins=[]
 text:textB t.kind t.target=true
structure Shp (ths:List ThD):Prop where
 snd:∀ i,i<ths.length→SndT (thD ths i)
 nd:KeysNd ths
 good:NamesG ths
 rng:∀ i,∀ p∈(thD ths i).ins,p.2<ths.length
theorem thD_out {ths:List ThD} {i:Nat} (h:¬ i<ths.length):thD ths i=default:=by
 unfold thD
 rw [List.getD_eq_getElem?_getD,List.getElem?_eq_none (by omega)]; rfl
theorem ins_out {ths:List ThD} {i:Nat} (h:¬ i<ths.length):(thD ths i).ins=[]:=by rw [thD_out h]; rfl
inductive Stp (now:TimeD) (nv:Bool):List ThD→List ThD→Prop
 | new {ths:List ThD} {d:Nat} {name:ByteArray} {t:ThD} (hd:d<ths.length) (hk:(thD ths d).kind=2) (hg:GoodP name) (hf:getKv (thD ths d).ins name=none) (hi:t.ins=[]) (hs:SndT t):Stp now nv ths (putT now (ths++[t]) d name ths.length)
 | hard {ths:List ThD} {d x:Nat} {name:ByteArray} (hd:d<ths.length) (hk:(thD ths d).kind=2) (hg:GoodP name) (hf:getKv (thD ths d).ins name=none) (hx:x<ths.length) (hxk:(thD ths x).kind≠2):Stp now nv ths (putT now ths d name x)
 | drop {ths:List ThD} {d:Nat} {name:ByteArray} (hn:nv=false) (hd:d<ths.length) (hk:(thD ths d).kind=2):Stp now nv ths (dropT now ths d name)
inductive Stps (now:TimeD) (nv:Bool) (ths:List ThD):List ThD→Prop
 | refl:Stps now nv ths ths
 | tail {b c:List ThD} (h:Stps now nv ths b) (s:Stp now nv b c):Stps now nv ths c
section
variable {now:TimeD} {nv:Bool}
theorem Stps.trans {a b c:List ThD} (h:Stps now nv a b) (k:Stps now nv b c):Stps now nv a c:=by
 induction k with
 | refl=>exact h
 | tail _ s ih=>exact ih.tail s
theorem Stps.one {a b:List ThD} (s:Stp now nv a b):Stps now nv a b:=Stps.refl.tail s
theorem putT_at {ths:List ThD} {d x:Nat} {name:ByteArray} (hd:d<ths.length) (i:Nat):thD (putT now ths d name x) i=if i=d then { thD ths d with ins:=putKv (thD ths d).ins name x,mtime:=now } else thD ths i:=thD_set hd i
theorem dropT_at {ths:List ThD} {d:Nat} {name:ByteArray} (hd:d<ths.length) (i:Nat):thD (dropT now ths d name) i=if i=d then { thD ths d with ins:=delKv (thD ths d).ins name,mtime:=now } else thD ths i:=thD_set hd i
theorem putT_len (ths:List ThD) (d x:Nat) (name:ByteArray):(putT now ths d name x).length=ths.length:=by unfold putT; rw [List.length_set]
theorem dropT_len (ths:List ThD) (d:Nat) (name:ByteArray):(dropT now ths d name).length=ths.length:=by unfold dropT; rw [List.length_set]
theorem none_has {β:Type} {kv:List (ByteArray×β)} {k:ByteArray} (h:getKv kv k=none):hasKv kv k=false:=by
 have:=isSomeHas (kv:=kv) (k:=k)
 rw [h] at this
 exact this.symm
theorem put_free {β:Type} {kv:List (ByteArray×β)} {k:ByteArray} {v:β} (h:getKv kv k=none):putKv kv k v=kv++[(k,v)]:=putKv_fresh (none_has h)
theorem get_put_free {β:Type} {kv:List (ByteArray×β)} {k n:ByteArray} {v:β} (h:getKv kv k=none):getKv (putKv kv k v) n=if n=k then some v else getKv kv n:=by
 rw [put_free h]
 by_cases he:n=k
 ·subst he
  rw [if_pos rfl]
  exact getKv_snoc (none_has h)
 ·rw [if_neg he]
  unfold getKv
  rw [List.find?_append,List.find?_singleton]
  have:decide (k=n)=false:=decide_eq_false fun e=>he e.symm
  simp only [this]
  cases kv.find? fun p=>decide (p.1=n) <;> rfl
theorem thD_app' (ths:List ThD) (t:ThD) (ht:t.ins=[]) (i:Nat):(thD (ths++[t]) i).ins=(thD ths i).ins:=by
 by_cases hi:i<ths.length
 ·rw [thD_app hi]
 ·by_cases he:i=ths.length
  ·subst he
   rw [thD_new,ht,ins_out hi]
  ·rw [ins_out hi,ins_out (by rw [List.length_append]; simp; omega)]
theorem Shp.push {ths:List ThD} {t:ThD} (h:Shp ths) (ht:t.ins=[]) (hs:SndT t):Shp (ths++[t]) where
 snd i hi:=by
  rw [List.length_append] at hi
  by_cases h1:i<ths.length
  ·rw [thD_app h1]; exact h.snd i h1
  ·have:i=ths.length:=by simp at hi; omega
   subst this
   rw [thD_new]; exact hs
 nd i:=by rw [thD_app' ths t ht]; exact h.nd i
 good i:=by rw [thD_app' ths t ht]; exact h.good i
 rng i p hp:=by rw [thD_app' ths t ht] at hp; rw [List.length_append]; have:=h.rng i p hp; omega
theorem nodup_put {β:Type} {kv:List (ByteArray×β)} {k:ByteArray} {v:β} (h:getKv kv k=none) (hn:(kv.map (·.1)).Nodup):((putKv kv k v).map (·.1)).Nodup:=by
 rw [put_free h,List.map_append]
 refine List.nodup_append.2 ⟨hn,by simp,?_⟩
 intro a ha b hb
 simp at hb
 subst hb
 intro e
 subst e
 have:=(hasKv_iff kv a).2 ha
 rw [none_has h] at this
 cases this
theorem Shp.put {ths:List ThD} {d x:Nat} {name:ByteArray} (h:Shp ths) (hn:stampOk now.sec now.nano=true) (hd:d<ths.length) (hk:(thD ths d).kind=2) (hg:GoodP name) (hf:getKv (thD ths d).ins name=none) (hx:x<ths.length):Shp (putT now ths d name x) where
 snd i hi:=by
  rw [putT_len] at hi
  rw [putT_at hd]
  split
  ·have:=h.snd d hd
   exact ⟨this.kind,this.mode,this.uid,this.gid,hn,this.data,fun hh=>absurd hk hh,this.text⟩
  ·exact h.snd i hi
 nd i:=by
  rw [putT_at hd]
  split
  ·exact nodup_put hf (h.nd d)
  ·exact h.nd i
 good i:=by
  rw [putT_at hd]
  split
  ·intro p hp
   simp only at hp
   rw [put_free hf] at hp
   rcases List.mem_append.1 hp with hp | hp
   ·exact h.good d p hp
   ·simp at hp; subst hp; exact hg
  ·exact h.good i
 rng i p hp:=by
  rw [putT_len]
  rw [putT_at hd] at hp
  split at hp
  ·simp only at hp
   rw [put_free hf] at hp
   rcases List.mem_append.1 hp with hp | hp
   ·exact h.rng d p hp
   ·simp at hp; subst hp; exact hx
  ·exact h.rng i p hp
theorem Shp.drop {ths:List ThD} {d:Nat} {name:ByteArray} (h:Shp ths) (hn:stampOk now.sec now.nano=true) (hd:d<ths.length) (hk:(thD ths d).kind=2):Shp (dropT now ths d name) where
 snd i hi:=by
  rw [dropT_len] at hi
  rw [dropT_at hd]
  split
  ·have:=h.snd d hd
   exact ⟨this.kind,this.mode,this.uid,this.gid,hn,this.data,fun hh=>absurd hk hh,this.text⟩
  ·exact h.snd i hi
 nd i:=by
  rw [dropT_at hd]
  split
  ·exact delKv_nodup (h.nd d) name
  ·exact h.nd i
 good i:=by
  rw [dropT_at hd]
  split
  ·intro p hp
   exact h.good d p (List.mem_filter.1 hp).1
  ·exact h.good i
 rng i p hp:=by
  rw [dropT_len]
  rw [dropT_at hd] at hp
  split at hp
  ·exact h.rng d p (List.mem_filter.1 hp).1
  ·exact h.rng i p hp
theorem Stp.shp {a b:List ThD} (s:Stp now nv a b) (hn:stampOk now.sec now.nano=true) (h:Shp a):Shp b:=by
 cases s with
 | new hd hk hg hf hi hs =>
  exact (h.push hi hs).put hn (by rw [List.length_append]; omega) (by rw [thD_app hd]; exact hk) hg (by rw [thD_app hd]; exact hf) (by simp)
 | hard hd hk hg hf hx hxk=>exact h.put hn hd hk hg hf hx
 | drop _ hd hk=>exact h.drop hn hd hk
theorem Stps.shp {a b:List ThD} (s:Stps now nv a b) (hn:stampOk now.sec now.nano=true) (h:Shp a):Shp b:=by
 induction s with
 | refl=>exact h
 | tail _ s ih=>exact s.shp hn ih
structure Stay (a b:List ThD):Prop where
 len:a.length≤b.length
 kind:∀ i,i<a.length→(thD b i).kind=(thD a i).kind
 data:∀ i,i<a.length→(thD b i).data=(thD a i).data∧(thD b i).target=(thD a i).target
 leaf:∀ i,i<a.length→(thD a i).kind≠2→thD b i=thD a i
theorem Stay.refl (a:List ThD):Stay a a:=⟨Nat.le_refl _,fun _ _=>rfl,fun _ _=>⟨rfl,rfl⟩,fun _ _ _=>rfl⟩
theorem Stay.trans {a b c:List ThD} (h:Stay a b) (k:Stay b c):Stay a c where
 len:=Nat.le_trans h.len k.len
 kind i hi:=(k.kind i (Nat.lt_of_lt_of_le hi h.len)).trans (h.kind i hi)
 data i hi:=⟨(k.data i (Nat.lt_of_lt_of_le hi h.len)).1.trans (h.data i hi).1,(k.data i (Nat.lt_of_lt_of_le hi h.len)).2.trans (h.data i hi).2⟩
 leaf i hi h2:=by
  have e:=h.leaf i hi h2
  rw [k.leaf i (Nat.lt_of_lt_of_le hi h.len) (by rw [e]; exact h2),e]
theorem stay_put {ths:List ThD} {d x:Nat} {name:ByteArray} (hd:d<ths.length) (hk:(thD ths d).kind=2):Stay ths (putT now ths d name x) where
 len:=by rw [putT_len]; exact Nat.le_refl _
 kind i hi:=by
  rw [putT_at hd]; split
  ·rename_i e; subst e; rfl
  ·rfl
 data i hi:=by
  rw [putT_at hd]; split
  ·rename_i e; subst e; exact ⟨rfl,rfl⟩
  ·exact ⟨rfl,rfl⟩
 leaf i hi h2:=by
  rw [putT_at hd]; split
  ·rename_i e; subst e; exact absurd hk h2
  ·rfl
theorem stay_drop {ths:List ThD} {d:Nat} {name:ByteArray} (hd:d<ths.length) (hk:(thD ths d).kind=2):Stay ths (dropT now ths d name) where
 len:=by rw [dropT_len]; exact Nat.le_refl _
 kind i hi:=by
  rw [dropT_at hd]; split
  ·rename_i e; subst e; rfl
  ·rfl
 data i hi:=by
  rw [dropT_at hd]; split
  ·rename_i e; subst e; exact ⟨rfl,rfl⟩
  ·exact ⟨rfl,rfl⟩
 leaf i hi h2:=by
  rw [dropT_at hd]; split
  ·rename_i e; subst e; exact absurd hk h2
  ·rfl
theorem stay_push (ths:List ThD) (t:ThD):Stay ths (ths++[t]) where
 len:=by rw [List.length_append]; omega
 kind i hi:=by rw [thD_app hi]
 data i hi:=by rw [thD_app hi]; exact ⟨rfl,rfl⟩
 leaf i hi _:=thD_app hi
theorem Stp.stay {a b:List ThD} (s:Stp now nv a b):Stay a b:=by
 cases s with
 | new hd hk hg hf hi hs=>exact (stay_push _ _).trans (stay_put (by rw [List.length_append]; omega) (by rw [thD_app hd]; exact hk))
 | hard hd hk hg hf hx hxk=>exact stay_put hd hk
 | drop _ hd hk=>exact stay_drop hd hk
theorem Stps.stay {a b:List ThD} (s:Stps now nv a b):Stay a b:=by
 induction s with
 | refl=>exact Stay.refl _
 | tail _ s ih=>exact ih.trans s.stay
theorem dirD_snd {mode:Int} (hn:stampOk now.sec now.nano=true) (hm:0≤mode∧mode≤4095):SndT (dirD mode now):=
 ⟨⟨by show (1:Int)≤2; omega,by show (2:Int)≤3; omega⟩,hm,⟨by show (0:Int)≤0; omega,by show (0:Int)≤_; omega⟩,⟨by show (0:Int)≤0; omega,by show (0:Int)≤_; omega⟩,hn,fun _=>rfl,fun _=>rfl,rfl⟩
theorem wayF_none (mode:Int) (hm:mode<0):∀ (ps:List ByteArray) (ths:List ThD) (d:Nat),(wayF now mode ps ths d).1=ths
 | [],_,_=>rfl
 | p :: ps,ths,d=>by
  unfold wayF
  split
  ·split
   ·first | rfl | rw [if_pos hm]
   ·split
    ·rfl
    ·split
     ·rfl
     ·exact wayF_none mode hm ps _ _
  ·rfl
theorem wayF_stps {mode:Int} (hm:mode≤4095) (hn:stampOk now.sec now.nano=true):∀ (ps:List ByteArray) (ths:List ThD) (d:Nat),(∀ p∈ps,GoodP p)→Shp ths→d<ths.length→(thD ths d).kind=2 →
  Stps now nv ths (wayF now mode ps ths d).1∧((wayF now mode ps ths d).2.1=0→(wayF now mode ps ths d).2.2<(wayF now mode ps ths d).1.length∧(thD (wayF now mode ps ths d).1 (wayF now mode ps ths d).2.2).kind=2)
 | [],ths,d,_,_,hd,hk=>⟨.refl,fun _=>⟨hd,hk⟩⟩
 | p :: ps,ths,d,hp,hS,hd,hk=>by
  have hp1:=hp p (by simp)
  have hps:∀ q∈ps,GoodP q:=fun q hq=>hp q (List.mem_cons_of_mem _ hq)
  unfold wayF
  by_cases h1:letsB (thD ths d) 64=true
  ·rw [if_pos h1]
   cases hg:getKv (thD ths d).ins p with
   | none =>
    simp only
    by_cases h2:mode<0
    ·rw [if_pos h2]; exact ⟨.refl,fun h=>by cases h⟩
    ·rw [if_neg h2]
     by_cases h3:letsB (thD ths d) 192=true
     ·rw [if_pos h3]
      have s:Stp now nv ths (putT now (ths++[dirD mode now]) d p ths.length):=Stp.new hd hk hp1 hg rfl (dirD_snd hn ⟨by omega,hm⟩)
      have hl:ths.length<(putT now (ths++[dirD mode now]) d p ths.length).length:=by rw [putT_len,List.length_append]; simp
      have hk2:(thD (putT now (ths++[dirD mode now]) d p ths.length) ths.length).kind=2:=by
       rw [putT_at (by rw [List.length_append]; omega),if_neg (by omega),thD_new]; rfl
      obtain ⟨a,b⟩:=wayF_stps hm hn ps _ ths.length hps (s.shp hn hS) hl hk2
      exact ⟨(Stps.one s).trans a,b⟩
     ·rw [if_neg h3]; exact ⟨.refl,fun h=>by cases h⟩
   | some x =>
    simp only
    have hxl:=hS.rng d _ (get_mem hg)
    by_cases h2:(thD ths x).kind=3
    ·rw [if_pos h2]; exact ⟨.refl,fun h=>by cases h⟩
    ·rw [if_neg h2]
     by_cases h3:(thD ths x).kind=1
     ·rw [if_pos h3]; exact ⟨.refl,fun h=>by cases h⟩
     ·rw [if_neg h3]
      have:=(hS.snd x hxl).kind
      exact wayF_stps hm hn ps ths x hps hS hxl (by omega)
  ·rw [if_neg h1]; exact ⟨.refl,fun h=>by cases h⟩
structure JobS (j:JobD):Prop where
 parts:∀ p∈j.parts,GoodP p
 mode:0≤j.mode∧j.mode≤4095
 uid:0≤j.uid∧j.uid≤2147483647
 gid:0≤j.gid∧j.gid≤2147483647
 mtime:stampOk j.mtime.sec j.mtime.nano=true
 dirMode:0≤j.dirMode∧j.dirMode≤4095
 text:j.kind=3→textB 3 j.text=true
 nv:nv=true→j.replace=1
theorem freshD_snd {j:JobD} (hn:stampOk now.sec now.nano=true) (hj:JobS (nv:=nv) j):SndT (freshD now j):=by
 unfold freshD
 split
 ·exact dirD_snd hn ⟨by omega,by omega⟩
 split
 ·rename_i h3
  exact ⟨⟨by show (1:Int)≤3; omega,by show (3:Int)≤3; omega⟩,⟨by show (0:Int)≤511; omega,by show (511:Int)≤_; omega⟩,⟨by show (0:Int)≤0; omega,by show (0:Int)≤_; omega⟩,⟨by show (0:Int)≤0; omega,by show (0:Int)≤_; omega⟩,hn,fun _=>rfl,fun _=>rfl,hj.text h3⟩
 ·refine ⟨⟨by show (1:Int)≤1; omega,by show (1:Int)≤3; omega⟩,hj.mode,?_,?_,hj.mtime,fun h=>absurd rfl h,fun _=>rfl,rfl⟩
  ·show 0≤(if j.keepIds then j.uid else 0)∧(if j.keepIds then j.uid else 0)≤2147483647
   split
   ·exact hj.uid
   ·omega
  ·show 0≤(if j.keepIds then j.gid else 0)∧(if j.keepIds then j.gid else 0)≤2147483647
   split
   ·exact hj.gid
   ·omega
def OffS (nv:Bool) (ths:List ThD) (off:List (Nat×JobD)):Prop:=∀ p∈off,p.1<ths.length∧(thD ths p.1).kind=2∧JobS (nv:=nv) p.2
theorem OffS.stay {a b:List ThD} {off:List (Nat×JobD)} (h:OffS nv a off) (s:Stay a b):OffS nv b off:=fun p hp=>by
 obtain ⟨h1,h2,h3⟩:=h p hp
 exact ⟨Nat.lt_of_lt_of_le h1 s.len,(s.kind _ h1).trans h2,h3⟩
theorem putKv_memS {l:List (Nat×JobD)} {k:Nat} {x:JobD}:∀ p∈putKv l k x,p∈l∨p=(k,x):=by
 intro p h
 unfold putKv at h
 split at h
 ·obtain ⟨q,hq,rfl⟩:=List.mem_map.1 h
  split
  ·exact .inr rfl
  ·exact .inl hq
 ·rcases List.mem_append.1 h with h | h
  ·exact .inl h
  ·simp only [List.mem_singleton] at h; exact .inr h
theorem OffS.put {a:List ThD} {off:List (Nat×JobD)} {k:Nat} {j:JobD} (h:OffS nv a off) (hk:k<a.length) (h2:(thD a k).kind=2) (hj:JobS (nv:=nv) j):OffS nv a (putKv off k j):=fun p hp=>by
 rcases putKv_memS p hp with h1 | h1
 ·exact h p h1
 ·rw [h1]; exact ⟨hk,h2,hj⟩
theorem get_del_none {β:Type} (kv:List (ByteArray×β)) (k:ByteArray):getKv (delKv kv k) k=none:=by
 unfold getKv delKv
 rw [Option.map_eq_none_iff,List.find?_eq_none]
 intro p hp
 have:=(List.mem_filter.1 hp).2
 simpa using this
theorem placeF_stps {j:JobD} {ths:List ThD} {off:List (Nat×JobD)} {d src:Nat} {name:ByteArray} (hn:stampOk now.sec now.nano=true) (hj:JobS (nv:=nv) j) (hS:Shp ths) (ho:OffS nv ths off) (hd:d<ths.length) (hk:(thD ths d).kind=2) (hg:GoodP name) (hf:getKv (thD ths d).ins name=none)
  (hsrc:j.kind=4→src<ths.length∧(thD ths src).kind≠2):Stps now nv ths (placeF now j ths off d name src).1.ths∧OffS nv (placeF now j ths off d name src).1.ths (placeF now j ths off d name src).1.off:=by
 unfold placeF
 by_cases h4:j.kind=4
 ·rw [if_pos h4]
  have s:Stp now nv ths (putT now ths d name src):=Stp.hard hd hk hg hf (hsrc h4).1 (hsrc h4).2
  exact ⟨.one s,ho.stay s.stay⟩
 ·rw [if_neg h4]
  have s:Stp now nv ths (putT now (ths++[freshD now j]) d name ths.length):=Stp.new hd hk hg hf (freshD_ins now j) (freshD_snd hn hj)
  refine ⟨.one s,?_⟩
  have ho2:=ho.stay s.stay
  show OffS nv _ (if j.kind=2 then _ else _)
  split
  ·rename_i h2
   refine ho2.put (by rw [putT_len,List.length_append]; simp) ?_ hj
   rw [putT_at (by rw [List.length_append]; omega),if_neg (by omega),thD_new]
   unfold freshD
   rw [if_pos h2]; rfl
  ·exact ho2
theorem overF_stps {j:JobD} {ths:List ThD} {off:List (Nat×JobD)} {d src:Nat} {name:ByteArray} (hn:stampOk now.sec now.nano=true) (hj:JobS (nv:=nv) j) (hS:Shp ths) (ho:OffS nv ths off) (hd:d<ths.length) (hk:(thD ths d).kind=2) (hg:GoodP name)
  (hsrc:j.kind=4→src<ths.length∧(thD ths src).kind≠2):Stps now nv ths (overF now j ths off d name src).1.ths∧OffS nv (overF now j ths off d name src).1.ths (overF now j ths off d name src).1.off:=by
 unfold overF
 cases hf:getKv (thD ths d).ins name with
 | none=>exact placeF_stps hn hj hS ho hd hk hg hf hsrc
 | some old =>
  simp only
  have hol:=hS.rng d _ (get_mem hf)
  split
  ·exact ⟨.refl,ho⟩
  split
  ·rename_i h2; exact ⟨.refl,ho.put hol h2.1 hj⟩
  split
  ·exact ⟨.refl,ho⟩
  split
  ·exact ⟨.refl,ho⟩
  split
  ·exact ⟨.refl,ho⟩
  ·rename_i h1 _
   have hnv:nv=false:=by
    cases hv:nv with
    | false=>rfl
    | true=>exact absurd (hj.nv hv) h1
   have s:Stp now nv ths (dropT now ths d name):=Stp.drop hnv hd hk
   obtain ⟨a,b⟩:=placeF_stps (src:=src) (name:=name) (d:=d) hn hj (s.shp hn hS) (ho.stay s.stay) (by rw [dropT_len]; exact hd) ((s.stay.kind d hd).trans hk) hg (by rw [dropT_at hd,if_pos rfl]; exact get_del_none _ _) (fun h4=>⟨by rw [dropT_len]; exact (hsrc h4).1,by rw [s.stay.kind _ (hsrc h4).1]; exact (hsrc h4).2⟩)
   exact ⟨(Stps.one s).trans a,b⟩
theorem lastP_good {l:List ByteArray} (h:∀ p∈l,GoodP p) (hne:l≠[]):GoodP (lastP l):=by
 unfold lastP
 have:0<l.length:=List.length_pos_iff.2 hne
 rw [List.getD_eq_getElem?_getD,List.getElem?_eq_getElem (by omega)]
 exact h _ (List.getElem_mem _)
theorem applyF_stps {r:Nat} {j:JobD} {ths:List ThD} {off:List (Nat×JobD)} (hn:stampOk now.sec now.nano=true) (hj:JobS (nv:=nv) j) (hS:Shp ths) (ho:OffS nv ths off) (hr:r<ths.length) (hk:(thD ths r).kind=2) :
  Stps now nv ths (applyF now r j ths off).1.ths∧OffS nv (applyF now r j ths off).1.ths (applyF now r j ths off).1.off:=by
 obtain ⟨w1,w2⟩:=wayF_stps (nv:=nv) hj.dirMode.2 hn (j.parts.take (j.parts.length - 1)) ths r (fun p hp=>hj.parts p (List.mem_of_mem_take hp)) hS hr hk
 have hS2:=w1.shp hn hS
 have ho2:=ho.stay w1.stay
 unfold applyF
 by_cases h0:j.parts=[]
 ·rw [if_pos h0]; exact ⟨.refl,ho.put hr hk hj⟩
 ·rw [if_neg h0]
  have hlast:=lastP_good hj.parts h0
  by_cases h4:j.kind=4
  ·rw [if_pos h4]
   simp only [wayF_none (now:=now) (-1) (by omega)]
   split
   ·exact ⟨.refl,ho⟩
   split
   ·exact ⟨w1,ho2⟩
   split
   ·exact ⟨w1,ho2⟩
   ·rename_i hb _
    have hb:(wayF now j.dirMode (j.parts.take (j.parts.length - 1)) ths r).2.1=0:=by simpa using hb
    obtain ⟨q1,q2⟩:=w2 hb
    split
    ·exact ⟨w1,ho2⟩
    ·rename_i src hs
     split
     ·exact ⟨w1,ho2⟩
     ·rename_i hs2
      obtain ⟨a,b⟩:=overF_stps (src:=src) hn hj hS2 ho2 q1 q2 hlast (fun _=>⟨hS2.rng _ _ (get_mem hs),hs2⟩)
      exact ⟨w1.trans a,b⟩
  ·rw [if_neg h4]
   simp only
   split
   ·exact ⟨w1,ho2⟩
   split
   ·exact ⟨w1,ho2⟩
   ·rename_i hb _
    have hb:(wayF now j.dirMode (j.parts.take (j.parts.length - 1)) ths r).2.1=0:=by simpa using hb
    obtain ⟨q1,q2⟩:=w2 hb
    obtain ⟨a,b⟩:=overF_stps (src:=0) hn hj hS2 ho2 q1 q2 hlast (fun h=>absurd h h4)
    exact ⟨w1.trans a,b⟩
theorem stepF_stps {r:Nat} {c:ConfigD} {x:WSt} {e:EntryD} (hn:stampOk now.sec now.nano=true) (hj:(planOf e c).out=0→JobS (nv:=nv) (jobOf (planOf e c))) (hS:Shp x.s.ths) (ho:OffS nv x.s.ths x.s.off) (hr:r<x.s.ths.length) (hk:(thD x.s.ths r).kind=2) :
  Stps now nv x.s.ths (stepF now r c x e).1.s.ths∧OffS nv (stepF now r c x e).1.s.ths (stepF now r c x e).1.s.off:=by
 unfold stepF
 split
 ·exact ⟨.refl,ho⟩
 split
 ·exact ⟨.refl,ho⟩
 rename_i h0
 have h0:(planOf e c).out=0:=by simpa using h0
 split
 ·exact ⟨.refl,ho⟩
 split
 ·exact applyF_stps hn (hj h0) hS ho hr hk
 ·exact applyF_stps hn (hj h0) hS ho hr hk
theorem walkF_stps {r:Nat} {c:ConfigD} (hn:stampOk now.sec now.nano=true):∀ (es:List EntryD) (x:WSt),(∀ e∈es,(planOf e c).out=0→JobS (nv:=nv) (jobOf (planOf e c)))→Shp x.s.ths→OffS nv x.s.ths x.s.off→r<x.s.ths.length→(thD x.s.ths r).kind=2 →
  Stps now nv x.s.ths (walkF now r c es x).1.s.ths∧OffS nv (walkF now r c es x).1.s.ths (walkF now r c es x).1.s.off
 | [],x,_,_,ho,_,_=>⟨.refl,ho⟩
 | e :: es,x,hj,hS,ho,hr,hk=>by
  obtain ⟨a,b⟩:=stepF_stps (r:=r) hn (hj e (by simp)) hS ho hr hk
  unfold walkF
  split
  ·obtain ⟨c1,c2⟩:=walkF_stps hn es (stepF now r c x e).1 (fun e he=>hj e (List.mem_cons_of_mem _ he)) (a.shp hn hS) b (Nat.lt_of_lt_of_le hr a.stay.len) ((a.stay.kind r hr).trans hk)
   exact ⟨a.trans c1,c2⟩
  ·exact ⟨a,b⟩
end
theorem part_good {l p:List UInt8} {mn md:Int} (h:routeE l mn md=0) (hp:p∈partsOf l):GoodP ⟨p.toArray⟩:=by
 obtain ⟨m1,m2,m3,m4,-⟩:=parts_mem hp
 unfold routeE at h
 split at h
 ·cases h
 split at h
 ·cases h
 split at h
 ·cases h
 rename_i h0
 split at h
 ·cases h
 split at h
 ·cases h
 rename_i h2
 split at h
 ·cases h
 rename_i h3
 refine ⟨by simpa using m3,by simpa using m4,fun e=>h2 ?_,?_,?_⟩
 ·have:p=[46,46]:=by simpa using e
  rw [← this]; exact hp
 ·have h3:∀ x∈partsOf l,¬ 255<x.length:=by simpa using h3
  have:=h3 p hp
  show p.toArray.size≤255
  simp
  omega
 ·rintro (h | h)
  ·exact m1 (by simpa using h)
  ·exact h0 (m2 0 (by simpa using h))
theorem settle_bound (a b:Int) (k:Bool):0≤settleV a b k∧settleV a b k≤4095:=by
 unfold settleV
 have:=settle_lt (bv a) (bv b) k
 omega
theorem or_bound (a b:Int) (k:Bool):0≤bits .or .i64 (settleV a b k) 448∧bits .or .i64 (settleV a b k) 448≤4095:=by
 unfold settleV
 have:=settle_lt (bv a) (bv b) k
 rw [show (448:Int)=((448:Nat):Int) from rfl,(bits_nat .i64 63 (by decide) (fun n h0 h1=>by rw [IntKind.wrap_i64]; omega) _ 448 (by omega) (by omega)).2]
 have h2:(settleB (bv a) (bv b) k).toNat ||| 448<2 ^ 12:=Nat.or_lt_two_pow this (by decide)
 omega
theorem jobS {nv:Bool} {e:EntryD} {c:ConfigD} (hf:fitB e=true) (hc:(cfgBs c).all inB=true) (hv:nv=true→c.replace=1) (ho:(planOf e c).out=0):JobS (nv:=nv) (jobOf (planOf e c)):=by
 unfold fitB at hf
 simp only [Bool.and_eq_true,decide_eq_true_eq] at hf
 obtain ⟨⟨⟨⟨u1,u2⟩,g1⟩,g2⟩,hst⟩:=hf
 have hmn:c.maxName≤4096:=by
  have:=List.all_eq_true.1 hc ⟨c.maxName,1,4096⟩ (by simp [cfgBs])
  unfold inB at this
  simp at this
  exact this.2
 by_cases h1:e.kind<1∨4<e.kind
 ·unfold planOf at ho; rw [if_pos h1] at ho; cases ho
 by_cases h2:routeE e.name.data.toList c.maxName c.maxDepth≠0
 ·unfold planOf at ho; rw [if_neg h1,if_pos h2] at ho; cases ho
 by_cases h3:chosenE (bytesL c.include_) (bytesL c.exclude)≠0
 ·unfold planOf at ho; rw [if_neg h1,if_neg h2,if_pos h3] at ho; cases ho
 by_cases h4:chosenV (bytesL c.include_) (bytesL c.exclude) (joinP (partsOf e.name.data.toList))=false∨(0<c.strip∧((partsOf e.name.data.toList).length:Int)≤c.strip)
 ·unfold planOf at ho; rw [if_neg h1,if_neg h2,if_neg h3,if_pos h4] at ho; cases ho
 by_cases h5:leftOf e c=[]∧e.kind≠2
 ·unfold planOf at ho; rw [if_neg h1,if_neg h2,if_neg h3,if_neg h4,if_pos h5] at ho; cases ho
 by_cases h6:linkE e c≠0
 ·unfold planOf at ho; rw [if_neg h1,if_neg h2,if_neg h3,if_neg h4,if_neg h5,if_pos h6] at ho; cases ho
 have h2:routeE e.name.data.toList c.maxName c.maxDepth=0:=Classical.byContradiction h2
 have h6:linkE e c=0:=Classical.byContradiction h6
 unfold planOf
 rw [if_neg h1,if_neg (by rw [h2]; simp),if_neg h3,if_neg h4,if_neg h5,if_neg (by rw [h6]; simp)]
 refine ⟨fun p hp=>?_,settle_bound _ _ _,⟨u1,u2⟩,⟨g1,g2⟩,hst,or_bound _ _ _,fun hk=>?_,hv⟩
 ·have hp:p∈textsL (leftOf e c):=hp
  unfold textsL leftOf at hp
  obtain ⟨q,hq,rfl⟩:=List.mem_map.1 hp
  exact part_good h2 (List.mem_of_mem_drop hq)
 ·have hk:e.kind=3:=hk
  show textB 3 (if e.kind=3 then e.link else ⟨#[]⟩)=true
  rw [if_pos hk]
  unfold linkE at h6
  rw [if_pos hk] at h6
  unfold symE at h6
  split at h6
  ·cases h6
  split at h6
  ·cases h6
  rename_i n1
  split at h6
  ·cases h6
  rename_i n2
  split at h6
  ·cases h6
  rename_i n3
  have hl:e.link.data.toList.length=e.link.size:=size_list _
  have:e.link.data.toList.length≠0:=fun h=>n1 (List.length_eq_zero_iff.1 h)
  unfold textB
  rw [if_pos rfl,decide_eq_true_eq]
  exact ⟨by omega,by omega,n3⟩
theorem kind_in {gs:List NodeD} (hW:WfG gs) {n:NodeD} (hn:n∈gs):soundB n=true:=(scan_all gs 0 (wf_scan hW) n hn).1
theorem plantT_get {gs:List NodeD} {i:Nat} (hi:i<gs.length):thD (plantT gs) i={ thG gs[i] with ins:=insG gs gs[i].ents }:=by
 unfold plantT
 rw [plantP_at _ _ hi,if_pos hi]
theorem known_of {gs:List NodeD} (hW:WfG gs) {n:NodeD} (hn:n∈gs):Known gs n.id:=by
 obtain ⟨i,hi⟩:=List.getElem?_of_mem hn
 obtain ⟨h1,h2⟩:=List.getElem?_eq_some_iff.1 hi
 exact ⟨i,by rw [← h2]; exact wf_at hW h1⟩
theorem G_self {gs:List NodeD} (hW:WfG gs) {i:Nat} (hi:i<gs.length):G gs gs[i].id=gs[i]:=by
 rw [G_get (wf_at hW hi),List.getD_eq_getElem?_getD,List.getElem?_eq_getElem hi]; rfl
theorem plantT_shp {gs:List NodeD} (hW:WfG gs):Shp (plantT gs):=by
 have ents:∀ i (hi:i<gs.length),EntsOk gs gs[i].ents ⟨#[]⟩:=fun i hi=>by
  have:=ents_known hW (known_of hW (List.getElem_mem hi))
  rw [G_self hW hi] at this
  exact this
 have ins0:∀ i,¬ i<gs.length→(thD (plantT gs) i).ins=[]:=fun i hi=>ins_out (by rw [plantT_len]; exact hi)
 refine ⟨fun i hi=>?_,fun i=>?_,fun i p hp=>?_,fun i p hp=>?_⟩
 ·rw [plantT_len] at hi
  rw [plantT_get hi]
  have hs:=kind_in hW (List.getElem_mem hi)
  have hs0:=hs
  unfold soundB at hs
  simp only [Bool.and_eq_true,Bool.not_eq_true',Bool.or_eq_false_iff,decide_eq_false_iff_not] at hs
  obtain ⟨⟨⟨⟨⟨⟨h1,h2⟩,h3⟩,h4⟩,h5,h5'⟩,h6⟩,h7⟩:=hs
  unfold withinB at h1 h2 h3 h4
  simp only [Bool.and_eq_true,decide_eq_true_eq] at h1 h2 h3 h4
  refine ⟨h1,h2,h3,h4,h6,fun hk=>?_,fun hk=>?_,h7⟩
  ·have hk:gs[i].kind≠1:=hk
   show gs[i].data=[]
   exact List.length_eq_zero_iff.1 (by omega)
  ·have hk:gs[i].kind≠2:=hk
   show insG gs gs[i].ents=[]
   rw [sound_leaf hs0 hk]; rfl
 ·by_cases hi:i<gs.length
  ·rw [plantT_get hi]
   show ((insG gs gs[i].ents).map (·.1)).Nodup
   have h:=(entsOk_all _ _ (ents i hi)).2
   unfold insG
   rw [List.map_map]
   unfold List.Nodup
   rw [List.pairwise_map]
   exact h
  ·rw [ins0 i hi]; simp
 ·by_cases hi:i<gs.length
  ·rw [plantT_get hi] at hp
   have hp:p∈insG gs gs[i].ents:=hp
   unfold insG at hp
   obtain ⟨e,he,rfl⟩:=List.mem_map.1 hp
   exact ((entsOk_all _ _ (ents i hi)).1 e he).2.1
  ·rw [ins0 i hi] at hp; cases hp
 ·by_cases hi:i<gs.length
  ·rw [plantT_get hi] at hp
   have hp:p∈insG gs gs[i].ents:=hp
   unfold insG at hp
   obtain ⟨e,he,rfl⟩:=List.mem_map.1 hp
   obtain ⟨j,hj⟩:=((entsOk_all _ _ (ents i hi)).1 e he).1
   rw [plantT_len]
   show J gs e.id<_
   rw [J_get hj]
   exact (idx_get hj).1
  ·rw [ins0 i hi] at hp; cases hp
end Go.Proofs.YtfhfcipelgogjaaGreatDoor
namespace Go.Proofs.YtfhfcipelgogjaaGreatDoor
open Go.RowKit
structure Kept (a b:List ThD):Prop where
 stay:Stay a b
 ins:∀ i n j,getKv (thD a i).ins n=some j→getKv (thD b i).ins n=some j
theorem Kept.refl (a:List ThD):Kept a a:=⟨.refl a,fun _ _ _ h=>h⟩
theorem Kept.trans {a b c:List ThD} (h:Kept a b) (k:Kept b c):Kept a c:=⟨h.stay.trans k.stay,fun i n j e=>k.ins i n j (h.ins i n j e)⟩
theorem put_kept {now:TimeD} {ths:List ThD} {d x:Nat} {name:ByteArray} (hd:d<ths.length) (hf:getKv (thD ths d).ins name=none):∀ i n j,getKv (thD ths i).ins n=some j→getKv (thD (putT now ths d name x) i).ins n=some j:=by
 intro i n j h
 rw [putT_at hd]
 split
 ·rename_i e
  subst e
  show getKv (putKv _ _ _) n=_
  rw [get_put_free hf]
  split
  ·rename_i e; subst e; rw [hf] at h; cases h
  ·exact h
 ·exact h
theorem Stp.kept {now:TimeD} {a b:List ThD} (s:Stp now true a b):Kept a b:=by
 refine ⟨s.stay,?_⟩
 cases s with
 | new hd hk hg hf hi hs =>
  rename_i d name t
  intro i n j h
  refine put_kept (by rw [List.length_append]; omega) (by rw [thD_app hd]; exact hf) i n j ?_
  rw [thD_app' a t hi]; exact h
 | hard hd hk hg hf hx hxk=>exact put_kept hd hf
 | drop hn _ _=>cases hn
theorem Stps.kept {now:TimeD} {a b:List ThD} (s:Stps now true a b):Kept a b:=by
 induction s with
 | refl=>exact Kept.refl _
 | tail _ s ih=>exact ih.trans s.kept
theorem fin_ins (ths:List ThD) (off:List (Nat×JobD)) (i:Nat):(thD (finishF ths off) i).ins=(thD ths i).ins:=by
 by_cases hi:i<ths.length
 ·show (thD (finBy (getKv off) ths) i).ins=_
  rw [finBy_at _ _ hi]
  cases getKv off i <;> rfl
 ·rw [ins_out hi,ins_out (by show ¬ i<(finBy (getKv off) ths).length; rw [finBy_len]; exact hi)]
theorem fin_stay {nv:Bool} {ths:List ThD} {off:List (Nat×JobD)} (ho:OffS nv ths off):Stay ths (finishF ths off) where
 len:=by show _≤(finBy (getKv off) ths).length; rw [finBy_len]; exact Nat.le_refl _
 kind i hi:=by
  show (thD (finBy (getKv off) ths) i).kind=_
  rw [finBy_at _ _ hi]
  cases getKv off i <;> rfl
 data i hi:=by
  show (thD (finBy (getKv off) ths) i).data=_∧(thD (finBy (getKv off) ths) i).target=_
  rw [finBy_at _ _ hi]
  cases getKv off i <;> exact ⟨rfl,rfl⟩
 leaf i hi h2:=by
  show thD (finBy (getKv off) ths) i=_
  rw [finBy_at _ _ hi]
  cases hg:getKv off i with
  | none=>rfl
  | some j=>exact absurd (ho _ (kvMem hg)).2.1 h2
theorem fin_kept {nv:Bool} {ths:List ThD} {off:List (Nat×JobD)} (ho:OffS nv ths off):Kept ths (finishF ths off):=⟨fin_stay ho,fun i n j h=>by rw [fin_ins]; exact h⟩
theorem res_kept {a b:List ThD} (h:Kept a b):∀ (ps:List ByteArray) (i k:Nat),resT a i ps=some k→resT b i ps=some k
 | [],_,_,hr=>hr
 | p :: ps,i,k,hr=>by
  unfold resT at hr ⊢
  cases hk:getKv (thD a i).ins p with
  | none=>rw [hk] at hr; cases hr
  | some j =>
   rw [hk] at hr
   rw [h.ins i p j hk]
   exact res_kept h ps j k hr
theorem res_lt {a:List ThD} (h:Shp a):∀ (ps:List ByteArray) (i k:Nat),i<a.length→resT a i ps=some k→k<a.length
 | [],i,k,hi,hr=>by unfold resT at hr; injection hr with hr; rw [← hr]; exact hi
 | p :: ps,i,k,hi,hr=>by
  unfold resT at hr
  cases hk:getKv (thD a i).ins p with
  | none=>rw [hk] at hr; cases hr
  | some j =>
   rw [hk] at hr
   exact res_lt h ps j k (h.rng i _ (get_mem hk)) hr
theorem fin_shp {nv:Bool} {ths:List ThD} {off:List (Nat×JobD)} (hS:Shp ths) (ho:OffS nv ths off):Shp (finishF ths off) where
 snd i hi:=by
  have hi:i<(finBy (getKv off) ths).length:=hi
  rw [finBy_len] at hi
  show SndT (thD (finBy (getKv off) ths) i)
  rw [finBy_at _ _ hi]
  have hs:=hS.snd i hi
  cases hg:getKv off i with
  | none=>exact hs
  | some j =>
   have hj:=(ho _ (kvMem hg)).2.2
   refine ⟨hs.kind,hj.mode,?_,?_,hj.mtime,hs.data,hs.leaf,hs.text⟩
   ·show 0≤(if j.keepIds then j.uid else _)∧(if j.keepIds then j.uid else _)≤_
    split
    ·exact hj.uid
    ·exact hs.uid
   ·show 0≤(if j.keepIds then j.gid else _)∧(if j.keepIds then j.gid else _)≤_
    split
    ·exact hj.gid
    ·exact hs.gid
 nd i:=by rw [fin_ins]; exact hS.nd i
 good i:=by rw [fin_ins]; exact hS.good i
 rng i p hp:=by
  rw [fin_ins] at hp
  show p.2<(finBy (getKv off) ths).length
  rw [finBy_len]
  exact hS.rng i p hp
theorem lineT_cells (path:ByteArray) (t:ThD) (peer:ByteArray):(lineT path t peer).path=path∧(lineT path t peer).kind=t.kind∧(lineT path t peer).mode=t.mode∧(lineT path t peer).uid=t.uid∧(lineT path t peer).gid=t.gid∧(lineT path t peer).mtime=t.mtime∧(lineT path t peer).peer=peer∧(peer.size=0→(lineT path t peer).data=t.data∧(lineT path t peer).target=t.target):=by
 unfold lineT
 split
 ·exact ⟨rfl,rfl,rfl,rfl,rfl,rfl,rfl,fun _=>⟨rfl,rfl⟩⟩
 ·rename_i h
  exact ⟨rfl,rfl,rfl,rfl,rfl,rfl,rfl,fun h'=>absurd h' h⟩
def DataAt (L:List LineD) (n:Nat) (b:LineD) (data:List UInt8) (target:ByteArray):Prop:=
 (∀ (m:Nat) (u:LineD),m<n→L[m]?=some u→u.path=b.peer→u.data=data∧u.target=target)∧((∀ (m:Nat) (u:LineD),m<n→L[m]?=some u→u.path≠b.peer)→b.data=data∧b.target=target)
theorem find_first {α:Type} {p:α→Bool} {l:List α} {x:α} (h:l.find? p=some x):∃ m:Nat,l[m]?=some x∧p x=true∧∀ (k:Nat) (y:α),k<m→l[k]?=some y→p y=false:=by
 obtain ⟨h1,m,hm,h2,h3⟩:=List.find?_eq_some_iff_getElem.1 h
 refine ⟨m,by rw [List.getElem?_eq_getElem hm,h2],h1,fun k y hk hy=>?_⟩
 have:=h3 k hk
 have hkl:k<l.length:=by omega
 rw [List.getElem?_eq_getElem hkl] at hy
 injection hy with hy
 rw [← hy]
 simpa using this
theorem nodup_idx {α:Type} {l:List α} (h:l.Nodup) {i j:Nat} {x:α} (hi:l[i]?=some x) (hj:l[j]?=some x):i=j:=by
 obtain ⟨a,ea⟩:=List.getElem?_eq_some_iff.1 hi
 obtain ⟨b,eb⟩:=List.getElem?_eq_some_iff.1 hj
 unfold List.Nodup at h
 rw [List.pairwise_iff_getElem] at h
 rcases Nat.lt_trichotomy i j with h1 | h1 | h1
 ·exact absurd (ea.trans eb.symm) (h i j a b h1)
 ·exact h1
 ·exact absurd (eb.trans ea.symm) (h j i b a h1)
theorem line_data {ths:List ThD} {L:List (List ByteArray×Nat)} (hnd:(L.map (·.1)).Nodup) (hg:∀ v∈L,∀ p∈v.1,GoodP p) {n:Nat} {v:List ByteArray×Nat} {b:LineD} (hv:L[n]?=some v) (hb:(linesV ths [] L)[n]?=some b) :
  b.path=pathT v.1∧b.kind=(thD ths v.2).kind∧b.mode=(thD ths v.2).mode∧b.mtime=(thD ths v.2).mtime∧DataAt (linesV ths [] L) n b (thD ths v.2).data (thD ths v.2).target∧(b.peer.size=0→b.data=(thD ths v.2).data∧b.target=(thD ths v.2).target):=by
 have hline:∀ (m:Nat) (u:List ByteArray×Nat) (x:LineD),L[m]?=some u→(linesV ths [] L)[m]?=some x→x=lineT (pathT u.1) (thD ths u.2) (peerV (L.take m) u.2):=fun m u x hu hx=>by
  rw [linesV_get,hu] at hx
  injection hx with hx
  rw [← hx]; rfl
 have hget:∀ (m:Nat) (x:LineD),(linesV ths [] L)[m]?=some x→∃ u,L[m]?=some u:=fun m x hx=>by
  rw [linesV_get] at hx
  cases hu:L[m]? with
  | none=>rw [hu] at hx; cases hx
  | some u=>exact ⟨u,rfl⟩
 have hb':=hline n v b hv hb
 obtain ⟨c1,c2,c3,c4,c5,c6,c7,c8⟩:=lineT_cells (pathT v.1) (thD ths v.2) (peerV (L.take n) v.2)
 rw [← hb'] at c1 c2 c3 c4 c5 c6 c7 c8
 rw [← c7] at c8
 refine ⟨c1,c2,c3,c6,?_,c8⟩
 -- is there one ahead?
 cases hf:(L.take n).find? fun u=>decide (u.2=v.2) with
 | none =>
  have hp:b.peer=⟨#[]⟩:=by rw [c7]; unfold peerV; rw [hf]; rfl
  have hp0:b.peer.size=0:=by rw [hp]; rfl
  refine ⟨fun m u hm hu he=>?_,fun _=>c8 hp0⟩
  obtain ⟨z,hz⟩:=hget m u hu
  exfalso
  have:=(lineT_cells (pathT z.1) (thD ths z.2) (peerV (L.take m) z.2)).1
  rw [← hline m z u hz hu] at this
  rw [this] at he
  exact path_pos (hg z (List.mem_of_getElem? hz)) (by rw [he]; exact hp0)
 | some u =>
  obtain ⟨m,hm,hu2,hfirst⟩:=find_first hf
  have hu2:u.2=v.2:=by simpa using hu2
  have hmn:m<n:=by
   have:=(List.getElem?_eq_some_iff.1 hm).1
   rw [List.length_take] at this; omega
  rw [List.getElem?_take_of_lt hmn] at hm
  have hp:b.peer=pathT u.1:=by rw [c7]; unfold peerV; rw [hf]; rfl
  -- the line m says it all
  obtain ⟨x,hx⟩:∃ x,(linesV ths [] L)[m]?=some x:=by rw [linesV_get,hm]; exact ⟨_,rfl⟩
  have hx':=hline m u x hm hx
  have hpm:peerV (L.take m) u.2=⟨#[]⟩:=by
   unfold peerV
   have:((L.take m).find? fun w=>decide (w.2=u.2))=none:=by
    rw [List.find?_eq_none]
    intro y hy
    obtain ⟨k,hk⟩:=List.getElem?_of_mem hy
    have hkm:k<m:=by
     have:=(List.getElem?_eq_some_iff.1 hk).1
     rw [List.length_take] at this; omega
    rw [List.getElem?_take_of_lt hkm] at hk
    have:=hfirst k y hkm (by rw [List.getElem?_take_of_lt (by omega)]; exact hk)
    rw [hu2]; simpa using this
   rw [this]; rfl
  have hxd:=(lineT_cells (pathT u.1) (thD ths u.2) (peerV (L.take m) u.2))
  rw [← hx'] at hxd
  have hxd2:=hxd.2.2.2.2.2.2.2 (by rw [hpm]; rfl)
  rw [hu2] at hxd2
  refine ⟨fun k y hk hy he=>?_,fun hno=>absurd (hxd.1.trans hp.symm) (hno m x hmn hx)⟩
  obtain ⟨z,hz⟩:=hget k y hy
  have hyp:=(lineT_cells (pathT z.1) (thD ths z.2) (peerV (L.take k) z.2)).1
  rw [← hline k z y hz hy] at hyp
  rw [hyp,hp] at he
  have e:=path_inj (hg z (List.mem_of_getElem? hz)) (hg u (List.mem_of_getElem? hm)) he
  have hkm:k=m:=nodup_idx hnd (i:=k) (j:=m) (x:=u.1) (by rw [List.getElem?_map,hz]; simp [e]) (by rw [List.getElem?_map,hm]; rfl)
  subst hkm
  rw [hx] at hy
  injection hy with hy
  rw [← hy]
  exact hxd2
def FoundIn (L:List LineD) (a:LineD):Prop:=(∃ (n:Nat) (b:LineD),L[n]?=some b∧b.path=a.path)∧∀ (n:Nat) (b:LineD),L[n]?=some b→b.path=a.path→b.kind=a.kind∧(a.kind≠2→b.mode=a.mode∧b.mtime=a.mtime∧DataAt L n b a.data a.target)
def NeverOk (R:FcD) (ls:List LineD):Prop:=(R.lines=[]→R.code≠0)∧(R.lines≠[]→∀ a∈ls,a.peer.size=0→FoundIn R.lines a)
theorem never_fail {k:Int} {ls:List LineD} (h0:k≠0):NeverOk (failF k) ls:=⟨fun _=>h0,fun h=>absurd rfl h⟩
theorem never_lines {a b:List ThD} {r f g:Nat} (hK:Kept a b) (hA:Shp a) (hB:Shp b) (hr:r<a.length) (h1:(addT a f ⟨[],[],0⟩ r []).2=true) (h2:(addT b g ⟨[],[],0⟩ r []).2=true):∀ x∈(addT a f ⟨[],[],0⟩ r []).1.out,x.peer.size=0→FoundIn (addT b g ⟨[],[],0⟩ r []).1.out x:=by
 rw [add_lines hA.good h1,add_lines hB.good h2]
 intro x hx hp
 obtain ⟨n,hn⟩:=List.getElem?_of_mem hx
 obtain ⟨v,hv⟩:∃ v,(visF a f r [])[n]?=some v:=by
  rw [linesV_get] at hn
  cases hu:(visF a f r [])[n]? with
  | none=>rw [hu] at hn; cases hn
  | some u=>exact ⟨u,rfl⟩
 have hgA:=vis_good hA.good (f:=f) (i:=r)
 have hgB:=vis_good hB.good (f:=g) (i:=r)
 obtain ⟨a1,a2,a3,a4,-,a6⟩:=line_data (vis_nodup hA.nd f r []) (fun v hv=>(hgA v hv).1) hv hn
 obtain ⟨a6,a7⟩:=a6 hp
 obtain ⟨g1,g2⟩:=hgA v (List.mem_of_getElem? hv)
 have hvl:=res_lt hA _ _ _ hr g2
 have hres:=res_kept hK _ _ _ g2
 have hmem:=vis_mem v.1 g ⟨[],[],0⟩ r v.2 [] h2 hres
 rw [List.nil_append] at hmem
 refine ⟨?_,fun m x' hm hbp=>?_⟩
 ·obtain ⟨m,hm⟩:=List.getElem?_of_mem hmem
  obtain ⟨b,hb⟩:∃ b',(linesV b [] (visF b g r []))[m]?=some b':=by rw [linesV_get,hm]; exact ⟨_,rfl⟩
  exact ⟨m,b,hb,(line_data (vis_nodup hB.nd g r []) (fun v hv=>(hgB v hv).1) hm hb).1.trans a1.symm⟩
 ·obtain ⟨u,hu⟩:∃ u,(visF b g r [])[m]?=some u:=by
   rw [linesV_get] at hm
   cases hu:(visF b g r [])[m]? with
   | none=>rw [hu] at hm; cases hm
   | some u=>exact ⟨u,rfl⟩
  obtain ⟨b1,b2,b3,b4,b5,-⟩:=line_data (vis_nodup hB.nd g r []) (fun v hv=>(hgB v hv).1) hu hm
  obtain ⟨q1,q2⟩:=hgB u (List.mem_of_getElem? hu)
  have e:=path_inj q1 g1 (b1.symm.trans (hbp.trans a1))
  rw [e,hres] at q2
  injection q2 with q2
  rw [← q2] at b2 b3 b4 b5
  have hs:=hK.stay.kind v.2 hvl
  refine ⟨b2.trans (hs.trans a2.symm),fun h2'=>?_⟩
  have hl:=hK.stay.leaf v.2 hvl (by rw [← a2]; exact h2')
  rw [hl] at b3 b4 b5
  exact ⟨b3.trans a3.symm,b4.trans a4.symm,by rw [a6,a7]; exact b5⟩
theorem add_lines_ne {ths:List ThD} (hG:NamesG ths) {f i:Nat} (h:(addT ths f ⟨[],[],0⟩ i []).2=true):(addT ths f ⟨[],[],0⟩ i []).1.out≠[]:=by
 rw [add_lines hG h]
 cases f with
 | zero=>cases h
 | succ f=>unfold visF linesV; simp
theorem tell_never {c:ConfigD} (h:c.replace=1) (ls:List LineD) (es:List EntryD) (now:TimeD):NeverOk (tellF ls es 0 c now) ls:=by
 by_cases hc:cfgE c≠0
 ·rw [tellF_cfg hc]; exact never_fail hc
 by_cases hp:∃ ps,plantL 0 ls ⟨[],[]⟩=some ps∧TreeOf ps ls
 ·obtain ⟨ps,hp,ht⟩:=hp
  rw [tellF_on hc hp ht]
  split
  ·exact never_fail (by decide)
  rename_i hst
  have hst:stampOk now.sec now.nano=true:=by simpa using hst
  split
  ·exact never_fail (by decide)
  rename_i hfit
  have hfit:∀ e∈es,fitB e=true:=by simpa using hfit
  have hcb:(cfgBs c).all inB=true:=by
   have hc:cfgE c=0:=Classical.byContradiction hc
   unfold cfgE at hc
   split at hc
   ·assumption
   ·cases hc
  obtain ⟨i,hr,-,-⟩:=id ht
  obtain ⟨hW,hidx,hik⟩:=hr
  have hil:=(idx_get hidx).1
  have hS:=plantT_shp hW
  have hrl:i<(plantT ps.nodes).length:=by rw [plantT_len]; exact hil
  obtain ⟨p1,p2⟩:=planted_lines ht
  rw [hidx,Option.getD_some] at p1 p2 ⊢
  obtain ⟨s1,s2⟩:=walkF_stps (nv:=true) (r:=i) (c:=c) hst es ⟨⟨plantT ps.nodes,[]⟩,[],0⟩ (fun e he ho=>jobS (hfit e he) hcb (fun _=>h) ho) hS (fun p hp=>by cases hp) hrl (plantT_kind hil hik)
  unfold foldF
  simp only
  generalize walkF now i c es ⟨⟨plantT ps.nodes,[]⟩,[],0⟩=R at s1 s2
  have hS2:=s1.shp hst hS
  have key:∀ t2,(t2=finishF R.1.s.ths R.1.s.off∨t2=R.1.s.ths)→Shp t2∧Kept (plantT ps.nodes) t2:=by
   rintro t2 (rfl | rfl)
   ·exact ⟨fin_shp hS2 s2,s1.kept.trans (fin_kept s2)⟩
   ·exact ⟨hS2,s1.kept⟩
  obtain ⟨k1,k2⟩:=key (if R.2=0∧True then finishF R.1.s.ths R.1.s.off else R.1.s.ths) (by split; exact .inl rfl; exact .inr rfl)
  generalize (if R.2=0∧True then finishF R.1.s.ths R.1.s.off else R.1.s.ths)=t2 at k1 k2
  by_cases hT:(addT t2 TFUEL ⟨[],[],0⟩ i []).2=true
  ·rw [if_pos hT]
   refine ⟨fun h0=>absurd h0 (add_lines_ne k1.good hT),fun _=>?_⟩
   have:=never_lines k2 hS k1 hrl p1 hT
   rw [p2] at this
   exact this
  ·rw [if_neg hT]
   exact never_fail (by decide)
 ·rw [tellF_order hc fun ps hp' ht=>hp ⟨ps,hp',ht⟩]
  exact never_fail (by decide)
end Go.Proofs.YtfhfcipelgogjaaGreatDoor
