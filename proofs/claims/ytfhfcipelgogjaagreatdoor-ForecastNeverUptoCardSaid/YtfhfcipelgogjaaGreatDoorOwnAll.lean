/- One cell of one element of a list of the call's own: read, and stored into. No condition. A graph's nodes that are being built: a growing list of nodes, each with a growing list of entries of its own. No condition. -/
import Derived.Test.YtfhfcipelgogjaaGreatDoorBaseAt
import Derived.Lib.FrozenHead
import Derived.Test.YtfhfcipelgogjaaGreatDoorDataAll
set_option linter.unusedSectionVars false
set_option linter.unusedVariables false
set_option linter.unusedSimpArgs false
namespace Go.Proofs.YtfhfcipelgogjaaGreatDoor
open Go.RowKit
section
variable {α:Type} {s:Shape α} {w:World} {M:Nat→Prop}
theorem Cells.setC {xs:List Value} {l:List α} (h:Cells s w M xs l) {i j:Nat} (hi:i<l.length) (hj:j<s.size) {u:Value} {a:α} (hr:∀ es,s.rd w M es l[i]→s.rd w M (es.set j u) a):Cells s w M (xs.set (i*s.size+j) u) (l.set i a):=by
 induction l generalizing xs i with
 | nil=>simp at hi
 | cons b l ih =>
  obtain ⟨es,rest,e,h2,h3⟩:=h
  have hl:=s.len h2
  subst e
  cases i with
  | zero =>
   refine ⟨es.set j u,rest,?_,hr es h2,h3⟩
   rw [Nat.zero_mul,Nat.zero_add,List.set_append,if_pos (by omega)]
  | succ i =>
   refine ⟨es,rest.set (i*s.size+j) u,?_,h2,ih h3 (by simpa using hi) (fun es h=>hr es (by simpa using h))⟩
   rw [List.set_append,if_neg (by rw [Nat.succ_mul]; omega),hl]
   congr 2
   rw [Nat.succ_mul]; omega
variable {e:TypeId} {base g n cap:Nat} {v:Value} {l:List α}
theorem Own.setC (h:Own s e w base M v l) (hv:v=.slice (some ⟨g,0,none⟩) n cap) {i j:Nat} (hi:i<l.length) (hj:j<s.size) {u:Value} {a:α} (hr:∀ w es,s.rd w M es l[i]→s.rd w M (es.set j u) a) :
  Own s e (w.setCell ⟨g,i*s.size+j,none⟩ u) base M v (l.set i a):=by
 obtain ⟨xs,⟨hx,hc⟩,hcs,hM⟩:=h
 subst hv
 have hb:(Value.slice (some ⟨g,0,none⟩) n cap).ownBlock=some g:=rfl
 refine ⟨xs.set (i*s.size+j) u,⟨by simpa using hx,.inr ?_⟩,?_,fun k hk=>⟨by simpa [World.setCell] using (hM k hk).1,(hM k hk).2⟩⟩
 ·rcases hc with ⟨h,_⟩ | ⟨g',cap',cur,hv,h2,h3,h4,h5,h6,h7⟩
  ·cases h
  ·injection hv with e1 e2 e3
   injection e1 with e1
   injection e1 with e1
   subst e1 e2 e3
   refine ⟨g,cap,cur.setIfInBounds (i*s.size+j) u,by simp,h2,?_,by simpa using h4,h5,by simpa using h6,?_⟩
   ·simp [World.setCell,Array.getElem?_modify,h3]
   ·rw [List.length_set,Array.toList_setIfInBounds,List.take_set,h7]
 ·have hkeep:Cells s (w.setCell ⟨g,i*s.size+j,none⟩ u) M xs l:=hcs.keep (Keeps.set w _ _ fun n hn e=>by
   have:=(hM n hn).2
   rw [hb] at this
   exact this (by rw [e]))
  exact hkeep.setC hi hj (hr _)
theorem Own.cellC (h:Own s e w base M v l) (hv:v=.slice (some ⟨g,0,none⟩) n cap) {i:Nat} (hi:i<l.length) :
  ∃ es,s.rd w M es l[i]∧(∀ j,j<s.size→w.cell? ⟨g,i*s.size+j,none⟩=es[j]?)∧∀ j,w.frozen? ⟨g,j,none⟩=false:=by
 obtain ⟨xs,⟨hx,hc⟩,hcs,hM⟩:=h
 subst hv
 rcases hc with ⟨h,_⟩ | ⟨g',cap',cur,hv,h2,h3,h4,h5,h6,h7⟩
 ·cases h
 ·injection hv with e1 e2 e3
  injection e1 with e1
  injection e1 with e1
  subst e1 e2 e3
  obtain ⟨es,he,hr⟩:=hcs.get i hi
  refine ⟨es,hr,fun j hj=>?_,fun j=>Lib.frozen_of_heap h3 j⟩
  have hlt:i*s.size+j<l.length*s.size:=by
   have:(i+1)*s.size≤l.length*s.size:=Nat.mul_le_mul_right _ hi
   rw [Nat.succ_mul] at this
   omega
  rw [← he j hj,← h7,List.getElem?_take,if_pos hlt]
  simp only [World.cell?,h3,Option.bind_some,Array.getElem?_toList]
  first | rfl | simp
end
end Go.Proofs.YtfhfcipelgogjaaGreatDoor
namespace Go.Proofs.YtfhfcipelgogjaaGreatDoor
open Go.RowKit
structure NodeC where
 d:NodeD
 ev:Value
def nodeCells (d:NodeD) (A1:Option Addr) (n1 c1:Nat) (ev:Value):List Value:=[.int .i64 d.id,.int .i64 d.kind,.int .i64 d.mode,.int .i64 d.uid,.int .i64 d.gid,.int .i64 d.mtime.sec,.int .i64 d.mtime.nano,.slice A1 n1 c1,.string d.target,ev]
def NodeC.rd (w:World) (M:Nat→Prop) (cs:List Value) (x:NodeC):Prop:=
 ∃ (A1:Option Addr) (n1 c1:Nat),cs=nodeCells x.d A1 n1 c1 x.ev∧I64 x.d.id∧I64 x.d.kind∧I64 x.d.mode∧I64 x.d.uid∧I64 x.d.gid∧I64 x.d.mtime.sec∧I64 x.d.mtime.nano∧n1≤c1∧c1≤maxLen∧Row Shape.byte w M A1 n1 x.d.data∧x.d.target.size≤maxLen∧x.ev.oneCell'=true
def Shape.NodeC:Shape NodeC where
 size:=10
 pos:=by decide
 rd:=NodeC.rd
 bulk _:=1
 bpos _:=by omega
 len:=fun {w M cs d} h=>by obtain ⟨_,_,_,e,_⟩:=h; subst e; rfl
 keep:=fun {w w' M cs d} h k=>by obtain ⟨A1,n1,c1,e,h0,h1,h2,h3,h4,h5,h6,h7,h8,h9,h10,h11⟩:=h; exact ⟨A1,n1,c1,e,h0,h1,h2,h3,h4,h5,h6,h7,h8,h9.keep k,h10,h11⟩
 more:=fun {w M M' cs d} h k=>by obtain ⟨A1,n1,c1,e,h0,h1,h2,h3,h4,h5,h6,h7,h8,h9,h10,h11⟩:=h; exact ⟨A1,n1,c1,e,h0,h1,h2,h3,h4,h5,h6,h7,h8,h9.more k,h10,h11⟩
 one:=fun {w M cs d} h v hv=>by
  obtain ⟨_,_,_,e,_,_,_,_,_,_,_,_,_,_,_,ho⟩:=h
  subst e
  simp only [nodeCells,List.mem_cons,List.not_mem_nil,or_false] at hv
  rcases hv with rfl | rfl | rfl | rfl | rfl | rfl | rfl | rfl | rfl | rfl <;> first | rfl | exact ho
theorem elem_NodeC:Elem Tryz.prog 22 79 Shape.NodeC 120:=⟨Tryz.underlying22,by kernel_rfl⟩
theorem ownsType {α:Type} {s:Shape α} {e:TypeId} {w:World} {base:Nat} {M:Nat→Prop} {v:Value} {l:List α} (h:Own s e w base M v l) {k:Nat} (hk:v.ownBlock=some k):∃ cs fz,w.heap[k]?=some (.cells cs e fz):=by
 obtain ⟨xs,h1,_⟩:=h
 rcases h1.2 with ⟨rfl,_⟩ | ⟨g,cap,cur,rfl,hb,hh,_⟩
 ·cases hk
 ·have:g=k:=by injection hk
  subst this
  exact ⟨_,_,hh⟩
theorem own_types {α β:Type} {s:Shape α} {s':Shape β} {e e':TypeId} {w:World} {base base':Nat} {M M':Nat→Prop} {v v':Value} {l:List α} {l':List β} (h:Own s e w base M v l) (h':Own s' e' w base' M' v' l') (hne:e≠e'):v.ownBlock=none∨v.ownBlock≠v'.ownBlock:=by
 cases hv:v.ownBlock with
 | none=>exact .inl rfl
 | some k =>
  right
  intro hk
  obtain ⟨cs,fz,h1⟩:=ownsType h hv
  obtain ⟨cs',fz',h2⟩:=ownsType h' hk.symm
  rw [h1] at h2
  injection h2 with h2
  injection h2 with _ h2
  exact hne h2
structure NodesAt (w:World) (B:Nat) (v:Value) (xs:List NodeC):Prop where
 own:∃ M,Own Shape.NodeC 79 w B M v xs∧∀ n,M n→B≤n∧∀ x∈xs,some n≠x.ev.ownBlock
 ents:∀ x∈xs,Own Shape.EntD 103 w B (fun _=>False) x.ev x.d.ents
 apart:∀ (i j:Nat) (x y:NodeC),xs[i]?=some x→xs[j]?=some y→i≠j→x.ev.ownBlock=none∨x.ev.ownBlock≠y.ev.ownBlock
theorem ent_node_ne:103≠79:=by decide
theorem NodesAt.start (w:World) (B:Nat):NodesAt w B (.slice none 0 0) []:=
 ⟨⟨fun _=>False,Own.start _ _ w B,fun _ h=>h.elim⟩,fun x hx=>(by cases hx),fun i j x y hx=>(by simp at hx)⟩
theorem NodesAt.keep {w w':World} {B:Nat} {v:Value} {xs:List NodeC} {row:Option Nat} (h:NodesAt w B v xs) (hg:w.grownBy w' row) (hr:∀ k,row=some k→k<B):NodesAt w' B v xs:=by
 obtain ⟨M,ho,hM⟩:=h.own
 have hne:∀ {α:Type} {s:Shape α} {e:TypeId} {M:Nat→Prop} {v:Value} {l:List α},Own s e w B M v l→v.ownBlock=none∨v.ownBlock≠row:=fun {α s e M v l} h=>by
  cases hv:v.ownBlock with
  | none=>exact .inl rfl
  | some k =>
   right; intro e
   have:=(h.lt k hv).1
   have:=hr k e.symm
   omega
 refine ⟨⟨M,ho.kept hg (hne ho) fun n hn e=>?_,hM⟩,fun x hx=>(h.ents x hx).kept hg (hne (h.ents x hx)) (fun _ h=>h.elim),h.apart⟩
 have:=(hM n hn).1
 have:=hr n e.symm
 omega
theorem NodesAt.push {w w':World} {B:Nat} {v v':Value} {xs:List NodeC} {d:NodeD} {M M':Nat→Prop} (h:NodesAt w B v xs) (hd:d.ents=[]) (hv:Own Shape.NodeC 79 w B M v xs) (hM:∀ n,M n→B≤n∧∀ x∈xs,some n≠x.ev.ownBlock)
  (ho:Own Shape.NodeC 79 w' B (fun n=>M n∨M' n) v' (xs++[⟨d,.slice none 0 0⟩])) (hM':∀ n,M' n→B≤n∧∀ x∈xs,some n≠x.ev.ownBlock) (hg:w.grownBy w' v.ownBlock):NodesAt w' B v' (xs++[⟨d,.slice none 0 0⟩]):=by
 refine ⟨⟨_,ho,fun n hn=>⟨hn.elim (fun h=>(hM n h).1) (fun h=>(hM' n h).1),fun x hx=>?_⟩⟩,fun x hx=>?_,fun i j x y hx hy hij=>?_⟩
 ·rcases List.mem_append.1 hx with h1 | h1
  ·exact hn.elim (fun h=>(hM n h).2 x h1) (fun h=>(hM' n h).2 x h1)
  ·simp at h1; subst h1; simp [Value.ownBlock]
 ·rcases List.mem_append.1 hx with h1 | h1
  ·exact (h.ents x h1).kept hg (own_types (h.ents x h1) hv ent_node_ne) (fun _ h=>h.elim)
  ·simp at h1; subst h1
   show Own _ _ _ _ _ _ d.ents
   rw [hd]
   exact Own.start _ _ _ _
 ·rcases Nat.lt_trichotomy i xs.length with h1 | h1 | h1
  ·rcases Nat.lt_trichotomy j xs.length with h2 | h2 | h2
   ·rw [List.getElem?_append_left h1] at hx
    rw [List.getElem?_append_left h2] at hy
    exact h.apart i j x y hx hy hij
   ·subst h2
    rw [List.getElem?_append_right (Nat.le_refl _)] at hy
    simp at hy; subst hy
    cases hv:x.ev.ownBlock with
    | none=>exact .inl rfl
    | some k=>right; intro e; cases e
   ·rw [List.getElem?_eq_none (by simp; omega)] at hy; cases hy
  ·subst h1
   rw [List.getElem?_append_right (Nat.le_refl _)] at hx
   simp at hx; subst hx
   exact .inl rfl
  ·rw [List.getElem?_eq_none (by simp; omega)] at hx; cases hx
theorem NodesAt.ent {w w':World} {B g n cap:Nat} {xs:List NodeC} {i:Nat} {x:NodeC} {ev':Value} {e:EntD} (h:NodesAt w B (.slice (some ⟨g,0,none⟩) n cap) xs) (hx:xs[i]?=some x)
  (ho:Own Shape.EntD 103 w' B (fun _=>False) ev' (x.d.ents++[e])) (hg:w.grownBy w' x.ev.ownBlock) (hat:ev'.ownBlock=x.ev.ownBlock∨ev'.ownBlock=some w.heap.size) (hone:ev'.oneCell'=true) :
  NodesAt (w'.setCell ⟨g,i*10+9,none⟩ ev') B (.slice (some ⟨g,0,none⟩) n cap) (xs.set i ⟨{ x.d with ents:=x.d.ents++[e] },ev'⟩):=by
 obtain ⟨M,hown,hM⟩:=h.own
 have hi:i<xs.length:=(List.getElem?_eq_some_iff.1 hx).1
 have hxi:xs[i]=x:=(List.getElem?_eq_some_iff.1 hx).2
 have hxm:x∈xs:=List.mem_of_getElem? hx
 have hgb:(Value.slice (some ⟨g,0,none⟩) n cap).ownBlock=some g:=rfl
 have hgne:x.ev.ownBlock≠some g:=fun e=>by
  rcases own_types (h.ents x hxm) hown ent_node_ne with h1 | h1
  ·rw [h1] at e; cases e
  ·exact h1 e
 have hown':Own Shape.NodeC 79 w' B M (.slice (some ⟨g,0,none⟩) n cap) xs:=hown.kept hg (.inr fun e=>hgne (by rw [hgb] at e; exact e.symm)) (fun k hk=>(hM k hk).2 x hxm)
 have hgB:B≤g∧g<w.heap.size:=hown.lt g rfl
 have hset:∀ n,n≠g→(w'.setCell ⟨g,i*10+9,none⟩ ev').heap[n]?=w'.heap[n]?:=fun n hn=>Below.heap_setCell w' _ _ n hn
 have gs:w'.grownBy (w'.setCell ⟨g,i*10+9,none⟩ ev') (some g):=⟨rfl,rfl,rfl,by simp,fun n hn hne=>hset n (fun e=>hne (by rw [e]))⟩
 have hset2:Own Shape.NodeC 79 (w'.setCell ⟨g,i*10+9,none⟩ ev') B M (.slice (some ⟨g,0,none⟩) n cap) (xs.set i ⟨{ x.d with ents:=x.d.ents++[e] },ev'⟩):=by
  have:=hown'.setC rfl hi (j:=9) (by show 9<10; decide) (u:=ev') (a:=⟨{ x.d with ents:=x.d.ents++[e] },ev'⟩) (fun W es hr=>by
   rw [hxi] at hr
   obtain ⟨A1,n1,c1,ee,h0,h1,h2,h3,h4,h5,h6,h7,h8,h9,h10,h11⟩:=hr
   refine ⟨A1,n1,c1,?_,h0,h1,h2,h3,h4,h5,h6,h7,h8,h9,h10,hone⟩
   rw [ee]; rfl)
  exact this
 have hevne:ev'.ownBlock=none∨ev'.ownBlock≠some g:=by
  cases hv:ev'.ownBlock with
  | none=>exact .inl rfl
  | some k =>
   right; intro e
   rcases hat with h1 | h1
   ·rw [hv] at h1; exact hgne (by rw [← h1,e])
   ·rw [hv] at h1; injection h1 with h1; injection e with e; omega
 refine ⟨⟨M,hset2,fun k hk=>⟨(hM k hk).1,fun y hy=>?_⟩⟩,fun y hy=>?_,fun a b y z hy hz hab=>?_⟩
 ·rcases List.mem_or_eq_of_mem_set hy with h1 | h1
  ·exact (hM k hk).2 y h1
  ·subst h1
   have hlt:k<w.heap.size:=by obtain ⟨_,_,_,h3⟩:=hown; exact (h3 k hk).1
   intro e
   rcases hat with h2 | h2
   ·exact (hM k hk).2 x hxm (by rw [e]; exact h2)
   ·have e':some k=ev'.ownBlock:=e
    rw [h2] at e'; injection e' with e'; omega
 ·obtain ⟨b,hb⟩:=List.getElem?_of_mem hy
  rw [List.getElem?_set] at hb
  by_cases hib:i=b
  ·subst hib
   rw [if_pos rfl,if_pos hi] at hb
   injection hb with hb
   subst hb
   exact ho.kept gs hevne (fun _ h=>h.elim)
  ·rw [if_neg hib] at hb
   have hym:=List.mem_of_getElem? hb
   have h1:=(h.ents y hym).kept hg (by
    rcases h.apart b i y x hb hx (Ne.symm hib) with h2 | h2
    ·exact .inl h2
    ·exact .inr h2) (fun _ h=>h.elim)
   refine h1.kept gs ?_ (fun _ h=>h.elim)
   rcases own_types (h.ents y hym) hown ent_node_ne with h2 | h2
   ·exact .inl h2
   ·exact .inr h2
 ·have hnew:∀ (b:Nat) (y:NodeC),i≠b→xs[b]?=some y→ev'.ownBlock=none∨ev'.ownBlock≠y.ev.ownBlock:=fun b y hib hb=>by
   rcases hat with h2 | h2
   ·rw [h2]; exact h.apart i b x y hx hb hib
   ·right
    rw [h2]
    intro e
    have:=(h.ents y (List.mem_of_getElem? hb)).lt _ e.symm
    omega
  rw [List.getElem?_set] at hy hz
  by_cases hia:i=a
  ·subst hia
   rw [if_pos rfl,if_pos hi] at hy
   injection hy with hy
   subst hy
   rw [if_neg hab] at hz
   exact hnew b z hab hz
  ·rw [if_neg hia] at hy
   by_cases hib:i=b
   ·subst hib
    rw [if_pos rfl,if_pos hi] at hz
    injection hz with hz
    subst hz
    rcases hnew a y hia hy with h2 | h2
    ·cases hv:y.ev.ownBlock with
     | none=>exact .inl rfl
     | some k=>right; show _≠ev'.ownBlock; rw [h2]; intro e; cases e
    ·exact .inr (Ne.symm h2)
   ·rw [if_neg hib] at hz
    exact h.apart a b y z hy hz hab
theorem NodesAt.rows {w:World} {B:Nat} {A:Option Addr} {n c:Nat} {xs:List NodeC} (h:NodesAt w B (.slice A n c) xs):n≤c∧c≤maxLen∧Row Shape.NodeD w (From B w) A n (xs.map (·.d)):=by
 obtain ⟨M,hown,hM⟩:=h.own
 obtain ⟨A',n',c',e,hnc,hcm,hrow⟩:=hown.rd_from (B:=B) (Nat.le_refl _) (fun k hk=>(hM k hk).1)
 injection e with e1 e2 e3
 subst e1 e2 e3
 refine ⟨hnc,hcm,by rw [List.length_map]; exact hrow.1,fun hn=>?_⟩
 obtain ⟨b,off,hA,hb,hel⟩:=hrow.2 hn
 refine ⟨b,off,hA,hb,fun i hi=>?_⟩
 have hi':i<xs.length:=by simpa using hi
 obtain ⟨es,hc,A1,n1,c1,ee,h0,h1,h2,h3,h4,h5,h6,h7,h8,h9,h10,h11⟩:=hel i hi'
 obtain ⟨A2,n2,c2,ev,h12,h13,hr2⟩:=(h.ents xs[i] (List.getElem_mem hi')).rd_from (B:=B) (Nat.le_refl _) (fun _ h=>h.elim)
 have ed:(xs.map (·.d))[i]=xs[i].d:=by simp
 rw [ed]
 exact ⟨es,hc,A1,n1,c1,A2,n2,c2,by rw [ee,ev]; rfl,h0,h1,h2,h3,h4,h5,h6,h7,h8,h9,h10,h12,h13,hr2⟩
end Go.Proofs.YtfhfcipelgogjaaGreatDoor
