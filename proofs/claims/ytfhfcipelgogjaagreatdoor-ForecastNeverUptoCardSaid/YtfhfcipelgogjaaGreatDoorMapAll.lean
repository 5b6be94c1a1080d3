/- Maps whose keys are texts or numbers, as lists of pairs with unlike keys. No condition. A range over a map, as over a list of pairs in whatever order; and delete. No condition. A map looked at without 'ok'. No condition. delete at a map, as at a list of pairs. No condition. -/
import Derived.Test.YtfhfcipelgogjaaGreatDoorBaseAt
import Derived.Maps.Own
import Derived.Laws.StructEq
import Derived.WideShapes
import Derived.Maps.OwnOps
import Derived.Maps.OwnSet
import Derived.Maps.RangeWalk
set_option linter.unusedSectionVars false
set_option linter.unusedVariables false
set_option linter.unusedSimpArgs false
namespace Go.Proofs.YtfhfcipelgogjaaGreatDoor
open Go.RowKit
structure KeyKind (P:Program) (κ:Type) where
 kf:κ→Value
 ty:TypeId
 desc:TypeDesc
 und:P.underlying ty=some desc
 plain:∀ k w n e,(Instr.checkKey e (n+1) ty (kf k)).run P w=.ok () w
 same:∀ a b,Instr.sameNow desc (kf a) (kf b)=some true↔a=b
 some_:∀ a b,(Instr.sameNow desc (kf a) (kf b)).isSome=true
 bits:∀ a n,Instr.sameBits (n+1) (kf a) (kf a)=true
section
variable {P:Program} {κ β:Type} [DecidableEq κ] {cv:β→Value}
def getKv (kv:List (κ×β)) (k:κ):Option β:=(kv.find? fun p=>decide (p.1=k)).map (·.2)
def hasKv (kv:List (κ×β)) (k:κ):Bool:=kv.any fun p=>decide (p.1=k)
def putKv (kv:List (κ×β)) (k:κ) (v:β):List (κ×β):=
 if hasKv kv k then kv.map fun p=>if p.1=k then (k,v) else p else kv++[(k,v)]
def delKv (kv:List (κ×β)) (k:κ):List (κ×β):=kv.filter fun p=>!decide (p.1=k)
def Stamped (es:Array MapEntry) (clock:Nat):Prop:=(∀ e∈es.toList,e.born<clock)∧(es.toList.map (·.born)).Nodup
theorem Stamped.push {es:Array MapEntry} {clock:Nat} (h:Stamped es clock) (k v:Value):Stamped (es.push { key:=k,val:=v,born:=clock }) (clock+1):=by
 refine ⟨fun e he=>?_,?_⟩
 ·rw [Array.toList_push,List.mem_append] at he
  rcases he with he | he
  ·have:=h.1 e he; omega
  ·simp at he; subst he; simp
 ·rw [Array.toList_push,List.map_append,List.nodup_append]
  refine ⟨h.2,by simp,fun a ha b hb=>?_⟩
  obtain ⟨e,he,rfl⟩:=List.mem_map.1 ha
  simp at hb
  subst hb
  have:=h.1 e he
  omega
theorem Stamped.modify {es:Array MapEntry} {clock:Nat} (h:Stamped es clock) (j:Nat) (k v:Value):Stamped (es.modify j fun e=>{ e with key:=k,val:=v }) clock:=by
 have hb:(es.modify j fun e=>{ e with key:=k,val:=v }).toList.map (·.born)=es.toList.map (·.born):=by
  apply List.ext_getElem?
  intro i
  simp only [List.getElem?_map,Array.getElem?_toList,Array.getElem?_modify]
  by_cases hij:j=i
  ·subst hij
   cases es[j]? <;> simp
  ·simp [hij]
 refine ⟨fun e he=>?_,by rw [hb]; exact h.2⟩
 have:e.born∈es.toList.map (·.born):=by rw [← hb]; exact List.mem_map_of_mem he
 obtain ⟨x,hx,hxe⟩:=List.mem_map.1 this
 rw [← hxe]
 exact h.1 x hx
theorem Stamped.nil (c:Nat):Stamped #[] c:=⟨by simp,by simp⟩
def IsMap (K:KeyKind P κ) (cv:β→Value) (w:World) (b:Nat) (kv:List (κ×β)):Prop:=
 ∃ es clock,w.heap[b]?=some (.map es clock)∧es.toList.map (fun e=>(e.key,e.val))=kv.map (fun p=>(K.kf p.1,cv p.2))∧(kv.map (·.1)).Nodup∧Stamped es clock
variable {K:KeyKind P κ} {w w':World} {b:Nat} {kv:List (κ×β)}
theorem IsMap.lt (h:IsMap K cv w b kv):b<w.heap.size:=by
 obtain ⟨es,c,hb,_⟩:=h
 rcases Nat.lt_or_ge b w.heap.size with hlt | hge
 ·exact hlt
 ·rw [Array.getElem?_eq_none hge] at hb; cases hb
theorem IsMap.of_block (h:IsMap K cv w b kv) (e:w'.heap[b]?=w.heap[b]?):IsMap K cv w' b kv:=by
 obtain ⟨es,c,hb,r⟩:=h
 exact ⟨es,c,e.trans hb,r⟩
theorem IsMap.keeps {M:Nat→Prop} (h:IsMap K cv w b kv) (hk:Keeps M w w') (hb:M b):IsMap K cv w' b kv:=h.of_block (hk b hb)
theorem IsMap.alloc (h:IsMap K cv w b kv) (o:Obj):IsMap K cv (w.alloc o) b kv:=h.of_block (Below.heap_alloc w o b h.lt)
theorem IsMap.over_ (h:IsMap K cv w b kv) (δ:World):IsMap K cv (over w δ) b kv:=h.of_block (over_heap_lt h.lt)
theorem IsMap.far (h:IsMap K cv w b kv) {p:Addr} (hp:b≠p.block) (u:Value):IsMap K cv (w.setCell p u) b kv:=h.of_block (Below.heap_setCell w p u b hp)
theorem IsMap.grown {row:Option Nat} (h:IsMap K cv w b kv) (hb:w.grownBy w' row) (hg:some b≠row):IsMap K cv w' b kv:=h.of_block (hb.block b h.lt hg)
theorem IsMap.ne_blk {g:Nat} {t:TypeId} {cs:Array Value} (h:IsMap K cv w b kv) (hg:Blk w g t cs):b≠g:=by
 rintro rfl
 obtain ⟨es,c,hb,_⟩:=h
 unfold Blk at hg
 rw [hb] at hg
 cases hg
theorem IsMap.new (K:KeyKind P κ) (cv:β→Value) (w:World):IsMap K cv (w.alloc (.map #[] 0)) w.heap.size ([]:List (κ×β)):=⟨#[],0,heap_alloc_new w _,rfl,List.nodup_nil,Stamped.nil _⟩
theorem findNow_list (K:KeyKind P κ) (k:κ):∀ (es:List MapEntry) (kv:List (κ×β)) (i:Nat),es.map (fun e=>(e.key,e.val))=kv.map (fun p=>(K.kf p.1,cv p.2)) →
  Instr.findNow K.desc (K.kf k) es i=some ((kv.findIdx? fun p=>decide (p.1=k)).bind fun j=>(kv[j]?).map fun p=>(i+j,cv p.2))
 | [],kv,i,h=>by
  cases kv with
  | nil=>rfl
  | cons p kv=>simp at h
 | e :: es,kv,i,h=>by
  cases kv with
  | nil=>simp at h
  | cons p kv =>
   simp only [List.map_cons,List.cons.injEq,Prod.mk.injEq] at h
   obtain ⟨⟨hk,hv⟩,h⟩:=h
   unfold Instr.findNow
   rw [hk]
   by_cases hp:p.1=k
   ·rw [(K.same k p.1).2 hp.symm]
    simp [List.findIdx?_cons,hp,hv]
   ·have h1:Instr.sameNow K.desc (K.kf k) (K.kf p.1)=some false:=by
     have hs:=K.some_ k p.1
     cases hc:Instr.sameNow K.desc (K.kf k) (K.kf p.1) with
     | none=>rw [hc] at hs; cases hs
     | some c =>
      cases c with
      | false=>rfl
      | true=>exact absurd ((K.same k p.1).1 hc).symm hp
    rw [h1,findNow_list K k es kv (i+1) h]
    simp only [List.findIdx?_cons,hp,decide_false,Bool.false_eq_true,if_false]
    cases kv.findIdx? fun p=>decide (p.1=k) <;> simp [Nat.add_assoc,Nat.add_comm 1]
theorem findIdx_get (kv:List (κ×β)) (k:κ):((kv.findIdx? fun p=>decide (p.1=k)).bind fun j=>(kv[j]?).map fun p=>p.2)=getKv kv k:=by
 induction kv with
 | nil=>rfl
 | cons p kv ih =>
  by_cases hp:p.1=k
  ·simp [List.findIdx?_cons,getKv,hp]
  ·simp only [List.findIdx?_cons,hp,decide_false,Bool.false_eq_true,if_false,getKv,List.find?_cons]
   rw [← getKv,← ih]
   cases kv.findIdx? fun p=>decide (p.1=k) <;> simp
theorem run_findKey (es:Array MapEntry) (h:es.toList.map (fun e=>(e.key,e.val))=kv.map (fun p=>(K.kf p.1,cv p.2))) (k:κ) (w:World) :
  (Instr.findKey K.ty (K.kf k) es.toList).run P w=.ok ((kv.findIdx? fun p=>decide (p.1=k)).bind fun j=>(kv[j]?).map fun p=>(j,cv p.2)) w:=by
 unfold Instr.findKey
 rw [Sem.run_bind,run_underlying K.und w]
 simp only [Result.andThen_ok,findNow_list K k es.toList kv 0 h,Nat.zero_add]
 rfl
theorem run_lookup_ok {t e:TypeId} (ht:P.underlying t=some (.map K.ty e)) (h:IsMap K cv w b kv) (k:κ) {z:Value} (hz:(zeroValue e).run P w=.ok z w) :
  (Instr.lookup t (.map (some b)) (K.kf k) true).run P w=.ok (.tuple #[((getKv kv k).map cv).getD z,.bool (getKv kv k).isSome]) w:=by
 obtain ⟨es,c,hb,hes,_⟩:=h
 unfold Instr.lookup
 rw [Sem.run_bind,run_underlying ht w]
 simp only [Result.andThen_ok]
 have hg:(Instr.checkKey es.isEmpty 10000 K.ty (K.kf k)).run P w=.ok () w:=K.plain k w 9999 _
 have hf:=run_findKey (P:=P) (K:=K) es hes k w
 rw [← findIdx_get]
 simp only [Sem.run_bind,getObj,Sem.run,hb,Result.andThen_ok,Sem.run_pure,hg,hf]
 cases hi:kv.findIdx? fun p=>decide (p.1=k) with
 | none=>simp [hz,Sem.run_bind]
 | some j =>
  have hj:j<kv.length:=by
   have:=List.findIdx?_eq_some_iff_getElem.1 hi
   obtain ⟨h,_⟩:=this
   exact h
  simp [hj,Sem.run_bind]
structure Only (b:Nat) (w w':World):Prop where
 os:w'.os=w.os
 tape:w'.tape=w.tape
 output:w'.output=w.output
 size:w'.heap.size=w.heap.size
 block:∀ n,n≠b→w'.heap[n]?=w.heap[n]?
theorem Only.grown {b:Nat} {w w':World} (h:Only b w w'):w.grownBy w' (some b):=⟨h.os,h.tape,h.output,Nat.le_of_eq h.size.symm,fun n _ hn=>h.block n (fun e=>hn (by rw [e]))⟩
def setMap (w:World) (b:Nat) (es:Array MapEntry) (c:Nat):World:={ w with heap:=w.heap.setIfInBounds b (.map es c) }
theorem setMap_only (w:World) (b:Nat) (es:Array MapEntry) (c:Nat):Only b w (setMap w b es c):=
 ⟨rfl,rfl,rfl,by simp [setMap],fun n hn=>by simp only [setMap]; rw [Array.getElem?_setIfInBounds_ne (by omega)]⟩
theorem setMap_at {w:World} {b:Nat} (es:Array MapEntry) (c:Nat) (h:b<w.heap.size):(setMap w b es c).heap[b]?=some (.map es c):=by
 simp [setMap,h]
theorem hasKv_iff (kv:List (κ×β)) (k:κ):hasKv kv k=true↔k∈kv.map (·.1):=by
 simp [hasKv]
theorem findIdx_none (kv:List (κ×β)) (k:κ):(kv.findIdx? fun p=>decide (p.1=k))=none↔hasKv kv k=false:=by
 rw [List.findIdx?_eq_none_iff,← Bool.not_eq_true,hasKv_iff]
 simp
 exact ⟨fun h x hx=>h k x hx rfl,fun h a b hab e=>h b (e ▸ hab)⟩
theorem map_put (k:κ) (v:β):∀ (kv:List (κ×β)) (j:Nat),(kv.map (·.1)).Nodup→(kv.findIdx? fun p=>decide (p.1=k))=some j→kv.modify j (fun _=>(k,v))=kv.map fun p=>if p.1=k then (k,v) else p
 | [],j,_,h=>by simp at h
 | p :: kv,j,hn,h=>by
  rw [List.findIdx?_cons] at h
  by_cases hp:p.1=k
  ·simp only [hp,decide_true,if_true,Option.some.injEq] at h
   subst h
   simp only [List.map_cons,List.nodup_cons] at hn
   simp only [List.modify_zero_cons,List.map_cons,hp,if_true,List.cons.injEq,true_and]
   conv=>lhs; rw [← List.map_id kv]
   apply List.map_congr_left
   intro q hq
   have hqk:q.1≠k:=fun e=>hn.1 (by rw [hp,← e]; exact List.mem_map_of_mem hq)
   simp [hqk]
  ·simp only [hp,decide_false,Bool.false_eq_true,if_false,Option.map_eq_some_iff] at h
   obtain ⟨j',h,rfl⟩:=h
   simp only [List.map_cons,List.nodup_cons] at hn
   simp only [List.modify_succ_cons,List.map_cons,hp,if_false,map_put k v kv j' hn.2 h]
theorem run_mapUpdate {t e:TypeId} (ht:P.underlying t=some (.map K.ty e)) (h:IsMap K cv w b kv) (k:κ) (v:β) :
  ∃ w',(Instr.mapUpdate t (.map (some b)) (K.kf k) (cv v)).run P w=.ok () w'∧IsMap K cv w' b (putKv kv k v)∧Only b w w':=by
 have hlt:=h.lt
 obtain ⟨es,c,hb,hes,hnd,hst⟩:=h
 have hg:(Instr.checkKey false 10000 K.ty (K.kf k)).run P w=.ok () w:=K.plain k w 9999 _
 have hf:=run_findKey (P:=P) (K:=K) es hes k w
 unfold Instr.mapUpdate
 rw [Sem.run_bind,run_underlying ht w]
 simp only [Result.andThen_ok]
 simp only [Sem.run_bind,getObj,Sem.run,hb,Result.andThen_ok,Sem.run_pure,hg,hf]
 have hlen:es.toList.length=kv.length:=by have:=congrArg List.length hes; simpa using this
 cases hi:kv.findIdx? fun p=>decide (p.1=k) with
 | none =>
  have hno:=(findIdx_none kv k).1 hi
  refine ⟨setMap w b (es.push { key:=K.kf k,val:=cv v,born:=c }) (c+1),?_,⟨_,_,setMap_at _ _ hlt,?_,?_,hst.push _ _⟩,setMap_only _ _ _ _⟩
  ·simp [setObj,Sem.run,hb,setMap]
  ·simp [putKv,hno,hes]
  ·simp only [putKv,hno,Bool.false_eq_true,if_false,List.map_append,List.map_cons,List.map_nil]
   rw [List.nodup_append]
   refine ⟨hnd,by simp,fun a ha b' hb'=>?_⟩
   simp at hb'
   subst hb'
   rintro rfl
   rw [(hasKv_iff kv a).2 ha] at hno
   cases hno
 | some j =>
  obtain ⟨hj,hjk,_⟩:=List.findIdx?_eq_some_iff_getElem.1 hi
  have hhas:hasKv kv k=true:=by
   cases hh:hasKv kv k with
   | true=>rfl
   | false=>rw [(findIdx_none kv k).2 hh] at hi; cases hi
  have hjk':kv[j].1=k:=by simpa using hjk
  have hje:j<es.size:=by have:=hlen; simp at this; omega
  have hkey:es[j].key=K.kf k:=by
   have h1:=congrArg (fun l=>l[j]?) hes
   simp [hj,hje] at h1
   rw [h1.1,hjk']
  have hbits:Instr.sameBits 10000 (K.kf k) (K.kf k)=true:=K.bits k 9999
  refine ⟨setMap w b (es.modify j fun e=>{ e with key:=K.kf k,val:=cv v }) c,?_,⟨_,_,setMap_at _ _ hlt,?_,?_,hst.modify _ _ _⟩,setMap_only _ _ _ _⟩
  ·simp [hj,hje,Instr.keyThatStays,hkey,hbits,Sem.run_bind,setObj,Sem.run,hb,setMap]
  ·rw [putKv,if_pos hhas,← map_put k v kv j hnd hi]
   apply List.ext_getElem?
   intro i
   have h1:=congrArg (fun l=>l[i]?) hes
   simp only [List.getElem?_map,Array.getElem?_toList] at h1
   simp only [List.getElem?_map,Array.getElem?_toList,Array.getElem?_modify,List.getElem?_modify]
   by_cases hij:j=i
   ·subst hij
    simp [hj,hje]
   ·simp only [hij,if_false]
    simpa using h1
  ·rw [putKv,if_pos hhas]
   have:(kv.map fun p=>if p.1=k then (k,v) else p).map (·.1)=kv.map (·.1):=by
    rw [List.map_map]
    apply List.map_congr_left
    intro p _
    by_cases hp:p.1=k <;> simp [hp]
   rw [this]
   exact hnd
theorem run_len_map {t:TypeId} {e ty:TypeId} (ht:P.underlying t=some (.map K.ty e)) (h:IsMap K cv w b kv):(Builtin.len_ #[t] ty #[.map (some b)]).run P w=.ok (.int .i64 kv.length) w:=by
 obtain ⟨es,c,hb,hes,_⟩:=h
 have hlen:es.size=kv.length:=by have:=congrArg List.length hes; simpa using this
 simp [Builtin.len_,run_underlying ht,Sem.run_bind,getObj,Sem.run,hb,goInt,hlen]
end
section
variable {P:Program} {κ β:Type} [DecidableEq κ] {cv:β→Value} {K:KeyKind P κ} {w:World} {ops:Array Oper} {rest:List Oper} {o:Oper} {a:Act} {Q:Exit→Act→World→Prop} {b:Nat} {kv:List (κ×β)}
theorem wpList_mapUpdate_kv (hg:o.guard=none) (m x v:Operand) (t:TypeId) (hop:o.op=Op.mapUpdate t m x v) {e:TypeId} (ht:P.underlying t=some (.map K.ty e)) (h:IsMap K cv w b kv) (k:κ)
  (y:β) (hm:a.eval m=.map (some b)) (hx:a.eval x=K.kf k) (hv:a.eval v=cv y) (hK:∀ w',IsMap K cv w' b (putKv kv k y)→Only b w w'→wpList P ops Q rest (a.put o.dst undef) w'):wpList P ops Q (o :: rest) a w:=by
 refine wpList_plain hg fun K' hK'=>?_
 obtain ⟨w',hrun,r1,r2⟩:=run_mapUpdate ht h k y
 unfold Oper.wp
 simp [execOp,hop,hm,hx,hv,hrun,Result.andThen]
 exact hK' _ _ (hK w' r1 r2)
theorem wpList_lookup_kv (hg:o.guard=none) (m x:Operand) (t:TypeId) (hop:o.op=Op.lookup t m x true) {e:TypeId} (ht:P.underlying t=some (.map K.ty e)) (h:IsMap K cv w b kv) (k:κ) {z:Value} (hz:(zeroValue e).run P w=.ok z w)
  (hm:a.eval m=.map (some b)) (hx:a.eval x=K.kf k) (hK:wpList P ops Q rest (a.put o.dst (.tuple #[((getKv kv k).map cv).getD z,.bool (getKv kv k).isSome])) w):wpList P ops Q (o :: rest) a w:=by
 refine wpList_plain hg fun K' hK'=>?_
 have hrun:=run_lookup_ok ht h k hz
 unfold Oper.wp
 simp [execOp,hop,hm,hx,hrun,Result.andThen]
 exact hK' _ _ hK
end
theorem ba_beq (a b:ByteArray):(a == b)=true↔a=b:=by
 rw [beq_toListBytes,ByteArray.toList_eq,ByteArray.toList_eq,beq_iff_eq]
 exact ⟨Go.WideShapes.bytes_inj,fun h=>by rw [h]⟩
def strKind {P:Program} {ty:TypeId} (h:P.underlying ty=some .string):KeyKind P ByteArray where
 kf s:=.string s
 ty:=ty
 desc:=.string
 und:=h
 plain k w n e:=by simp [Instr.checkKey,Sem.run_bind,run_underlying h]
 same a b:=by simp [Instr.sameNow,ba_beq]
 some_ a b:=rfl
 bits a n:=by simp [Instr.sameBits,ba_beq]
def intKind {P:Program} {ty:TypeId} (h:P.underlying ty=some (.int .i64)):KeyKind P Int where
 kf s:=.int .i64 s
 ty:=ty
 desc:=.int .i64
 und:=h
 plain k w n e:=by simp [Instr.checkKey,Sem.run_bind,run_underlying h]
 same a b:=by simp [Instr.sameNow]
 some_ a b:=rfl
 bits a n:=by simp [Instr.sameBits]
end Go.Proofs.YtfhfcipelgogjaaGreatDoor
namespace Go.Proofs.YtfhfcipelgogjaaGreatDoor
open Go.RowKit Go.ChangeMaps
section
variable {P:Program} {κ β:Type} [DecidableEq κ] {cv:β→Value}
def MapIt (K:KeyKind P κ) (cv:β→Value) (w:World) (r b:Nat) (kv left:List (κ×β)):Prop:=
 ∃ es clock since seen c0,w.heap[b]?=some (.map es clock)∧es.toList.map (fun e=>(e.key,e.val))=kv.map (fun p=>(K.kf p.1,cv p.2))∧(kv.map (·.1)).Nodup∧Stamped es clock ∧
  w.heap[r]?=some (.mapIter (some b) since seen c0)∧(∀ x∈es.toList,x.born<since)∧since≤c0∧since≤clock ∧
  (leftOf es seen).toList.map (fun e=>(e.key,e.val))=left.map (fun p=>(K.kf p.1,cv p.2))
variable {K:KeyKind P κ} {w w':World} {b r:Nat} {kv left:List (κ×β)}
theorem MapIt.isMap (h:MapIt K cv w r b kv left):IsMap K cv w b kv:=by
 obtain ⟨es,c,_,_,_,h1,h2,h3,h4,_⟩:=h
 exact ⟨es,c,h1,h2,h3,h4⟩
theorem MapIt.lt (h:MapIt K cv w r b kv left):r<w.heap.size:=by
 obtain ⟨_,_,_,_,_,_,_,_,_,hr,_⟩:=h
 exact (Array.getElem?_eq_some_iff.1 hr).1
theorem MapIt.ne (h:MapIt K cv w r b kv left):r≠b:=by
 obtain ⟨_,_,_,_,_,hb,_,_,_,hr,_⟩:=h
 rintro rfl
 rw [hb] at hr
 cases hr
theorem MapIt.of_blocks (h:MapIt K cv w r b kv left) (e:w'.heap[b]?=w.heap[b]?) (e':w'.heap[r]?=w.heap[r]?):MapIt K cv w' r b kv left:=by
 obtain ⟨es,c,since,seen,c0,hb,h1,h2,h3,hr,rest⟩:=h
 exact ⟨es,c,since,seen,c0,e.trans hb,h1,h2,h3,e'.trans hr,rest⟩
theorem MapIt.keeps {M:Nat→Prop} (h:MapIt K cv w r b kv left) (hk:Keeps M w w') (hb:M b) (hr:M r):MapIt K cv w' r b kv left:=h.of_blocks (hk b hb) (hk r hr)
theorem MapIt.alloc (h:MapIt K cv w r b kv left) (o:Obj):MapIt K cv (w.alloc o) r b kv left:=h.of_blocks (Below.heap_alloc w o b h.isMap.lt) (Below.heap_alloc w o r h.lt)
theorem MapIt.over_ (h:MapIt K cv w r b kv left) (δ:World):MapIt K cv (over w δ) r b kv left:=h.of_blocks (over_heap_lt h.isMap.lt) (over_heap_lt h.lt)
theorem MapIt.grown {row:Option Nat} (h:MapIt K cv w r b kv left) (hb:w.grownBy w' row) (hg:some b≠row) (hr:some r≠row):MapIt K cv w' r b kv left:=h.of_blocks (hb.block b h.isMap.lt hg) (hb.block r h.lt hr)
theorem leftOf_nil (es:Array MapEntry):leftOf es #[]=es:=by simp [leftOf]
theorem range_start {t e:TypeId} (ht:P.underlying t=some (.map K.ty e)) (h:IsMap K cv w b kv) :
  ∃ w',(Instr.range t (.map (some b))).run P w=.ok (.pointer (some ⟨w.heap.size,0,none⟩)) w'∧MapIt K cv w' w.heap.size b kv kv∧w.grownBy w' none∧w'.heap.size=w.heap.size+1:=by
 have hlt:=h.lt
 obtain ⟨es,clock,hb,h1,h2,h3⟩:=h
 refine ⟨_,run_range_map w t K.ty e b es clock ht hb,⟨es,clock,clock,#[],clock,((MapKept.heap_alloc w _).2 b hlt).trans hb,h1,h2,h3,(MapKept.heap_alloc w _).1,h3.1,Nat.le_refl _,Nat.le_refl _,by rw [leftOf_nil]; exact h1⟩,World.grownBy_alloc w _ none,by simp⟩
theorem leftOf_push {es:Array MapEntry} (seen:Array Nat) (n:Nat):leftOf es (seen.push n)=(leftOf es seen).filter fun x=>!(x.born == n):=by
 unfold leftOf
 rw [Array.filter_filter]
 congr 1
 funext x
 rw [contains_push]
 cases seen.contains x.born <;> cases (x.born == n) <;> rfl
theorem filter_pairs:∀ (l:List MapEntry) (left:List (κ×β)) (e:MapEntry),(l.map (·.born)).Nodup→e∈l→l.map (fun e=>(e.key,e.val))=left.map (fun p=>(K.kf p.1,cv p.2)) →
  ∃ p left',e.key=K.kf p.1∧e.val=cv p.2∧left.Perm (p :: left')∧(l.filter fun x=>!(x.born == e.born)).map (fun e=>(e.key,e.val))=left'.map (fun p=>(K.kf p.1,cv p.2))
 | [],_,e,_,he,_=>by simp at he
 | x :: l,left,e,hn,he,h=>by
  cases left with
  | nil=>simp at h
  | cons q left =>
   simp only [List.map_cons,List.cons.injEq,Prod.mk.injEq] at h
   obtain ⟨⟨h1,h2⟩,h3⟩:=h
   simp only [List.map_cons,List.nodup_cons] at hn
   by_cases hx:x.born=e.born
   ·have hex:e=x:=by
     rcases List.mem_cons.1 he with rfl | he
     ·rfl
     ·exact absurd (hx ▸ List.mem_map_of_mem he) hn.1
    subst hex
    refine ⟨q,left,h1,h2,List.Perm.refl _,?_⟩
    rw [List.filter_cons]
    simp only [beq_self_eq_true,Bool.not_true,Bool.false_eq_true,if_false]
    rw [← h3]
    congr 1
    rw [List.filter_eq_self]
    intro y hy
    have:y.born≠e.born:=fun ee=>hn.1 (ee ▸ List.mem_map_of_mem hy)
    simpa using this
   ·have he':e∈l:=by
     rcases List.mem_cons.1 he with rfl | he
     ·exact absurd rfl hx
     ·exact he
    obtain ⟨p,left',g1,g2,g3,g4⟩:=filter_pairs l left e hn.2 he' h3
    refine ⟨p,q :: left',g1,g2,(List.Perm.cons q g3).trans (List.Perm.swap p q left'),?_⟩
    rw [List.filter_cons]
    have:(x.born == e.born)=false:=by simpa using hx
    simp only [this,Bool.not_false,if_true,List.map_cons,h1,h2,g4]
theorem MapIt.step (h:MapIt K cv w r b kv left) (ty:TypeId) :
  (left=[]∧(Instr.next (.pointer (some ⟨r,0,none⟩)) false ty).run P w=.ok (.tuple #[.bool false]) w) ∨
  ∃ p left' w',left.Perm (p :: left')∧(Instr.next (.pointer (some ⟨r,0,none⟩)) false ty).run P w=.ok (.tuple #[.bool true,K.kf p.1,cv p.2]) w'∧MapIt K cv w' r b kv left'∧w.grownBy w' (some r)∧w'.heap.size=w.heap.size ∧
   (Instr.entry (.pointer (some ⟨r,0,none⟩))).run P w'=.ok (.tuple #[K.kf p.1,cv p.2]) w':=by
 have hne:=h.ne
 obtain ⟨es,clock,since,seen,c0,hb,hes,hnd,hst,hr,hold,hsc,hsk,hleft⟩:=h
 rcases run_next_at (P:=P) w ty r b since c0 seen es clock hr hb hold hsc with ⟨h0,hrun⟩ | ⟨e,he,w1,hal,hrun⟩
 ·refine Or.inl ⟨?_,hrun⟩
  have:=congrArg List.length hleft
  simp at this
  exact List.eq_nil_of_length_eq_zero (by omega)
 ·obtain ⟨hem,hesn⟩:=mem_left he
  have hnl:((leftOf es seen).toList.map (·.born)).Nodup:=by
   unfold leftOf
   rw [Array.toList_filter]
   exact List.Nodup.sublist (List.Sublist.map _ List.filter_sublist) hst.2
  obtain ⟨p,left',g1,g2,g3,g4⟩:=filter_pairs (K:=K) (cv:=cv) _ left e hnl he hleft
  have hr1:w1.heap[r]?=some (.mapIter (some b) since seen c0):=by rcases hal with rfl | rfl <;> exact hr
  have hb1:w1.heap[b]?=some (.map es clock):=by rcases hal with rfl | rfl <;> exact hb
  have hset:=MapKept.heap_set (o':=.mapIter (some b) since (seen.push e.born) clock) hr1
  have hb':(setBlock w1 r (.mapIter (some b) since (seen.push e.born) clock)).heap[b]?=some (.map es clock):=(hset.2 b (fun e1=>hne e1.symm)).trans hb1
  rw [g1,g2] at hrun
  refine Or.inr ⟨p,left',_,g3,hrun,⟨es,clock,since,seen.push e.born,clock,hb',hes,hnd,hst,hset.1,hold,hsk,hsk,?_⟩,?_,?_,?_⟩
  ·rw [leftOf_push,Array.toList_filter]; exact g4
  ·rcases hal with rfl | rfl <;> exact ⟨rfl,rfl,rfl,by simp [setBlock],fun i _ hi=>hset.2 i (fun e1=>hi (by rw [e1]))⟩
  ·rcases hal with rfl | rfl <;> simp [setBlock]
  ·have:=run_entry_at (P:=P) _ r b since seen es clock e hset.1 hb' hem hst.2
   rw [g1,g2] at this
   exact this
theorem MapIt.left_eq (h:MapIt K cv w r b kv left):w.rangeLeft b r=left.length:=by
 obtain ⟨es,clock,since,seen,c0,hb,_,_,_,hr,_,_,_,hl⟩:=h
 simp only [World.rangeLeft,hb,hr]
 have:=congrArg List.length hl
 simpa using this
end
section
variable {P:Program} {κ β:Type} [DecidableEq κ] {cv:β→Value} {K:KeyKind P κ} {w:World} {ops:Array Oper} {rest:List Oper} {o:Oper} {a:Act} {Q:Exit→Act→World→Prop} {b r:Nat} {kv left:List (κ×β)}
theorem wpList_range_kv (hg:o.guard=none) (m:Operand) (t:TypeId) (hop:o.op=Op.range t m) {e:TypeId} (ht:P.underlying t=some (.map K.ty e)) (h:IsMap K cv w b kv) (hm:a.eval m=.map (some b))
  (hK:∀ w',MapIt K cv w' w.heap.size b kv kv→w.grownBy w' none→w'.heap.size=w.heap.size+1→wpList P ops Q rest (a.put o.dst (.pointer (some ⟨w.heap.size,0,none⟩))) w'):wpList P ops Q (o :: rest) a w:=by
 refine wpList_plain hg fun K' hK'=>?_
 obtain ⟨w',hrun,r1,r2,r3⟩:=range_start ht h
 unfold Oper.wp
 simp [execOp,hop,hm,hrun,Result.andThen]
 exact hK' _ _ (hK w' r1 r2 r3)
theorem wpList_next_kv (hg:o.guard=none) (it:Operand) (hop:o.op=Op.next it false) (hit:a.eval it=.pointer (some ⟨r,0,none⟩)) (h:MapIt K cv w r b kv left)
  (hDone:left=[]→wpList P ops Q rest (a.put o.dst (.tuple #[.bool false])) w)
  (hMore:∀ k v left' w',left.Perm ((k,v) :: left')→MapIt K cv w' r b kv left'→w.grownBy w' (some r)→w'.heap.size=w.heap.size→(Instr.entry (.pointer (some ⟨r,0,none⟩))).run P w'=.ok (.tuple #[K.kf k,cv v]) w' →
   wpList P ops Q rest (a.put o.dst (.tuple #[.bool true,K.kf k,cv v])) w'):wpList P ops Q (o :: rest) a w:=by
 refine wpList_plain hg fun K' hK'=>?_
 unfold Oper.wp
 rcases h.step o.type with ⟨h0,hrun⟩ | ⟨⟨k,v⟩,left',w',h1,hrun,h2,h3,h4,h5⟩
 ·simp [execOp,hop,hit,hrun,Result.andThen]
  exact hK' _ _ (hDone h0)
 ·simp [execOp,hop,hit,hrun,Result.andThen]
  exact hK' _ _ (hMore k v left' w' h1 h2 h3 h4 h5)
end
section
variable {P:Program} {κ β α:Type} [DecidableEq κ] {cv:β→Value} {K:KeyKind P κ} {w:World} {b r:Nat} {kv left:List (κ×β)} {s:Shape α} {e:TypeId} {base:Nat} {M:Nat→Prop} {v:Value} {l:List α}
theorem Own.at_block (h:Own s e w base M v l) {g:Nat} (hg:v.ownBlock=some g):∃ cs fr,w.heap[g]?=some (.cells cs e fr):=by
 obtain ⟨xs,h,_⟩:=h
 rcases h.2 with ⟨rfl,_⟩ | ⟨g',cap,cur,rfl,_,hh,_⟩
 ·cases hg
 ·have:g'=g:=by simpa [Value.ownBlock] using hg
  subst this
  exact ⟨_,_,hh⟩
theorem IsMap.ne_own (h:IsMap K cv w b kv) (ho:Own s e w base M v l):some b≠v.ownBlock:=by
 intro hb
 obtain ⟨cs,fr,hh⟩:=ho.at_block hb.symm
 obtain ⟨es,c,hm,_⟩:=h
 rw [hm] at hh; cases hh
theorem MapIt.ne_own (h:MapIt K cv w r b kv left) (ho:Own s e w base M v l):some r≠v.ownBlock:=by
 intro hb
 obtain ⟨cs,fr,hh⟩:=ho.at_block hb.symm
 obtain ⟨_,_,_,_,_,_,_,_,_,hr,_⟩:=h
 rw [hr] at hh; cases hh
theorem perm_next {γ:Type} {done left left' kv:List γ} {p:γ} (h:(done++left).Perm kv) (h':left.Perm (p :: left')):((done++[p])++left').Perm kv:=by
 refine List.Perm.trans ?_ h
 rw [List.append_assoc]
 exact List.Perm.append_left _ h'.symm
end
end Go.Proofs.YtfhfcipelgogjaaGreatDoor
namespace Go.Proofs.YtfhfcipelgogjaaGreatDoor
open Go.RowKit
section
variable {P:Program} {κ β:Type} [DecidableEq κ] {cv:β→Value} {K:KeyKind P κ} {w:World} {ops:Array Oper} {rest:List Oper} {o:Oper} {a:Act} {Q:Exit→Act→World→Prop} {b:Nat} {kv:List (κ×β)}
theorem run_lookup_kv0 {t e:TypeId} (ht:P.underlying t=some (.map K.ty e)) (h:IsMap K cv w b kv) (k:κ) {z:Value} (hz:(zeroValue e).run P w=.ok z w) :
  (Instr.lookup t (.map (some b)) (K.kf k) false).run P w=.ok (((getKv kv k).map cv).getD z) w:=by
 obtain ⟨es,c,hb,hes,_⟩:=h
 unfold Instr.lookup
 rw [Sem.run_bind,run_underlying ht w]
 simp only [Result.andThen_ok]
 have hg:(Instr.checkKey es.isEmpty 10000 K.ty (K.kf k)).run P w=.ok () w:=K.plain k w 9999 _
 have hf:=run_findKey (P:=P) (K:=K) es hes k w
 rw [← findIdx_get]
 simp only [Sem.run_bind,getObj,Sem.run,hb,Result.andThen_ok,Sem.run_pure,hg,hf]
 cases hi:kv.findIdx? fun p=>decide (p.1=k) with
 | none=>simp [hz,Sem.run_bind]
 | some j =>
  have hj:j<kv.length:=by
   have:=List.findIdx?_eq_some_iff_getElem.1 hi
   obtain ⟨h,_⟩:=this
   exact h
  simp [hj,Sem.run_bind]
theorem wpList_lookup_kv0 (hg:o.guard=none) (m x:Operand) (t:TypeId) (hop:o.op=Op.lookup t m x false) {e:TypeId} (ht:P.underlying t=some (.map K.ty e)) (h:IsMap K cv w b kv) (k:κ) {z:Value} (hz:(zeroValue e).run P w=.ok z w)
  (hm:a.eval m=.map (some b)) (hx:a.eval x=K.kf k) (hK:wpList P ops Q rest (a.put o.dst (((getKv kv k).map cv).getD z)) w):wpList P ops Q (o :: rest) a w:=by
 refine wpList_plain hg fun K' hK'=>?_
 have hrun:=run_lookup_kv0 ht h k hz
 unfold Oper.wp
 simp [execOp,hop,hm,hx,hrun,Result.andThen]
 exact hK' _ _ hK
end
end Go.Proofs.YtfhfcipelgogjaaGreatDoor
namespace Go.Proofs.YtfhfcipelgogjaaGreatDoor
open Go.RowKit
section
variable {κ β:Type} [DecidableEq κ]
theorem del_erase (k:κ):∀ (kv:List (κ×β)) (j:Nat),(kv.map (·.1)).Nodup→(kv.findIdx? fun p=>decide (p.1=k))=some j→kv.eraseIdx j=delKv kv k
 | [],j,_,h=>by simp at h
 | p :: kv,j,hn,h=>by
  rw [List.findIdx?_cons] at h
  simp only [List.map_cons,List.nodup_cons] at hn
  by_cases hp:p.1=k
  ·simp only [hp,decide_true,if_true,Option.some.injEq] at h
   subst h
   unfold delKv
   rw [List.eraseIdx_cons_zero,List.filter_cons_of_neg (by simpa using hp),eq_comm]
   apply List.filter_eq_self.2
   intro q hq
   have hqk:q.1≠k:=fun e=>hn.1 (by rw [hp,← e]; exact List.mem_map_of_mem hq)
   simpa using hqk
  ·simp only [hp,decide_false,Bool.false_eq_true,if_false,Option.map_eq_some_iff] at h
   obtain ⟨j',h,rfl⟩:=h
   have ih:=del_erase k kv j' hn.2 h
   unfold delKv at *
   rw [List.eraseIdx_cons_succ,ih,List.filter_cons_of_pos (by simpa using hp)]
theorem del_none (k:κ) (kv:List (κ×β)) (h:(kv.findIdx? fun p=>decide (p.1=k))=none):delKv kv k=kv:=by
 unfold delKv
 apply List.filter_eq_self.2
 intro q hq
 have:=List.findIdx?_eq_none_iff.1 h q hq
 simpa using this
theorem delKv_nodup {kv:List (κ×β)} (h:(kv.map (·.1)).Nodup) (k:κ):((delKv kv k).map (·.1)).Nodup:=
 h.sublist (List.filter_sublist.map _)
end
theorem Stamped.erase {es:Array MapEntry} {clock:Nat} (h:Stamped es clock) (j:Nat):Stamped (es.eraseIdxIfInBounds j) clock:=by
 have e:(es.eraseIdxIfInBounds j).toList=es.toList.eraseIdx j:=by simp
 unfold Stamped
 rw [e]
 refine ⟨fun x hx=>h.1 x (List.mem_of_mem_eraseIdx hx),?_⟩
 exact h.2.sublist ((List.eraseIdx_sublist _ _).map _)
section
variable {P:Program} {κ β:Type} [DecidableEq κ] {cv:β→Value} {K:KeyKind P κ} {w w':World} {b:Nat} {kv:List (κ×β)}
def erasedAt (kv:List (κ×β)) (k:κ) (es:Array MapEntry):Array MapEntry:=match kv.findIdx? fun p=>decide (p.1=k) with | some j=>es.eraseIdxIfInBounds j | none=>es
theorem run_delete_raw {t e kt ty:TypeId} (ht:P.underlying t=some (.map K.ty e)) {es:Array MapEntry} {c:Nat} (hb:w.heap[b]?=some (.map es c)) (hes:es.toList.map (fun e=>(e.key,e.val))=kv.map (fun p=>(K.kf p.1,cv p.2))) (k:κ) :
  (Builtin.delete_ #[t,kt] ty #[.map (some b),K.kf k]).run P w=.ok (.tuple #[]) (setMap w b (erasedAt kv k es) c):=by
 unfold erasedAt
 have hg:(Instr.checkKey es.isEmpty 10000 K.ty (K.kf k)).run P w=.ok () w:=K.plain k w 9999 _
 have hf:=run_findKey (P:=P) (K:=K) es hes k w
 cases hi:kv.findIdx? fun p=>decide (p.1=k) with
 | none =>
  rw [hi] at hf
  simp only [Option.bind_none] at hf
  simp [Builtin.delete_,run_underlying ht,Sem.run_bind,getObj,setObj,Sem.run,hb,setMap,hg,hf]
 | some j =>
  have hj:j<kv.length:=by
   have:=List.findIdx?_eq_some_iff_getElem.1 hi
   exact this.1
  rw [hi] at hf
  simp only [Option.bind_some,List.getElem?_eq_getElem hj,Option.map_some] at hf
  simp [Builtin.delete_,run_underlying ht,Sem.run_bind,getObj,setObj,Sem.run,hb,setMap,hg,hf]
theorem map_erase {α γ:Type} (f:α→γ):∀ (l:List α) (j:Nat),(l.eraseIdx j).map f=(l.map f).eraseIdx j
 | [],_=>rfl
 | _ :: _,0=>rfl
 | a :: l,j+1=>by rw [List.eraseIdx_cons_succ,List.map_cons,map_erase f l j]; rfl
theorem erase_pairs {es:Array MapEntry} (hes:es.toList.map (fun e=>(e.key,e.val))=kv.map (fun p=>(K.kf p.1,cv p.2))) (hnd:(kv.map (·.1)).Nodup) (k:κ) :
  (erasedAt kv k es).toList.map (fun e=>(e.key,e.val))=(delKv kv k).map (fun p=>(K.kf p.1,cv p.2)):=by
 unfold erasedAt
 cases hi:kv.findIdx? fun p=>decide (p.1=k) with
 | none=>rw [del_none k kv hi]; exact hes
 | some j =>
  rw [← del_erase k kv j hnd hi]
  have e:(es.eraseIdxIfInBounds j).toList=es.toList.eraseIdx j:=by simp
  simp only
  rw [e,map_erase,map_erase,hes]
theorem run_delete_map {t e kt ty:TypeId} (ht:P.underlying t=some (.map K.ty e)) (h:IsMap K cv w b kv) (k:κ) :
  ∃ w',(Builtin.delete_ #[t,kt] ty #[.map (some b),K.kf k]).run P w=.ok (.tuple #[]) w'∧IsMap K cv w' b (delKv kv k)∧Only b w w':=by
 have hlt:=h.lt
 obtain ⟨es,c,hb,hes,hnd,hst⟩:=h
 refine ⟨_,run_delete_raw ht hb hes k,⟨_,_,setMap_at _ _ hlt,erase_pairs hes hnd k,delKv_nodup hnd k,?_⟩,setMap_only _ _ _ _⟩
 unfold erasedAt
 split
 ·exact hst.erase _
 ·exact hst
end
section
variable {P:Program} {κ β:Type} [DecidableEq κ] {cv:β→Value} {K:KeyKind P κ} {w:World} {ops:Array Oper} {rest:List Oper} {o:Oper} {a:Act} {Q:Exit→Act→World→Prop} {b:Nat} {kv:List (κ×β)}
theorem wpList_delete_kv (hg:o.guard=none) (m x:Operand) (t kt:TypeId) (hop:o.op=.call { callee:=.builtin .delete,args:=#[m,x],argTypes:=#[t,kt] }) {e:TypeId} (ht:P.underlying t=some (.map K.ty e)) (h:IsMap K cv w b kv) (k:κ)
  (hm:a.eval m=.map (some b)) (hx:a.eval x=K.kf k) (hK:∀ w',IsMap K cv w' b (delKv kv k)→Only b w w'→wpList P ops Q rest (a.put o.dst (.tuple #[])) w'):wpList P ops Q (o :: rest) a w:=by
 refine wpList_plain hg fun K' hK'=>?_
 obtain ⟨w',hrun,r1,r2⟩:=run_delete_map (kt:=kt) (ty:=o.type) ht h k
 unfold Oper.wp execOp
 simp only [hop,resolve,invoke,builtin,Sem.run_bind,Sem.run_pure,Result.andThen_ok,List.map_toArray,List.map_cons,List.map_nil,hm,hx,hrun]
 exact hK' _ _ (hK w' r1 r2)
end
end Go.Proofs.YtfhfcipelgogjaaGreatDoor
