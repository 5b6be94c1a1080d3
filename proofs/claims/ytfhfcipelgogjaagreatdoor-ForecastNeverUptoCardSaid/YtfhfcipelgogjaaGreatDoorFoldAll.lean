/- Maps whose keys are pointers: the key is a block's number. A copy of Map's laws over a wider kind of key. No condition. forecast's put-off jobs in memory: a map of things to jobs; the fold's invariant. No code. forecast's fold: its invariant, what an apply does (the model). No code. forecast's fold: steps on the invariant: a fresh thing, a put, a drop, a job put off. No code. A range over a map whose keys are pointers, as over a list of pairs in whatever order. A copy of MapIt's laws. No condition. -/
import Derived.Test.YtfhfcipelgogjaaGreatDoorMapAll
import Derived.LaidEqlPtr
import Derived.Test.YtfhfcipelgogjaaGreatDoorThingAll
import Derived.Maps.RangeWalk
set_option linter.unusedSectionVars false
set_option linter.unusedVariables false
set_option linter.unusedSimpArgs false
namespace Go.Proofs.YtfhfcipelgogjaaGreatDoor
open Go.RowKit
structure KeyP (P:Program) (κ:Type) [DecidableEq κ] where
 kf:κ→Value
 ty:TypeId
 ok:κ→World→Prop
 plain:∀ k w n e,(Instr.checkKey e (n+1) ty (kf k)).run P w=.ok () w
 find:∀ (β:Type) (cv:β→Value) (kv:List (κ×β)) (es:Array MapEntry),es.toList.map (fun e=>(e.key,e.val))=kv.map (fun p=>(kf p.1,cv p.2))→∀ (k:κ) (w:World),ok k w→(∀ p∈kv,ok p.1 w) →
  (Instr.findKey ty (kf k) es.toList).run P w=.ok ((kv.findIdx? fun p=>decide (p.1=k)).bind fun j=>(kv[j]?).map fun p=>(j,cv p.2)) w
 bits:∀ a n,Instr.sameBits (n+1) (kf a) (kf a)=true
section
variable {P:Program} {κ β:Type} [DecidableEq κ] {cv:β→Value}
def IsMapP (K:KeyP P κ) (cv:β→Value) (w:World) (b:Nat) (kv:List (κ×β)):Prop:=
 ∃ es clock,w.heap[b]?=some (.map es clock)∧es.toList.map (fun e=>(e.key,e.val))=kv.map (fun p=>(K.kf p.1,cv p.2))∧(kv.map (·.1)).Nodup∧Stamped es clock
variable {K:KeyP P κ} {w w':World} {b:Nat} {kv:List (κ×β)}
theorem IsMapP.lt (h:IsMapP K cv w b kv):b<w.heap.size:=by
 obtain ⟨es,c,hb,_⟩:=h
 rcases Nat.lt_or_ge b w.heap.size with hlt | hge
 ·exact hlt
 ·rw [Array.getElem?_eq_none hge] at hb; cases hb
theorem IsMapP.of_block (h:IsMapP K cv w b kv) (e:w'.heap[b]?=w.heap[b]?):IsMapP K cv w' b kv:=by
 obtain ⟨es,c,hb,r⟩:=h
 exact ⟨es,c,e.trans hb,r⟩
theorem IsMapP.keeps {M:Nat→Prop} (h:IsMapP K cv w b kv) (hk:Keeps M w w') (hb:M b):IsMapP K cv w' b kv:=h.of_block (hk b hb)
theorem IsMapP.alloc (h:IsMapP K cv w b kv) (o:Obj):IsMapP K cv (w.alloc o) b kv:=h.of_block (Below.heap_alloc w o b h.lt)
theorem IsMapP.over_ (h:IsMapP K cv w b kv) (δ:World):IsMapP K cv (over w δ) b kv:=h.of_block (over_heap_lt h.lt)
theorem IsMapP.far (h:IsMapP K cv w b kv) {p:Addr} (hp:b≠p.block) (u:Value):IsMapP K cv (w.setCell p u) b kv:=h.of_block (Below.heap_setCell w p u b hp)
theorem IsMapP.grown {row:Option Nat} (h:IsMapP K cv w b kv) (hb:w.grownBy w' row) (hg:some b≠row):IsMapP K cv w' b kv:=h.of_block (hb.block b h.lt hg)
theorem IsMapP.ne_blk {g:Nat} {t:TypeId} {cs:Array Value} (h:IsMapP K cv w b kv) (hg:Blk w g t cs):b≠g:=by
 rintro rfl
 obtain ⟨es,c,hb,_⟩:=h
 unfold Blk at hg
 rw [hb] at hg
 cases hg
theorem IsMapP.new (K:KeyP P κ) (cv:β→Value) (w:World):IsMapP K cv (w.alloc (.map #[] 0)) w.heap.size ([]:List (κ×β)):=⟨#[],0,heap_alloc_new w _,rfl,List.nodup_nil,Stamped.nil _⟩
theorem run_mapUpdateP {t e:TypeId} (ht:P.underlying t=some (.map K.ty e)) (h:IsMapP K cv w b kv) (k:κ) (hok:K.ok k w) (hoks:∀ p∈kv,K.ok p.1 w) (v:β) :
  ∃ w',(Instr.mapUpdate t (.map (some b)) (K.kf k) (cv v)).run P w=.ok () w'∧IsMapP K cv w' b (putKv kv k v)∧Only b w w':=by
 have hlt:=h.lt
 obtain ⟨es,c,hb,hes,hnd,hst⟩:=h
 have hg:(Instr.checkKey false 10000 K.ty (K.kf k)).run P w=.ok () w:=K.plain k w 9999 _
 have hf:=K.find _ cv kv es hes k w hok hoks
 unfold Instr.mapUpdate
 rw [Sem.run_bind,run_underlying ht w]
 simp only [Result.andThen_ok]
 simp only [Sem.run_bind,getObj,Sem.run,hb,Result.andThen_ok,Sem.run_pure,hg,hf]
 have hlen:es.toList.length=kv.length:=by have:=congrArg List.length hes; simpa using this
 cases hi:kv.findIdx? fun p=>decide (p.1=k) with
 | none =>
  have hno:=(findIdx_none kv k).1 hi
  refine ⟨setMap w b (es.push { key:=K.kf k,val:=cv v,born:=c }) (c+1),?_,⟨_,_,setMap_at _ _ hlt,?_,?_,hst.push _ _⟩,setMap_only _ _ _ _⟩
  ·simp [setObj,Sem.run,hb,setMap]
  ·simp [putKv,hno,hes]
  ·simp only [putKv,hno,Bool.false_eq_true,if_false,List.map_append,List.map_cons,List.map_nil]
   rw [List.nodup_append]
   refine ⟨hnd,by simp,fun a ha b' hb'=>?_⟩
   simp at hb'
   subst hb'
   rintro rfl
   rw [(hasKv_iff kv a).2 ha] at hno
   cases hno
 | some j =>
  obtain ⟨hj,hjk,_⟩:=List.findIdx?_eq_some_iff_getElem.1 hi
  have hhas:hasKv kv k=true:=by
   cases hh:hasKv kv k with
   | true=>rfl
   | false=>rw [(findIdx_none kv k).2 hh] at hi; cases hi
  have hjk':kv[j].1=k:=by simpa using hjk
  have hje:j<es.size:=by have:=hlen; simp at this; omega
  have hkey:es[j].key=K.kf k:=by
   have h1:=congrArg (fun l=>l[j]?) hes
   simp [hj,hje] at h1
   rw [h1.1,hjk']
  have hbits:Instr.sameBits 10000 (K.kf k) (K.kf k)=true:=K.bits k 9999
  refine ⟨setMap w b (es.modify j fun e=>{ e with key:=K.kf k,val:=cv v }) c,?_,⟨_,_,setMap_at _ _ hlt,?_,?_,hst.modify _ _ _⟩,setMap_only _ _ _ _⟩
  ·simp [hj,hje,Instr.keyThatStays,hkey,hbits,Sem.run_bind,setObj,Sem.run,hb,setMap]
  ·rw [putKv,if_pos hhas,← map_put k v kv j hnd hi]
   apply List.ext_getElem?
   intro i
   have h1:=congrArg (fun l=>l[i]?) hes
   simp only [List.getElem?_map,Array.getElem?_toList] at h1
   simp only [List.getElem?_map,Array.getElem?_toList,Array.getElem?_modify,List.getElem?_modify]
   by_cases hij:j=i
   ·subst hij
    simp [hj,hje]
   ·simp only [hij,if_false]
    simpa using h1
  ·rw [putKv,if_pos hhas]
   have:(kv.map fun p=>if p.1=k then (k,v) else p).map (·.1)=kv.map (·.1):=by
    rw [List.map_map]
    apply List.map_congr_left
    intro p _
    by_cases hp:p.1=k <;> simp [hp]
   rw [this]
   exact hnd
theorem run_lookup_kv0P {t e:TypeId} (ht:P.underlying t=some (.map K.ty e)) (h:IsMapP K cv w b kv) (k:κ) (hok:K.ok k w) (hoks:∀ p∈kv,K.ok p.1 w) {z:Value} (hz:(zeroValue e).run P w=.ok z w) :
  (Instr.lookup t (.map (some b)) (K.kf k) false).run P w=.ok (((getKv kv k).map cv).getD z) w:=by
 obtain ⟨es,c,hb,hes,_⟩:=h
 unfold Instr.lookup
 rw [Sem.run_bind,run_underlying ht w]
 simp only [Result.andThen_ok]
 have hg:(Instr.checkKey es.isEmpty 10000 K.ty (K.kf k)).run P w=.ok () w:=K.plain k w 9999 _
 have hf:=K.find _ cv kv es hes k w hok hoks
 rw [← findIdx_get]
 simp only [Sem.run_bind,getObj,Sem.run,hb,Result.andThen_ok,Sem.run_pure,hg,hf]
 cases hi:kv.findIdx? fun p=>decide (p.1=k) with
 | none=>simp [hz,Sem.run_bind]
 | some j =>
  have hj:j<kv.length:=by
   have:=List.findIdx?_eq_some_iff_getElem.1 hi
   obtain ⟨h,_⟩:=this
   exact h
  simp [hj,Sem.run_bind]
end
section
variable {P:Program} {κ β:Type} [DecidableEq κ] {cv:β→Value} {K:KeyP P κ} {w:World} {ops:Array Oper} {rest:List Oper} {o:Oper} {a:Act} {Q:Exit→Act→World→Prop} {b:Nat} {kv:List (κ×β)}
theorem wpList_mapUpdate_kvP (hg:o.guard=none) (m x v:Operand) (t:TypeId) (hop:o.op=Op.mapUpdate t m x v) {e:TypeId} (ht:P.underlying t=some (.map K.ty e)) (h:IsMapP K cv w b kv) (k:κ) (hok:K.ok k w) (hoks:∀ p∈kv,K.ok p.1 w)
  (y:β) (hm:a.eval m=.map (some b)) (hx:a.eval x=K.kf k) (hv:a.eval v=cv y) (hK:∀ w',IsMapP K cv w' b (putKv kv k y)→Only b w w'→wpList P ops Q rest (a.put o.dst undef) w'):wpList P ops Q (o :: rest) a w:=by
 refine wpList_plain hg fun K' hK'=>?_
 obtain ⟨w',hrun,r1,r2⟩:=run_mapUpdateP ht h k hok hoks y
 unfold Oper.wp
 simp [execOp,hop,hm,hx,hv,hrun,Result.andThen]
 exact hK' _ _ (hK w' r1 r2)
end
def IsVar (b:Nat) (w:World):Prop:=∃ cs t,w.heap[b]?=some (.cells cs t (0,0))
theorem Blk.isVar {w:World} {g:Nat} {t:TypeId} {cs:Array Value} (h:Blk w g t cs):IsVar g w:=⟨cs,t,h⟩
theorem equal_ptr {P:Program} {ty e:TypeId} {j:TypeInfo} (h:P.underlying ty=some (.pointer e)) (hi:P.info? e=some j) (hj:j.size≠0) {a b:Nat} {w:World} (ha:IsVar a w) (hb:IsVar b w) :
  (Op.equal ty (.pointer (some ⟨a,0,none⟩)) (.pointer (some ⟨b,0,none⟩))).run P w=.ok (decide (b=a)) w:=by
 obtain ⟨ca,ta,ha⟩:=ha
 obtain ⟨cb,tb,hb⟩:=hb
 by_cases hab:b=a
 ·subst hab
  have hd:∀ d:Nat,(Op.equalIn (d+1) ty (.pointer (some ⟨b,0,none⟩)) (.pointer (some ⟨b,0,none⟩))).run P w=.ok true w:=fun d=>by
   simp [Op.equalIn,run_underlying h,sizeOf,typeInfo,hi,run_sameAddr_same]
  have:=hd 9999
  unfold Op.equal
  rw [show Op.maxDepth=9999+1 from rfl,this]
  simp
 ·have hne:(⟨a,0,none⟩:Addr)≠⟨b,0,none⟩:=fun e=>hab (by injection e with e; exact e.symm)
  have hd:∀ d:Nat,(Op.equalIn (d+1) ty (.pointer (some ⟨a,0,none⟩)) (.pointer (some ⟨b,0,none⟩))).run P w=.ok false w:=fun d=>by
   simp [Op.equalIn,run_underlying h,sizeOf,typeInfo,hi,hj,run_sameAddr_other w hne ha hb]
  have:=hd 9999
  unfold Op.equal
  rw [show Op.maxDepth=9999+1 from rfl,this]
  simp [hab]
theorem asking_ptr {P:Program} {ty e:TypeId} {j:TypeInfo} (h:P.underlying ty=some (.pointer e)) (hi:P.info? e=some j) (hj:j.size≠0) {β:Type} (cv:β→Value) (k:Nat) (w:World) (hk0:IsVar k w):∀ (es:List MapEntry) (kv:List (Nat×β)) (i:Nat),(∀ p∈kv,IsVar p.1 w)→es.map (fun e=>(e.key,e.val))=kv.map (fun p=>(Value.pointer (some ⟨p.1,0,none⟩),cv p.2)) →
  (Instr.findAsking ty (.pointer (some ⟨k,0,none⟩)) es i).run P w=.ok ((kv.findIdx? fun p=>decide (p.1=k)).bind fun j=>(kv[j]?).map fun p=>(i+j,cv p.2)) w
 | [],kv,i,_,hh=>by
  cases kv with
  | nil=>unfold Instr.findAsking; rfl
  | cons p kv=>simp at hh
 | x :: es,kv,i,hok,hh=>by
  cases kv with
  | nil=>simp at hh
  | cons p kv =>
   simp only [List.map_cons,List.cons.injEq,Prod.mk.injEq] at hh
   obtain ⟨⟨hk,hv⟩,hh⟩:=hh
   have he:=equal_ptr h hi hj hk0 (hok p (by simp))
   unfold Instr.findAsking
   rw [hk,Sem.run_bind,he]
   by_cases hp:p.1=k
   ·simp [List.findIdx?_cons,hp,hv,Result.andThen]
   ·have:=asking_ptr h hi hj cv k w hk0 es kv (i+1) (fun q hq=>hok q (List.mem_cons_of_mem _ hq)) hh
    simp only [List.findIdx?_cons,hp,decide_false,Bool.false_eq_true,if_false,Result.andThen_ok]
    rw [this]
    cases kv.findIdx? fun p=>decide (p.1=k) <;> simp [Nat.add_assoc,Nat.add_comm 1]
def ptrKind {P:Program} {ty e:TypeId} {n:Nat} (h:P.underlying ty=some (.pointer e)) (hi:(P.info? e).map (·.size)=some (n+1)):KeyP P Nat where
 kf b:=.pointer (some ⟨b,0,none⟩)
 ty:=ty
 ok:=IsVar
 plain k w n e:=by simp [Instr.checkKey,Sem.run_bind,run_underlying h]
 find β cv kv es hes k w hk hks:=by
  obtain ⟨j,hi,hj⟩:∃ j,P.info? e=some j∧j.size≠0:=by
   rw [Option.map_eq_some_iff] at hi
   obtain ⟨j,h1,h2⟩:=hi
   exact ⟨j,h1,by omega⟩
  have ha:=asking_ptr h hi hj cv k w hk es.toList kv 0 hks hes
  simp only [Nat.zero_add] at ha
  unfold Instr.findKey
  rw [Sem.run_bind,run_underlying h w]
  simp only [Result.andThen_ok]
  cases hl:es.toList with
  | nil =>
   rw [hl] at hes
   cases kv with
   | nil=>rfl
   | cons p kv=>simp at hes
  | cons x l =>
   rw [hl] at ha
   have:Instr.findNow (.pointer e) (.pointer (some ⟨k,0,none⟩)) (x :: l) 0=none:=by unfold Instr.findNow Instr.sameNow; rfl
   rw [this]
   exact ha
 bits a n:=by simp [Instr.sameBits]
end Go.Proofs.YtfhfcipelgogjaaGreatDoor
namespace Go.Proofs.YtfhfcipelgogjaaGreatDoor
open Go.RowKit
abbrev kP:KeyP Tryz.prog Nat:=ptrKind (ty:=143) Tryz.underlying143 whole_thing.info
theorem und_off:Tryz.prog.underlying 145=some (.map kP.ty 207):=Tryz.underlying145
structure SlV where
 A:Option Addr
 n:Nat
 c:Nat
structure JobV where
 j:JobD
 vp:SlV
 vf:SlV
 vd:SlV
def cJ (x:JobV):Value:=.agg (jobC x.j (.slice x.vp.A x.vp.n x.vp.c) (.slice x.vf.A x.vf.n x.vf.c) (.slice x.vd.A x.vd.n x.vd.c))
def OffAt (w:World) (mo:Nat) (hs:List Hn) (off:List (Nat×JobD)):Prop:=
 ∃ kv:List (Nat×JobV),IsMapP kP cJ w mo kv∧kv.map (fun p=>(p.1,p.2.j))=off.map (fun p=>(adr hs p.1,p.2))∧(∀ p∈off,p.1<hs.length)
theorem OffAt.lt {w:World} {mo:Nat} {hs:List Hn} {off:List (Nat×JobD)} (h:OffAt w mo hs off):mo<w.heap.size:=by obtain ⟨kv,h,_⟩:=h; exact h.lt
theorem OffAt.of_block {w w':World} {mo:Nat} {hs:List Hn} {off:List (Nat×JobD)} (h:OffAt w mo hs off) (e:w'.heap[mo]?=w.heap[mo]?):OffAt w' mo hs off:=by
 obtain ⟨kv,h1,h2⟩:=h; exact ⟨kv,h1.of_block e,h2⟩
theorem OffAt.more {w:World} {mo:Nat} {hs hs2:List Hn} {off:List (Nat×JobD)} (h:OffAt w mo hs off):OffAt w mo (hs++hs2) off:=by
 obtain ⟨kv,h1,h2,h3⟩:=h
 refine ⟨kv,h1,?_,fun p hp=>by rw [List.length_append]; have:=h3 p hp; omega⟩
 rw [h2]
 exact List.map_congr_left fun p hp=>by rw [adr_app (h3 p hp)]
theorem OffAt.ne_blk {w:World} {mo g:Nat} {hs:List Hn} {off:List (Nat×JobD)} {t:TypeId} {cs:Array Value} (h:OffAt w mo hs off) (hg:Blk w g t cs):mo≠g:=by obtain ⟨kv,h,_⟩:=h; exact h.ne_blk hg
theorem off_has {kv:List (Nat×JobV)} {hs:List Hn} {off:List (Nat×JobD)} (h2:kv.map (fun p=>(p.1,p.2.j))=off.map (fun p=>(adr hs p.1,p.2))) (h3:∀ p∈off,p.1<hs.length) (inj:∀ i j,i<hs.length→j<hs.length→adr hs i=adr hs j→i=j) {d:Nat} (hd:d<hs.length) (x:JobV) :
  (putKv kv (adr hs d) x).map (fun p=>(p.1,p.2.j))=(putKv off d x.j).map (fun p=>(adr hs p.1,p.2)):=by
 have hhas:hasKv kv (adr hs d)=hasKv off d:=by
  have h4:kv.map (·.1)=off.map (fun p=>adr hs p.1):=by
   have:=congrArg (List.map Prod.fst) h2
   rw [List.map_map,List.map_map] at this
   exact this
  rw [Bool.eq_iff_iff,hasKv_iff,hasKv_iff,h4]
  simp only [List.mem_map]
  constructor
  ·rintro ⟨p,hp,e⟩; exact ⟨p,hp,inj _ _ (h3 p hp) hd e⟩
  ·rintro ⟨p,hp,e⟩; exact ⟨p,hp,by rw [e]⟩
 unfold putKv
 rw [hhas]
 cases hasKv off d with
 | false=>simp [h2]
 | true =>
  simp only [if_true,List.map_map]
  have key:∀ (kv:List (Nat×JobV)) (off:List (Nat×JobD)),kv.map (fun p=>(p.1,p.2.j))=off.map (fun p=>(adr hs p.1,p.2))→(∀ p∈off,p.1<hs.length) →
    kv.map ((fun p=>(p.1,p.2.j)) ∘ fun p=>if p.1=adr hs d then (adr hs d,x) else p)=off.map ((fun p=>(adr hs p.1,p.2)) ∘ fun p=>if p.1=d then (d,x.j) else p):=by
   intro kv
   induction kv with
   | nil=>intro off h _; cases off with
    | nil=>rfl
    | cons=>simp at h
   | cons q kv ih =>
    intro off h h3
    cases off with
    | nil=>simp at h
    | cons p off =>
     simp only [List.map_cons,List.cons.injEq,Prod.mk.injEq] at h
     obtain ⟨⟨e1,e2⟩,h⟩:=h
     simp only [List.map_cons,Function.comp,List.cons.injEq]
     refine ⟨?_,ih off h (fun r hr=>h3 r (List.mem_cons_of_mem _ hr))⟩
     by_cases hp:p.1=d
     ·rw [if_pos hp,if_pos (by rw [e1,hp])]
     ·rw [if_neg hp,if_neg (fun e=>hp (inj _ _ (h3 p (by simp)) hd (e1 ▸ e)))]
      simp [e1,e2]
  exact key kv off h2 h3
end Go.Proofs.YtfhfcipelgogjaaGreatDoor
namespace Go.Proofs.YtfhfcipelgogjaaGreatDoor
open Go.RowKit
def DatV (w:World) (v:Value) (l:List UInt8):Prop:=∃ (A:Option Addr) (c:Nat),l.length≤c∧v=.slice A l.length c∧Row Shape.byte w (Old w) A l.length l
def NoByte (w:World) (k:Nat):Prop:=∀ i x,w.cell? ⟨k,i,none⟩≠some (.int .u8 x)
theorem DatV.nil (w:World):DatV w (.slice none 0 0) []:=⟨none,0,Nat.le_refl _,rfl,Row.nil⟩
theorem DatV.cng {w w':World} {v:Value} {l:List UInt8} {M:Nat→Prop} (h:DatV w v l) (hc:Cng M w w') (hM:∀ k,M k→NoByte w k):DatV w' v l:=by
 obtain ⟨A,c,h1,h2,h3⟩:=h
 refine ⟨A,c,h1,h2,h3.1,fun h0=>?_⟩
 obtain ⟨b,off,e,hb,hi⟩:=h3.2 h0
 have hnb:¬ M b:=fun hm=>by
  obtain ⟨es,q1,q2⟩:=hi 0 h0
  have q3:=q1 0 (by decide)
  have q2:es=[.int .u8 l[0].toNat]:=q2
  rw [q2] at q3
  exact hM b hm _ _ q3
 have hblk:=hc.block b hb hnb
 refine ⟨b,off,e,Nat.lt_of_lt_of_le hb hc.size,fun i hil=>?_⟩
 obtain ⟨es,q1,q2⟩:=hi i hil
 exact ⟨es,fun j hj=>(World.cell?_of_block (w:=w) (a:=⟨b,off+i*Shape.byte.size+j,none⟩) hblk).trans (q1 j hj),q2⟩
theorem nobyte_map {P:Program} {κ β:Type} [DecidableEq κ] {K:KeyKind P κ} {cv:β→Value} {w:World} {k:Nat} {kv:List (κ×β)} (h:IsMap K cv w k kv):NoByte w k:=by
 intro i x e
 obtain ⟨es,c,hb,_⟩:=h
 simp [World.cell?,hb] at e
theorem nobyte_mapP {P:Program} {κ β:Type} [DecidableEq κ] {K:KeyP P κ} {cv:β→Value} {w:World} {k:Nat} {kv:List (κ×β)} (h:IsMapP K cv w k kv):NoByte w k:=by
 intro i x e
 obtain ⟨es,c,hb,_⟩:=h
 simp [World.cell?,hb] at e
theorem nobyte_thing {w:World} {k:Nat} {t:ThD} {A:Option Addr} {n c:Nat} {m:Option Nat} (h:Blk w k 203 (thCells t (.slice A n c) m)):NoByte w k:=by
 intro i x e
 rw [h.cell] at e
 have:=Array.mem_of_getElem? e
 simp [thCells] at this
structure FoldAt (w:World) (B f r mo:Nat) (now:TimeD) (hs:List Hn) (ths:List ThD) (off:List (Nat×JobD)):Prop where
 blk:Blk w f 147 (foldC (adr hs r) mo now)
 tree:TreeAt w B hs ths
 root:r<ths.length
 rkind:(thD ths r).kind=2
 off:OffAt w mo hs off
 apart:¬ inTree hs ths mo
 base:B≤w.heap.size
 dat:∀ (j:Nat) (t:ThD) (h:Hn),ths[j]?=some t→hs[j]?=some h→DatV w h.dv t.data
section
variable {w w':World} {B f r mo:Nat} {now:TimeD} {hs hs2:List Hn} {ths ths2:List ThD} {off:List (Nat×JobD)}
theorem FoldAt.nobyte (h:FoldAt w B f r mo now hs ths off) {k:Nat} (hk:inTree hs ths k):NoByte w k:=by
 obtain ⟨j,t,hd,e1,e2,rfl | ⟨e3,rfl⟩⟩:=hk
 ·have b:=h.tree.blk j t hd e1 e2
  obtain ⟨A,c,_,e,_⟩:=h.dat j t hd e1 e2
  rw [e] at b
  exact nobyte_thing b
 ·exact nobyte_map (h.tree.map j t hd e1 e2 e3)
theorem FoldAt.nomo (h:FoldAt w B f r mo now hs ths off):NoByte w mo:=by obtain ⟨kv,h,_⟩:=h.off; exact nobyte_mapP h
theorem FoldAt.nof (h:FoldAt w B f r mo now hs ths off):¬ inTree hs ths f:=h.tree.not_blk h.blk (by decide)
theorem FoldAt.inj (h:FoldAt w B f r mo now hs ths off):∀ i j,i<hs.length→j<hs.length→adr hs i=adr hs j→i=j:=fun i j hi hj e=>by
 have e1:hs[i]?=some hs[i]:=List.getElem?_eq_getElem hi
 have e2:hs[j]?=some hs[j]:=List.getElem?_eq_getElem hj
 rw [adr_at e1,adr_at e2] at e
 exact h.tree.ainj i j _ _ e1 e2 e
theorem FoldAt.keep {M:Nat→Prop} (h:FoldAt w B f r mo now hs ths off) (hc:Cng M w w') (hM:∀ k,M k→¬ inTree hs ths k∧k≠f∧k≠mo∧NoByte w k):FoldAt w' B f r mo now hs ths off:=
 ⟨(hc.block f h.blk.lt (fun hm=>(hM f hm).2.1 rfl)).trans h.blk,h.tree.keeps (fun k hk=>hc.block k (h.tree.lt hk).1 (fun hm=>(hM k hm).1 hk)),h.root,h.rkind,h.off.of_block (hc.block mo h.off.lt (fun hm=>(hM mo hm).2.2.1 rfl)),h.apart,Nat.le_trans h.base hc.size,
  fun j t hd e1 e2=>(h.dat j t hd e1 e2).cng hc (fun k hk=>(hM k hk).2.2.2)⟩
theorem FoldAt.below (h:FoldAt w B f r mo now hs ths off) (hb:Below w.heap.size w w'):FoldAt w' B f r mo now hs ths off:=h.keep (M:=fun _=>False) (Cng.of_below hb) (fun _ h=>h.elim)
theorem FoldAt.grew (h:FoldAt w B f r mo now hs ths off) (hg:Grew w w' hs hs2 ths ths2) (hT:TreeAt w' B (hs++hs2) ths2) (hd:∀ (j:Nat) (t:ThD) (k:Hn),ths2[j]?=some t→(hs++hs2)[j]?=some k→DatV w' k.dv t.data):FoldAt w' B f r mo now (hs++hs2) ths2 off:=by
 have hl:=h.tree.len
 have hc:=hg.cng
 refine ⟨?_,hT,Nat.lt_of_lt_of_le h.root hg.len,(hg.kinds r h.root).trans h.rkind,(h.off.more).of_block (hc.block mo h.off.lt h.apart),?_,Nat.le_trans h.base hc.size,hd⟩
 ·rw [adr_app (by rw [hl]; exact h.root)]
  exact (hc.block f h.blk.lt h.nof).trans h.blk
 ·rintro ⟨j,t,k,e1,e2,e3⟩
  by_cases hj:j<hs.length
  ·rw [List.getElem?_append_left hj] at e2
   have hjt:j<ths.length:=by rw [← hl]; exact hj
   refine h.apart ⟨j,thD ths j,k,thD_at hjt,e2,e3.imp id fun ⟨a,b⟩=>⟨?_,b⟩⟩
   rw [← hg.kinds j hjt]
   have:=thD_at (ths:=ths2) (j:=j) (List.getElem?_eq_some_iff.1 e1).1
   rw [e1] at this
   injection this with this
   rw [← this]; exact a
  ·rw [List.getElem?_append_right (by omega)] at e2
   have:=hg.new k (List.mem_of_getElem? e2)
   have:=h.off.lt
   rcases e3 with e3 | ⟨_,e3⟩ <;> omega
theorem FoldAt.dats (h:FoldAt w B f r mo now hs ths off) (hg:Grew w w' hs hs2 ths ths2) (hT:TreeAt w' B (hs++hs2) ths2):∀ (j:Nat) (t:ThD) (k:Hn),ths2[j]?=some t→(hs++hs2)[j]?=some k→DatV w' k.dv t.data:=by
 intro j t k e1 e2
 have hl:=h.tree.len
 have ht:=thD_at (ths:=ths2) (j:=j) (List.getElem?_eq_some_iff.1 e1).1
 rw [e1] at ht
 injection ht with ht
 by_cases hj:j<hs.length
 ·rw [List.getElem?_append_left hj] at e2
  have hjt:j<ths.length:=by rw [← hl]; exact hj
  rw [ht,hg.dold j hjt]
  exact (h.dat j _ k (thD_at hjt) e2).cng hg.cng (fun n hn=>h.nobyte hn)
 ·rw [List.getElem?_append_right (by omega)] at e2
  rw [ht,hg.dnew j (by omega) (List.getElem?_eq_some_iff.1 e1).1,hg.vnew k (List.mem_of_getElem? e2)]
  exact DatV.nil w'
theorem FoldAt.walk (h:FoldAt w B f r mo now hs ths off) (hg:Grew w w' hs hs2 ths ths2) (hT:TreeAt w' B (hs++hs2) ths2):FoldAt w' B f r mo now (hs++hs2) ths2 off:=h.grew hg hT (h.dats hg hT)
end
structure FoldS where
 ths:List ThD
 off:List (Nat×JobD)
def placeF (now:TimeD) (j:JobD) (ths:List ThD) (off:List (Nat×JobD)) (d:Nat) (name:ByteArray) (src:Nat):FoldS×Int×Int:=
 if j.kind=4 then (⟨putT now ths d name src,off⟩,1,0)
 else (⟨putT now (ths++[freshD now j]) d name ths.length,if j.kind=2 then putKv off ths.length j else off⟩,1,0)
def overF (now:TimeD) (j:JobD) (ths:List ThD) (off:List (Nat×JobD)) (d:Nat) (name:ByteArray) (src:Nat):FoldS×Int×Int:=
 match getKv (thD ths d).ins name with
 | none=>placeF now j ths off d name src
 | some old =>
  if j.kind=4∧old=src then (⟨ths,off⟩,1,0)
  else if (thD ths old).kind=2∧j.kind=2 then (⟨ths,putKv off old j⟩,1,0)
  else if (thD ths old).kind=2 then (⟨ths,off⟩,0,172)
  else if j.replace=1 then (⟨ths,off⟩,0,171)
  else if j.replace=2 then (⟨ths,off⟩,4,0)
  else placeF now j (dropT now ths d name) off d name src
def lastP (l:List ByteArray):ByteArray:=l.getD (l.length - 1) ⟨#[]⟩
def applyF (now:TimeD) (r:Nat) (j:JobD) (ths:List ThD) (off:List (Nat×JobD)):FoldS×Int×Int:=
 if j.parts=[] then (⟨ths,putKv off r j⟩,1,0)
 else if j.kind=4 then
  let a:=wayF now (-1) (j.from_.take (j.from_.length - 1)) ths r
  if a.2.1≠0 then (⟨a.1,off⟩,0,a.2.1)
  else
   let b:=wayF now j.dirMode (j.parts.take (j.parts.length - 1)) a.1 r
   if b.2.1≠0 then (⟨b.1,off⟩,0,b.2.1)
   else if letsB (thD b.1 a.2.2) 64=false∨letsB (thD b.1 b.2.2) 192=false then (⟨b.1,off⟩,0,175)
   else match getKv (thD b.1 a.2.2).ins (lastP j.from_) with
    | none=>(⟨b.1,off⟩,0,170)
    | some src=>if (thD b.1 src).kind=2 then (⟨b.1,off⟩,0,172) else overF now j b.1 off b.2.2 (lastP j.parts) src
 else
  let b:=wayF now j.dirMode (j.parts.take (j.parts.length - 1)) ths r
  if b.2.1≠0 then (⟨b.1,off⟩,0,b.2.1)
  else if letsB (thD b.1 b.2.2) 192=false then (⟨b.1,off⟩,0,175)
  else overF now j b.1 off b.2.2 (lastP j.parts) 0
end Go.Proofs.YtfhfcipelgogjaaGreatDoor
namespace Go.Proofs.YtfhfcipelgogjaaGreatDoor
open Go.RowKit
theorem Cng.then_ {M N:Nat→Prop} {a b c:World} (h:Cng M a b) (k:Cng N b c) (hMN:∀ n,n<a.heap.size→N n→M n):Cng M a c:=
 ⟨k.os.trans h.os,k.tape.trans h.tape,k.output.trans h.output,Nat.le_trans h.size k.size,fun n hn hM=>(k.block n (Nat.lt_of_lt_of_le hn h.size) (fun e=>hM (hMN n hn e))).trans (h.block n hn hM)⟩
section
variable {w w':World} {B f r mo:Nat} {now:TimeD} {hs hs2:List Hn} {ths ths2:List ThD} {off:List (Nat×JobD)}
theorem kinds_set {ths:List ThD} {d:Nat} {t:ThD} (hd:d<ths.length) (hk:t.kind=(thD ths d).kind) (j:Nat):(thD (ths.set d t) j).kind=(thD ths j).kind:=by
 rw [thD_set hd]
 by_cases h:j=d
 ·rw [if_pos h,h,hk]
 ·rw [if_neg h]
theorem inTree_set {hs:List Hn} {ths:List ThD} {d:Nat} {t:ThD} (hd:d<ths.length) (hk:t.kind=(thD ths d).kind) {k:Nat} (h:inTree hs (ths.set d t) k):inTree hs ths k:=by
 obtain ⟨j,s,hh,e1,e2,e3⟩:=h
 have hj:=(List.getElem?_eq_some_iff.1 e1).1
 rw [List.length_set] at hj
 refine ⟨j,thD ths j,hh,thD_at hj,e2,e3.imp id fun ⟨a,b⟩=>⟨?_,b⟩⟩
 rw [← kinds_set hd hk j]
 have:=thD_at (ths:=ths.set d t) (j:=j) (by rw [List.length_set]; exact hj)
 rw [e1] at this
 injection this with this
 rw [← this]; exact a
theorem FoldAt.turn (h:FoldAt w B f r mo now hs ths off) {d:Nat} {dh:Hn} {t:ThD} (hd:d<ths.length) (hk:t.kind=(thD ths d).kind) (hdt:t.data=(thD ths d).data) (hk2:(thD ths d).kind=2) (hh:hs[d]?=some dh) (hT:TreeAt w' B hs (ths.set d t)) (hc:Cng (fun k=>k=dh.a∨k=dh.m) w w'):FoldAt w' B f r mo now hs (ths.set d t) off:=by
 have hin:∀ k,(k=dh.a∨k=dh.m)→inTree hs ths k:=fun k hk'=>⟨d,thD ths d,dh,thD_at hd,hh,hk'.imp id fun e=>⟨hk2,e⟩⟩
 refine ⟨(hc.block f h.blk.lt (fun e=>h.nof (hin f e))).trans h.blk,hT,by rw [List.length_set]; exact h.root,by rw [kinds_set hd hk]; exact h.rkind,h.off.of_block (hc.block mo h.off.lt (fun e=>h.apart (hin mo e))),fun e=>h.apart (inTree_set hd hk e),Nat.le_trans h.base hc.size,?_⟩
 intro j s k e1 e2
 have hj:=(List.getElem?_eq_some_iff.1 e1).1
 rw [List.length_set] at hj
 have e3:=thD_at (ths:=ths.set d t) (j:=j) (by rw [List.length_set]; exact hj)
 rw [e1] at e3
 injection e3 with e3
 have:s.data=(thD ths j).data:=by
  rw [e3,thD_set hd]
  by_cases hjd:j=d
  ·rw [if_pos hjd,hjd,hdt]
  ·rw [if_neg hjd]
 rw [this]
 exact (h.dat j _ k (thD_at hj) e2).cng hc fun n hn=>h.nobyte (hin n hn)
theorem FoldAt.put (h:FoldAt w B f r mo now hs ths off) {d x:Nat} {dh:Hn} {name:ByteArray} (hd:d<ths.length) (hk2:(thD ths d).kind=2) (hh:hs[d]?=some dh) (hx:x<ths.length)
  (hc:Cng (fun k=>k=dh.a∨k=dh.m) w w') (hb:Blk w' dh.a 203 (((thCells (thD ths d) dh.dv (mapOf (thD ths d) dh)).setIfInBounds 5 (.int .i64 now.sec)).setIfInBounds 6 (.int .i64 now.nano)))
  (hm:IsMap kN cPt w' dh.m (putKv (insA hs (thD ths d).ins) name (adr hs x))):FoldAt w' B f r mo now hs (putT now ths d name x) off:=
 h.turn hd rfl rfl hk2 hh (h.tree.put hd hk2 hh hx hc hb hm) hc
theorem FoldAt.drop (h:FoldAt w B f r mo now hs ths off) {d:Nat} {dh:Hn} {name:ByteArray} (hd:d<ths.length) (hk2:(thD ths d).kind=2) (hh:hs[d]?=some dh)
  (hc:Cng (fun k=>k=dh.a∨k=dh.m) w w') (hb:Blk w' dh.a 203 (((thCells (thD ths d) dh.dv (mapOf (thD ths d) dh)).setIfInBounds 5 (.int .i64 now.sec)).setIfInBounds 6 (.int .i64 now.nano)))
  (hm:IsMap kN cPt w' dh.m (delKv (insA hs (thD ths d).ins) name)):FoldAt w' B f r mo now hs (dropT now ths d name) off:=
 h.turn hd rfl rfl hk2 hh (h.tree.drop hd hk2 hh hc hb hm) hc
theorem inTree_push {hs:List Hn} {ths:List ThD} {t:ThD} {h:Hn} (hl:hs.length=ths.length) {k:Nat} (hi:inTree (hs++[h]) (ths++[t]) k):inTree hs ths k∨k=h.a∨(t.kind=2∧k=h.m):=by
 obtain ⟨j,s,hh,e1,e2,e3⟩:=hi
 by_cases hj:j<ths.length
 ·rw [List.getElem?_append_left hj] at e1
  rw [List.getElem?_append_left (by rw [hl]; exact hj)] at e2
  exact .inl ⟨j,s,hh,e1,e2,e3⟩
 ·have h1:=(List.getElem?_eq_some_iff.1 e1).1
  rw [List.length_append] at h1
  have h1:j=ths.length:=by simp at h1; omega
  subst h1
  rw [List.getElem?_append_right (Nat.le_refl _),Nat.sub_self] at e1
  rw [List.getElem?_append_right (by rw [hl]; exact Nat.le_refl _),hl,Nat.sub_self] at e2
  injection e1 with e1
  injection e2 with e2
  subst e1 e2
  exact .inr e3
theorem FoldAt.push (h:FoldAt w B f r mo now hs ths off) {t:ThD} {k:Hn} (hb:Below w.heap.size w w') (hk:Blk w' k.a 203 (thCells t k.dv (mapOf t k))) (hm:t.kind=2→IsMap kN cPt w' k.m ([]:List (ByteArray×Nat))) (hins:t.ins=[]) (hkd:t.kind=1∨t.kind=2∨t.kind=3)
  (ha:w.heap.size≤k.a) (hmm:w.heap.size≤k.m) (hd:DatV w' k.dv t.data):FoldAt w' B f r mo now (hs++[k]) (ths++[t]) off:=by
 have h2:=h.below hb
 have hl:=h.tree.len
 have hlt:=h.off.lt
 have hT:TreeAt w' B (hs++[k]) (ths++[t]):=h2.tree.push hk (fun e=>by rw [hins]; exact hm e) hkd ⟨fun _=>hins,fun p hp=>by rw [hins] at hp; cases hp⟩
  (fun j s x e1 e2=>⟨fun e=>by have:=(h.tree.blk j s x e1 e2).lt; omega,fun e3 e=>by have:=(h.tree.map j s x e1 e2 e3).lt; omega⟩) ⟨Nat.le_trans h.base ha,Nat.le_trans h.base hmm⟩
 refine ⟨by rw [adr_app (by rw [hl]; exact h.root)]; exact h2.blk,hT,by rw [List.length_append]; have:=h.root; omega,by rw [thD_app h.root]; exact h.rkind,h2.off.more,fun e=>?_,h2.base,?_⟩
 ·rcases inTree_push hl e with e | e | ⟨_,e⟩
  ·exact h.apart e
  ·omega
  ·omega
 ·intro j s x e1 e2
  by_cases hj:j<ths.length
  ·rw [List.getElem?_append_left hj] at e1
   rw [List.getElem?_append_left (by rw [hl]; exact hj)] at e2
   exact h2.dat j s x e1 e2
  ·have h1:=(List.getElem?_eq_some_iff.1 e1).1
   rw [List.length_append] at h1
   have h1:j=ths.length:=by simp at h1; omega
   subst h1
   rw [List.getElem?_append_right (Nat.le_refl _),Nat.sub_self] at e1
   rw [List.getElem?_append_right (by rw [hl]; exact Nat.le_refl _),hl,Nat.sub_self] at e2
   injection e1 with e1
   injection e2 with e2
   subst e1 e2
   exact hd
theorem FoldAt.later {kv:List (Nat×JobV)} (h:FoldAt w B f r mo now hs ths off) {d:Nat} {x:JobV} (hd:d<ths.length) (h2:kv.map (fun p=>(p.1,p.2.j))=off.map (fun p=>(adr hs p.1,p.2))) (hm:IsMapP kP cJ w' mo (putKv kv (adr hs d) x)) (ho:Only mo w w'):FoldAt w' B f r mo now hs ths (putKv off d x.j):=by
 have hl:=h.tree.len
 obtain ⟨_,_,_,h3⟩:=h.off
 have hb:∀ k,k≠mo→w'.heap[k]?=w.heap[k]?:=fun k hk=>ho.block k hk
 refine ⟨(hb f (fun e=>by have:=h.off.ne_blk h.blk; exact this e.symm)).trans h.blk,h.tree.keeps (fun k hk=>hb k (fun e=>h.apart (e ▸ hk))),h.root,h.rkind,⟨_,hm,off_has h2 h3 h.inj (by rw [hl]; exact hd) x,?_⟩,h.apart,by rw [ho.size]; exact h.base,?_⟩
 ·intro p hp
  unfold putKv at hp
  split at hp
  ·obtain ⟨q,hq,rfl⟩:=List.mem_map.1 hp
   by_cases e:q.1=d
   ·rw [if_pos e]; show d<_; omega
   ·rw [if_neg e]; exact h3 q hq
  ·rcases List.mem_append.1 hp with hp | hp
   ·exact h3 p hp
   ·rw [List.mem_singleton.1 hp]; show d<_; omega
 ·intro j t k e1 e2
  exact (h.dat j t k e1 e2).cng (M:=fun n=>n=mo) ⟨ho.os,ho.tape,ho.output,Nat.le_of_eq ho.size.symm,fun n _ hn=>hb n hn⟩ (fun n hn=>hn ▸ h.nomo)
theorem FoldAt.keys (h:FoldAt w B f r mo now hs ths off) {kv:List (Nat×JobV)} (h2:kv.map (fun p=>(p.1,p.2.j))=off.map (fun p=>(adr hs p.1,p.2))):∀ p∈kv,IsVar p.1 w:=by
 intro p hp
 obtain ⟨_,_,_,h3⟩:=h.off
 have hl:=h.tree.len
 have h4:kv.map (·.1)=off.map (fun p=>adr hs p.1):=by
  have:=congrArg (List.map Prod.fst) h2
  rw [List.map_map,List.map_map] at this
  exact this
 have:p.1∈kv.map (·.1):=List.mem_map_of_mem hp
 rw [h4] at this
 obtain ⟨q,hq,e⟩:=List.mem_map.1 this
 have hql:=h3 q hq
 have e1:hs[q.1]?=some hs[q.1]:=List.getElem?_eq_getElem hql
 rw [← e,adr_at e1]
 exact (h.tree.blk q.1 _ _ (thD_at (by rw [← hl]; exact hql)) e1).isVar
theorem FoldAt.var (h:FoldAt w B f r mo now hs ths off) {d:Nat} (hd:d<ths.length):IsVar (adr hs d) w:=by
 have hl:=h.tree.len
 have e1:hs[d]?=some (hs[d]'(by rw [hl]; exact hd)):=List.getElem?_eq_getElem _
 rw [adr_at e1]
 exact (h.tree.blk d _ _ (thD_at hd) e1).isVar
end
end Go.Proofs.YtfhfcipelgogjaaGreatDoor
namespace Go.Proofs.YtfhfcipelgogjaaGreatDoor
open Go.RowKit Go.ChangeMaps
section
variable {P:Program} {κ β:Type} [DecidableEq κ] {cv:β→Value}
def MapItP (K:KeyP P κ) (cv:β→Value) (w:World) (r b:Nat) (kv left:List (κ×β)):Prop:=
 ∃ es clock since seen c0,w.heap[b]?=some (.map es clock)∧es.toList.map (fun e=>(e.key,e.val))=kv.map (fun p=>(K.kf p.1,cv p.2))∧(kv.map (·.1)).Nodup∧Stamped es clock ∧
  w.heap[r]?=some (.mapIter (some b) since seen c0)∧(∀ x∈es.toList,x.born<since)∧since≤c0∧since≤clock ∧
  (leftOf es seen).toList.map (fun e=>(e.key,e.val))=left.map (fun p=>(K.kf p.1,cv p.2))
variable {K:KeyP P κ} {w w':World} {b r:Nat} {kv left:List (κ×β)}
theorem MapItP.isMapP (h:MapItP K cv w r b kv left):IsMapP K cv w b kv:=by
 obtain ⟨es,c,_,_,_,h1,h2,h3,h4,_⟩:=h
 exact ⟨es,c,h1,h2,h3,h4⟩
theorem MapItP.lt (h:MapItP K cv w r b kv left):r<w.heap.size:=by
 obtain ⟨_,_,_,_,_,_,_,_,_,hr,_⟩:=h
 exact (Array.getElem?_eq_some_iff.1 hr).1
theorem MapItP.ne (h:MapItP K cv w r b kv left):r≠b:=by
 obtain ⟨_,_,_,_,_,hb,_,_,_,hr,_⟩:=h
 rintro rfl
 rw [hb] at hr
 cases hr
theorem MapItP.of_blocks (h:MapItP K cv w r b kv left) (e:w'.heap[b]?=w.heap[b]?) (e':w'.heap[r]?=w.heap[r]?):MapItP K cv w' r b kv left:=by
 obtain ⟨es,c,since,seen,c0,hb,h1,h2,h3,hr,rest⟩:=h
 exact ⟨es,c,since,seen,c0,e.trans hb,h1,h2,h3,e'.trans hr,rest⟩
theorem MapItP.keeps {M:Nat→Prop} (h:MapItP K cv w r b kv left) (hk:Keeps M w w') (hb:M b) (hr:M r):MapItP K cv w' r b kv left:=h.of_blocks (hk b hb) (hk r hr)
theorem MapItP.alloc (h:MapItP K cv w r b kv left) (o:Obj):MapItP K cv (w.alloc o) r b kv left:=h.of_blocks (Below.heap_alloc w o b h.isMapP.lt) (Below.heap_alloc w o r h.lt)
theorem MapItP.over_ (h:MapItP K cv w r b kv left) (δ:World):MapItP K cv (over w δ) r b kv left:=h.of_blocks (over_heap_lt h.isMapP.lt) (over_heap_lt h.lt)
theorem MapItP.grown {row:Option Nat} (h:MapItP K cv w r b kv left) (hb:w.grownBy w' row) (hg:some b≠row) (hr:some r≠row):MapItP K cv w' r b kv left:=h.of_blocks (hb.block b h.isMapP.lt hg) (hb.block r h.lt hr)
theorem range_startP {t e:TypeId} (ht:P.underlying t=some (.map K.ty e)) (h:IsMapP K cv w b kv) :
  ∃ w',(Instr.range t (.map (some b))).run P w=.ok (.pointer (some ⟨w.heap.size,0,none⟩)) w'∧MapItP K cv w' w.heap.size b kv kv∧w.grownBy w' none∧w'.heap.size=w.heap.size+1:=by
 have hlt:=h.lt
 obtain ⟨es,clock,hb,h1,h2,h3⟩:=h
 refine ⟨_,run_range_map w t K.ty e b es clock ht hb,⟨es,clock,clock,#[],clock,((MapKept.heap_alloc w _).2 b hlt).trans hb,h1,h2,h3,(MapKept.heap_alloc w _).1,h3.1,Nat.le_refl _,Nat.le_refl _,by rw [leftOf_nil]; exact h1⟩,World.grownBy_alloc w _ none,by simp⟩
theorem filter_pairsP:∀ (l:List MapEntry) (left:List (κ×β)) (e:MapEntry),(l.map (·.born)).Nodup→e∈l→l.map (fun e=>(e.key,e.val))=left.map (fun p=>(K.kf p.1,cv p.2)) →
  ∃ p left',e.key=K.kf p.1∧e.val=cv p.2∧left.Perm (p :: left')∧(l.filter fun x=>!(x.born == e.born)).map (fun e=>(e.key,e.val))=left'.map (fun p=>(K.kf p.1,cv p.2))
 | [],_,e,_,he,_=>by simp at he
 | x :: l,left,e,hn,he,h=>by
  cases left with
  | nil=>simp at h
  | cons q left =>
   simp only [List.map_cons,List.cons.injEq,Prod.mk.injEq] at h
   obtain ⟨⟨h1,h2⟩,h3⟩:=h
   simp only [List.map_cons,List.nodup_cons] at hn
   by_cases hx:x.born=e.born
   ·have hex:e=x:=by
     rcases List.mem_cons.1 he with rfl | he
     ·rfl
     ·exact absurd (hx ▸ List.mem_map_of_mem he) hn.1
    subst hex
    refine ⟨q,left,h1,h2,List.Perm.refl _,?_⟩
    rw [List.filter_cons]
    simp only [beq_self_eq_true,Bool.not_true,Bool.false_eq_true,if_false]
    rw [← h3]
    congr 1
    rw [List.filter_eq_self]
    intro y hy
    have:y.born≠e.born:=fun ee=>hn.1 (ee ▸ List.mem_map_of_mem hy)
    simpa using this
   ·have he':e∈l:=by
     rcases List.mem_cons.1 he with rfl | he
     ·exact absurd rfl hx
     ·exact he
    obtain ⟨p,left',g1,g2,g3,g4⟩:=filter_pairsP l left e hn.2 he' h3
    refine ⟨p,q :: left',g1,g2,(List.Perm.cons q g3).trans (List.Perm.swap p q left'),?_⟩
    rw [List.filter_cons]
    have:(x.born == e.born)=false:=by simpa using hx
    simp only [this,Bool.not_false,if_true,List.map_cons,h1,h2,g4]
theorem MapItP.step (h:MapItP K cv w r b kv left) (ty:TypeId) :
  (left=[]∧(Instr.next (.pointer (some ⟨r,0,none⟩)) false ty).run P w=.ok (.tuple #[.bool false]) w) ∨
  ∃ p left' w',left.Perm (p :: left')∧(Instr.next (.pointer (some ⟨r,0,none⟩)) false ty).run P w=.ok (.tuple #[.bool true,K.kf p.1,cv p.2]) w'∧MapItP K cv w' r b kv left'∧w.grownBy w' (some r)∧w'.heap.size=w.heap.size ∧
   (Instr.entry (.pointer (some ⟨r,0,none⟩))).run P w'=.ok (.tuple #[K.kf p.1,cv p.2]) w':=by
 have hne:=h.ne
 obtain ⟨es,clock,since,seen,c0,hb,hes,hnd,hst,hr,hold,hsc,hsk,hleft⟩:=h
 rcases run_next_at (P:=P) w ty r b since c0 seen es clock hr hb hold hsc with ⟨h0,hrun⟩ | ⟨e,he,w1,hal,hrun⟩
 ·refine Or.inl ⟨?_,hrun⟩
  have:=congrArg List.length hleft
  simp at this
  exact List.eq_nil_of_length_eq_zero (by omega)
 ·obtain ⟨hem,hesn⟩:=mem_left he
  have hnl:((leftOf es seen).toList.map (·.born)).Nodup:=by
   unfold leftOf
   rw [Array.toList_filter]
   exact List.Nodup.sublist (List.Sublist.map _ List.filter_sublist) hst.2
  obtain ⟨p,left',g1,g2,g3,g4⟩:=filter_pairsP (K:=K) (cv:=cv) _ left e hnl he hleft
  have hr1:w1.heap[r]?=some (.mapIter (some b) since seen c0):=by rcases hal with rfl | rfl <;> exact hr
  have hb1:w1.heap[b]?=some (.map es clock):=by rcases hal with rfl | rfl <;> exact hb
  have hset:=MapKept.heap_set (o':=.mapIter (some b) since (seen.push e.born) clock) hr1
  have hb':(setBlock w1 r (.mapIter (some b) since (seen.push e.born) clock)).heap[b]?=some (.map es clock):=(hset.2 b (fun e1=>hne e1.symm)).trans hb1
  rw [g1,g2] at hrun
  refine Or.inr ⟨p,left',_,g3,hrun,⟨es,clock,since,seen.push e.born,clock,hb',hes,hnd,hst,hset.1,hold,hsk,hsk,?_⟩,?_,?_,?_⟩
  ·rw [leftOf_push,Array.toList_filter]; exact g4
  ·rcases hal with rfl | rfl <;> exact ⟨rfl,rfl,rfl,by simp [setBlock],fun i _ hi=>hset.2 i (fun e1=>hi (by rw [e1]))⟩
  ·rcases hal with rfl | rfl <;> simp [setBlock]
  ·have:=run_entry_at (P:=P) _ r b since seen es clock e hset.1 hb' hem hst.2
   rw [g1,g2] at this
   exact this
theorem MapItP.left_eq (h:MapItP K cv w r b kv left):w.rangeLeft b r=left.length:=by
 obtain ⟨es,clock,since,seen,c0,hb,_,_,_,hr,_,_,_,hl⟩:=h
 simp only [World.rangeLeft,hb,hr]
 have:=congrArg List.length hl
 simpa using this
end
section
variable {P:Program} {κ β:Type} [DecidableEq κ] {cv:β→Value} {K:KeyP P κ} {w:World} {ops:Array Oper} {rest:List Oper} {o:Oper} {a:Act} {Q:Exit→Act→World→Prop} {b r:Nat} {kv left:List (κ×β)}
theorem wpList_range_kvP (hg:o.guard=none) (m:Operand) (t:TypeId) (hop:o.op=Op.range t m) {e:TypeId} (ht:P.underlying t=some (.map K.ty e)) (h:IsMapP K cv w b kv) (hm:a.eval m=.map (some b))
  (hK:∀ w',MapItP K cv w' w.heap.size b kv kv→w.grownBy w' none→w'.heap.size=w.heap.size+1→wpList P ops Q rest (a.put o.dst (.pointer (some ⟨w.heap.size,0,none⟩))) w'):wpList P ops Q (o :: rest) a w:=by
 refine wpList_plain hg fun K' hK'=>?_
 obtain ⟨w',hrun,r1,r2,r3⟩:=range_startP ht h
 unfold Oper.wp
 simp [execOp,hop,hm,hrun,Result.andThen]
 exact hK' _ _ (hK w' r1 r2 r3)
theorem wpList_next_kvP (hg:o.guard=none) (it:Operand) (hop:o.op=Op.next it false) (hit:a.eval it=.pointer (some ⟨r,0,none⟩)) (h:MapItP K cv w r b kv left)
  (hDone:left=[]→wpList P ops Q rest (a.put o.dst (.tuple #[.bool false])) w)
  (hMore:∀ k v left' w',left.Perm ((k,v) :: left')→MapItP K cv w' r b kv left'→w.grownBy w' (some r)→w'.heap.size=w.heap.size→(Instr.entry (.pointer (some ⟨r,0,none⟩))).run P w'=.ok (.tuple #[K.kf k,cv v]) w' →
   wpList P ops Q rest (a.put o.dst (.tuple #[.bool true,K.kf k,cv v])) w'):wpList P ops Q (o :: rest) a w:=by
 refine wpList_plain hg fun K' hK'=>?_
 unfold Oper.wp
 rcases h.step o.type with ⟨h0,hrun⟩ | ⟨⟨k,v⟩,left',w',h1,hrun,h2,h3,h4,h5⟩
 ·simp [execOp,hop,hit,hrun,Result.andThen]
  exact hK' _ _ (hDone h0)
 ·simp [execOp,hop,hit,hrun,Result.andThen]
  exact hK' _ _ (hMore k v left' w' h1 h2 h3 h4 h5)
end
end Go.Proofs.YtfhfcipelgogjaaGreatDoor
