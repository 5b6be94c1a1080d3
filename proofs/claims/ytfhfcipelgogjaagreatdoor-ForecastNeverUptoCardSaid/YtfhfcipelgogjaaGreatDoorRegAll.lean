/- A region that draws its order, whose operations read, or make memory and hand back one of some values with a fact that stays; at most one operation at its end writes: one walk of the text's order serves every order. No condition. A region that draws its order, with two operations that write (the second behind all): one walk in the text's order. No condition. A region that draws its order, with two operations that write, the first into new memory alone: what only reads old memory may come behind it. No condition. -/
import Derived.Test.YtfhfcipelgogjaaGreatDoorBaseAt
set_option linter.unusedVariables false
set_option linter.unusedSimpArgs false
set_option linter.unusedSectionVars false
namespace Go.Proofs.YtfhfcipelgogjaaGreatDoor
open Go.RowKit
def befB (md:Region.Mode) (ops:Array Oper):Nat→Nat→Nat→Bool
 | 0,_,_=>false
 | f+1,k,i=>match ops[i]? with
  | some o=>o.after.any fun e=>Region.binds md e && (e.on == k || befB md ops f k e.on)
  | none=>false
structure Made where
 X:Type
 x0:X
 enc:X→Value
 Fact:X→World→Prop
def Made.upon (P:Program) (R:World→World→Prop) (m:Made) (W:World):Result Next→Prop
 | .ok (.value v) W'=>∃ x,v=m.enc x∧R W W'∧m.Fact x W'
 | .ok (.enter f args) W'=>Calls P f args W' fun e W''=>∃ x,e=.returned (m.enc x)∧R W W''∧m.Fact x W''
 | _=>False
def upd (F:Nat→World→Prop) (k:Nat) (Φ:World→Prop):Nat→World→Prop:=fun j=>if j=k then Φ else F j
theorem upd_ne {F:Nat→World→Prop} {j k:Nat} {Φ:World→Prop} (h:j≠k):upd F k Φ j=F j:=if_neg h
theorem upd_at {F:Nat→World→Prop} {k:Nat} {Φ:World→Prop}:upd F k Φ k=Φ:=if_pos rfl
theorem upd_comm {F:Nat→World→Prop} {i j:Nat} {Φ Ψ:World→Prop} (h:i≠j):upd (upd F i Φ) j Ψ=upd (upd F j Ψ) i Φ:=by
 funext k
 unfold upd
 by_cases h1:k=j
 ·subst h1; rw [if_pos rfl,if_neg (Ne.symm h),if_pos rfl]
 ·rw [if_neg h1]
  by_cases h2:k=i
  ·rw [if_pos h2,if_pos h2]
  ·rw [if_neg h2,if_neg h2,if_neg h1]
def freeB (md:Region.Mode) (ops:Array Oper) (t:Option Nat) (k:Nat):Bool:=match t with
 | none=>false
 | some t=>!befB md ops ops.size k t
def wpG (P:Program) (md:Region.Mode) (ops:Array Oper) (R:World→World→Prop) (w0:World) (rets:List (Nat×Made)) (t:Option Nat) (E:Act→World→Prop):List (Nat×Oper)→(Nat→World→Prop)→Act→Prop
 | [],F,a=>∀ W,R w0 W→(∀ j,F j W)→E a W
 | (k,o) :: rest,F,a=>match rets.lookup k with
  | none=>∃ v,(∀ W,(freeB md ops t k=true∨(R w0 W∧∀ j,befB md ops ops.size j k=true→F j W))→(execOp a.eval o).run P W=.ok (.value v) W)∧wpG P md ops R w0 rets t E rest F (a.put o.dst v)
  | some m=>(∀ W,R w0 W→(∀ j,befB md ops ops.size j k=true→F j W)→m.upon P R W ((execOp a.eval o).run P W))∧∀ x,wpG P md ops R w0 rets t E rest (upd F k (m.Fact x)) (a.put o.dst (m.enc x))
section
variable {P:Program} {md:Region.Mode} {ops:Array Oper} {R:World→World→Prop} {w0:World} {rets:List (Nat×Made)} {t:Option Nat} {E:Act→World→Prop}
theorem wpG_nil {F:Nat→World→Prop} {a:Act}:wpG P md ops R w0 rets t E [] F a=∀ W,R w0 W→(∀ j,F j W)→E a W:=by unfold wpG; rfl
theorem wpG_d {k:Nat} {o:Oper} {rest:List (Nat×Oper)} {F:Nat→World→Prop} {a:Act} (h:rets.lookup k=none):wpG P md ops R w0 rets t E ((k,o) :: rest) F a =
  ∃ v,(∀ W,(freeB md ops t k=true∨(R w0 W∧∀ j,befB md ops ops.size j k=true→F j W))→(execOp a.eval o).run P W=.ok (.value v) W)∧wpG P md ops R w0 rets t E rest F (a.put o.dst v):=by
 conv=>lhs; unfold wpG
 rw [h]
theorem wpG_n {k:Nat} {o:Oper} {rest:List (Nat×Oper)} {F:Nat→World→Prop} {a:Act} {m:Made} (h:rets.lookup k=some m):wpG P md ops R w0 rets t E ((k,o) :: rest) F a =
  ((∀ W,R w0 W→(∀ j,befB md ops ops.size j k=true→F j W)→m.upon P R W ((execOp a.eval o).run P W))∧∀ x,wpG P md ops R w0 rets t E rest (upd F k (m.Fact x)) (a.put o.dst (m.enc x))):=by
 conv=>lhs; unfold wpG
 rw [h]
structure Far (md:Region.Mode) (ops:Array Oper) (i j:Nat) (oi oj:Oper):Prop where
 ne:i≠j
 b1:befB md ops ops.size i j=false
 b2:befB md ops ops.size j i=false
 h1:∀ d,oi.dst=some d→d∉oj.looksAt ops
 h2:∀ d,oi.dst=some d→oj.dst≠some d
 h3:∀ d,oj.dst=some d→d∉oi.looksAt ops
theorem dep_upd {F:Nat→World→Prop} {i j:Nat} {Φ:World→Prop} {W:World} (hb:befB md ops ops.size j i=false) (h:∀ k,befB md ops ops.size k i=true→F k W):∀ k,befB md ops ops.size k i=true→upd F j Φ k W:=fun k hk=>by
 rw [upd_ne (fun e=>by rw [e,hb] at hk; cases hk)]; exact h k hk
theorem dep_un {F:Nat→World→Prop} {i j:Nat} {Φ:World→Prop} {W:World} (hb:befB md ops ops.size j i=false) (h:∀ k,befB md ops ops.size k i=true→upd F j Φ k W):∀ k,befB md ops ops.size k i=true→F k W:=fun k hk=>by
 have:=h k hk
 rwa [upd_ne (fun e=>by rw [e,hb] at hk; cases hk)] at this
theorem hoist_n {j:Nat} {oj:Oper} {m:Made} (hm:rets.lookup j=some m) (hsj:∀ cs b,oj.op≠.select cs b) {l2:List (Nat×Oper)}:∀ (l1:List (Nat×Oper)) (F:Nat→World→Prop) (a:Act),
  (∀ p∈l1,Far md ops p.1 j p.2 oj∧∀ cs b,p.2.op≠.select cs b)→wpG P md ops R w0 rets t E (l1++(j,oj) :: l2) F a →
  (∀ W,R w0 W→(∀ k,befB md ops ops.size k j=true→F k W)→m.upon P R W ((execOp a.eval oj).run P W))∧∀ x,wpG P md ops R w0 rets t E (l1++l2) (upd F j (m.Fact x)) (a.put oj.dst (m.enc x))
 | [],F,a,_,h=>by rw [List.nil_append,wpG_n hm] at h; exact h
 | (i,oi) :: l1,F,a,hf,h=>by
  obtain ⟨hF,hsi⟩:=hf (i,oi) (by simp)
  simp only at hF hsi
  have hf':=fun p (hp:p∈l1)=>hf p (List.mem_cons_of_mem _ hp)
  rw [List.cons_append] at h
  cases hi:rets.lookup i with
  | none =>
   rw [wpG_d hi] at h
   obtain ⟨v,hv,hT⟩:=h
   obtain ⟨g1,g2⟩:=hoist_n hm hsj l1 F _ hf' hT
   rw [execOp_put oj hsj a oi.dst v hF.h1] at g1
   refine ⟨g1,fun x=>?_⟩
   rw [List.cons_append,wpG_d hi]
   refine ⟨v,fun W hW=>?_,?_⟩
   ·rw [execOp_put oi hsi a oj.dst _ hF.h3]
    exact hv W (hW.imp id fun ⟨q1,q2⟩=>⟨q1,dep_un hF.b2 q2⟩)
   ·rw [← Act.put_comm a v _ hF.h2]; exact g2 x
  | some mi =>
   rw [wpG_n hi] at h
   obtain ⟨hv,hT⟩:=h
   have g:=fun y=>hoist_n hm hsj l1 _ _ hf' (hT y)
   refine ⟨fun W q1 q2=>?_,fun x=>?_⟩
   ·have:=(g mi.x0).1 W q1 (dep_upd hF.b1 q2)
    rwa [execOp_put oj hsj a oi.dst _ hF.h1] at this
   ·rw [List.cons_append,wpG_n hi]
    refine ⟨fun W q1 q2=>?_,fun y=>?_⟩
    ·rw [execOp_put oi hsi a oj.dst _ hF.h3]
     exact hv W q1 (dep_un hF.b2 q2)
    ·rw [← Act.put_comm a _ _ hF.h2,upd_comm (Ne.symm hF.ne)]; exact (g y).2 x
theorem hoist_d {j:Nat} {oj:Oper} (hm:rets.lookup j=none) (hsj:∀ cs b,oj.op≠.select cs b) {l2:List (Nat×Oper)} {W:World} (hW:R w0 W):∀ (l1:List (Nat×Oper)) (F:Nat→World→Prop) (a:Act),
  (∀ p∈l1,Far md ops p.1 j p.2 oj∧∀ cs b,p.2.op≠.select cs b)→(∀ k,befB md ops ops.size k j=true→F k W)→wpG P md ops R w0 rets t E (l1++(j,oj) :: l2) F a →
  ∃ v,(execOp a.eval oj).run P W=.ok (.value v) W∧wpG P md ops R w0 rets t E (l1++l2) F (a.put oj.dst v)
 | [],F,a,_,hd,h=>by
  rw [List.nil_append,wpG_d hm] at h
  obtain ⟨v,hv,hT⟩:=h
  exact ⟨v,hv W (.inr ⟨hW,hd⟩),hT⟩
 | (i,oi) :: l1,F,a,hf,hd,h=>by
  obtain ⟨hF,hsi⟩:=hf (i,oi) (by simp)
  simp only at hF hsi
  have hf':=fun p (hp:p∈l1)=>hf p (List.mem_cons_of_mem _ hp)
  rw [List.cons_append] at h
  cases hi:rets.lookup i with
  | none =>
   rw [wpG_d hi] at h
   obtain ⟨v,hv,hT⟩:=h
   obtain ⟨u,g1,g2⟩:=hoist_d hm hsj hW l1 F _ hf' hd hT
   rw [execOp_put oj hsj a oi.dst v hF.h1] at g1
   refine ⟨u,g1,?_⟩
   rw [List.cons_append,wpG_d hi]
   refine ⟨v,fun W hW=>?_,?_⟩
   ·rw [execOp_put oi hsi a oj.dst _ hF.h3]
    exact hv W hW
   ·rw [← Act.put_comm a v _ hF.h2]; exact g2
  | some mi =>
   rw [wpG_n hi] at h
   obtain ⟨hv,hT⟩:=h
   have g:=fun y=>hoist_d hm hsj hW l1 _ _ hf' (dep_upd hF.b1 hd) (hT y)
   obtain ⟨u,g1,g2⟩:=g mi.x0
   rw [execOp_put oj hsj a oi.dst _ hF.h1] at g1
   refine ⟨u,g1,?_⟩
   rw [List.cons_append,wpG_n hi]
   refine ⟨fun W q1 q2=>?_,fun y=>?_⟩
   ·rw [execOp_put oi hsi a oj.dst _ hF.h3]
    exact hv W q1 q2
   ·obtain ⟨u',k1,k2⟩:=g y
    rw [execOp_put oj hsj a oi.dst _ hF.h1,g1] at k1
    have:u=u':=by injection k1 with k1; injection k1
    rw [← Act.put_comm a _ _ hF.h2,this]; exact k2
end
structure RegForm (md:Region.Mode) (ops:Array Oper):Prop where
 sel:Region.noSelect ops=true
 guard:∀ (k:Nat) (o:Oper),ops[k]?=some o→o.guard=none
 back:∀ (k:Nat) (o:Oper),ops[k]?=some o→∀ e∈o.after,Region.binds md e=true→e.on<k
 apart:∀ (i j:Nat) (oi oj:Oper),ops[i]?=some oi→ops[j]?=some oj→i<j→befB md ops ops.size i j=true∨oi.apart ops oj=true
def formB (md:Region.Mode) (ops:Array Oper):Bool:=
 Region.noSelect ops && (List.range ops.size).all fun j=>match ops[j]? with
  | none=>true
  | some oj=>oj.guard.isNone && (oj.after.all fun e=>!Region.binds md e || decide (e.on<j)) && (List.range j).all fun i=>match ops[i]? with
   | none=>true
   | some oi=>oi.apart ops oj || befB md ops ops.size i j
theorem form_of {md:Region.Mode} {ops:Array Oper} (h:formB md ops=true):RegForm md ops:=by
 unfold formB at h
 rw [Bool.and_eq_true,List.all_eq_true] at h
 obtain ⟨h0,h⟩:=h
 have hh:∀ j oj,ops[j]?=some oj→oj.guard.isNone=true∧(oj.after.all fun e=>!Region.binds md e || decide (e.on<j))=true∧((List.range j).all fun i=>match ops[i]? with
   | none=>true
   | some oi=>oi.apart ops oj || befB md ops ops.size i j)=true:=fun j oj ho=>by
  have:=h j (List.mem_range.2 (Array.getElem?_eq_some_iff.1 ho).1)
  simp only [ho,Bool.and_eq_true] at this
  exact ⟨this.1.1,this.1.2,this.2⟩
 refine ⟨h0,fun k o ho=>by simpa using (hh k o ho).1,fun k o ho e he hb=>?_,fun i j oi oj hi hj hij=>?_⟩
 ·have:=Array.all_eq_true_iff_forall_mem.1 (hh k o ho).2.1 e he
  simpa [hb] using this
 ·have:=List.all_eq_true.1 (hh j oj hj).2.2 i (List.mem_range.2 hij)
  simp only [hi,Bool.or_eq_true] at this
  exact this.symm
section
variable {P:Program} {md:Region.Mode} {ops:Array Oper}
def Closed (md:Region.Mode) (ops:Array Oper) (listed:Array Bool):Prop:=
 ∀ i o,ops[i]?=some o→listed.getD i false=true→∀ e∈o.after,Region.binds md e=true→listed.getD e.on false=true
theorem bef_listed {listed:Array Bool} (hc:Closed md ops listed):∀ (f k i:Nat) (o:Oper),ops[i]?=some o→(∀ e∈o.after,Region.binds md e=true→listed.getD e.on false=true)→befB md ops f k i=true→listed.getD k false=true
 | 0,_,_,_,_,_,h=>by simp [befB] at h
 | f+1,k,i,o,ho,hd,h=>by
  unfold befB at h
  simp only [ho] at h
  obtain ⟨e,he,hb⟩:=Array.any_eq_true'.1 h
  simp only [Bool.and_eq_true,Bool.or_eq_true,beq_iff_eq] at hb
  obtain ⟨hb,h1 | h1⟩:=hb
  ·rw [← h1]; exact hd e he hb
  ·cases ho':ops[e.on]? with
   | none =>
    cases f with
    | zero=>simp [befB] at h1
    | succ f=>unfold befB at h1; simp [ho'] at h1
   | some o'=>exact bef_listed hc f k e.on o' ho' (hc e.on o' ho' (hd e he hb)) h1
theorem bef_lt (hF:RegForm md ops):∀ (f k i:Nat),befB md ops f k i=true→k<i
 | 0,_,_,h=>by simp [befB] at h
 | f+1,k,i,h=>by
  unfold befB at h
  cases ho:ops[i]? with
  | none=>simp [ho] at h
  | some o =>
   simp only [ho] at h
   obtain ⟨e,he,hb⟩:=Array.any_eq_true'.1 h
   simp only [Bool.and_eq_true,Bool.or_eq_true,beq_iff_eq] at hb
   have hlt:=hF.back i o ho e he hb.1
   rcases hb.2 with h1 | h1
   ·omega
   ·have:=bef_lt hF f k e.on h1; omega
theorem getD_ft {listed:Array Bool} {k:Nat} (hk:k<listed.size):listed.getD k true=listed.getD k false:=by simp [hk]
theorem closed_set (hF:RegForm md ops) {listed:Array Bool} (hs:listed.size=ops.size) (hc:Closed md ops listed) {i:Nat} {o:Oper} (ho:ops[i]?=some o) (hd:∀ e∈o.after,Region.binds md e=true→listed.getD e.on false=true):Closed md ops (listed.setIfInBounds i true):=by
 intro k ok hk hl e he hb
 by_cases hki:k=i
 ·subst hki
  rw [ho] at hk
  obtain rfl:o=ok:=by injection hk
  exact getD_set_true (hd e he hb)
 ·rw [getD_set_ne false (Ne.symm hki)] at hl
  exact getD_set_true (hc k ok hk hl e he hb)
def Rest (ops:Array Oper) (listed:Array Bool) (t:Option Nat) (l:List (Nat×Oper)):Prop:=
 l.Pairwise (fun p q=>p.1<q.1)∧∀ k o,(k,o)∈l↔ops[k]?=some o∧listed.getD k true=false∧∀ u,t=some u→k<u
theorem Rest.set {listed:Array Bool} {t:Option Nat} {l1 l2:List (Nat×Oper)} {i:Nat} {o:Oper} (hs:listed.size=ops.size) (h:Rest ops listed t (l1++(i,o) :: l2)):Rest ops (listed.setIfInBounds i true) t (l1++l2):=by
 obtain ⟨hp,hm⟩:=h
 rw [List.pairwise_append,List.pairwise_cons] at hp
 obtain ⟨p1,⟨p2,p3⟩,p4⟩:=hp
 have hi:i<listed.size:=by rw [hs]; exact (Array.getElem?_eq_some_iff.1 ((hm i o).1 (by simp)).1).1
 refine ⟨List.pairwise_append.2 ⟨p1,p3,fun a ha b hb=>p4 a ha b (List.mem_cons_of_mem _ hb)⟩,fun k ok=>?_⟩
 have hmk:=hm k ok
 by_cases hki:k=i
 ·subst hki
  refine ⟨fun hin=>?_,fun ⟨_,h2,_⟩=>?_⟩
  ·rcases List.mem_append.1 hin with hin | hin
   ·have:=p4 _ hin (k,o) (by simp); exact absurd this (Nat.lt_irrefl _)
   ·have:=p2 _ hin; exact absurd this (Nat.lt_irrefl _)
  ·simp [hi] at h2
 ·rw [getD_set_ne true (Ne.symm hki),← hmk]
  simp only [List.mem_append,List.mem_cons,Prod.mk.injEq,hki,false_and,false_or]
theorem ready_some (hF:RegForm md ops) {listed:Array Bool} (hs:listed.size=ops.size):∀ (n k:Nat) (o:Oper),k<n→ops[k]?=some o→listed.getD k true=false→Region.ready md ops listed≠[]
 | 0,_,_,h,_,_=>absurd h (Nat.not_lt_zero _)
 | n+1,k,o,hn,ho,hl=>by
  by_cases hall:∀ e∈o.after,Region.binds md e=true→listed.getD e.on false=true
  ·intro h0
   have:k∈Region.ready md ops listed:=mem_ready.2 ⟨hl,o,ho,hall⟩
   rw [h0] at this; cases this
  ·have:∃ e∈o.after,Region.binds md e=true∧listed.getD e.on false=false:=by
    refine Classical.byContradiction fun hno=>hall fun e he hb=>?_
    cases hc:listed.getD e.on false with
    | true=>rfl
    | false=>exact absurd ⟨e,he,hb,hc⟩ hno
   obtain ⟨e,he,hb,hf⟩:=this
   have hlt:=hF.back k o ho e he hb
   have hks:k<ops.size:=(Array.getElem?_eq_some_iff.1 ho).1
   have hes:e.on<ops.size:=by omega
   refine ready_some hF hs n e.on ops[e.on] (by omega) (Array.getElem?_eq_getElem hes) ?_
   rw [getD_ft (by omega)]; exact hf
theorem far_of (hF:RegForm md ops) {listed:Array Bool} (hc:Closed md ops listed) {t:Option Nat} {l1 l2:List (Nat×Oper)} {i:Nat} {o:Oper} (hs:listed.size=ops.size) (h:Rest ops listed t (l1++(i,o) :: l2)) (hd:∀ e∈o.after,Region.binds md e=true→listed.getD e.on false=true) :
  ∀ p∈l1,Far md ops p.1 i p.2 o∧∀ cs b,p.2.op≠.select cs b:=by
 rintro ⟨k,ok⟩ hp
 obtain ⟨hpw,hm⟩:=h
 have hki:k<i:=(List.pairwise_append.1 hpw).2.2 _ hp (i,o) (by simp)
 obtain ⟨hk1,hk2,_⟩:=(hm k ok).1 (by simp [hp])
 obtain ⟨hi1,_,_⟩:=(hm i o).1 (by simp)
 have hks:k<listed.size:=by rw [hs]; exact (Array.getElem?_eq_some_iff.1 hk1).1
 have b1:befB md ops ops.size k i=false:=by
  cases hb:befB md ops ops.size k i with
  | false=>rfl
  | true =>
   have:=bef_listed hc _ k i o hi1 hd hb
   rw [getD_ft hks,this] at hk2; cases hk2
 have b2:befB md ops ops.size i k=false:=by
  cases hb:befB md ops ops.size i k with
  | false=>rfl
  | true=>have:=bef_lt hF _ _ _ hb; omega
 have hap:=(hF.apart k i ok o hk1 hi1 hki).resolve_left (by rw [b1]; exact Bool.false_ne_true)
 obtain ⟨a1,a2,a3⟩:=Oper.apart_spec hap
 exact ⟨⟨by omega,b1,b2,a1,a2,a3⟩,fun cs b=>Region.noSelect_spec hF.sel k ok cs b hk1⟩
theorem wanted_none {o:Oper} (h:o.guard=none) (f:Nat→Option Bool):Region.wanted o f=true:=by unfold Region.wanted; rw [h]
def Stays (R:World→World→Prop) (rets:List (Nat×Made)):Prop:=∀ k m,rets.lookup k=some m→∀ x W W',R W W'→m.Fact x W→m.Fact x W'
theorem any_of_wpG {Q:Exit→Act→World→Prop} {R:World→World→Prop} {w0:World} {rets:List (Nat×Made)} (hF:RegForm md ops) (hrr:∀ w,R w w) (hrt:∀ a b c,R a b→R b c→R a c) (hst:Stays R rets):∀ (fuel:Nat) (l:List (Nat×Oper)) (listed:Array Bool) (F:Nat→World→Prop) (a:Act) (W:World),
  l.length≤fuel→listed.size=ops.size→Closed md ops listed→Rest ops listed none l→wpG P md ops R w0 rets none (fun a W=>Q .normal a W) l F a→R w0 W→(∀ j,F j W)→(∀ j W W',R W W'→F j W→F j W')→wpAny P md ops Q fuel listed a W:=by
 intro fuel
 induction fuel with
 | zero =>
  intro l listed F a W hl hs hc hR h hW hf hfs
  obtain rfl:l=[]:=List.eq_nil_of_length_eq_zero (by omega)
  have hnone:Region.ready md ops listed=[]:=by
   rw [List.eq_nil_iff_forall_not_mem]
   intro k hk
   obtain ⟨h0,o,ho,_⟩:=mem_ready.1 hk
   have:=(hR.2 k o).2 ⟨ho,h0,fun _ hu=>nomatch hu⟩
   cases this
  rw [wpG_nil] at h
  exact ⟨hnone,h W hW hf⟩
 | succ fuel ih =>
  intro l listed F a W hl hs hc hR h hW hf hfs
  refine ⟨fun h0=>?_,fun i hi=>?_⟩
  ·cases l with
   | nil=>rw [wpG_nil] at h; exact h W hW hf
   | cons p l =>
    obtain ⟨k,o⟩:=p
    obtain ⟨g1,g2,_⟩:=(hR.2 k o).1 (by simp)
    exact absurd h0 (ready_some hF hs (k+1) k o (by omega) g1 g2)
  ·obtain ⟨h0,o,ho,hd⟩:=mem_ready.1 hi
   obtain ⟨l1,l2,rfl⟩:=List.append_of_mem ((hR.2 i o).2 ⟨ho,h0,fun _ hu=>nomatch hu⟩)
   have hfar:=far_of hF hc hs hR hd
   have hsel:∀ cs b,o.op≠.select cs b:=fun cs b=>Region.noSelect_spec hF.sel i o cs b ho
   have hR':=hR.set hs
   have hs':(listed.setIfInBounds i true).size=ops.size:=by simpa using hs
   have hc':=closed_set hF hs hc ho hd
   have hl':(l1++l2).length≤fuel:=by simp at hl ⊢; omega
   unfold wpOp
   simp only [ho,wanted_none (hF.guard i o ho),if_true]
   refine .inl ?_
   unfold Oper.wp
   cases hm:rets.lookup i with
   | none =>
    obtain ⟨v,g1,g2⟩:=hoist_d hm hsel hW l1 F a hfar (fun k _=>hf k) h
    rw [g1]
    exact ih _ _ F _ W hl' hs' hc' hR' g2 hW hf hfs
   | some m =>
    obtain ⟨g1,g2⟩:=hoist_n hm hsel l1 F a hfar h
    have g3:=g1 W hW fun k _=>hf k
    have fin:∀ x W',R W W'→m.Fact x W'→wpAny P md ops Q fuel (listed.setIfInBounds i true) (a.put o.dst (m.enc x)) W':=fun x W' q1 q2=>by
     refine ih _ _ (upd F i (m.Fact x)) _ W' hl' hs' hc' hR' (g2 x) (hrt _ _ _ hW q1) (fun j=>?_) (fun j W1 W2 r1 r2=>?_)
     ·by_cases hj:j=i
      ·subst hj; rw [upd_at]; exact q2
      ·rw [upd_ne hj]; exact hfs j W W' q1 (hf j)
     ·by_cases hj:j=i
      ·subst hj; rw [upd_at] at r2 ⊢; exact hst _ m hm x W1 W2 r1 r2
      ·rw [upd_ne hj] at r2 ⊢; exact hfs j W1 W2 r1 r2
    generalize (execOp a.eval o).run P W=r at g3
    cases r with
    | ok n W' =>
     cases n <;> simp only [Made.upon] at g3 <;> simp only [Oper.upon]
     case value v=>obtain ⟨x,rfl,q1,q2⟩:=g3; exact fin x W' q1 q2
     case enter f args=>exact g3.mono fun e W'' ⟨x,he,q1,q2⟩=>by subst he; exact fin x W'' q1 q2
    | halt x W'=>simp only [Made.upon] at g3
def EndUpon (P:Program) (K:Value→World→Prop):Result Next→Prop
 | .ok (.value v) W'=>K v W'
 | .ok .skip W'=>K undef W'
 | .ok (.enter f args) W'=>Calls P f args W' fun e W''=>∃ v,e=.returned v∧K v W''
 | _=>False
theorem EndUpon.mono {K K':Value→World→Prop} (h:∀ v W,K v W→K' v W):∀ {r:Result Next},EndUpon P K r→EndUpon P K' r:=fun {r} hr=>by
 cases r with
 | ok n W' =>
  cases n <;> simp only [EndUpon] at hr ⊢
  case value v=>exact h _ _ hr
  case skip=>exact h _ _ hr
  case enter f args=>exact hr.mono fun e W'' ⟨v,he,hk⟩=>⟨v,he,h _ _ hk⟩
 | halt x W'=>simp only [EndUpon] at hr
def EndT (P:Program) (md:Region.Mode) (ops:Array Oper) (ot:Oper) (Q:Act→World→Prop) (tail:List (Nat×Oper)) (a:Act) (W:World):Prop:=
 EndUpon P (fun v W'=>wpG P md ops Eq W' [] none Q tail (fun _ _=>True) (a.put ot.dst v)) ((execOp a.eval ot).run P W)
theorem to_none {Q:Act→World→Prop} {R:World→World→Prop} {w0:World} {rets:List (Nat×Made)} {t:Nat} {ot:Oper} {tail:List (Nat×Oper)} (hst:∀ cs b,ot.op≠.select cs b) {W:World} (hW:R w0 W):∀ (l:List (Nat×Oper)) (F:Nat→World→Prop) (a:Act),
  (∀ p∈l,rets.lookup p.1=none∧freeB md ops (some t) p.1=true∧(∀ d,p.2.dst=some d→d∉ot.looksAt ops)∧(∀ d,p.2.dst=some d→ot.dst≠some d)∧(∀ d,ot.dst=some d→d∉p.2.looksAt ops)∧∀ cs b,p.2.op≠.select cs b)→(∀ j,F j W) →
  wpG P md ops R w0 rets (some t) (EndT P md ops ot Q tail) l F a→EndT P md ops ot Q (l++tail) a W
 | [],F,a,_,hf,h=>by
  rw [wpG_nil] at h
  exact h W hW hf
 | (i,oi) :: l,F,a,hl,hf,h=>by
  obtain ⟨q1,q2,q3,q4,q5,q6⟩:=hl (i,oi) (by simp)
  simp only at q1 q2 q3 q4 q5 q6
  rw [wpG_d q1] at h
  obtain ⟨u,hu,hT⟩:=h
  have h1:=to_none hst hW l F _ (fun p hp=>hl p (List.mem_cons_of_mem _ hp)) hf hT
  unfold EndT at h1 ⊢
  rw [execOp_put ot hst a oi.dst u q3] at h1
  refine h1.mono fun v W' h2=>?_
  rw [List.cons_append,wpG_d (by rfl)]
  refine ⟨u,fun W1 _=>?_,?_⟩
  ·rw [execOp_put oi q6 a ot.dst _ q5]; exact hu W1 (.inl q2)
  ·rw [← Act.put_comm a u _ q4]; exact h2
theorem any_of_wpG_t {Q:Exit→Act→World→Prop} {R:World→World→Prop} {w0:World} {rets:List (Nat×Made)} {t:Nat} {ot:Oper} {tail:List (Nat×Oper)} (hot:ops[t]?=some ot) (hF:RegForm md ops) (hrr:∀ w,R w w) (hrt:∀ a b c,R a b→R b c→R a c) (hst:Stays R rets)
  (hrets:∀ k m,rets.lookup k=some m→befB md ops ops.size k t=true) (hlast:∀ k,k<ops.size→t<k→befB md ops ops.size t k=true)
  (htail:tail.Pairwise (fun p q=>p.1<q.1)∧∀ k o,(k,o)∈tail↔ops[k]?=some o∧t<k):∀ (fuel:Nat) (l:List (Nat×Oper)) (listed:Array Bool) (F:Nat→World→Prop) (a:Act) (W:World),
  l.length+tail.length+1≤fuel→listed.size=ops.size→Closed md ops listed→listed.getD t true=false→Rest ops listed (some t) l→wpG P md ops R w0 rets (some t) (EndT P md ops ot (fun a W=>Q .normal a W) tail) l F a →
  R w0 W→(∀ j,F j W)→(∀ j W W',R W W'→F j W→F j W')→wpAny P md ops Q fuel listed a W:=by
 intro fuel
 induction fuel with
 | zero=>intro l listed F a W hl; omega
 | succ fuel ih =>
  intro l listed F a W hl hs hc ht hR h hW hf hfs
  have hts:t<listed.size:=by rw [hs]; exact (Array.getElem?_eq_some_iff.1 hot).1
  refine ⟨fun h0=>absurd h0 (ready_some hF hs (t+1) t ot (by omega) hot ht),fun i hi=>?_⟩
  obtain ⟨h0,o,ho,hd⟩:=mem_ready.1 hi
  have his:i<ops.size:=(Array.getElem?_eq_some_iff.1 ho).1
  have hs':(listed.setIfInBounds i true).size=ops.size:=by simpa using hs
  have hc':=closed_set hF hs hc ho hd
  unfold wpOp
  simp only [ho,wanted_none (hF.guard i o ho),if_true]
  refine .inl ?_
  unfold Oper.wp
  have hsel:∀ cs b,o.op≠.select cs b:=fun cs b=>Region.noSelect_spec hF.sel i o cs b ho
  by_cases hit:i=t
  ·subst hit
   obtain rfl:o=ot:=by rw [ho] at hot; injection hot
   have hall:∀ p∈l,rets.lookup p.1=none∧freeB md ops (some i) p.1=true∧(∀ d,p.2.dst=some d→d∉o.looksAt ops)∧(∀ d,p.2.dst=some d→o.dst≠some d)∧(∀ d,o.dst=some d→d∉p.2.looksAt ops)∧∀ cs b,p.2.op≠.select cs b:=by
    rintro ⟨k,ok⟩ hp
    obtain ⟨k1,k2,k3⟩:=(hR.2 k ok).1 hp
    have hks:k<listed.size:=by rw [hs]; exact (Array.getElem?_eq_some_iff.1 k1).1
    have b1:befB md ops ops.size k i=false:=by
     cases hb:befB md ops ops.size k i with
     | false=>rfl
     | true =>
      have:=bef_listed hc _ k i o ho hd hb
      rw [getD_ft hks,this] at k2; cases k2
    have hlt:k<i:=k3 i rfl
    refine ⟨?_,(by show (!befB md ops ops.size k i)=true; rw [b1]; rfl),?_⟩
    ·cases hm:rets.lookup k with
     | none=>rfl
     | some m=>rw [hrets k m hm] at b1; cases b1
    ·have hap:=(hF.apart k i ok o k1 ho hlt).resolve_left (by rw [b1]; exact Bool.false_ne_true)
     obtain ⟨a1,a2,a3⟩:=Oper.apart_spec hap
     exact ⟨a1,a2,a3,fun cs b=>Region.noSelect_spec hF.sel k ok cs b k1⟩
   have g0:=to_none hsel hW l F a hall hf h
   have hi':i<listed.size:=by rw [hs]; exact his
   have hR':Rest ops (listed.setIfInBounds i true) none (l++tail):=by
    refine ⟨List.pairwise_append.2 ⟨hR.1,htail.1,?_⟩,fun k ok=>?_⟩
    ·rintro ⟨k,ok⟩ hp ⟨k',ok'⟩ hq
     have h1:=((hR.2 k ok).1 hp).2.2 i rfl
     have h2:=((htail.2 k' ok').1 hq).2
     show k<k'
     omega
    ·rw [List.mem_append,hR.2 k ok,htail.2 k ok]
     constructor
     ·rintro (⟨q1,q2,q3⟩ | ⟨q1,q2⟩)
      ·have:=q3 i rfl
       exact ⟨q1,by rw [getD_set_ne true (by omega)]; exact q2,fun _ hu=>nomatch hu⟩
      ·refine ⟨q1,?_,fun _ hu=>nomatch hu⟩
       rw [getD_set_ne true (by omega)]
       have hks:k<ops.size:=(Array.getElem?_eq_some_iff.1 q1).1
       cases hlk:listed.getD k true with
       | false=>rfl
       | true =>
        rw [getD_ft (by omega)] at hlk
        have:=bef_listed hc _ i k ok q1 (hc k ok q1 hlk) (hlast k hks q2)
        rw [getD_ft hi',this] at ht; cases ht
     ·rintro ⟨q1,q2,_⟩
      rcases Nat.lt_trichotomy k i with hlt | rfl | hgt
      ·rw [getD_set_ne true (by omega)] at q2
       exact .inl ⟨q1,q2,fun u hu=>by injection hu with hu; omega⟩
      ·simp [hi'] at q2
      ·exact .inr ⟨q1,hgt⟩
   have fin:∀ v W',wpG P md ops Eq W' [] none (fun a W=>Q .normal a W) (l++tail) (fun _ _=>True) (a.put o.dst v)→wpAny P md ops Q fuel (listed.setIfInBounds i true) (a.put o.dst v) W':=fun v W' g2 =>
    any_of_wpG (R:=Eq) hF (fun _=>rfl) (fun _ _ _=>Eq.trans) (fun k m hm=>by cases hm) fuel (l++tail) _ _ _ W' (by rw [List.length_append]; omega) hs' hc' hR' g2 rfl (fun _=>trivial) (fun _ _ _ _ _=>trivial)
   unfold EndT at g0
   generalize (execOp a.eval o).run P W=r at g0
   cases r with
   | ok n W' =>
    cases n <;> simp only [EndUpon] at g0 <;> simp only [Oper.upon]
    case value v=>exact fin v W' g0
    case skip=>exact fin _ W' g0
    case enter f args=>exact g0.mono fun e W'' ⟨v,he,g2⟩=>by subst he; exact fin v W'' g2
   | halt x W'=>simp only [EndUpon] at g0
  ·have hlt:i<t:=by
    rcases Nat.lt_trichotomy i t with h1 | h1 | h1
    ·exact h1
    ·exact absurd h1 hit
    ·have:=bef_listed hc _ t i o ho hd (hlast i his h1)
     rw [getD_ft hts,this] at ht; cases ht
   obtain ⟨l1,l2,rfl⟩:=List.append_of_mem ((hR.2 i o).2 ⟨ho,h0,fun u hu=>by injection hu with hu; omega⟩)
   have hfar:=far_of hF hc hs hR hd
   have hR':=hR.set hs
   have hl':(l1++l2).length+tail.length+1≤fuel:=by simp at hl ⊢; omega
   have ht':(listed.setIfInBounds i true).getD t true=false:=by rw [getD_set_ne true hit]; exact ht
   cases hm:rets.lookup i with
   | none =>
    obtain ⟨v,g1,g2⟩:=hoist_d hm hsel hW l1 F a hfar (fun k _=>hf k) h
    rw [g1]
    exact ih _ _ F _ W hl' hs' hc' ht' hR' g2 hW hf hfs
   | some m =>
    obtain ⟨g1,g2⟩:=hoist_n hm hsel l1 F a hfar h
    have g3:=g1 W hW fun k _=>hf k
    have fin:∀ x W',R W W'→m.Fact x W'→wpAny P md ops Q fuel (listed.setIfInBounds i true) (a.put o.dst (m.enc x)) W':=fun x W' q1 q2=>by
     refine ih _ _ (upd F i (m.Fact x)) _ W' hl' hs' hc' ht' hR' (g2 x) (hrt _ _ _ hW q1) (fun j=>?_) (fun j W1 W2 r1 r2=>?_)
     ·by_cases hj:j=i
      ·subst hj; rw [upd_at]; exact q2
      ·rw [upd_ne hj]; exact hfs j W W' q1 (hf j)
     ·by_cases hj:j=i
      ·subst hj; rw [upd_at] at r2 ⊢; exact hst _ m hm x W1 W2 r1 r2
      ·rw [upd_ne hj] at r2 ⊢; exact hfs j W1 W2 r1 r2
    generalize (execOp a.eval o).run P W=r at g3
    cases r with
    | ok n W' =>
     cases n <;> simp only [Made.upon] at g3 <;> simp only [Oper.upon]
     case value v=>obtain ⟨x,rfl,q1,q2⟩:=g3; exact fin x W' q1 q2
     case enter f args=>exact g3.mono fun e W'' ⟨x,he,q1,q2⟩=>by subst he; exact fin x W'' q1 q2
    | halt x W'=>simp only [Made.upon] at g3
end
def number:Nat→List Oper→List (Nat×Oper)
 | _,[]=>[]
 | k,o :: l=>(k,o) :: number (k+1) l
theorem mem_number:∀ (l:List Oper) (n k:Nat) (o:Oper),(k,o)∈number n l↔∃ j,k=n+j∧l[j]?=some o
 | [],n,k,o=>by simp [number]
 | x :: l,n,k,o=>by
  unfold number
  rw [List.mem_cons,mem_number l (n+1) k o,Prod.mk.injEq]
  constructor
  ·rintro (⟨rfl,rfl⟩ | ⟨j,rfl,hj⟩)
   ·exact ⟨0,rfl,rfl⟩
   ·exact ⟨j+1,by omega,by simpa using hj⟩
  ·rintro ⟨j,rfl,hj⟩
   cases j with
   | zero=>exact .inl ⟨rfl,by simpa using hj.symm⟩
   | succ j=>exact .inr ⟨j,by omega,by simpa using hj⟩
theorem number_pair:∀ (l:List Oper) (n:Nat),(number n l).Pairwise (fun p q=>p.1<q.1)
 | [],n=>by simp [number]
 | x :: l,n=>by
  unfold number
  refine List.pairwise_cons.2 ⟨?_,number_pair l (n+1)⟩
  rintro ⟨k,o⟩ hp
  obtain ⟨j,rfl,_⟩:=(mem_number l (n+1) k o).1 hp
  show n<n+1+j
  omega
theorem number_len:∀ (l:List Oper) (n:Nat),(number n l).length=l.length
 | [],n=>rfl
 | x :: l,n=>by unfold number; simp [number_len l (n+1)]
theorem rest_number (l:List Oper):Rest l.toArray (Array.replicate l.toArray.size false) none (number 0 l):=by
 refine ⟨number_pair l 0,fun k o=>?_⟩
 rw [mem_number]
 constructor
 ·rintro ⟨j,rfl,hj⟩
  have hlt:j<l.length:=(List.getElem?_eq_some_iff.1 hj).1
  exact ⟨by simpa using hj,by simp [hlt],fun _ hu=>nomatch hu⟩
 ·rintro ⟨h1,_,h2⟩
  exact ⟨k,by omega,by simpa using h1⟩
theorem rest_number_t (l:List Oper) (t:Nat):Rest l.toArray (Array.replicate l.toArray.size false) (some t) (number 0 (l.take t)):=by
 refine ⟨number_pair _ 0,fun k o=>?_⟩
 rw [mem_number]
 constructor
 ·rintro ⟨j,rfl,hj⟩
  have hlt:j<(l.take t).length:=(List.getElem?_eq_some_iff.1 hj).1
  rw [List.length_take] at hlt
  rw [List.getElem?_take_of_lt (by omega)] at hj
  have hjl:j<l.length:=by omega
  exact ⟨by simpa using hj,by simp [hjl],fun u hu=>by injection hu with hu; omega⟩
 ·rintro ⟨h1,_,h2⟩
  have:=h2 t rfl
  exact ⟨k,by omega,by rw [List.getElem?_take_of_lt this]; simpa using h1⟩
theorem tail_number (l:List Oper) (t:Nat):(number (t+1) (l.drop (t+1))).Pairwise (fun p q=>p.1<q.1)∧∀ k o,(k,o)∈number (t+1) (l.drop (t+1))↔l.toArray[k]?=some o∧t<k:=by
 refine ⟨number_pair _ _,fun k o=>?_⟩
 rw [mem_number]
 constructor
 ·rintro ⟨j,rfl,hj⟩
  rw [List.getElem?_drop] at hj
  exact ⟨by simpa using hj,by omega⟩
 ·rintro ⟨h1,h2⟩
  exact ⟨k - (t+1),by omega,by rw [List.getElem?_drop,show t+1+(k - (t+1))=k by omega]; simpa using h1⟩
theorem closed_start {md:Region.Mode} {ops:Array Oper} (n:Nat):Closed md ops (Array.replicate n false):=by
 intro i o _ h
 by_cases hi:i<n <;> simp [hi] at h
def Gr (w W:World):Prop:=Below w.heap.size w W
theorem Gr.refl (w:World):Gr w w:=Below.refl _ _
theorem Gr.trans (a b c:World) (h:Gr a b) (k:Gr b c):Gr a c:=below_old h k
def formT (ks:List Nat) (t:Nat) (l:List Oper):Bool:=
 formB .any l.toArray && (ks.all fun k=>befB .any l.toArray l.toArray.size k t) && (List.range l.length).all fun k=>decide (k≤t) || befB .any l.toArray l.toArray.size t k
section
variable {P:Program} {id:Nat} {Q:Exit→Act→World→Prop} {a:Act} {w:World} {l:List Oper} {rets:List (Nat×Made)}
theorem gr_draw (w:World):Gr w { w with drawn:=w.drawn+1 }:=(Below.refl _ _).drew
theorem wp_region_grow (rets:List (Nat×Made)) (hm:P.follows .mixedOrders=true) (hB:formB .any l.toArray=true) (hst:Stays Gr rets)
  (h:wpG P .any l.toArray Gr w rets none (fun a W=>Q .normal a W) (number 0 l) (fun _ _=>True) a):(Code.region id l.toArray true).wp P Q a w:=
 wp_region_any hm (any_of_wpG (form_of hB) Gr.refl Gr.trans hst _ _ _ _ _ _ (by simp [number_len]) (by simp) (closed_start _) (rest_number l) h (gr_draw w) (fun _=>trivial) (fun _ _ _ _ _=>trivial))
theorem lookup_mem:∀ {rets:List (Nat×Made)} {k:Nat} {m:Made},rets.lookup k=some m→k∈rets.map (·.1)
 | [],_,_,h=>by cases h
 | (k',m') :: r,k,m,h=>by
  rw [List.lookup_cons] at h
  by_cases he:k=k'
  ·subst he; simp
  ·have:(k == k')=false:=by simpa using he
   rw [this] at h
   exact List.mem_cons_of_mem _ (lookup_mem h)
theorem wp_region_grow_t (rets:List (Nat×Made)) (t:Nat) (ot:Oper) (hot:l[t]?=some ot) (hm:P.follows .mixedOrders=true) (ks:List Nat) (hks:rets.map (·.1)=ks) (hB:formT ks t l=true) (hst:Stays Gr rets)
  (h:wpG P .any l.toArray Gr w rets (some t) (EndT P .any l.toArray ot (fun a W=>Q .normal a W) (number (t+1) (l.drop (t+1)))) (number 0 (l.take t)) (fun _ _=>True) a):(Code.region id l.toArray true).wp P Q a w:=by
 unfold formT at hB
 rw [Bool.and_eq_true,Bool.and_eq_true] at hB
 obtain ⟨⟨hB,hr⟩,hl⟩:=hB
 have ht:t<l.length:=(List.getElem?_eq_some_iff.1 hot).1
 refine wp_region_any hm (any_of_wpG_t (ot:=ot) (by simpa using hot) (form_of hB) Gr.refl Gr.trans hst (fun k m hk=>?_) (fun k hk hlt=>?_) (tail_number l t) _ _ _ _ _ _ ?_ (by simp) (closed_start _) (by simp [ht]) (rest_number_t l t) h (gr_draw w) (fun _=>trivial) (fun _ _ _ _ _=>trivial))
 ·exact List.all_eq_true.1 hr k (hks ▸ lookup_mem hk)
 ·have:=List.all_eq_true.1 hl k (List.mem_range.2 (by simpa using hk))
  rw [Bool.or_eq_true,decide_eq_true_eq] at this
  exact this.resolve_left (by omega)
 ·rw [number_len,number_len,List.length_take,List.length_drop]
  simp
  omega
end
section
variable {P:Program} {md:Region.Mode} {ops:Array Oper} {w:World} {rets:List (Nat×Made)} {t:Option Nat} {E:Act→World→Prop} {k:Nat} {o:Oper} {l:List Oper} {F:Nat→World→Prop} {a:Act}
theorem g_end (h:∀ δ,(∀ j,F j (over w δ))→E a (over w δ)):wpG P md ops Gr w rets t E (number k []) F a:=by
 unfold number
 rw [wpG_nil]
 intro W hW hF
 have e:=over_of_below hW
 rw [e] at hF ⊢
 exact h W hF
theorem number_cons:number k (o :: l)=(k,o) :: number (k+1) l:=rfl
theorem g_tail {W:World} (v:Value) (hv:(execOp a.eval o).run P W=.ok (.value v) W) (h:wpG P md ops Eq W [] none E (number (k+1) l) F (a.put o.dst v)):wpG P md ops Eq W [] none E (number k (o :: l)) F a:=by
 rw [number_cons,wpG_d (by rfl)]
 refine ⟨v,fun W' hW=>?_,h⟩
 rcases hW with hW | ⟨rfl,_⟩
 ·cases hW
 ·exact hv
theorem g_tail_end {W:World} (h:E a W):wpG P md ops Eq W [] none E (number k []) F a:=by
 unfold number
 rw [wpG_nil]
 rintro W' rfl _
 exact h
theorem endT_of {ot:Oper} {Q:Act→World→Prop} {tail:List (Nat×Oper)} {W:World} (v:Value) (W':World) (h1:(execOp a.eval ot).run P W=.ok (.value v) W'∨((execOp a.eval ot).run P W=.ok .skip W'∧v=undef)) (h2:wpG P md ops Eq W' [] none Q tail (fun _ _=>True) (a.put ot.dst v)):EndT P md ops ot Q tail a W:=by
 unfold EndT
 rcases h1 with h1 | ⟨h1,rfl⟩
 ·rw [h1]; exact h2
 ·rw [h1]; exact h2
theorem endT_call {ot:Oper} {Q:Act→World→Prop} {tail:List (Nat×Oper)} {W:World} (f:FuncId) (args:Array Value) (he:∀ W,(execOp a.eval ot).run P W=.ok (.enter f args) W)
  (hc:Calls P f args W fun e W'=>∃ v,e=.returned v∧wpG P md ops Eq W' [] none Q tail (fun _ _=>True) (a.put ot.dst v)):EndT P md ops ot Q tail a W:=by
 unfold EndT
 rw [he]
 exact hc
theorem endT_store {ot:Oper} {Q:Act→World→Prop} {tail:List (Nat×Oper)} {W:World} (ty:TypeId) (x y:Operand) (ho:ot.op=.store ty x y) (g:Nat) (hx:a.eval x=.pointer (some ⟨g,0,none⟩)) {ty':TypeId} {old:Array Value} (hb:Blk W g ty' old)
  (hy:a.eval y=.agg (a.eval y).cells) (hi:(P.info? ty).map (·.size)=some (a.eval y).cells.size) (hold:old.size=(a.eval y).cells.size) (h1:(a.eval y).cells.toList.all (·.oneCell')=true)
  (h:∀ W',Blk W' g ty' (a.eval y).cells→W.grownBy W' (some g)→W'.heap.size=W.heap.size→wpG P md ops Eq W' [] none Q tail (fun _ _=>True) (a.put ot.dst undef)):EndT P md ops ot Q tail a W:=by
 generalize (a.eval y).cells=cs at *
 refine endT_of undef (W.setRow g cs) ?_ (h _ (setRow_heap W g old _ ty' (0,0) hb) ⟨rfl,rfl,rfl,by simp,fun k _ hk=>setRow_other W g k _ (fun e=>hk (by rw [e]))⟩ (by simp))
 unfold execOp
 simp only [ho,hx,hy,Instr.storeAt,Instr.sureAddr,Sem.run_bind,Sem.run_pure,Result.andThen_ok,run_storeVar_row W g ty' ty old cs hb hi hold (by simpa using h1)]
 first | exact .inl rfl | exact .inr ⟨rfl,rfl⟩ | exact .inr ⟨trivial,trivial⟩ | simp
theorem g_w (hm:rets.lookup k=none) (v:Value) (hv:∀ W,(execOp a.eval o).run P W=.ok (.value v) W) (h:wpG P md ops Gr w rets t E (number (k+1) l) F (a.put o.dst v)):wpG P md ops Gr w rets t E (number k (o :: l)) F a:=by
 rw [number_cons,wpG_d hm]
 exact ⟨v,fun W _=>hv W,h⟩
theorem g_d (hm:rets.lookup k=none) (hf:freeB md ops t k=false) (v:Value) (hv:∀ δ,(execOp a.eval o).run P (over w δ)=.ok (.value v) (over w δ)) (h:wpG P md ops Gr w rets t E (number (k+1) l) F (a.put o.dst v)):wpG P md ops Gr w rets t E (number k (o :: l)) F a:=by
 rw [number_cons,wpG_d hm]
 refine ⟨v,fun W hW=>?_,h⟩
 rcases hW with hW | ⟨hW,_⟩
 ·rw [hf] at hW; cases hW
 ·rw [over_of_below hW]; exact hv W
theorem g_call {m:Made} (hm:rets.lookup k=some m) (f:FuncId) (args:Array Value) (he:∀ W,(execOp a.eval o).run P W=.ok (.enter f args) W)
  (hc:∀ δ,(∀ j,befB md ops ops.size j k=true→F j (over w δ))→Calls P f args (over w δ) fun e W'=>∃ x,e=.returned (m.enc x)∧Gr (over w δ) W'∧m.Fact x W')
  (h:∀ x,wpG P md ops Gr w rets t E (number (k+1) l) (upd F k (m.Fact x)) (a.put o.dst (m.enc x))):wpG P md ops Gr w rets t E (number k (o :: l)) F a:=by
 rw [number_cons,wpG_n hm]
 refine ⟨fun W hW hF=>?_,h⟩
 have e:=over_of_below hW
 rw [e] at hF ⊢
 rw [he]
 exact hc W hF
theorem g_new {m:Made} (hm:rets.lookup k=some m)
  (hc:∀ δ,(∀ j,befB md ops ops.size j k=true→F j (over w δ))→∃ x W',(execOp a.eval o).run P (over w δ)=.ok (.value (m.enc x)) W'∧Gr (over w δ) W'∧m.Fact x W')
  (h:∀ x,wpG P md ops Gr w rets t E (number (k+1) l) (upd F k (m.Fact x)) (a.put o.dst (m.enc x))):wpG P md ops Gr w rets t E (number k (o :: l)) F a:=by
 rw [number_cons,wpG_n hm]
 refine ⟨fun W hW hF=>?_,h⟩
 have e:=over_of_below hW
 rw [e] at hF ⊢
 obtain ⟨x,W',h1,h2,h3⟩:=hc W hF
 rw [h1]
 exact ⟨x,rfl,h2,h3⟩
def Made.one (v:Value):Made:=⟨Unit,(),fun _=>v,fun _ _=>True⟩
def Made.blk (ty:TypeId) (cs:Array Value) (n:Nat):Made:=⟨Nat,0,fun g=>.pointer (some ⟨g,0,none⟩),fun g W=>Blk W g ty cs∧n≤g⟩
def Made.row {α:Type} (s:Shape α) (l:List α) (n:Nat):Made:=⟨Option Addr×Nat,(none,0),fun x=>.slice x.1 l.length x.2,fun x W=>l.length≤x.2∧Row s W (fun b=>n≤b∧b<W.heap.size) x.1 l.length l⟩
theorem stays_nil:Stays Gr []:=fun k m h=>by cases h
theorem stays_cons {p:Nat×Made} {r:List (Nat×Made)} (h1:∀ x W W',Gr W W'→p.2.Fact x W→p.2.Fact x W') (h2:Stays Gr r):Stays Gr (p :: r):=fun k m h=>by
 obtain ⟨k',m'⟩:=p
 rw [List.lookup_cons] at h
 by_cases he:(k == k')=true
 ·rw [he] at h; simp at h; subst h; exact h1
 ·have:(k == k')=false:=by simpa using he
  rw [this] at h
  exact h2 k m h
theorem blk_stays (ty:TypeId) (cs:Array Value) (n:Nat):∀ x W W',Gr W W'→(Made.blk ty cs n).Fact x W→(Made.blk ty cs n).Fact x W':=fun x W W' h k=>⟨k.1.below h k.1.lt,k.2⟩
theorem row_stays {α:Type} (s:Shape α) (l:List α) (n:Nat):∀ x W W',Gr W W'→(Made.row s l n).Fact x W→(Made.row s l n).Fact x W':=fun x W W' h k =>
 ⟨k.1,(k.2.keep ((Keeps.of_below h).mono fun b hb=>hb.2)).more fun b hb=>⟨hb.1,Nat.lt_of_lt_of_le hb.2 h.size⟩⟩
theorem g_alloc {ty:TypeId} {cs:Array Value} {n:Nat} (hm:rets.lookup k=some (Made.blk ty cs n)) (hn:n≤w.heap.size) (he:∀ W,(execOp a.eval o).run P W=.ok (.value (.pointer (some ⟨W.heap.size,0,none⟩))) (W.alloc (.cells cs ty)))
  (h:∀ g,wpG P md ops Gr w rets t E (number (k+1) l) (upd F k (fun W=>Blk W g ty cs∧n≤g)) (a.put o.dst (.pointer (some ⟨g,0,none⟩)))):wpG P md ops Gr w rets t E (number k (o :: l)) F a:=by
 refine g_new hm (fun δ hF=>?_) h
 exact ⟨(over w δ).heap.size,_,he _,below_alloc' _ _,Blk.new _ _ _,Nat.le_trans hn (size_over_le _ _)⟩
theorem enc_row {α:Type} (s:Shape α) (l:List α) (n:Nat) (A:Option Addr) (c:Nat):(Made.row s l n).enc (A,c)=.slice A l.length c:=rfl
end
end Go.Proofs.YtfhfcipelgogjaaGreatDoor
namespace Go.Proofs.YtfhfcipelgogjaaGreatDoor
open Go.RowKit
def EndTT (P:Program) (md:Region.Mode) (ops:Array Oper) (ot:Oper) (t2:Nat) (ot2:Oper) (Q:Act→World→Prop) (tail1 tail2:List (Nat×Oper)) (a:Act) (W:World):Prop:=
 EndUpon P (fun v W'=>wpG P md ops Eq W' [] (some t2) (EndT P md ops ot2 Q tail2) tail1 (fun _ _=>True) (a.put ot.dst v)) ((execOp a.eval ot).run P W)
section
variable {P:Program} {md:Region.Mode} {ops:Array Oper}
theorem to_none2 {Q:Act→World→Prop} {R:World→World→Prop} {w0:World} {rets:List (Nat×Made)} {t t2:Nat} {ot ot2:Oper} {tail1 tail2:List (Nat×Oper)} (hst:∀ cs b,ot.op≠.select cs b) {W:World} (hW:R w0 W):∀ (l:List (Nat×Oper)) (F:Nat→World→Prop) (a:Act),
  (∀ p∈l,rets.lookup p.1=none∧freeB md ops (some t) p.1=true∧(∀ d,p.2.dst=some d→d∉ot.looksAt ops)∧(∀ d,p.2.dst=some d→ot.dst≠some d)∧(∀ d,ot.dst=some d→d∉p.2.looksAt ops)∧∀ cs b,p.2.op≠.select cs b)→(∀ j,F j W) →
  wpG P md ops R w0 rets (some t) (EndTT P md ops ot t2 ot2 Q tail1 tail2) l F a→EndTT P md ops ot t2 ot2 Q (l++tail1) tail2 a W
 | [],F,a,_,hf,h=>by
  rw [wpG_nil] at h
  exact h W hW hf
 | (i,oi) :: l,F,a,hl,hf,h=>by
  obtain ⟨q1,q2,q3,q4,q5,q6⟩:=hl (i,oi) (by simp)
  simp only at q1 q2 q3 q4 q5 q6
  rw [wpG_d q1] at h
  obtain ⟨u,hu,hT⟩:=h
  have h1:=to_none2 hst hW l F _ (fun p hp=>hl p (List.mem_cons_of_mem _ hp)) hf hT
  unfold EndTT at h1 ⊢
  rw [execOp_put ot hst a oi.dst u q3] at h1
  refine h1.mono fun v W' h2=>?_
  rw [List.cons_append,wpG_d (by rfl)]
  refine ⟨u,fun W1 _=>?_,?_⟩
  ·rw [execOp_put oi q6 a ot.dst _ q5]; exact hu W1 (.inl q2)
  ·rw [← Act.put_comm a u _ q4]; exact h2
theorem any_of_wpG_tt {Q:Exit→Act→World→Prop} {R:World→World→Prop} {w0:World} {rets:List (Nat×Made)} {t t2:Nat} {ot ot2:Oper} {tail1 tail2:List (Nat×Oper)} (hot:ops[t]?=some ot) (hot2:ops[t2]?=some ot2) (htt:t<t2) (hF:RegForm md ops) (hrr:∀ w,R w w) (hrt:∀ a b c,R a b→R b c→R a c) (hst:Stays R rets)
  (hrets:∀ k m,rets.lookup k=some m→befB md ops ops.size k t=true) (hlast:∀ k,k<ops.size→t<k→befB md ops ops.size t k=true) (hlast2:∀ k,k<ops.size→t2<k→befB md ops ops.size t2 k=true)
  (htail1:tail1.Pairwise (fun p q=>p.1<q.1)∧∀ k o,(k,o)∈tail1↔ops[k]?=some o∧t<k∧k<t2)
  (htail2:tail2.Pairwise (fun p q=>p.1<q.1)∧∀ k o,(k,o)∈tail2↔ops[k]?=some o∧t2<k):∀ (fuel:Nat) (l:List (Nat×Oper)) (listed:Array Bool) (F:Nat→World→Prop) (a:Act) (W:World),
  l.length+tail1.length+tail2.length+2≤fuel→listed.size=ops.size→Closed md ops listed→listed.getD t true=false→Rest ops listed (some t) l→wpG P md ops R w0 rets (some t) (EndTT P md ops ot t2 ot2 (fun a W=>Q .normal a W) tail1 tail2) l F a →
  R w0 W→(∀ j,F j W)→(∀ j W W',R W W'→F j W→F j W')→wpAny P md ops Q fuel listed a W:=by
 intro fuel
 induction fuel with
 | zero=>intro l listed F a W hl; omega
 | succ fuel ih =>
  intro l listed F a W hl hs hc ht hR h hW hf hfs
  have hts:t<listed.size:=by rw [hs]; exact (Array.getElem?_eq_some_iff.1 hot).1
  have hts2:t2<listed.size:=by rw [hs]; exact (Array.getElem?_eq_some_iff.1 hot2).1
  refine ⟨fun h0=>absurd h0 (ready_some hF hs (t+1) t ot (by omega) hot ht),fun i hi=>?_⟩
  obtain ⟨h0,o,ho,hd⟩:=mem_ready.1 hi
  have his:i<ops.size:=(Array.getElem?_eq_some_iff.1 ho).1
  have hs':(listed.setIfInBounds i true).size=ops.size:=by simpa using hs
  have hc':=closed_set hF hs hc ho hd
  unfold wpOp
  simp only [ho,wanted_none (hF.guard i o ho),if_true]
  refine .inl ?_
  unfold Oper.wp
  have hsel:∀ cs b,o.op≠.select cs b:=fun cs b=>Region.noSelect_spec hF.sel i o cs b ho
  by_cases hit:i=t
  ·subst hit
   obtain rfl:o=ot:=by rw [ho] at hot; injection hot
   have hall:∀ p∈l,rets.lookup p.1=none∧freeB md ops (some i) p.1=true∧(∀ d,p.2.dst=some d→d∉o.looksAt ops)∧(∀ d,p.2.dst=some d→o.dst≠some d)∧(∀ d,o.dst=some d→d∉p.2.looksAt ops)∧∀ cs b,p.2.op≠.select cs b:=by
    rintro ⟨k,ok⟩ hp
    obtain ⟨k1,k2,k3⟩:=(hR.2 k ok).1 hp
    have hks:k<listed.size:=by rw [hs]; exact (Array.getElem?_eq_some_iff.1 k1).1
    have b1:befB md ops ops.size k i=false:=by
     cases hb:befB md ops ops.size k i with
     | false=>rfl
     | true =>
      have:=bef_listed hc _ k i o ho hd hb
      rw [getD_ft hks,this] at k2; cases k2
    have hlt:k<i:=k3 i rfl
    refine ⟨?_,(by show (!befB md ops ops.size k i)=true; rw [b1]; rfl),?_⟩
    ·cases hm:rets.lookup k with
     | none=>rfl
     | some m=>rw [hrets k m hm] at b1; cases b1
    ·have hap:=(hF.apart k i ok o k1 ho hlt).resolve_left (by rw [b1]; exact Bool.false_ne_true)
     obtain ⟨a1,a2,a3⟩:=Oper.apart_spec hap
     exact ⟨a1,a2,a3,fun cs b=>Region.noSelect_spec hF.sel k ok cs b k1⟩
   have g0:=to_none2 hsel hW l F a hall hf h
   have hi':i<listed.size:=by rw [hs]; exact his
   have hbehind:∀ k,k<ops.size→i<k→(listed.setIfInBounds i true).getD k true=false:=fun k hks q2=>by
    obtain ⟨ok,q1⟩:∃ ok,ops[k]?=some ok:=⟨ops[k],Array.getElem?_eq_getElem hks⟩
    rw [getD_set_ne true (by omega)]
    cases hlk:listed.getD k true with
    | false=>rfl
    | true =>
     rw [getD_ft (by omega)] at hlk
     have:=bef_listed hc _ i k ok q1 (hc k ok q1 hlk) (hlast k hks q2)
     rw [getD_ft hi',this] at ht; cases ht
   have hR':Rest ops (listed.setIfInBounds i true) (some t2) (l++tail1):=by
    refine ⟨List.pairwise_append.2 ⟨hR.1,htail1.1,?_⟩,fun k ok=>?_⟩
    ·rintro ⟨k,ok⟩ hp ⟨k',ok'⟩ hq
     have h1:=((hR.2 k ok).1 hp).2.2 i rfl
     have h2:=((htail1.2 k' ok').1 hq).2.1
     show k<k'
     omega
    ·rw [List.mem_append,hR.2 k ok,htail1.2 k ok]
     constructor
     ·rintro (⟨q1,q2,q3⟩ | ⟨q1,q2,q3⟩)
      ·have:=q3 i rfl
       exact ⟨q1,by rw [getD_set_ne true (by omega)]; exact q2,fun u hu=>by injection hu with hu; omega⟩
      ·exact ⟨q1,hbehind k ((Array.getElem?_eq_some_iff.1 q1).1) q2,fun u hu=>by injection hu with hu; omega⟩
     ·rintro ⟨q1,q2,q3⟩
      have q3:=q3 t2 rfl
      rcases Nat.lt_trichotomy k i with hlt | rfl | hgt
      ·rw [getD_set_ne true (by omega)] at q2
       exact .inl ⟨q1,q2,fun u hu=>by injection hu with hu; omega⟩
      ·simp [hi'] at q2
      ·exact .inr ⟨q1,hgt,q3⟩
   have fin:∀ v W',wpG P md ops Eq W' [] (some t2) (EndT P md ops ot2 (fun a W=>Q .normal a W) tail2) (l++tail1) (fun _ _=>True) (a.put o.dst v)→wpAny P md ops Q fuel (listed.setIfInBounds i true) (a.put o.dst v) W':=fun v W' g2 =>
    any_of_wpG_t (R:=Eq) (t:=t2) (ot:=ot2) (tail:=tail2) hot2 hF (fun _=>rfl) (fun _ _ _=>Eq.trans) (fun k m hm=>by cases hm) (fun k m hm=>by cases hm) hlast2 htail2 fuel (l++tail1) _ _ _ W' (by rw [List.length_append]; omega) hs' hc' (hbehind t2 (by omega) htt) hR' g2 rfl (fun _=>trivial) (fun _ _ _ _ _=>trivial)
   unfold EndTT at g0
   generalize (execOp a.eval o).run P W=r at g0
   cases r with
   | ok n W' =>
    cases n <;> simp only [EndUpon] at g0 <;> simp only [Oper.upon]
    case value v=>exact fin v W' g0
    case skip=>exact fin _ W' g0
    case enter f args=>exact g0.mono fun e W'' ⟨v,he,g2⟩=>by subst he; exact fin v W'' g2
   | halt x W'=>simp only [EndUpon] at g0
  ·have hlt:i<t:=by
    rcases Nat.lt_trichotomy i t with h1 | h1 | h1
    ·exact h1
    ·exact absurd h1 hit
    ·have:=bef_listed hc _ t i o ho hd (hlast i his h1)
     rw [getD_ft hts,this] at ht; cases ht
   obtain ⟨l1,l2,rfl⟩:=List.append_of_mem ((hR.2 i o).2 ⟨ho,h0,fun u hu=>by injection hu with hu; omega⟩)
   have hfar:=far_of hF hc hs hR hd
   have hR':=hR.set hs
   have hl':(l1++l2).length+tail1.length+tail2.length+2≤fuel:=by simp at hl ⊢; omega
   have ht':(listed.setIfInBounds i true).getD t true=false:=by rw [getD_set_ne true hit]; exact ht
   cases hm:rets.lookup i with
   | none =>
    obtain ⟨v,g1,g2⟩:=hoist_d hm hsel hW l1 F a hfar (fun k _=>hf k) h
    rw [g1]
    exact ih _ _ F _ W hl' hs' hc' ht' hR' g2 hW hf hfs
   | some m =>
    obtain ⟨g1,g2⟩:=hoist_n hm hsel l1 F a hfar h
    have g3:=g1 W hW fun k _=>hf k
    have fin:∀ x W',R W W'→m.Fact x W'→wpAny P md ops Q fuel (listed.setIfInBounds i true) (a.put o.dst (m.enc x)) W':=fun x W' q1 q2=>by
     refine ih _ _ (upd F i (m.Fact x)) _ W' hl' hs' hc' ht' hR' (g2 x) (hrt _ _ _ hW q1) (fun j=>?_) (fun j W1 W2 r1 r2=>?_)
     ·by_cases hj:j=i
      ·subst hj; rw [upd_at]; exact q2
      ·rw [upd_ne hj]; exact hfs j W W' q1 (hf j)
     ·by_cases hj:j=i
      ·subst hj; rw [upd_at] at r2 ⊢; exact hst _ m hm x W1 W2 r1 r2
      ·rw [upd_ne hj] at r2 ⊢; exact hfs j W1 W2 r1 r2
    generalize (execOp a.eval o).run P W=r at g3
    cases r with
    | ok n W' =>
     cases n <;> simp only [Made.upon] at g3 <;> simp only [Oper.upon]
     case value v=>obtain ⟨x,rfl,q1,q2⟩:=g3; exact fin x W' q1 q2
     case enter f args=>exact g3.mono fun e W'' ⟨x,he,q1,q2⟩=>by subst he; exact fin x W'' q1 q2
    | halt x W'=>simp only [Made.upon] at g3
end
theorem mid_number (l:List Oper) (t t2:Nat):(number (t+1) ((l.take t2).drop (t+1))).Pairwise (fun p q=>p.1<q.1)∧∀ k o,(k,o)∈number (t+1) ((l.take t2).drop (t+1))↔l.toArray[k]?=some o∧t<k∧k<t2:=by
 refine ⟨number_pair _ _,fun k o=>?_⟩
 rw [mem_number]
 constructor
 ·rintro ⟨j,rfl,hj⟩
  rw [List.getElem?_drop] at hj
  have hlt:=(List.getElem?_eq_some_iff.1 hj).1
  rw [List.length_take] at hlt
  rw [List.getElem?_take_of_lt (by omega)] at hj
  exact ⟨by simpa using hj,by omega,by omega⟩
 ·rintro ⟨h1,h2,h3⟩
  exact ⟨k - (t+1),by omega,by rw [List.getElem?_drop,show t+1+(k - (t+1))=k by omega,List.getElem?_take_of_lt h3]; simpa using h1⟩
def formTT (ks:List Nat) (t t2:Nat) (l:List Oper):Bool:=formT ks t l && ((List.range l.length).all fun k=>decide (k≤t2) || befB .any l.toArray l.toArray.size t2 k) && decide (t<t2)
theorem wp_region_grow_tt {P:Program} {id:Nat} {Q:Exit→Act→World→Prop} {a:Act} {w:World} {l:List Oper} (rets:List (Nat×Made)) (t t2:Nat) (ot ot2:Oper) (hot:l[t]?=some ot) (hot2:l[t2]?=some ot2) (hm:P.follows .mixedOrders=true) (ks:List Nat) (hks:rets.map (·.1)=ks) (hB:formTT ks t t2 l=true) (hst:Stays Gr rets)
  (h:wpG P .any l.toArray Gr w rets (some t) (EndTT P .any l.toArray ot t2 ot2 (fun a W=>Q .normal a W) (number (t+1) ((l.take t2).drop (t+1))) (number (t2+1) (l.drop (t2+1)))) (number 0 (l.take t)) (fun _ _=>True) a):(Code.region id l.toArray true).wp P Q a w:=by
 unfold formTT formT at hB
 rw [Bool.and_eq_true,Bool.and_eq_true,Bool.and_eq_true,Bool.and_eq_true] at hB
 obtain ⟨⟨⟨⟨hB,hr⟩,hl⟩,hl2⟩,htt⟩:=hB
 rw [decide_eq_true_eq] at htt
 have ht:t<l.length:=(List.getElem?_eq_some_iff.1 hot).1
 have ht2:t2<l.length:=(List.getElem?_eq_some_iff.1 hot2).1
 refine wp_region_any hm (any_of_wpG_tt (ot:=ot) (ot2:=ot2) (by simpa using hot) (by simpa using hot2) htt (form_of hB) Gr.refl Gr.trans hst (fun k m hk=>?_) (fun k hk hlt=>?_) (fun k hk hlt=>?_) (mid_number l t t2) (tail_number l t2) _ _ _ _ _ _ ?_ (by simp) (closed_start _) (by simp [ht]) (rest_number_t l t) h (gr_draw w) (fun _=>trivial) (fun _ _ _ _ _=>trivial))
 ·exact List.all_eq_true.1 hr k (hks ▸ lookup_mem hk)
 ·have:=List.all_eq_true.1 hl k (List.mem_range.2 (by simpa using hk))
  rw [Bool.or_eq_true,decide_eq_true_eq] at this
  exact this.resolve_left (by omega)
 ·have:=List.all_eq_true.1 hl2 k (List.mem_range.2 (by simpa using hk))
  rw [Bool.or_eq_true,decide_eq_true_eq] at this
  exact this.resolve_left (by omega)
 ·rw [number_len,number_len,number_len,List.length_take,List.length_drop,List.length_drop,List.length_take]
  simp
  omega
section
variable {P:Program} {md:Region.Mode} {ops:Array Oper} {t2:Nat} {E:Act→World→Prop} {k:Nat} {o:Oper} {l:List Oper} {F:Nat→World→Prop} {a:Act}
theorem g_mid {W:World} (hf:freeB md ops (some t2) k=false) (v:Value) (hv:(execOp a.eval o).run P W=.ok (.value v) W) (h:wpG P md ops Eq W [] (some t2) E (number (k+1) l) F (a.put o.dst v)):wpG P md ops Eq W [] (some t2) E (number k (o :: l)) F a:=by
 rw [number_cons,wpG_d (by rfl)]
 refine ⟨v,fun W' hW=>?_,h⟩
 rcases hW with hW | ⟨rfl,_⟩
 ·rw [hf] at hW; cases hW
 ·exact hv
theorem g_mid_end {W:World} (h:E a W):wpG P md ops Eq W [] (some t2) E (number k []) F a:=by
 unfold number
 rw [wpG_nil]
 rintro W' rfl _
 exact h
end
theorem src_blkT {α:Type} {s:Shape α} {w:World} {M:Nat→Prop} {g:Nat} {t:TypeId} {cs:List Value} {a:α} (hb:Blk w g t cs.toArray) (hr:s.rd w M cs a):Src s w M (some ⟨g,0,none⟩) 1 [a]:=by
 refine ⟨rfl,(fun e=>by cases e),cs,Cells.single hr,fun ad e j u hu=>?_⟩
 injection e with e
 subst e
 unfold Addr.add
 by_cases h0:j=0
 ·subst h0
  have:=hb.cell 0
  rw [List.getElem?_toArray,hu] at this
  simpa using this
 ·rw [if_neg h0]
  have:=hb.cell j
  rw [List.getElem?_toArray,hu] at this
  simpa using this
def madeOne (ty:TypeId) (cs:Array Value) (n:Nat):Made:=⟨Nat,0,fun g=>.slice (some ⟨g,0,none⟩) 1 1,fun g W=>Blk W g ty cs∧n≤g⟩
theorem madeOne_stays (ty:TypeId) (cs:Array Value) (n:Nat):∀ x W W',Gr W W'→(madeOne ty cs n).Fact x W→(madeOne ty cs n).Fact x W':=fun x W W' h k=>⟨Blk.below (g:=x) k.1 h k.1.lt,k.2⟩
theorem endTT_append {P:Program} {md:Region.Mode} {ops:Array Oper} {a:Act} {ot:Oper} {t2:Nat} {ot2:Oper} {Q:Act→World→Prop} {tail1 tail2:List (Nat×Oper)} {W:World} {α:Type} {s:Shape α} {base:Nat} {M M':Nat→Prop} {v:Value} {l k:List α} {e t:TypeId} {bytes:Nat} (el:Elem P t e s bytes) (sv x:Operand) (ho:ot.op=.call { callee:=.builtin .append,args:=#[sv,x],argTypes:=#[t,t] })
  (hs:a.eval sv=v) (h:Own s e W base M v l) {A:Option Addr} {m c:Nat} (hx:a.eval x=.slice A m c) (hk:Src s W M' A m k) (h3':∀ n,M' n→n<W.heap.size∧some n≠v.ownBlock)
  (hroom:(l.length+k.length)*bytes≤140737488355328) (h63:l.length+k.length≤maxLen) (hbase:base≤W.heap.size)
  (K:∀ v' W',Own s e W' base (fun n=>M n∨M' n) v' (l++k)→W.grownBy W' v.ownBlock→(v'.ownBlock=v.ownBlock∨v'.ownBlock=some W.heap.size)→wpG P md ops Eq W' [] (some t2) (EndT P md ops ot2 Q tail2) tail1 (fun _ _=>True) (a.put ot.dst v')):EndTT P md ops ot t2 ot2 Q tail1 tail2 a W:=by
 obtain ⟨v',w',hrun,h2,h3,h4⟩:=run_append_list (P:=P) (ty:=ot.type) (c:=c) el h hk h3' hroom h63 hbase
 have he:(execOp a.eval ot).run P W=.ok (.value v') w':=by
  unfold execOp
  simp only [ho,resolve,invoke,builtin,Sem.run_bind,Sem.run_pure,Result.andThen_ok,List.map_toArray,List.map_cons,List.map_nil,hs,hx,hrun]
 unfold EndTT
 rw [he]
 exact K v' w' h2 h3 h4
end Go.Proofs.YtfhfcipelgogjaaGreatDoor
namespace Go.Proofs.YtfhfcipelgogjaaGreatDoor
open Go.RowKit
def EndTU (P:Program) (md:Region.Mode) (ops:Array Oper) (V:World→Prop) (ot:Oper) (t2:Nat) (ot2:Oper) (Q:Act→World→Prop) (tail1 tail2:List (Nat×Oper)) (a:Act) (W:World):Prop:=
 EndUpon P (fun v W'=>V W'∧wpG P md ops Eq W' [] (some t2) (EndT P md ops ot2 Q tail2) tail1 (fun _ _=>True) (a.put ot.dst v)) ((execOp a.eval ot).run P W)
section
variable {P:Program} {md:Region.Mode} {ops:Array Oper}
theorem to_noneU {Q:Act→World→Prop} {R:World→World→Prop} {w0:World} {rets:List (Nat×Made)} {t2:Nat} {ot ot2:Oper} {tail1 tail2:List (Nat×Oper)} (hst:∀ cs b,ot.op≠.select cs b) {W:World} (hW:R w0 W):∀ (l:List (Nat×Oper)) (F:Nat→World→Prop) (a:Act),
  (∀ p∈l,rets.lookup p.1=none∧(befB md ops ops.size p.1 t2=true∧∀ j,rets.lookup j≠none→befB md ops ops.size j p.1=false)∧(∀ d,p.2.dst=some d→d∉ot.looksAt ops)∧(∀ d,p.2.dst=some d→ot.dst≠some d)∧(∀ d,ot.dst=some d→d∉p.2.looksAt ops)∧∀ cs b,p.2.op≠.select cs b)→(∀ j,F j W)→(∀ j,rets.lookup j=none→∀ W,F j W) →
  wpG P md ops R w0 rets none (EndTU P md ops (R w0) ot t2 ot2 Q tail1 tail2) l F a→EndTU P md ops (R w0) ot t2 ot2 Q (l++tail1) tail2 a W
 | [],F,a,_,hf,_,h=>by
  rw [wpG_nil] at h
  exact h W hW hf
 | (i,oi) :: l,F,a,hl,hf,hft,h=>by
  obtain ⟨q1,⟨q2,q2'⟩,q3,q4,q5,q6⟩:=hl (i,oi) (by simp)
  simp only at q1 q2 q3 q4 q5 q6
  rw [wpG_d q1] at h
  obtain ⟨u,hu,hT⟩:=h
  have h1:=to_noneU hst hW l F _ (fun p hp=>hl p (List.mem_cons_of_mem _ hp)) hf hft hT
  unfold EndTU at h1 ⊢
  rw [execOp_put ot hst a oi.dst u q3] at h1
  refine h1.mono fun v W' ⟨hR',h2⟩=>⟨hR',?_⟩
  rw [List.cons_append,wpG_d (by rfl)]
  refine ⟨u,fun W1 hW1=>?_,?_⟩
  ·rw [execOp_put oi q6 a ot.dst _ q5]
   rcases hW1 with hW1 | ⟨rfl,_⟩
   ·have hW2:(!befB md ops ops.size i t2)=true:=hW1
    rw [show befB md ops ops.size i t2=true from q2] at hW2; cases hW2
   ·refine hu _ (.inr ⟨hR',fun j hj=>?_⟩)
    cases hm:rets.lookup j with
    | none=>exact hft j hm W'
    | some m=>have:=q2' j (by rw [hm]; exact fun e=>by cases e); rw [this] at hj; cases hj
  ·rw [← Act.put_comm a u _ q4]; exact h2
theorem any_of_wpG_uu {Q:Exit→Act→World→Prop} {R:World→World→Prop} {w0:World} {rets:List (Nat×Made)} {t t2:Nat} {ot ot2:Oper} {tail1 tail2:List (Nat×Oper)} (hot:ops[t]?=some ot) (hot2:ops[t2]?=some ot2) (htt:t<t2) (hF:RegForm md ops) (hrr:∀ w,R w w) (hrt:∀ a b c,R a b→R b c→R a c) (hst:Stays R rets)
  (hrets:∀ k m,rets.lookup k=some m→befB md ops ops.size k t=true) (hfree:∀ k,k<t→befB md ops ops.size k t=false→befB md ops ops.size k t2=true∧∀ j,rets.lookup j≠none→befB md ops ops.size j k=false) (hlast:∀ k,k<ops.size→t<k→befB md ops ops.size t k=true) (hlast2:∀ k,k<ops.size→t2<k→befB md ops ops.size t2 k=true)
  (htail1:tail1.Pairwise (fun p q=>p.1<q.1)∧∀ k o,(k,o)∈tail1↔ops[k]?=some o∧t<k∧k<t2)
  (htail2:tail2.Pairwise (fun p q=>p.1<q.1)∧∀ k o,(k,o)∈tail2↔ops[k]?=some o∧t2<k):∀ (fuel:Nat) (l:List (Nat×Oper)) (listed:Array Bool) (F:Nat→World→Prop) (a:Act) (W:World),
  l.length+tail1.length+tail2.length+2≤fuel→listed.size=ops.size→Closed md ops listed→listed.getD t true=false→Rest ops listed (some t) l→wpG P md ops R w0 rets none (EndTU P md ops (R w0) ot t2 ot2 (fun a W=>Q .normal a W) tail1 tail2) l F a →
  R w0 W→(∀ j,F j W)→(∀ j W W',R W W'→F j W→F j W')→(∀ j,rets.lookup j=none→∀ W,F j W)→wpAny P md ops Q fuel listed a W:=by
 intro fuel
 induction fuel with
 | zero=>intro l listed F a W hl; omega
 | succ fuel ih =>
  intro l listed F a W hl hs hc ht hR h hW hf hfs hft
  have hts:t<listed.size:=by rw [hs]; exact (Array.getElem?_eq_some_iff.1 hot).1
  have hts2:t2<listed.size:=by rw [hs]; exact (Array.getElem?_eq_some_iff.1 hot2).1
  refine ⟨fun h0=>absurd h0 (ready_some hF hs (t+1) t ot (by omega) hot ht),fun i hi=>?_⟩
  obtain ⟨h0,o,ho,hd⟩:=mem_ready.1 hi
  have his:i<ops.size:=(Array.getElem?_eq_some_iff.1 ho).1
  have hs':(listed.setIfInBounds i true).size=ops.size:=by simpa using hs
  have hc':=closed_set hF hs hc ho hd
  unfold wpOp
  simp only [ho,wanted_none (hF.guard i o ho),if_true]
  refine .inl ?_
  unfold Oper.wp
  have hsel:∀ cs b,o.op≠.select cs b:=fun cs b=>Region.noSelect_spec hF.sel i o cs b ho
  by_cases hit:i=t
  ·subst hit
   obtain rfl:o=ot:=by rw [ho] at hot; injection hot
   have hall:∀ p∈l,rets.lookup p.1=none∧(befB md ops ops.size p.1 t2=true∧∀ j,rets.lookup j≠none→befB md ops ops.size j p.1=false)∧(∀ d,p.2.dst=some d→d∉o.looksAt ops)∧(∀ d,p.2.dst=some d→o.dst≠some d)∧(∀ d,o.dst=some d→d∉p.2.looksAt ops)∧∀ cs b,p.2.op≠.select cs b:=by
    rintro ⟨k,ok⟩ hp
    obtain ⟨k1,k2,k3⟩:=(hR.2 k ok).1 hp
    have hks:k<listed.size:=by rw [hs]; exact (Array.getElem?_eq_some_iff.1 k1).1
    have b1:befB md ops ops.size k i=false:=by
     cases hb:befB md ops ops.size k i with
     | false=>rfl
     | true =>
      have:=bef_listed hc _ k i o ho hd hb
      rw [getD_ft hks,this] at k2; cases k2
    have hlt:k<i:=k3 i rfl
    refine ⟨?_,hfree k hlt b1,?_⟩
    ·cases hm:rets.lookup k with
     | none=>rfl
     | some m=>rw [hrets k m hm] at b1; cases b1
    ·have hap:=(hF.apart k i ok o k1 ho hlt).resolve_left (by rw [b1]; exact Bool.false_ne_true)
     obtain ⟨a1,a2,a3⟩:=Oper.apart_spec hap
     exact ⟨a1,a2,a3,fun cs b=>Region.noSelect_spec hF.sel k ok cs b k1⟩
   have g0:=to_noneU hsel hW l F a hall hf hft h
   have hi':i<listed.size:=by rw [hs]; exact his
   have hbehind:∀ k,k<ops.size→i<k→(listed.setIfInBounds i true).getD k true=false:=fun k hks q2=>by
    obtain ⟨ok,q1⟩:∃ ok,ops[k]?=some ok:=⟨ops[k],Array.getElem?_eq_getElem hks⟩
    rw [getD_set_ne true (by omega)]
    cases hlk:listed.getD k true with
    | false=>rfl
    | true =>
     rw [getD_ft (by omega)] at hlk
     have:=bef_listed hc _ i k ok q1 (hc k ok q1 hlk) (hlast k hks q2)
     rw [getD_ft hi',this] at ht; cases ht
   have hR':Rest ops (listed.setIfInBounds i true) (some t2) (l++tail1):=by
    refine ⟨List.pairwise_append.2 ⟨hR.1,htail1.1,?_⟩,fun k ok=>?_⟩
    ·rintro ⟨k,ok⟩ hp ⟨k',ok'⟩ hq
     have h1:=((hR.2 k ok).1 hp).2.2 i rfl
     have h2:=((htail1.2 k' ok').1 hq).2.1
     show k<k'
     omega
    ·rw [List.mem_append,hR.2 k ok,htail1.2 k ok]
     constructor
     ·rintro (⟨q1,q2,q3⟩ | ⟨q1,q2,q3⟩)
      ·have:=q3 i rfl
       exact ⟨q1,by rw [getD_set_ne true (by omega)]; exact q2,fun u hu=>by injection hu with hu; omega⟩
      ·exact ⟨q1,hbehind k ((Array.getElem?_eq_some_iff.1 q1).1) q2,fun u hu=>by injection hu with hu; omega⟩
     ·rintro ⟨q1,q2,q3⟩
      have q3:=q3 t2 rfl
      rcases Nat.lt_trichotomy k i with hlt | rfl | hgt
      ·rw [getD_set_ne true (by omega)] at q2
       exact .inl ⟨q1,q2,fun u hu=>by injection hu with hu; omega⟩
      ·simp [hi'] at q2
      ·exact .inr ⟨q1,hgt,q3⟩
   have fin:∀ v W',wpG P md ops Eq W' [] (some t2) (EndT P md ops ot2 (fun a W=>Q .normal a W) tail2) (l++tail1) (fun _ _=>True) (a.put o.dst v)→wpAny P md ops Q fuel (listed.setIfInBounds i true) (a.put o.dst v) W':=fun v W' g2 =>
    any_of_wpG_t (R:=Eq) (t:=t2) (ot:=ot2) (tail:=tail2) hot2 hF (fun _=>rfl) (fun _ _ _=>Eq.trans) (fun k m hm=>by cases hm) (fun k m hm=>by cases hm) hlast2 htail2 fuel (l++tail1) _ _ _ W' (by rw [List.length_append]; omega) hs' hc' (hbehind t2 (by omega) htt) hR' g2 rfl (fun _=>trivial) (fun _ _ _ _ _=>trivial)
   unfold EndTU at g0
   generalize (execOp a.eval o).run P W=r at g0
   cases r with
   | ok n W' =>
    cases n <;> simp only [EndUpon] at g0 <;> simp only [Oper.upon]
    case value v=>exact fin v W' g0.2
    case skip=>exact fin _ W' g0.2
    case enter f args=>exact g0.mono fun e W'' ⟨v,he,g2⟩=>by subst he; exact fin v W'' g2.2
   | halt x W'=>simp only [EndUpon] at g0
  ·have hlt:i<t:=by
    rcases Nat.lt_trichotomy i t with h1 | h1 | h1
    ·exact h1
    ·exact absurd h1 hit
    ·have:=bef_listed hc _ t i o ho hd (hlast i his h1)
     rw [getD_ft hts,this] at ht; cases ht
   obtain ⟨l1,l2,rfl⟩:=List.append_of_mem ((hR.2 i o).2 ⟨ho,h0,fun u hu=>by injection hu with hu; omega⟩)
   have hfar:=far_of hF hc hs hR hd
   have hR':=hR.set hs
   have hl':(l1++l2).length+tail1.length+tail2.length+2≤fuel:=by simp at hl ⊢; omega
   have ht':(listed.setIfInBounds i true).getD t true=false:=by rw [getD_set_ne true hit]; exact ht
   cases hm:rets.lookup i with
   | none =>
    obtain ⟨v,g1,g2⟩:=hoist_d hm hsel hW l1 F a hfar (fun k _=>hf k) h
    rw [g1]
    exact ih _ _ F _ W hl' hs' hc' ht' hR' g2 hW hf hfs hft
   | some m =>
    obtain ⟨g1,g2⟩:=hoist_n hm hsel l1 F a hfar h
    have g3:=g1 W hW fun k _=>hf k
    have fin:∀ x W',R W W'→m.Fact x W'→wpAny P md ops Q fuel (listed.setIfInBounds i true) (a.put o.dst (m.enc x)) W':=fun x W' q1 q2=>by
     refine ih _ _ (upd F i (m.Fact x)) _ W' hl' hs' hc' ht' hR' (g2 x) (hrt _ _ _ hW q1) (fun j=>?_) (fun j W1 W2 r1 r2=>?_) (fun j hj W1=>by rw [upd_ne (fun e=>by subst e; rw [hm] at hj; cases hj)]; exact hft j hj W1)
     ·by_cases hj:j=i
      ·subst hj; rw [upd_at]; exact q2
      ·rw [upd_ne hj]; exact hfs j W W' q1 (hf j)
     ·by_cases hj:j=i
      ·subst hj; rw [upd_at] at r2 ⊢; exact hst _ m hm x W1 W2 r1 r2
      ·rw [upd_ne hj] at r2 ⊢; exact hfs j W1 W2 r1 r2
    generalize (execOp a.eval o).run P W=r at g3
    cases r with
    | ok n W' =>
     cases n <;> simp only [Made.upon] at g3 <;> simp only [Oper.upon]
     case value v=>obtain ⟨x,rfl,q1,q2⟩:=g3; exact fin x W' q1 q2
     case enter f args=>exact g3.mono fun e W'' ⟨x,he,q1,q2⟩=>by subst he; exact fin x W'' q1 q2
    | halt x W'=>simp only [Made.upon] at g3
end
def formUU (ks:List Nat) (t t2:Nat) (l:List Oper):Bool:=formTT ks t t2 l && (List.range t).all fun k=>befB .any l.toArray l.toArray.size k t || (befB .any l.toArray l.toArray.size k t2 && ks.all fun j=>!befB .any l.toArray l.toArray.size j k)
theorem lookup_some {rets:List (Nat×Made)} {j:Nat} (h:rets.lookup j≠none):j∈rets.map (·.1):=by
 cases hm:rets.lookup j with
 | none=>exact absurd hm h
 | some m=>exact lookup_mem hm
theorem wp_region_grow_uu {P:Program} {id:Nat} {Q:Exit→Act→World→Prop} {a:Act} {w:World} {l:List Oper} (rets:List (Nat×Made)) (t t2:Nat) (ot ot2:Oper) (hot:l[t]?=some ot) (hot2:l[t2]?=some ot2) (hm:P.follows .mixedOrders=true) (ks:List Nat) (hks:rets.map (·.1)=ks) (hB:formUU ks t t2 l=true) (hst:Stays Gr rets)
  (h:wpG P .any l.toArray Gr w rets none (EndTU P .any l.toArray (Gr w) ot t2 ot2 (fun a W=>Q .normal a W) (number (t+1) ((l.take t2).drop (t+1))) (number (t2+1) (l.drop (t2+1)))) (number 0 (l.take t)) (fun _ _=>True) a):(Code.region id l.toArray true).wp P Q a w:=by
 unfold formUU at hB
 rw [Bool.and_eq_true] at hB
 obtain ⟨hB,hfr⟩:=hB
 unfold formTT formT at hB
 rw [Bool.and_eq_true,Bool.and_eq_true,Bool.and_eq_true,Bool.and_eq_true] at hB
 obtain ⟨⟨⟨⟨hB,hr⟩,hl⟩,hl2⟩,htt⟩:=hB
 rw [decide_eq_true_eq] at htt
 have ht:t<l.length:=(List.getElem?_eq_some_iff.1 hot).1
 have ht2:t2<l.length:=(List.getElem?_eq_some_iff.1 hot2).1
 refine wp_region_any hm (any_of_wpG_uu (ot:=ot) (ot2:=ot2) (by simpa using hot) (by simpa using hot2) htt (form_of hB) Gr.refl Gr.trans hst (fun k m hk=>?_) (fun k hk hb=>?_) (fun k hk hlt=>?_) (fun k hk hlt=>?_) (mid_number l t t2) (tail_number l t2) _ _ _ _ _ _ ?_ (by simp) (closed_start _) (by simp [ht]) (rest_number_t l t) h (gr_draw w) (fun _=>trivial) (fun _ _ _ _ _=>trivial) (fun _ _ _=>trivial))
 ·exact List.all_eq_true.1 hr k (hks ▸ lookup_mem hk)
 ·have:=List.all_eq_true.1 hfr k (List.mem_range.2 hk)
  rw [hb,Bool.false_or,Bool.and_eq_true] at this
  refine ⟨this.1,fun j hj=>?_⟩
  have h2:=List.all_eq_true.1 this.2 j (hks ▸ lookup_some hj)
  simpa using h2
 ·have:=List.all_eq_true.1 hl k (List.mem_range.2 (by simpa using hk))
  rw [Bool.or_eq_true,decide_eq_true_eq] at this
  exact this.resolve_left (by omega)
 ·have:=List.all_eq_true.1 hl2 k (List.mem_range.2 (by simpa using hk))
  rw [Bool.or_eq_true,decide_eq_true_eq] at this
  exact this.resolve_left (by omega)
 ·rw [number_len,number_len,number_len,List.length_take,List.length_drop,List.length_drop,List.length_take]
  simp
  omega
theorem endTU_append {P:Program} {md:Region.Mode} {ops:Array Oper} {V:World→Prop} {a:Act} {ot:Oper} {t2:Nat} {ot2:Oper} {Q:Act→World→Prop} {tail1 tail2:List (Nat×Oper)} {W:World} {α:Type} {s:Shape α} {base:Nat} {M M':Nat→Prop} {v:Value} {l k:List α} {e t:TypeId} {bytes:Nat} (el:Elem P t e s bytes) (sv x:Operand) (ho:ot.op=.call { callee:=.builtin .append,args:=#[sv,x],argTypes:=#[t,t] })
  (hs:a.eval sv=v) (h:Own s e W base M v l) {A:Option Addr} {m c:Nat} (hx:a.eval x=.slice A m c) (hk:Src s W M' A m k) (h3':∀ n,M' n→n<W.heap.size∧some n≠v.ownBlock)
  (hroom:(l.length+k.length)*bytes≤140737488355328) (h63:l.length+k.length≤maxLen) (hbase:base≤W.heap.size)
  (K:∀ v' W',Own s e W' base (fun n=>M n∨M' n) v' (l++k)→W.grownBy W' v.ownBlock→(v'.ownBlock=v.ownBlock∨v'.ownBlock=some W.heap.size)→V W'∧wpG P md ops Eq W' [] (some t2) (EndT P md ops ot2 Q tail2) tail1 (fun _ _=>True) (a.put ot.dst v')):EndTU P md ops V ot t2 ot2 Q tail1 tail2 a W:=by
 obtain ⟨v',w',hrun,h2,h3,h4⟩:=run_append_list (P:=P) (ty:=ot.type) (c:=c) el h hk h3' hroom h63 hbase
 have he:(execOp a.eval ot).run P W=.ok (.value v') w':=by
  unfold execOp
  simp only [ho,resolve,invoke,builtin,Sem.run_bind,Sem.run_pure,Result.andThen_ok,List.map_toArray,List.map_cons,List.map_nil,hs,hx,hrun]
 unfold EndTU
 rw [he]
 exact K v' w' h2 h3 h4
end Go.Proofs.YtfhfcipelgogjaaGreatDoor
