/- quota's meter: made, one entry more, bytes more. No condition but room. What (*forecast.fold).walk does to the things, in plain words, and how it lies in memory. No code. quota.within: numbers between their bounds. No condition but room. quota.Check, quota.New; sieve.Check. No condition but room. forecast.fits, forecast.allFit. No condition but room. -/
import Derived.Test.YtfhfcipelgogjaaGreatDoorBaseAt
import Derived.Test.YtfhfcipelgogjaaGreatDoorRegAll
import Derived.Test.YtfhfcipelgogjaaGreatDoorApplyAll
import Derived.Test.YtfhfcipelgogjaaGreatDoorPlanAll
import Derived.Test.YtfhfcipelgogjaaGreatDoorFListAll
import Derived.Test.YtfhfcipelgogjaaGreatDoorDataAll
set_option linter.unusedSectionVars false
set_option linter.unusedVariables false
set_option linter.unusedSimpArgs false
set_option maxHeartbeats 2000000
set_option maxRecDepth 100000
namespace Go.Proofs.YtfhfcipelgogjaaGreatDoor
open Go.RowKit
attribute [local go_sem] cell?_over frozen?_over lt_over le_over
def MeterAt (w:World) (g:Nat) (mE mB e b:Int):Prop:=Blk w g 266 #[.int .i64 mE,.int .i64 mB,.int .i64 e,.int .i64 b]
def EntryEnd (g:Nat) (mE mB e b:Int) (w:World) (en:Ending) (w':World):Prop:=w.grownBy w' (some g)∧((mE≤e∧en=.returned (.int .i64 200)∧MeterAt w' g mE mB e b)∨(e<mE∧en=.returned (.int .i64 0)∧MeterAt w' g mE mB (e+1) b))
def BytesEnd (g:Nat) (mE mB e b:Int) (k:Nat) (w:World) (en:Ending) (w':World):Prop:=w.grownBy w' (some g)∧((mB<b+k∧en=.returned (.int .i64 201)∧MeterAt w' g mE mB e b)∨(b+k≤mB∧en=.returned (.int .i64 0)∧MeterAt w' g mE mB e (b+k)))
theorem grown_setM {w w1:World} {g k:Nat} {u:Value} (h:w.grownBy w1 (some g)):w.grownBy (w1.setCell ⟨g,k,none⟩ u) (some g):=
 ⟨h.os,h.tape,h.output,by simpa [World.setCell] using h.size,fun n hn hne=>(Below.heap_setCell w1 _ _ n (fun e=>hne (by rw [e]))).trans (h.block n hn hne)⟩
theorem quotaEntry {g:Nat} {mE mB e b:Int} (w:World) (h:MeterAt w g mE mB e b) (h0:0≤e) (h1:e≤1000000000) :
  Calls Tryz.prog 108 #[.pointer (some ⟨g,0,none⟩)] w (EntryEnd g mE mB e b w):=by
 have H:=Lib.hid h
 have x0:=h.cell 0; have x2:=h.cell 2; have lg:=h.lt
 simp only [List.getElem?_toArray,List.getElem?_cons_succ,List.getElem?_cons_zero] at x0 x2
 have hwr:IntKind.i64.wrap (e+1)=e+1:=by rw [IntKind.wrap_i64]; omega
 clear h
 go_enter Tryz.func108,Tryz.ntmps108
 go_wp2_with fail
 refine wp_region_grow [] (by kernel_rfl) (by kernel_rfl) stays_nil ?_
 repeat (first
  | (refine g_w rfl ?_ (fun W=>?_) ?_; rotate_left; (focus (go_simp; (try with_reducible rfl); done)); simp only [Act.put,List.setIfInBounds_toArray,List.set_cons_zero,List.set_cons_succ])
  | (refine g_d rfl (by kernel_rfl) ?_ (fun δ=>?_) ?_; rotate_left; (focus (go_simp; (try with_reducible rfl); done)); simp only [Act.put,List.setIfInBounds_toArray,List.set_cons_zero,List.set_cons_succ]))
 refine g_end fun δ _=>?_
 have HO:Hid (MeterAt (over w δ) g mE mB e b):=Lib.hid (H.out.over_ δ)
 have GO:Hid (w.grownBy (over w δ) (some g)):=Lib.hid ⟨rfl,rfl,rfl,size_over_le _ _,fun n hn _=>over_heap_lt hn⟩
 obtain ⟨w1,hw1⟩:∃ x,x=over w δ:=⟨_,rfl⟩
 rw [← hw1] at HO GO ⊢
 have x2':=HO.out.cell 2; have f2:=HO.out.frozen 2; have lg1:=HO.out.lt
 simp only [List.getElem?_toArray,List.getElem?_cons_succ,List.getElem?_cons_zero] at x2'
 clear hw1 x0 x2 lg
 by_cases hlt:mE≤e
 ·have hge:e≥mE:=hlt
  go_wp2_with fail
  go_ret
  exact ⟨GO.out,.inl ⟨hlt,rfl,HO.out⟩⟩
 ·have hge:¬ e≥mE:=hlt
  go_wp2_with fail
  go_ret
  have hm:=HO.out.set_ 2 (.int .i64 (e+1))
  exact ⟨grown_setM GO.out,.inr ⟨by omega,rfl,hm⟩⟩
theorem quotaBytes {g:Nat} {mE mB e b:Int} (w:World) (k:Nat) (h:MeterAt w g mE mB e b) (h0:0≤b) (h1:b≤mB) (h2:mB≤1099511627776) (hk:k≤1000000000000) :
  Calls Tryz.prog 110 #[.pointer (some ⟨g,0,none⟩),.int .i64 k] w (BytesEnd g mE mB e b k w):=by
 have H:=Lib.hid h
 have x1:=h.cell 1; have x3:=h.cell 3; have lg:=h.lt
 simp only [List.getElem?_toArray,List.getElem?_cons_succ,List.getElem?_cons_zero] at x1 x3
 have hwr:IntKind.i64.wrap (b+k)=b+k:=by rw [IntKind.wrap_i64]; omega
 have hws:IntKind.i64.wrap (mB - b)=mB - b:=by rw [IntKind.wrap_i64]; omega
 have hneg:¬ (k:Int)<0:=by omega
 have hgt:decide (b>mB)=false:=decide_eq_false (by omega)
 clear h
 go_enter Tryz.func110,Tryz.ntmps110
 go_wp2_with fail
 refine wp_region_H Gr [] (by kernel_rfl) (by kernel_rfl) Gr.refl Gr.trans (gr_draw w) staysH_nil ?_
 repeat (first
  | (refine h_w rfl (by rfl) ?_ (fun W=>?_) ?_; rotate_left; (focus (go_simp; (try with_reducible rfl); done)); simp only [Act.put,List.setIfInBounds_toArray,List.set_cons_zero,List.set_cons_succ])
  | (refine h_d rfl (by rfl) (.int .i64 b) (fun W hW _=>?_) ?_; (focus (rw [over_of_below hW]; go_simp; done)); simp only [Act.put,List.setIfInBounds_toArray,List.set_cons_zero,List.set_cons_succ])
  | (refine h_d rfl (by rfl) (.int .i64 mB) (fun W hW _=>?_) ?_; (focus (rw [over_of_below hW]; go_simp; done)); simp only [Act.put,List.setIfInBounds_toArray,List.set_cons_zero,List.set_cons_succ]))
 refine h_end fun w1 hW _=>?_
 have hW:Below w.heap.size w w1:=hW
 have HO:Hid (MeterAt w1 g mE mB e b):=Lib.hid (H.out.below hW H.out.lt)
 have GO:Hid (w.grownBy w1 (some g)):=Lib.hid ⟨hW.os,hW.tape,hW.output,hW.size,fun n hn _=>hW.block n hn⟩
 have x3':=HO.out.cell 3; have f3:=HO.out.frozen 3; have lg1:=HO.out.lt
 simp only [List.getElem?_toArray,List.getElem?_cons_succ,List.getElem?_cons_zero] at x3'
 clear hW x1 x3 lg
 by_cases hlt:(k:Int)>mB - b
 ·go_wp2_with fail
  go_ret
  exact ⟨GO.out,.inl ⟨by omega,rfl,HO.out⟩⟩
 ·go_wp2_with fail
  go_ret
  have hm:=HO.out.set_ 3 (.int .i64 (b+k))
  exact ⟨grown_setM GO.out,.inr ⟨by omega,rfl,hm⟩⟩
end Go.Proofs.YtfhfcipelgogjaaGreatDoor
namespace Go.Proofs.YtfhfcipelgogjaaGreatDoor
open Go.RowKit
structure DoneD where
 name:ByteArray
 out:Int
 code:Int
 deriving Inhabited,DecidableEq
def Shape.DoneD:Shape DoneD where
 size:=3
 pos:=by decide
 rd _ _ cs d:=cs=[.string d.name,.int .i64 d.out,.int .i64 d.code]
 bulk _:=1
 bpos _:=Nat.le_refl _
 len h:=by rw [h]; rfl
 keep h _:=h
 more h _:=h
 one h v hv:=by
  rw [h] at hv
  simp only [List.mem_cons,List.not_mem_nil,or_false] at hv
  rcases hv with rfl | rfl | rfl <;> rfl
theorem elem_DoneD:Elem Tryz.prog 48 62 Shape.DoneD 32:=⟨Tryz.underlying48,by kernel_rfl⟩
def jobOf (p:PlanP):JobD:=⟨p.kind,p.parts,p.from_,p.text,p.data,p.mode,p.uid,p.gid,⟨p.sec,p.nano⟩,p.dirMode,p.replace,p.keepIds⟩
structure WSt where
 s:FoldS
 done:List DoneD
 bytes:Int
def stepF (now:TimeD) (r:Nat) (c:ConfigD) (x:WSt) (e:EntryD):WSt×Int:=
 if c.maxEntries≤x.done.length then (x,200)
 else if (planOf e c).out≠0 then (⟨x.s,x.done++[⟨e.name,(planOf e c).out,(planOf e c).code⟩],x.bytes⟩,0)
 else if e.kind=1∧c.maxBytes<x.bytes+e.data.length then (x,201)
 else if (applyF now r (jobOf (planOf e c)) x.s.ths x.s.off).2.2=175 then (⟨(applyF now r (jobOf (planOf e c)) x.s.ths x.s.off).1,x.done,if e.kind=1 then x.bytes+e.data.length else x.bytes⟩,175)
 else (⟨(applyF now r (jobOf (planOf e c)) x.s.ths x.s.off).1,x.done++[⟨e.name,if (applyF now r (jobOf (planOf e c)) x.s.ths x.s.off).2.2≠0 then 2 else (applyF now r (jobOf (planOf e c)) x.s.ths x.s.off).2.1,(applyF now r (jobOf (planOf e c)) x.s.ths x.s.off).2.2⟩],if e.kind=1 then x.bytes+e.data.length else x.bytes⟩,0)
def walkF (now:TimeD) (r:Nat) (c:ConfigD):List EntryD→WSt→WSt×Int
 | [],x=>(x,0)
 | e :: es,x=>if (stepF now r c x e).2=0 then walkF now r c es (stepF now r c x e).1 else stepF now r c x e
def InBlk (v:Value) (k:Nat):Prop:=∃ off n c,v=.slice (some ⟨k,off,none⟩) n c
theorem DatV.cngD {w w':World} {v:Value} {l:List UInt8} {M:Nat→Prop} (h:DatV w v l) (hc:Cng M w w') (hM:∀ k,M k→NoByte w k∨¬ (l≠[]∧InBlk v k)):DatV w' v l:=by
 obtain ⟨A,c,h1,h2,h3⟩:=h
 refine ⟨A,c,h1,h2,h3.1,fun h0=>?_⟩
 obtain ⟨b,off,e,hb,hi⟩:=h3.2 h0
 have hnb:¬ M b:=fun hm=>by
  rcases hM b hm with hn | hn
  ·obtain ⟨es,q1,q2⟩:=hi 0 h0
   have q3:=q1 0 (by decide)
   have q2:es=[.int .u8 l[0].toNat]:=q2
   rw [q2] at q3
   exact hn _ _ q3
  ·refine hn ⟨fun e0=>?_,off,l.length,c,by rw [h2,e]⟩
   rw [e0] at h0; exact absurd h0 (by simp)
 have hblk:=hc.block b hb hnb
 refine ⟨b,off,e,Nat.lt_of_lt_of_le hb hc.size,fun i hil=>?_⟩
 obtain ⟨es,q1,q2⟩:=hi i hil
 exact ⟨es,fun j hj=>(World.cell?_of_block (w:=w) (a:=⟨b,off+i*Shape.byte.size+j,none⟩) hblk).trans (q1 j hj),q2⟩
section
variable {w w':World} {B f r mo:Nat} {now:TimeD} {hs hs2:List Hn} {ths ths2:List ThD} {off:List (Nat×JobD)}
def DataIn (hs:List Hn) (ths:List ThD) (k:Nat):Prop:=∃ (j:Nat) (t:ThD) (h:Hn),ths[j]?=some t∧hs[j]?=some h∧t.data≠[]∧InBlk h.dv k
theorem FoldAt.dataIn_lt (h:FoldAt w B f r mo now hs ths off) {k:Nat} (hk:DataIn hs ths k):k<w.heap.size:=by
 obtain ⟨j,t,x,e1,e2,h0,o,n,c,hv⟩:=hk
 obtain ⟨A,cc,_,hv2,hr⟩:=h.dat j t x e1 e2
 rw [hv] at hv2
 injection hv2 with e3 e4 e5
 obtain ⟨b,off2,e6,hb,_⟩:=hr.2 (List.length_pos_iff.2 h0)
 rw [← e3] at e6
 injection e6 with e6
 injection e6 with e6
 rw [e6]; exact hb
theorem FoldAt.dataIn_apply {off2:List (Nat×JobD)} {vd:Value} {k k0:Nat} (h:FoldAt w B f r mo now hs ths off) (h2:FoldAt w' B f r mo now (hs++hs2) ths2 off2) (hn:∀ x∈hs2,x.dv=.slice none 0 0∨x.dv=vd) (hvd:∃ (A:Option Addr) (len c:Nat),vd=.slice A len c∧(0<len→∃ b o,A=some ⟨b,o,none⟩∧k0≤b)) (hk:k<k0) (hno:¬ DataIn hs ths k):¬ DataIn (hs++hs2) ths2 k:=by
 rintro ⟨j,t,x,e1,e2,h0,o,n,c,hv⟩
 obtain ⟨A,cc,_,hv2,_⟩:=h2.dat j t x e1 e2
 rw [hv] at hv2
 injection hv2 with q1 q2 q3
 by_cases hj:j<hs.length
 ·rw [List.getElem?_append_left hj] at e2
  have hjt:j<ths.length:=by rw [← h.tree.len]; exact hj
  obtain ⟨A',c',_,hv3,_⟩:=h.dat j _ x (thD_at hjt) e2
  rw [hv] at hv3
  injection hv3 with r1 r2 r3
  refine hno ⟨j,_,x,thD_at hjt,e2,fun e=>?_,o,n,c,hv⟩
  rw [e] at r2
  have:t.data.length=0:=by rw [← q2,r2]; rfl
  exact h0 (List.eq_nil_of_length_eq_zero this)
 ·rw [List.getElem?_append_right (by omega)] at e2
  rcases hn x (List.mem_of_getElem? e2) with e | e
  ·rw [e] at hv; injection hv with hv; cases hv
  ·obtain ⟨A',len,c',hv3,hb⟩:=hvd
   rw [e,hv3] at hv
   injection hv with r1 r2 r3
   have hl:0<len:=by rw [r2,q2]; exact List.length_pos_iff.2 h0
   obtain ⟨b,o',e6,hb⟩:=hb hl
   rw [r1] at e6
   injection e6 with e6
   injection e6 with e6
   omega
theorem FoldAt.keepD {M:Nat→Prop} (h:FoldAt w B f r mo now hs ths off) (hc:Cng M w w') (hM:∀ k,M k→¬ inTree hs ths k∧k≠f∧k≠mo∧(NoByte w k∨¬ DataIn hs ths k)):FoldAt w' B f r mo now hs ths off:=
 ⟨(hc.block f h.blk.lt (fun hm=>(hM f hm).2.1 rfl)).trans h.blk,h.tree.keeps (fun k hk=>hc.block k (h.tree.lt hk).1 (fun hm=>(hM k hm).1 hk)),h.root,h.rkind,h.off.of_block (hc.block mo h.off.lt (fun hm=>(hM mo hm).2.2.1 rfl)),h.apart,Nat.le_trans h.base hc.size,
  fun j t x e1 e2=>(h.dat j t x e1 e2).cngD hc (fun k hk=>(hM k hk).2.2.2.imp id fun hx hy=>hx ⟨j,t,x,e1,e2,hy.1,hy.2⟩)⟩
end
theorem nobyte_blk {w:World} {k:Nat} {ty:TypeId} {cs:Array Value} (h:Blk w k ty cs) (hn:∀ (i:Nat) (x:Int),cs[i]?≠some (Value.int .u8 x)):NoByte w k:=fun i x e=>by
 rw [h.cell] at e; exact hn i x e
structure WkI (B f r mo ob cb:Nat) (now:TimeD) (c:ConfigD) (A1:Option Addr) (n1 c1:Nat) (A2:Option Addr) (n2 c2:Nat) (w:World) (hs:List Hn) (x:WSt) (wr:World):Prop where
 fold:FoldAt wr B f r mo now hs x.s.ths x.s.off
 out:∃ dv,Blk wr ob 50 #[.slice none 0 0,dv,.int .i64 0,.int .i64 x.done.length]∧Own Shape.DoneD 62 wr B (fun _=>False) dv x.done∧∀ k,dv.ownBlock=some k→¬ DataIn hs x.s.ths k
 cfg:Blk wr cb 42 (cfgC c A1 n1 c1 A2 n2 c2)
 below:Below B w wr
theorem FoldAt.not_own {α:Type} {s:Shape α} {ty:TypeId} {w:World} {B f r mo base:Nat} {now:TimeD} {hs:List Hn} {ths:List ThD} {off:List (Nat×JobD)} {M:Nat→Prop} {v:Value} {l:List α} (h:FoldAt w B f r mo now hs ths off) (ho:Own s ty w base M v l) (h1:ty≠203) (h2:ty≠147) :
  ∀ k,v.ownBlock=some k→¬ inTree hs ths k∧k≠f∧k≠mo:=by
 intro k hk
 obtain ⟨cs,fz,hh⟩:=ownsType ho hk
 refine ⟨?_,?_,?_⟩
 ·rintro ⟨j,t,x,e1,e2,rfl | ⟨e3,rfl⟩⟩
  ·have b:w.heap[x.a]?=_:=h.tree.blk j t x e1 e2
   rw [hh] at b; injection b with b; injection b with _ b; exact h1 b
  ·obtain ⟨es,c,hb,_⟩:=h.tree.map j t x e1 e2 e3
   rw [hh] at hb; cases hb
 ·rintro rfl
  have b:w.heap[k]?=_:=h.blk
  rw [hh] at b; injection b with b; injection b with _ b; exact h2 b
 ·rintro rfl
  obtain ⟨kv,⟨es,c,hb,_⟩,_⟩:=h.off
  rw [hh] at hb; cases hb
theorem FoldAt.not_blk {ty:TypeId} {cs:Array Value} {w:World} {B f r mo k:Nat} {now:TimeD} {hs:List Hn} {ths:List ThD} {off:List (Nat×JobD)} (h:FoldAt w B f r mo now hs ths off) (hb:Blk w k ty cs) (h1:ty≠203) (h2:ty≠147):¬ inTree hs ths k∧k≠f∧k≠mo:=
 ⟨h.tree.not_blk hb h1,fun e=>hb.ne_ h.blk h2 e,fun e=>h.off.ne_blk hb e.symm⟩
theorem planSmall (e:EntryD) (c:ConfigD) (h1:e.name.size≤100000000) (h2:e.link.size≤100000000) (h3:e.data.length≤100000000):(planOf e c).parts.length≤1000000000∧(planOf e c).from_.length≤1000000000∧(planOf e c).data.length≤1000000000:=by
 have p1:=parts_size (l:=e.name.data.toList) (by rw [show e.name.data.toList.length=e.name.size from Lib.size_eq e.name |>.symm]; omega)
 have p2:=parts_size (l:=e.link.data.toList) (by rw [show e.link.data.toList.length=e.link.size from Lib.size_eq e.link |>.symm]; omega)
 have q0:∀ p:PlanP,p.parts=[]→p.from_=[]→p.data=[]→p.parts.length≤1000000000∧p.from_.length≤1000000000∧p.data.length≤1000000000:=by
  intro p a b c; rw [a,b,c]; simp
 unfold planOf
 split
 ·exact q0 _ rfl rfl rfl
 split
 ·exact q0 _ rfl rfl rfl
 split
 ·exact q0 _ rfl rfl rfl
 split
 ·exact q0 _ rfl rfl rfl
 split
 ·exact q0 _ rfl rfl rfl
 split
 ·exact q0 _ rfl rfl rfl
 refine ⟨?_,?_,?_⟩
 ·show (textsL (leftOf e c)).length≤_
  unfold textsL leftOf
  rw [List.length_map,List.length_drop]
  omega
 ·show (if e.kind=4 then textsL ((partsOf e.link.data.toList).drop c.strip.toNat) else []).length≤_
  split
  ·unfold textsL
   rw [List.length_map,List.length_drop]
   omega
  ·simp
 ·show (if e.kind=1 then e.data else []).length≤_
  split
  ·omega
  ·simp
section
variable {B f r mo ob cb:Nat} {now:TimeD} {c:ConfigD} {A1:Option Addr} {n1 c1:Nat} {A2:Option Addr} {n2 c2:Nat} {w wr w':World} {hs:List Hn} {x:WSt}
theorem WkI.below_ (h:WkI B f r mo ob cb now c A1 n1 c1 A2 n2 c2 w hs x wr) (hb:Below wr.heap.size wr w'):WkI B f r mo ob cb now c A1 n1 c1 A2 n2 c2 w hs x w':=by
 obtain ⟨dv,h1,h2,h3⟩:=h.out
 exact ⟨h.fold.below hb,⟨dv,h1.below hb h1.lt,h2.kept (grownBy_below' (r:=none) hb) (by cases hv:dv.ownBlock <;> simp) (fun _ h=>h.elim),h3⟩,h.cfg.below hb h.cfg.lt,h.below.trans (hb.mono h.fold.base)⟩
theorem WkI.keep1 {k:Nat} {ty:TypeId} {cs:Array Value} (h:WkI B f r mo ob cb now c A1 n1 c1 A2 n2 c2 w hs x wr) (hb:Blk wr k ty cs) (h1:ty≠203) (h2:ty≠147) (h3:ty≠50) (h4:ty≠42)
  (h5:∀ dv,wr.cell? ⟨ob,1,none⟩=some dv→some k≠dv.ownBlock) (hn:∀ (i:Nat) (x:Int),cs[i]?≠some (Value.int .u8 x)) (hk:B≤k) (hg:wr.grownBy w' (some k)):WkI B f r mo ob cb now c A1 n1 c1 A2 n2 c2 w hs x w':=by
 have hc:Cng (fun m=>m=k) wr w':=⟨hg.os,hg.tape,hg.output,hg.size,fun m hm hne=>hg.block m hm (fun e=>hne (by injection e))⟩
 obtain ⟨q1,q2,q3⟩:=h.fold.not_blk hb h1 h2
 obtain ⟨dv,o1,o2,o3⟩:=h.out
 refine ⟨h.fold.keepD hc (fun m hm=>by subst hm; exact ⟨q1,q2,q3,.inl (nobyte_blk hb hn)⟩),⟨dv,(hg.block ob o1.lt (fun e=>by injection e with e; exact o1.ne_ (e ▸ hb) (fun e=>h3 e.symm) rfl)).trans o1,o2.cng hc (fun m hm=>by subst hm; exact ⟨h5 dv (o1.cell 1),fun h=>h⟩),o3⟩,(hg.block cb h.cfg.lt (fun e=>by injection e with e; exact h.cfg.ne_ (e ▸ hb) (fun e=>h4 e.symm) rfl)).trans h.cfg,h.below.trans (hc.below h.fold.base (fun m hm=>by rw [hm]; exact hk))⟩
theorem WkI.pushed {x1:FoldS} {dn:List DoneD} {b:Int} {dd:DoneD} {dv v':Value} {wo w5:World} (h:WkI B f r mo ob cb now c A1 n1 c1 A2 n2 c2 w hs ⟨x1,dn,b⟩ wr) (hb:Below wr.heap.size wr wo) (o1:Blk wr ob 50 #[.slice none 0 0,dv,.int .i64 0,.int .i64 dn.length])
  (o2:Own Shape.DoneD 62 wr B (fun _=>False) dv dn) (o3:∀ k,dv.ownBlock=some k→¬ DataIn hs x1.ths k) (hg:wo.grownBy w5 dv.ownBlock) (o5:Own Shape.DoneD 62 w5 B (fun _=>False) v' (dn++[dd])) (hat:v'.ownBlock=dv.ownBlock∨v'.ownBlock=some wo.heap.size) (hbo:B≤ob) :
  WkI B f r mo ob cb now c A1 n1 c1 A2 n2 c2 w hs ⟨x1,dn++[dd],b⟩ ((w5.setCell ⟨ob,1,none⟩ v').setCell ⟨ob,3,none⟩ (.int .i64 ((dn.length:Int)+1))):=by
 have hO:=h.below_ hb
 have q2:Own Shape.DoneD 62 wo B (fun _=>False) dv dn:=o2.kept (grownBy_below' (r:=none) hb) (by cases hv:dv.ownBlock <;> simp) (fun _ h=>h.elim)
 have q1:Blk wo ob 50 #[.slice none 0 0,dv,.int .i64 0,.int .i64 dn.length]:=o1.below hb o1.lt
 have c5:Cng (fun k=>dv.ownBlock=some k) wo w5:=⟨hg.os,hg.tape,hg.output,hg.size,fun m hm hne=>hg.block m hm (fun e=>hne e.symm)⟩
 have f5:=hO.fold.keepD c5 (fun k hk=>by
  obtain ⟨a1,a2,a3⟩:=hO.fold.not_own q2 (by decide) (by decide) k hk
  exact ⟨a1,a2,a3,.inr (o3 k hk)⟩)
 have nb:∀ k,dv.ownBlock=some k→k≠ob∧k≠cb∧B≤k:=fun k hk=>by
  obtain ⟨cs,fz,hh⟩:=ownsType q2 hk
  refine ⟨?_,?_,(q2.lt k hk).1⟩
  ·rintro rfl
   have b1:wo.heap[k]?=_:=q1
   rw [hh] at b1; injection b1 with b1; injection b1 with _ b1; exact absurd b1 (by decide)
  ·rintro rfl
   have b1:wo.heap[k]?=_:=hO.cfg
   rw [hh] at b1; injection b1 with b1; injection b1 with _ b1; exact absurd b1 (by decide)
 have b5:Blk w5 ob 50 #[.slice none 0 0,dv,.int .i64 0,.int .i64 dn.length]:=(c5.block ob q1.lt (fun e=>(nb ob e).1 rfl)).trans q1
 have g5:Blk w5 cb 42 (cfgC c A1 n1 c1 A2 n2 c2):=(c5.block cb hO.cfg.lt (fun e=>(nb cb e).2.1 rfl)).trans hO.cfg
 have bel5:Below B w w5:=hO.below.trans (c5.below hO.fold.base (fun k hk=>(nb k hk).2.2))
 have c6:Cng (fun k=>k=ob) w5 ((w5.setCell ⟨ob,1,none⟩ v').setCell ⟨ob,3,none⟩ (.int .i64 ((dn.length:Int)+1))):=((Cng.refl (fun k=>k=ob) w5).set (b:=ob) rfl _).set (b:=ob) rfl _
 obtain ⟨z1,z2,z3⟩:=f5.not_blk b5 (by decide) (by decide)
 have dvs:∃ (A:Option Addr) (n c:Nat),dv=.slice A n c:=by obtain ⟨A,n,c,e,_⟩:=o2.rd_old; exact ⟨A,n,c,e⟩
 obtain ⟨Av,nv,cv,edv⟩:=dvs
 refine ⟨f5.keepD c6 (fun k hk=>by subst hk; exact ⟨z1,z2,z3,.inl (nobyte_blk b5 (fun i y=>by rw [edv]; rcases i with _ | _ | _ | _ | i <;> simp))⟩),⟨v',((b5.set_ 1 v').set_ 3 _).to (by rw [List.length_append]; rfl),o5.cng c6 (fun k hk=>⟨fun e=>?_,fun h=>h⟩),fun k hk=>?_⟩,(c6.block cb g5.lt (fun e=>by
  have:Blk w5 ob 42 (cfgC c A1 n1 c1 A2 n2 c2):=e ▸ g5
  exact absurd rfl (this.ne_ b5 (by decide)))).trans g5,bel5.trans (c6.below f5.base (fun k hk=>by rw [hk]; exact hbo))⟩
 ·obtain ⟨cs,fz,hh⟩:=ownsType o5 e.symm
  subst hk
  have b1:w5.heap[k]?=_:=b5
  rw [hh] at b1; injection b1 with b1; injection b1 with _ b1; exact absurd b1 (by decide)
 ·rcases hat with e | e
  ·exact o3 k (by rw [← e]; exact hk)
  ·intro hd
   have:=hO.fold.dataIn_lt hd
   rw [e] at hk
   injection hk with hk
   omega
theorem WkI.applied {X:FoldS×Int×Int} {vd:Value} {e:Ending} {k0:Nat} {by1:Int} (h:WkI B f r mo ob cb now c A1 n1 c1 A2 n2 c2 w hs x wr) (ha:ApplyEnd X vd B f r mo now hs x.s.ths wr e w') (hBm:B≤mo)
  (hvd:∃ (A:Option Addr) (len c:Nat),vd=.slice A len c∧(0<len→∃ b o,A=some ⟨b,o,none⟩∧k0≤b)) (hk:∀ dv,wr.cell? ⟨ob,1,none⟩=some dv→∀ k,dv.ownBlock=some k→k<k0) :
  ∃ hs2,WkI B f r mo ob cb now c A1 n1 c1 A2 n2 c2 w (hs++hs2) ⟨X.1,x.done,by1⟩ w'∧Cng (fun k=>inTree hs x.s.ths k∨k=mo) wr w'∧e=.returned (.tuple #[.int .i64 X.2.1,.int .i64 X.2.2]):=by
 obtain ⟨hs2,hf,hn,hc,he⟩:=ha
 obtain ⟨dv,o1,o2,o3⟩:=h.out
 obtain ⟨q1,q2,q3⟩:=h.fold.not_blk o1 (by decide) (by decide)
 obtain ⟨r1,r2,r3⟩:=h.fold.not_blk h.cfg (by decide) (by decide)
 have hlo:∀ k,(inTree hs x.s.ths k∨k=mo)→B≤k:=fun k hk=>hk.elim (fun h'=>(h.fold.tree.lt h').2) (fun h'=>h' ▸ hBm)
 have ho1:=o1.cell 1
 simp only [List.getElem?_toArray,List.getElem?_cons_succ,List.getElem?_cons_zero] at ho1
 refine ⟨hs2,⟨hf,⟨dv,(hc.block ob o1.lt (fun hx=>hx.elim q1 q3)).trans o1,o2.cng hc (fun k hk'=>⟨fun e=>?_,fun h=>h⟩),fun k hk'=>?_⟩,(hc.block cb h.cfg.lt (fun hx=>hx.elim r1 r3)).trans h.cfg,h.below.trans (hc.below h.fold.base hlo)⟩,hc,he⟩
 ·obtain ⟨s1,s2,s3⟩:=h.fold.not_own o2 (by decide) (by decide) k e.symm
  exact hk'.elim s1 s3
 ·exact h.fold.dataIn_apply hf (fun y hy=>(hn y hy).2.2) hvd (hk dv ho1 k hk') (o3 k hk')
theorem WkI.other {k:Nat} {ty:TypeId} {cs:Array Value} (h:WkI B f r mo ob cb now c A1 n1 c1 A2 n2 c2 w hs x wr) (hb:Blk wr k ty cs) (h1:ty≠62):∀ dv,wr.cell? ⟨ob,1,none⟩=some dv→some k≠dv.ownBlock:=by
 intro dv hd e
 obtain ⟨dv',o1,o2,_⟩:=h.out
 have o1':=o1.cell 1
 rw [hd] at o1'
 simp only [List.getElem?_toArray,List.getElem?_cons_succ,List.getElem?_cons_zero] at o1'
 injection o1' with o1'
 subst o1'
 obtain ⟨cs',fz,hh⟩:=ownsType o2 e.symm
 have hb':wr.heap[k]?=_:=hb
 rw [hb'] at hh; injection hh with hh; injection hh with _ hh; exact h1 hh
end
theorem plan_hard {e:EntryD} {c:ConfigD} (h0:(planOf e c).out=0) (h4:(planOf e c).kind=4):0<(planOf e c).from_.length:=by
 unfold planOf at h0 h4 ⊢
 split at h0
 ·cases h0
 split at h0
 ·cases h0
 split at h0
 ·cases h0
 split at h0
 ·cases h0
 split at h0
 ·cases h0
 split at h0
 ·cases h0
 rename_i n1 n2 n3 n4 n5 n6
 rw [if_neg n1,if_neg n2,if_neg n3,if_neg n4,if_neg n5,if_neg n6] at h4 ⊢
 have hk:e.kind=4:=h4
 have hl:linkE e c=0:=by simpa using n6
 unfold linkE at hl
 rw [if_neg (by omega),if_pos hk] at hl
 unfold hardE at hl
 split at hl
 ·rename_i hr; exact absurd hl hr
 split at hl
 ·cases hl
 ·rename_i hne
  show 0<(if e.kind=4 then textsL ((partsOf e.link.data.toList).drop c.strip.toNat) else []).length
  rw [if_pos hk]
  unfold textsL
  rw [List.length_map]
  exact List.length_pos_iff.2 hne
end Go.Proofs.YtfhfcipelgogjaaGreatDoor
namespace Go.Proofs.YtfhfcipelgogjaaGreatDoor
open Go.RowKit
attribute [local go_sem] cell?_over frozen?_over lt_over le_over
structure BndD where
 v:Int
 lo:Int
 hi:Int
def bndCs (b:BndD):List Value:=[.int .i64 b.v,.int .i64 b.lo,.int .i64 b.hi]
def Shape.BndD:Shape BndD where
 size:=3
 pos:=by decide
 rd _ _ cs b:=cs=bndCs b
 bulk _:=1
 bpos _:=Nat.le_refl _
 len h:=by rw [h]; rfl
 keep h _:=h
 more h _:=h
 one h v hv:=by
  rw [h] at hv
  simp only [bndCs,List.mem_cons,List.not_mem_nil,or_false] at hv
  rcases hv with rfl | rfl | rfl <;> rfl
def inB (b:BndD):Bool:=!(decide (b.v<b.lo) || decide (b.hi<b.v))
theorem quotaWithin {A:Option Addr} {n c:Nat} {l:List BndD} (w:World) (h:Row Shape.BndD w (Old w) A n l) (hn:n≤1000000000) :
  Calls Tryz.prog 102 #[.slice A n c] w fun e w'=>e=.returned (.bool (l.all inB))∧Below w.heap.size w w':=by
 have HL:=Lib.hid h.1
 have H:=Lib.hid h
 obtain ⟨R,hR⟩:∃ R,R=l.all inB:=⟨_,rfl⟩
 rw [← hR]
 have HR:=Lib.hid hR
 clear h hR
 go_enter Tryz.func102,Tryz.ntmps102
 go_wp2_with fail
 go_loopw [7] (fun v7 wr=>∃ k:Nat,k≤n∧v7=.int .i64 k∧R=(l.drop k).all inB∧Below w.heap.size w wr) (fun v7 _=>n - (intOf v7).toNat)
 case atStart=>exact ⟨0,Nat.zero_le _,rfl,by rw [HR.out]; rfl,Below.refl _ _⟩
 case round =>
  obtain ⟨k,hk,rfl,hrk,hbel⟩:=hrel
  have HRK:=Lib.hid hrk; have HB:=Lib.hid hbel
  clear hrk hbel
  by_cases hlt:k<n
  ·obtain ⟨b,off,es,hkl,rfl,hb,hc,hr⟩:=(H.out.keep (Keeps.old HB.out)).at_ hlt
   have hr:es=bndCs l[k]:=hr
   subst hr
   obtain ⟨x,hx⟩:∃ x,x=l[k]:=⟨_,rfl⟩
   rw [← hx] at hc
   have e3:Shape.BndD.size=3:=rfl
   have c0:=hc 0 (by decide); have c1:=hc 1 (by decide); have c2:=hc 2 (by decide)
   simp only [e3,bndCs,Nat.add_zero,List.getElem?_cons_zero,List.getElem?_cons_succ] at c0 c1 c2
   have hb2:b<wr.heap.size:=Nat.lt_of_lt_of_le hb HB.out.size
   have hks:(k:Int)<n:=by omega
   have STEP:Hid (R=(inB x && (l.drop (k+1)).all inB)):=Lib.hid (by rw [HRK.out,List.drop_eq_getElem_cons hkl,List.all_cons,← hx])
   clear hc hx e3
   by_cases h1:x.v<x.lo
   ·have HE:Hid (R=false):=Lib.hid (by rw [STEP.out]; unfold inB; rw [decide_eq_true h1]; rfl)
    go_wp2_with fail
    go_ret
    exact ⟨by rw [HE.out]; rfl,HB.out.alloc HB.out.size _⟩
   ·by_cases h2:x.hi<x.v
    ·have HE:Hid (R=false):=Lib.hid (by rw [STEP.out]; unfold inB; rw [decide_eq_true h2]; simp)
     have h2':x.v>x.hi:=h2
     go_wp2_with fail
     go_ret
     exact ⟨by rw [HE.out]; rfl,HB.out.alloc HB.out.size _⟩
    ·have HE:Hid (R=(l.drop (k+1)).all inB):=Lib.hid (by rw [STEP.out]; unfold inB; rw [decide_eq_false h1,decide_eq_false h2]; rfl)
     have h2':¬ x.v>x.hi:=h2
     go_wp2_with fail
     go_roundw
     case rel=>exact ⟨k+1,by omega,by go_num,HE.out,HB.out.alloc HB.out.size _⟩
     case measure=>simp [intOf]; omega
  ·have hks:¬ (k:Int)<n:=by omega
   have HE:Hid (R=true):=Lib.hid (by rw [HRK.out,List.drop_eq_nil_of_le (by rw [HL.out]; omega)]; rfl)
   go_wp2_with fail
   go_ret
   exact ⟨by rw [HE.out]; rfl,HB.out⟩
end Go.Proofs.YtfhfcipelgogjaaGreatDoor
namespace Go.Proofs.YtfhfcipelgogjaaGreatDoor
open Go.RowKit
attribute [local go_sem] cell?_over frozen?_over lt_over le_over
theorem svCheck (s:ByteArray) (w:World) (hs:s.size≤9223372036854775807) :
  Calls Tryz.prog 103 #[.string s] w fun e w'=>e=.returned (.int .i64 (checkE s.data.toList))∧Below w.heap.size w w':=by
 have HC:=Lib.hid (svCompile s w hs)
 go_enter Tryz.func103,Tryz.ntmps103
 go_wp2_with fail
 refine HC.out.mono ?_
 intro e w' h
 obtain ⟨hb,hp⟩:=comp_parts h
 have HB:=Lib.hid hb
 clear h hb
 rcases hp with ⟨h1,rfl⟩ | ⟨h1,ts,A,c,h2,rfl,h3,h4⟩
 ·obtain ⟨ce,hce⟩:∃ x,x=checkE s.data.toList:=⟨_,rfl⟩
  rw [← hce]
  have HCE:=Lib.hid hce
  clear h1 hce
  go_wp2_with fail
  go_ret
  exact ⟨by rw [← HCE.out]; rfl,HB.out⟩
 ·have HCE:=Lib.hid h1
  clear h1 h2 h3 h4
  go_wp2_with fail
  go_ret
  exact ⟨by rw [HCE.out]; rfl,HB.out⟩
def cfgBs (c:ConfigD):List BndD:=[⟨c.maxEntries,0,65536⟩,⟨c.maxBytes,0,1099511627776⟩,⟨c.maxDepth,1,64⟩,⟨c.maxName,1,4096⟩,⟨c.maxPax,0,1048576⟩,⟨c.strip,0,64⟩,⟨c.links,0,2⟩,⟨c.replace,0,2⟩,⟨c.umask,0,511⟩]
def cfgE (c:ConfigD):Int:=if (cfgBs c).all inB=true then chosenE (bytesL c.include_) (bytesL c.exclude) else 202
theorem first_drop {l:List (List UInt8)} {k:Nat} (hk:k<l.length):firstE (l.drop k)=if checkE l[k]=0 then firstE (l.drop (k+1)) else checkE l[k]:=by
 rw [List.drop_eq_getElem_cons hk]; rfl
def remE (c:ConfigD):Nat→Int
 | 0=>chosenE (bytesL c.include_) (bytesL c.exclude)
 | 1=>firstE (bytesL c.exclude)
 | _=>0
def listE (c:ConfigD) (i:Nat):List ByteArray:=if i=0 then c.include_ else c.exclude
theorem rem_step (c:ConfigD) {i:Nat} (hi:i<2):remE c i=if firstE (bytesL (listE c i))=0 then remE c (i+1) else firstE (bytesL (listE c i)):=by
 have:i=0∨i=1:=by omega
 rcases this with rfl | rfl
 ·rfl
 ·show firstE (bytesL c.exclude)=if firstE (bytesL c.exclude)=0 then 0 else _
  split
  ·assumption
  ·rfl
theorem bnds_row {u:World} {g:Nat} (c:ConfigD) (hb:Blk u g 196 #[.int .i64 c.maxEntries,.int .i64 0,.int .i64 65536,.int .i64 c.maxBytes,.int .i64 0,.int .i64 1099511627776,.int .i64 c.maxDepth,.int .i64 1,.int .i64 64,.int .i64 c.maxName,.int .i64 1,.int .i64 4096,.int .i64 c.maxPax,.int .i64 0,.int .i64 1048576,.int .i64 c.strip,.int .i64 0,.int .i64 64,.int .i64 c.links,.int .i64 0,.int .i64 2,.int .i64 c.replace,.int .i64 0,.int .i64 2,.int .i64 c.umask,.int .i64 0,.int .i64 511]) :
  Row Shape.BndD u (Old u) (some ⟨g,0,none⟩) 9 (cfgBs c):=by
 refine ⟨rfl,fun _=>⟨g,0,rfl,hb.lt,fun i hi=>⟨bndCs (cfgBs c)[i],fun j hj=>?_,rfl⟩⟩⟩
 have hi9:i<9:=hi
 have hj3:j<3:=hj
 have h1:i=0∨i=1∨i=2∨i=3∨i=4∨i=5∨i=6∨i=7∨i=8:=by omega
 have h2:j=0∨j=1∨j=2:=by omega
 rw [hb.cell]
 rcases h1 with rfl | rfl | rfl | rfl | rfl | rfl | rfl | rfl | rfl <;> rcases h2 with rfl | rfl | rfl <;> rfl
theorem quotaNew (c:ConfigD) {A1 A2:Option Addr} {n1 c1 n2 c2:Nat} (w:World) :
  Calls Tryz.prog 107 #[.agg (cfgC c A1 n1 c1 A2 n2 c2)] w fun e w'=>∃ g,e=.returned (.pointer (some ⟨g,0,none⟩))∧w.heap.size≤g∧Below w.heap.size w w'∧MeterAt w' g c.maxEntries c.maxBytes 0 0:=by
 unfold cfgC
 go_enter Tryz.func107,Tryz.ntmps107
 go_wp2_with fail
 go_ret
 refine ⟨w.heap.size+1,rfl,by omega,(below_alloc' _ _).trans ((below_alloc' _ _).mono (by simp)),?_⟩
 have e:w.heap.size+1=(w.alloc (.cells #[.int .i64 c.maxEntries,.int .i64 c.maxBytes,.int .i64 c.maxDepth,.int .i64 c.maxName,.int .i64 c.maxPax,.int .i64 c.strip,.int .i64 c.links,.int .i64 c.replace,.int .i64 c.umask,.bool c.keepSetid,.bool c.keepIds,.slice A1 n1 c1,.slice A2 n2 c2] 42)).heap.size:=by simp
 rw [e]
 exact Blk.new _ _ _
theorem quotaCheck (c:ConfigD) {A1 A2:Option Addr} {n1 c1 n2 c2:Nat} (w:World) (h1:Row Shape.str w (Old w) A1 n1 c.include_) (h2:Row Shape.str w (Old w) A2 n2 c.exclude) (hn1:n1≤100000000) (hn2:n2≤100000000) :
  Calls Tryz.prog 72 #[.agg (cfgC c A1 n1 c1 A2 n2 c2)] w fun e w'=>e=.returned (.int .i64 (cfgE c))∧Below w.heap.size w w':=by
 have H1:=Lib.hid h1; have H2:=Lib.hid h2
 obtain ⟨R,hR⟩:∃ x,x=cfgE c:=⟨_,rfl⟩
 rw [← hR]
 have HR:=Lib.hid hR
 clear h1 h2 hR
 unfold cfgC
 go_enter Tryz.func72,Tryz.ntmps72
 go_wp2_with fail
 obtain ⟨u,hu⟩:∃ x,x=((w.alloc (.cells #[.int .i64 c.maxEntries,.int .i64 c.maxBytes,.int .i64 c.maxDepth,.int .i64 c.maxName,.int .i64 c.maxPax,.int .i64 c.strip,.int .i64 c.links,.int .i64 c.replace,.int .i64 c.umask,.bool c.keepSetid,.bool c.keepIds,.slice A1 n1 c1,.slice A2 n2 c2] 42)).alloc (.cells #[.int .i64 c.maxEntries,.int .i64 0,.int .i64 65536,.int .i64 c.maxBytes,.int .i64 0,.int .i64 1099511627776,.int .i64 c.maxDepth,.int .i64 1,.int .i64 64,.int .i64 c.maxName,.int .i64 1,.int .i64 4096,.int .i64 c.maxPax,.int .i64 0,.int .i64 1048576,.int .i64 c.strip,.int .i64 0,.int .i64 64,.int .i64 c.links,.int .i64 0,.int .i64 2,.int .i64 c.replace,.int .i64 0,.int .i64 2,.int .i64 c.umask,.int .i64 0,.int .i64 511] 196)):=⟨_,rfl⟩
 rw [← hu]
 have hbw:Below w.heap.size w u:=by rw [hu]; exact (below_alloc' _ _).trans ((below_alloc' _ _).mono (by simp))
 have hcf:Blk u w.heap.size 42 (cfgC c A1 n1 c1 A2 n2 c2):=by rw [hu]; exact (Blk.new w _ _).alloc _
 have hbn:Row Shape.BndD u (Old u) (some ⟨w.heap.size+1,0,none⟩) 9 (cfgBs c):=bnds_row c (by
  rw [hu]
  have e:w.heap.size+1=(w.alloc (.cells #[.int .i64 c.maxEntries,.int .i64 c.maxBytes,.int .i64 c.maxDepth,.int .i64 c.maxName,.int .i64 c.maxPax,.int .i64 c.strip,.int .i64 c.links,.int .i64 c.replace,.int .i64 c.umask,.bool c.keepSetid,.bool c.keepIds,.slice A1 n1 c1,.slice A2 n2 c2] 42)).heap.size:=by simp
  rw [e]
  exact Blk.new _ _ _)
 have HBW:=Lib.hid hbw; have HCF:=Lib.hid hcf
 have hqw:=Lib.hid (quotaWithin (c:=9) u hbn (by omega))
 clear hu hbw hcf hbn
 refine hqw.out.mono ?_
 rintro e w1 ⟨rfl,hb1⟩
 have HB1:=Lib.hid (HBW.out.trans (hb1.mono HBW.out.size))
 have HC1:=Lib.hid (HCF.out.below hb1 HCF.out.lt)
 obtain ⟨B,hB⟩:∃ x,x=(cfgBs c).all inB:=⟨_,rfl⟩
 rw [← hB]
 have HBB:=Lib.hid hB
 have k11:=HC1.out.cell 11; have k12:=HC1.out.cell 12; have lc:=HC1.out.lt
 unfold cfgC at k11 k12
 simp only [List.getElem?_toArray,List.getElem?_cons_succ,List.getElem?_cons_zero] at k11 k12
 clear hqw hb1 hB
 cases B with
 | false =>
  have HE:Hid (R=202):=Lib.hid (by rw [HR.out]; unfold cfgE; rw [← HBB.out]; rfl)
  go_wp2_with fail
  go_ret
  exact ⟨by rw [HE.out]; rfl,HB1.out⟩
 | true =>
  have HE:Hid (R=chosenE (bytesL c.include_) (bytesL c.exclude)):=Lib.hid (by rw [HR.out]; unfold cfgE; rw [← HBB.out]; rfl)
  have hix0:∀ W,(Instr.index 197 (.agg #[.slice A1 n1 c1,.slice A2 n2 c2]) (.int .i64 0)).run Tryz.prog W=.ok (.slice A1 n1 c1) W:=fun W=>by kernel_rfl
  have hix1:∀ W,(Instr.index 197 (.agg #[.slice A1 n1 c1,.slice A2 n2 c2]) (.int .i64 1)).run Tryz.prog W=.ok (.slice A2 n2 c2) W:=fun W=>by kernel_rfl
  have HE0:Hid (R=remE c 0):=HE
  go_wp2_with fail
  clear k11 k12 lc
  go_loopw [43] (fun v43 wr=>∃ i:Nat,i≤2∧v43=.int .i64 i∧R=remE c i∧Below w.heap.size w wr) (fun v43 _=>2 - (intOf v43).toNat)
  case atStart=>exact ⟨0,by omega,rfl,HE0.out,HB1.out⟩
  case round =>
   obtain ⟨i,hi,rfl,hRi,hbi⟩:=hrel
   have HRi:=Lib.hid hRi; have HBi:=Lib.hid hbi
   clear hRi hbi HE0
   by_cases h2:i=2
   ·subst h2
    have HR0:Hid (R=0):=HRi
    go_wp2_with fail
    go_ret
    exact ⟨by rw [HR0.out]; rfl,HBi.out⟩
   ·have hi2:i<2:=by omega
    have STEP:=Lib.hid (rem_step c hi2)
    have hrow:∃ (A:Option Addr) (n cc:Nat),Row Shape.str w (Old w) A n (listE c i)∧n≤100000000∧∀ W,(Instr.index 197 (.agg #[.slice A1 n1 c1,.slice A2 n2 c2]) (.int .i64 i)).run Tryz.prog W=.ok (.slice A n cc) W:=by
     have:i=0∨i=1:=by omega
     rcases this with rfl | rfl
     ·exact ⟨A1,n1,c1,H1.out,hn1,hix0⟩
     ·exact ⟨A2,n2,c2,H2.out,hn2,hix1⟩
    obtain ⟨A,n,cc,hrow,hnn,hix⟩:=hrow
    have HROW:=Lib.hid hrow
    have hils:(i:Int)<2:=by omega
    have hn9:n<9223372036854775807:=by omega
    clear hrow h2 hix0 hix1
    go_wp2_with fail
    obtain ⟨L,hL⟩:∃ x,x=listE c i:=⟨_,rfl⟩
    rw [← hL] at HROW STEP
    have HLL:=Lib.hid hL
    clear hL
    go_loopw [48] (fun v48 wr2=>∃ k:Nat,k≤n∧v48=.int .i64 k∧(R=if firstE ((bytesL L).drop k)=0 then remE c (i+1) else firstE ((bytesL L).drop k))∧Below w.heap.size w wr2) (fun v48 _=>n - (intOf v48).toNat)
    case atStart=>exact ⟨0,Nat.zero_le _,rfl,by rw [HRi.out,STEP.out]; rfl,HBi.out⟩
    case round =>
     obtain ⟨k,hk,rfl,hRk,hbk⟩:=hrel
     have HRk:=Lib.hid hRk; have HBk:=Lib.hid hbk
     clear hRk hbk
     have hlen:(bytesL L).length=n:=by rw [List.length_map]; exact HROW.out.1
     by_cases hlt:k<n
     ·have hks:(k:Int)<n:=by omega
      obtain ⟨b,off,hl,hA,hb,hc,hsz⟩:=str_cell (HROW.out.below HBk.out) hlt
      subst hA
      obtain ⟨p,hp⟩:∃ x,x=L[k]:=⟨_,rfl⟩
      rw [← hp] at hc hsz
      have FD:Hid (firstE ((bytesL L).drop k)=if checkE p.data.toList=0 then firstE ((bytesL L).drop (k+1)) else checkE p.data.toList):=Lib.hid (by
       rw [first_drop (by rw [hlen]; exact hlt)]
       have:(bytesL L)[k]'(by rw [hlen]; exact hlt)=p.data.toList:=by rw [hp]; simp
       rw [this])
      have hb2:b<wr.heap.size:=by have:=hb; exact this
      have hps:p.size≤9223372036854775807:=hsz
      have HCK:=Lib.hid (svCheck p wr hps)
      clear hp hsz hb
      go_wp2_with fail
      refine HCK.out.mono ?_
      rintro e w3 ⟨rfl,hb3⟩
      have HB3:=Lib.hid (HBk.out.trans (hb3.mono HBk.out.size))
      obtain ⟨ce,hce⟩:∃ x,x=checkE p.data.toList:=⟨_,rfl⟩
      rw [← hce] at FD ⊢
      clear hce hb3 hc
      by_cases hz:ce=0
      ·subst hz
       have HN:Hid (R=if firstE ((bytesL L).drop (k+1))=0 then remE c (i+1) else firstE ((bytesL L).drop (k+1))):=Lib.hid (by rw [HRk.out,FD.out]; rfl)
       go_wp2_with fail
       go_roundw
       case rel=>exact ⟨k+1,by omega,by go_num,HN.out,HB3.out⟩
       case measure=>simp [intOf]; omega
      ·have hzb:(ce != 0)=true:=by simpa using hz
       have HN:Hid (R=ce):=Lib.hid (by rw [HRk.out,FD.out,if_neg hz,if_neg hz])
       clear hz
       go_wp2_with fail
       go_ret
       exact ⟨by rw [HN.out]; rfl,HB3.out⟩
     ·have hkn:k=n:=by omega
      have hks:¬ (k:Int)<n:=by omega
      have HN:Hid (R=remE c (i+1)):=Lib.hid (by
       rw [HRk.out,List.drop_eq_nil_of_le (by rw [hlen]; omega)]; rfl)
      clear hkn
      go_wp2_with fail
      go_roundw
      case rel=>exact ⟨i+1,by omega,by go_num,HN.out,HBk.out⟩
      case measure=>simp [intOf]; omega
end Go.Proofs.YtfhfcipelgogjaaGreatDoor
namespace Go.Proofs.YtfhfcipelgogjaaGreatDoor
open Go.RowKit
attribute [local go_sem] cell?_over frozen?_over lt_over le_over
def fitB (e:EntryD):Bool:=decide (0≤e.uid) && decide (e.uid≤2147483647) && decide (0≤e.gid) && decide (e.gid≤2147483647) && stampOk e.mtime.sec e.mtime.nano
theorem foldFits (e:EntryD) (A:Option Addr) (n c:Nat) (w:World):Calls Tryz.prog 106 #[.agg (entC e A n c)] w fun en w'=>en=.returned (.bool (fitB e))∧Below w.heap.size w w':=by
 obtain ⟨R,hR⟩:∃ R,R=fitB e:=⟨_,rfl⟩
 rw [← hR]
 have HR:=Lib.hid hR
 clear hR
 have SV:=Lib.hid (fun w=>stampValid e.mtime.sec e.mtime.nano w)
 unfold entC
 go_enter Tryz.func106,Tryz.ntmps106
 by_cases h1:0≤e.uid
 ·by_cases h2:e.uid≤2147483647
  ·by_cases h3:0≤e.gid
   ·by_cases h4:e.gid≤2147483647
    ·have HE:Hid (R=stampOk e.mtime.sec e.mtime.nano):=Lib.hid (by rw [HR.out]; unfold fitB; rw [decide_eq_true h1,decide_eq_true h2,decide_eq_true h3,decide_eq_true h4]; rfl)
     go_wp2_with fail
     refine (SV.out _).mono ?_
     rintro e1 w1 ⟨rfl,hb⟩
     have HB:=Lib.hid ((below_alloc' w _).trans (hb.mono (by simp)))
     clear hb
     go_wp2_with fail
     go_ret
     exact ⟨by rw [HE.out]; rfl,HB.out⟩
    ·have HE:Hid (R=false):=Lib.hid (by rw [HR.out]; unfold fitB; rw [decide_eq_false h4]; simp)
     go_wp2_with fail
     go_ret
     exact ⟨by rw [HE.out]; rfl,below_alloc' _ _⟩
   ·have HE:Hid (R=false):=Lib.hid (by rw [HR.out]; unfold fitB; rw [decide_eq_false h3]; simp)
    go_wp2_with fail
    go_ret
    exact ⟨by rw [HE.out]; rfl,below_alloc' _ _⟩
  ·have HE:Hid (R=false):=Lib.hid (by rw [HR.out]; unfold fitB; rw [decide_eq_false h2]; simp)
   go_wp2_with fail
   go_ret
   exact ⟨by rw [HE.out]; rfl,below_alloc' _ _⟩
 ·have HE:Hid (R=false):=Lib.hid (by rw [HR.out]; unfold fitB; rw [decide_eq_false h1]; simp)
  go_wp2_with fail
  go_ret
  exact ⟨by rw [HE.out]; rfl,below_alloc' _ _⟩
theorem fitsNot (e:EntryD) (A:Option Addr) (n c:Nat) (w:World):Calls Tryz.prog 105 #[.agg (entC e A n c)] w fun en w'=>en=.returned (.bool (!fitB e))∧Below w.heap.size w w':=by
 have HF:=Lib.hid (fun w=>foldFits e A n c w)
 obtain ⟨R,hR⟩:∃ R,R=fitB e:=⟨_,rfl⟩
 rw [← hR] at HF ⊢
 clear hR
 unfold entC at HF ⊢
 go_enter Tryz.func105,Tryz.ntmps105
 go_wp2_with fail
 refine (HF.out _).mono ?_
 rintro e1 w1 ⟨rfl,hb⟩
 have HB:=Lib.hid ((below_alloc' w _).trans (hb.mono (by simp)))
 clear hb
 go_wp2_with fail
 go_ret
 exact ⟨rfl,HB.out⟩
theorem entC_of {w:World} {M:Nat→Prop} {cs:List Value} {e:EntryD} (h:EntryD.rd w M cs e):∃ (A:Option Addr) (n c:Nat),cs=(entC e A n c).toList∧n≤c∧c≤maxLen∧Row Shape.byte w M A n e.data:=by
 obtain ⟨A,n,c,rfl,_,_,_,_,_,_,_,_,_,_,h1,h2,h3⟩:=h
 exact ⟨A,n,c,rfl,h1,h2,h3⟩
theorem indexFit {A : Option Addr} {n c : Nat} {l : List EntryD} (w : World) (h : Row Shape.EntryD w (Old w) A n l) (hn : n ≤ 1000000000) :
    Calls Tryz.prog 158 #[.slice A n c, .func (.func 105) #[] #[]] w fun en w' => ∃ k : Int, en = .returned (.int .i64 k) ∧ (0 ≤ k ↔ l.all fitB = false) ∧ Below w.heap.size w w' := by
  have H := Lib.hid h
  have HL := Lib.hid h.1
  obtain ⟨R, hR⟩ : ∃ R, R = l.all fitB := ⟨_, rfl⟩
  rw [← hR]
  have HR := Lib.hid hR
  clear h hR
  go_enter Tryz.func158, Tryz.ntmps158
  go_wp2_with fail
  go_loopw [8] (fun v8 wr => ∃ k : Nat, k ≤ n ∧ v8 = .int .i64 k ∧ R = (l.drop k).all fitB ∧ Below w.heap.size w wr) (fun v8 _ => n - (intOf v8).toNat)
  case atStart => exact ⟨0, Nat.zero_le _, rfl, by rw [HR.out]; rfl, Below.refl _ _⟩
  case round =>
    obtain ⟨k, hk, rfl, hRk, hbk⟩ := hrel
    have HRk := Lib.hid hRk; have HBk := Lib.hid hbk
    clear hRk hbk
    by_cases hlt : k < n
    · obtain ⟨b, off, es, hkl, rfl, hb, hc, hr⟩ := (H.out.below HBk.out).at_ hlt
      obtain ⟨A2, n2, c2, he, _, _, _⟩ := entC_of hr
      obtain ⟨x, hx⟩ : ∃ x, x = l[k] := ⟨_, rfl⟩
      rw [← hx] at he
      subst he
      have e11 : Shape.EntryD.size = 11 := rfl
      have k0 := hc 0 (by decide); have k1 := hc 1 (by decide); have k2 := hc 2 (by decide); have k3 := hc 3 (by decide); have k4 := hc 4 (by decide); have k5 := hc 5 (by decide); have k6 := hc 6 (by decide); have k7 := hc 7 (by decide); have k8 := hc 8 (by decide); have k9 := hc 9 (by decide); have k10 := hc 10 (by decide)
      simp only [e11, entC, Nat.add_zero, List.getElem?_cons_zero, List.getElem?_cons_succ] at k0 k1 k2 k3 k4 k5 k6 k7 k8 k9 k10
      have lb : b < wr.heap.size := hb
      have hks : (k : Int) < n := by omega
      have STEP : Hid (R = (fitB x && (l.drop (k + 1)).all fitB)) := Lib.hid (by rw [HRk.out, List.drop_eq_getElem_cons hkl, List.all_cons, ← hx])
      have HN := Lib.hid (fitsNot x A2 n2 c2 wr)
      unfold entC at HN
      clear hc hx e11 hb hr
      go_wp2_with fail
      refine HN.out.mono ?_
      rintro e1 w1 ⟨rfl, hb1⟩
      have HB1 := Lib.hid (HBk.out.trans (hb1.mono HBk.out.size))
      clear hb1
      obtain ⟨fb, hfb⟩ : ∃ y, y = fitB x := ⟨_, rfl⟩
      rw [← hfb] at STEP ⊢
      clear hfb
      cases fb with
      | false =>
        have HE : Hid (R = false) := Lib.hid (by rw [STEP.out]; rfl)
        go_wp2_with fail
        go_ret
        exact ⟨k, rfl, by rw [HE.out]; simp, HB1.out⟩
      | true =>
        have HE : Hid (R = (l.drop (k + 1)).all fitB) := Lib.hid (by rw [STEP.out]; rfl)
        go_wp2_with fail
        go_roundw
        case rel => exact ⟨k + 1, by omega, by go_num, HE.out, HB1.out⟩
        case measure => simp [intOf]; omega
    · have hks : ¬ (k : Int) < n := by omega
      have HE : Hid (R = true) := Lib.hid (by rw [HRk.out, List.drop_eq_nil_of_le (by rw [HL.out]; omega)]; rfl)
      go_wp2_with fail
      go_ret
      exact ⟨-1, rfl, by rw [HE.out]; simp, HBk.out⟩
theorem foldAllFit {A : Option Addr} {n c : Nat} {l : List EntryD} (w : World) (h : Row Shape.EntryD w (Old w) A n l) (hn : n ≤ 1000000000) :
    Calls Tryz.prog 74 #[.slice A n c] w fun en w' => en = .returned (.bool (l.all fitB)) ∧ Below w.heap.size w w' := by
  have HI := Lib.hid (indexFit (c := c) w h hn)
  have HC : Hid (Calls Tryz.prog 104 #[.slice A n c, .func (.func 105) #[] #[]] w fun en w' => en = .returned (.bool (!l.all fitB)) ∧ Below w.heap.size w w') := Lib.hid (by
    go_enter Tryz.func104, Tryz.ntmps104
    go_wp2_with fail
    refine HI.out.mono ?_
    rintro e1 w1 ⟨k, rfl, hk, hb1⟩
    have HK := Lib.hid hk; have HB := Lib.hid hb1
    clear hk hb1
    go_wp2_with fail
    go_ret
    refine ⟨?_, HB.out⟩
    cases hl : l.all fitB with
    | false => have := HK.out.2 hl; simp [this]
    | true => have : ¬ 0 ≤ k := fun h => by have := HK.out.1 h; rw [hl] at this; cases this
              simp; omega)
  clear HI h
  obtain ⟨R, hR⟩ : ∃ R, R = l.all fitB := ⟨_, rfl⟩
  rw [← hR] at HC ⊢
  clear hR
  go_enter Tryz.func74, Tryz.ntmps74
  go_wp2_with fail
  refine HC.out.mono ?_
  rintro e1 w1 ⟨rfl, hb1⟩
  have HB := Lib.hid hb1
  clear hb1
  go_wp2_with fail
  go_ret
  exact ⟨by simp, HB.out⟩
end Go.Proofs.YtfhfcipelgogjaaGreatDoor
