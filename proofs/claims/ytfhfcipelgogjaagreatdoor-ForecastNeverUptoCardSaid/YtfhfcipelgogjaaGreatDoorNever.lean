/- valiselaw25.ForecastNever, walked. No condition but room. -/
import Derived.Test.YtfhfcipelgogjaaGreatDoorCopyAll
import Derived.Test.YtfhfcipelgogjaaGreatDoorSameAll
import Derived.Test.YtfhfcipelgogjaaGreatDoorStpAll
import Derived.StillTactics
set_option linter.unusedSectionVars false
set_option linter.unusedVariables false
set_option linter.unusedSimpArgs false
set_option maxHeartbeats 8000000
set_option maxRecDepth 100000
namespace Go.Proofs.YtfhfcipelgogjaaGreatDoor
open Go.RowKit
attribute [local go_sem] cell?_over frozen?_over lt_over le_over
def DataSt (L:List LineD) (b a:LineD) (k:Nat) (D:List UInt8) (T:ByteArray):Prop:=a.kind≠2→((∀ (m:Nat) (u:LineD),m<k→L[m]?=some u→u.path≠b.peer)→D=b.data∧T=b.target)∧((∃ (m:Nat) (u:LineD),m<k∧L[m]?=some u∧u.path=b.peer)→D=a.data∧T=a.target)
theorem DataSt.start (L:List LineD) (b a:LineD):DataSt L b a 0 b.data b.target:=fun _=>⟨fun _=>⟨rfl,rfl⟩,fun ⟨m,u,h,_⟩=>absurd h (Nat.not_lt_zero _)⟩
theorem DataSt.miss {L:List LineD} {b a x:LineD} {k:Nat} {D:List UInt8} {T:ByteArray} (h:DataSt L b a k D T) (hx:L[k]?=some x) (hne:x.path≠b.peer):DataSt L b a (k+1) D T:=fun h2=>by
 obtain ⟨p,q⟩:=h h2
 refine ⟨fun hno=>p fun m u hm hu=>hno m u (by omega) hu,fun ⟨m,u,hm,hu,he⟩=>q ⟨m,u,?_,hu,he⟩⟩
 rcases Nat.lt_or_ge m k with h3 | h3
 ·exact h3
 ·have:m=k:=by omega
  subst this
  rw [hx] at hu
  injection hu with hu
  subst hu
  exact absurd he hne
theorem DataSt.hit {L:List LineD} {b a x:LineD} {j k:Nat} (hA:a.kind≠2→DataAt L j b a.data a.target) (hx:L[k]?=some x) (he:x.path=b.peer) (hk:k<j):DataSt L b a (k+1) x.data x.target:=fun h2=>by
 have:=(hA h2).1 k x hk hx he
 exact ⟨fun hno=>absurd he (hno k x (by omega) hx),fun _=>this⟩
theorem DataSt.done {L:List LineD} {b a:LineD} {j:Nat} {D:List UInt8} {T:ByteArray} (h:DataSt L b a j D T) (hA:a.kind≠2→DataAt L j b a.data a.target) (h2:a.kind≠2):D=a.data∧T=a.target:=by
 obtain ⟨p,q⟩:=h h2
 by_cases hx:∃ (m:Nat) (u:LineD),m<j∧L[m]?=some u∧u.path=b.peer
 ·exact q hx
 ·have hno:∀ (m:Nat) (u:LineD),m<j→L[m]?=some u→u.path≠b.peer:=fun m u hm hu he=>hx ⟨m,u,hm,hu,he⟩
  obtain ⟨e1,e2⟩:=p hno
  rw [e1,e2]
  exact (hA h2).2 hno
def FoundSt (L:List LineD) (a:LineD) (j:Nat) (f:Bool):Prop:=f=true↔∃ (m:Nat) (u:LineD),m<j∧L[m]?=some u∧u.path=a.path
theorem FoundSt.start (L:List LineD) (a:LineD):FoundSt L a 0 false:=⟨fun h=>(by cases h),fun ⟨m,u,h,_⟩=>absurd h (Nat.not_lt_zero _)⟩
theorem FoundSt.miss {L:List LineD} {a x:LineD} {j:Nat} {f:Bool} (h:FoundSt L a j f) (hx:L[j]?=some x) (hne:x.path≠a.path):FoundSt L a (j+1) f:=by
 refine h.trans ⟨fun ⟨m,u,hm,hu,he⟩=>⟨m,u,by omega,hu,he⟩,fun ⟨m,u,hm,hu,he⟩=>⟨m,u,?_,hu,he⟩⟩
 rcases Nat.lt_or_ge m j with h3 | h3
 ·exact h3
 ·have:m=j:=by omega
  subst this
  rw [hx] at hu
  injection hu with hu
  subst hu
  exact absurd he hne
theorem FoundSt.hit {L:List LineD} {a x:LineD} {j:Nat} (hx:L[j]?=some x) (he:x.path=a.path):FoundSt L a (j+1) true:=⟨fun _=>⟨j,x,by omega,hx,he⟩,fun _=>rfl⟩
theorem FoundSt.done {L:List LineD} {a:LineD} {f:Bool} (h:FoundSt L a L.length f) (hF:FoundIn L a):f=true:=by
 obtain ⟨⟨n,b,hn,he⟩,-⟩:=hF
 exact h.2 ⟨n,b,(List.getElem?_eq_some_iff.1 hn).1,hn,he⟩
theorem text_eq {a b:ByteArray} (h:a=b):(a.toList == b.toList)=true:=by rw [h]; simp
theorem text_ne {a b:ByteArray} (h:a≠b):(a.toList == b.toList)=false:=by
 rw [beq_eq_false_iff_ne,Lib.toList_data,Lib.toList_data]
 exact fun e=>h (ba_ext e)
def lineC (x:LineD) (A:Option Addr) (n c:Nat):List Value:=[.string x.path,.int .i64 x.kind,.int .i64 x.mode,.int .i64 x.uid,.int .i64 x.gid,.int .i64 x.mtime.sec,.int .i64 x.mtime.nano,.slice A n c,.string x.target,.string x.peer]
theorem line_cells {w w':World} {b off n j:Nat} {L:List LineD} (h:Row Shape.LineD w (Old w) (some ⟨b,off,none⟩) n L) (hb:Below w.heap.size w w') (hj:j<n) :
  ∃ (x:LineD) (A:Option Addr) (n' c:Nat),L[j]?=some x∧(∀ i,i<10→w'.cell? ⟨b,off+j*10+i,none⟩=(lineC x A n' c)[i]?)∧w'.cell? ⟨b,off+j*10,none⟩=some (.string x.path)∧Row Shape.byte w (Old w) A n' x.data∧b<w'.heap.size:=by
 obtain ⟨b',off',es,hl,e,hbb,hc,hr⟩:=h.at_ hj
 injection e with e
 injection e with e1 e2
 subst e1 e2
 obtain ⟨A,n',c,rfl,_,_,_,_,_,_,_,_,_,hr2,_⟩:=hr
 have hc':∀ i,i<10→w'.cell? ⟨b,off+j*10+i,none⟩=(lineC L[j] A n' c)[i]?:=fun i hi=>(hb.cell (p:=⟨b,off+j*10+i,none⟩) hbb).trans (hc i hi)
 exact ⟨L[j],A,n',c,List.getElem?_eq_getElem hl,hc',by have:=hc' 0 (by decide); simp only [Nat.add_zero] at this; exact this,hr2,Nat.lt_of_lt_of_le hbb hb.size⟩
theorem Blk.apart {w:World} {g g' o:Nat} {t:TypeId} {cs:Array Value} {v:Value} (h:Blk w g t cs) (hne:g≠g'):Blk (w.setCell ⟨g',o,none⟩ v) g t cs:=
 ((Cng.of_cell (M:=fun k=>k=g') (p:=⟨g',o,none⟩) (v:=v) rfl).block g h.lt hne).trans h
theorem neverLaw {A Ae A1 A2:Option Addr} {n cn ne ce n1 c1 n2 c2:Nat} {ls:List LineD} {es:List EntryD} {c:ConfigD} {now:TimeD} (m:Int) (w:World) (hL:Row Shape.LineD w (Old w) A n ls) (hE:Row Shape.EntryD w (Old w) Ae ne es) (h1:Row Shape.str w (Old w) A1 n1 c.include_) (h2:Row Shape.str w (Old w) A2 n2 c.exclude) (hb:GvIn ls es n ne n1 n2)
  (hm:w.cell? ⟨0,0,none⟩=some (.int .i64 m)) :
  Calls Tryz.prog 7 #[.agg (gvC A n cn Ae ne ce c A1 n1 c1 A2 n2 c2 now)] w fun e w'=>e=.returned (.bool true)∧Below w.heap.size w w':=by
 have WL:Hid (0<w.heap.size):=Lib.hid (World.block_lt_of_cell? _ _ hm)
 have HM:Hid (∀ W,Below w.heap.size w W→W.cell? ⟨0,0,none⟩=some (.int .i64 m)):=Lib.hid fun W hb=>(hb.cell (p:=⟨0,0,none⟩) WL.out).trans hm
 have HB:=Lib.hid hb; have HL:=Lib.hid hL; have HE:=Lib.hid hE; have H1:=Lib.hid h1; have H2:=Lib.hid h2
 obtain ⟨w0,hw0⟩:∃ x,x=w.alloc (.cells (gvC A n cn Ae ne ce c A1 n1 c1 A2 n2 c2 now) 46):=⟨_,rfl⟩
 have HB0:Hid (Below w.heap.size w w0):=Lib.hid (by rw [hw0]; exact below_alloc' _ _)
 obtain ⟨xb,hxb⟩:∃ x,x=w.heap.size:=⟨_,rfl⟩
 have HX0:Hid (Blk w0 xb 46 (gvC A n cn Ae ne ce c A1 n1 c1 A2 n2 c2 now)):=Lib.hid (by rw [hw0,hxb]; exact Blk.new _ _ _)
 have AL:=Lib.hid (law25Alive m w0 (Nat.lt_of_lt_of_le WL.out HB0.out.size) (HM.out _ HB0.out))
 have HXB:=Lib.hid hxb
 clear hL hE h1 h2 hb hm
 unfold gvC at hw0 ⊢
 go_enter Tryz.func7,Tryz.ntmps7
 go_upto_region 1 with (fail)
 rw [← hw0,← hxb]
 clear hw0 hxb
 go_wp2_with fail
 refine AL.out.mono ?_
 rintro e w1 ⟨rfl,hb1⟩
 have HB1:=Lib.hid (below_old HB0.out hb1)
 have HX1:=Lib.hid (HX0.out.below hb1 HX0.out.lt)
 have CC:=Lib.hid (copyConfig (d:=c) (c1:=c1) (c2:=c2) w1 (H1.out.below HB1.out) (H2.out.below HB1.out) (by have:=HB.out.hn1; omega) (by have:=HB.out.hn2; omega))
 unfold cfgC at CC
 have x2:=HX1.out.cell 2; have x3:=HX1.out.cell 3; have x4:=HX1.out.cell 4; have x5:=HX1.out.cell 5; have x6:=HX1.out.cell 6; have x7:=HX1.out.cell 7; have x8:=HX1.out.cell 8; have x9:=HX1.out.cell 9; have x10:=HX1.out.cell 10; have x11:=HX1.out.cell 11; have x12:=HX1.out.cell 12; have x13:=HX1.out.cell 13; have x14:=HX1.out.cell 14
 have lx:=HX1.out.lt
 unfold gvC at x2 x3 x4 x5 x6 x7 x8 x9 x10 x11 x12 x13 x14
 simp only [List.getElem?_toArray,List.getElem?_cons_succ,List.getElem?_cons_zero] at x2 x3 x4 x5 x6 x7 x8 x9 x10 x11 x12 x13 x14
 clear hb1 AL HB0 HX0
 go_wp2_with fail
 refine CC.out.mono ?_
 rintro e w2 ⟨B1,m1,d1,B2,m2,d2,hd1,hd2,rfl,hr1,hr2,hb2⟩
 have HR1:=Lib.hid hr1; have HR2:=Lib.hid hr2
 have HB2:=Lib.hid (below_old HB1.out hb2)
 have HX2:=Lib.hid (HX1.out.below hb2 HX1.out.lt)
 clear hb2 hr1 hr2 CC HX1 HB1 x2 x3 x4 x5 x6 x7 x8 x9 x10 x11 x12 x13 x14 lx
 unfold cfgC
 go_upto_region 5 with (fail)
 obtain ⟨cb,hcb⟩:∃ x,x=w2.heap.size:=⟨_,rfl⟩
 obtain ⟨c',hc'⟩:∃ x,x={ c with replace:=1 }:=⟨_,rfl⟩
 obtain ⟨w3,hw3⟩:∃ x,x=w2.alloc (.cells (cfgC c' B1 m1 d1 B2 m2 d2) 42):=⟨_,rfl⟩
 have HNX:Hid (c'.replace=1):=Lib.hid (by rw [hc'])
 have HNI:Hid (c'.include_=c.include_∧c'.exclude=c.exclude):=Lib.hid (by rw [hc']; exact ⟨rfl,rfl⟩)
 have hw3':=hw3
 rw [hc'] at hw3'
 unfold cfgC at hw3'
 simp only at hw3'
 rw [← hcb,← hw3']
 have hb3:Below w2.heap.size w2 w3:=by rw [hw3]; exact below_alloc' _ _
 have HC3:Hid (Blk w3 cb 42 (cfgC c' B1 m1 d1 B2 m2 d2)):=Lib.hid (by rw [hw3,hcb]; exact Blk.new _ _ _)
 have HB3:=Lib.hid (below_old HB2.out hb3)
 have HX3:=Lib.hid (HX2.out.below hb3 HX2.out.lt)
 have HI3:Hid (Row Shape.str w3 (Old w3) B1 m1 c'.include_):=Lib.hid (by
  rw [HNI.out.1]
  exact (HR1.out.keep fun k hk=>hb3.block k hk.2).more fun k hk=>Nat.lt_of_lt_of_le hk.2 hb3.size)
 have HE3:Hid (Row Shape.str w3 (Old w3) B2 m2 c'.exclude):=Lib.hid (by
  rw [HNI.out.2]
  exact (HR2.out.keep fun k hk=>hb3.block k hk.2).more fun k hk=>Nat.lt_of_lt_of_le hk.2 hb3.size)
 have hm1:m1≤100000000:=by have q1:=HR1.out.1; have q2:=H1.out.1; have q3:=HB.out.hn1; omega
 have hm2:m2≤100000000:=by have q1:=HR2.out.1; have q2:=H2.out.1; have q3:=HB.out.hn2; omega
 have HCB:=Lib.hid hcb
 clear hb3 hw3 hw3' hc' hcb HR1 HR2 HB2 HX2 hd1 hd2
 have x0:=HX3.out.cell 0; have x1:=HX3.out.cell 1; have x15:=HX3.out.cell 15; have x16:=HX3.out.cell 16
 have lx:=HX3.out.lt
 have k0:=HC3.out.cell 0; have k1:=HC3.out.cell 1; have k2:=HC3.out.cell 2; have k3:=HC3.out.cell 3; have k4:=HC3.out.cell 4; have k5:=HC3.out.cell 5; have k6:=HC3.out.cell 6; have k7:=HC3.out.cell 7; have k8:=HC3.out.cell 8; have k9:=HC3.out.cell 9; have k10:=HC3.out.cell 10; have k11:=HC3.out.cell 11; have k12:=HC3.out.cell 12
 have lc:=HC3.out.lt
 unfold gvC at x0 x1 x15 x16
 unfold cfgC at k0 k1 k2 k3 k4 k5 k6 k7 k8 k9 k10 k11 k12
 simp only [List.getElem?_toArray,List.getElem?_cons_succ,List.getElem?_cons_zero] at x0 x1 x15 x16 k0 k1 k2 k3 k4 k5 k6 k7 k8 k9 k10 k11 k12
 obtain ⟨R,hR⟩:∃ x,x=tellF ls es 0 c' now:=⟨_,rfl⟩
 have HN:Hid (NeverOk R ls):=Lib.hid (by rw [hR]; exact tell_never HNX.out ls es now)
 have HR:=Lib.hid hR
 clear hR
 refine wp_region_grow_t [(2,Made.row Shape.LineD ls w3.heap.size),(5,Made.row Shape.EntryD es w3.heap.size),(9,madeFc R w3.heap.size),(10,Made.blk 50 #[.slice none 0 0,.slice none 0 0,.int .i64 0,.int .i64 0] w3.heap.size)] 11 _ rfl (by kernel_rfl) [2,5,9,10] rfl (by kernel_rfl) (stays_cons (row_stays _ _ _) (stays_cons (row_stays _ _ _) (stays_cons (fc_stays _ _) (stays_cons (blk_stays _ _ _) stays_nil)))) ?_
 simp only [List.take_succ_cons,List.take_zero,List.drop_succ_cons,List.drop_zero]
 repeat (first
  | (refine g_w rfl ?_ (fun W=>?_) ?_; rotate_left; (focus (go_simp; (try with_reducible rfl); done)); simp only [Act.put,List.setIfInBounds_toArray,List.set_cons_zero,List.set_cons_succ])
  | (refine g_d rfl (by kernel_rfl) ?_ (fun δ=>?_) ?_; rotate_left; (focus (go_simp; (try with_reducible rfl); done)); simp only [Act.put,List.setIfInBounds_toArray,List.set_cons_zero,List.set_cons_succ]))
 refine g_call rfl 13 #[.slice A n cn] (fun W=>?_) (fun δ hF=>?_) (fun x15'=>?_)
 ·go_simp; try (constructor <;> with_reducible rfl)
 ·exact (copyLines (c:=cn) (over w3 δ) (HL.out.below (below_old HB3.out (below_over _ _))) HB.out.lines (by have:=HB.out.hn; omega)).mono fun e w' h=>lines_of h (size_over_le _ _)
 obtain ⟨A5,c5⟩:=x15'
 simp only [Act.put,List.setIfInBounds_toArray,List.set_cons_zero,List.set_cons_succ,enc_row]
 repeat (first
  | (refine g_w rfl ?_ (fun W=>?_) ?_; rotate_left; (focus (go_simp; (try with_reducible rfl); done)); simp only [Act.put,List.setIfInBounds_toArray,List.set_cons_zero,List.set_cons_succ])
  | (refine g_d rfl (by kernel_rfl) ?_ (fun δ=>?_) ?_; rotate_left; (focus (go_simp; (try with_reducible rfl); done)); simp only [Act.put,List.setIfInBounds_toArray,List.set_cons_zero,List.set_cons_succ]))
 refine g_call rfl 18 #[.slice Ae ne ce] (fun W=>?_) (fun δ hF=>?_) (fun x18'=>?_)
 ·go_simp; try (constructor <;> with_reducible rfl)
 ·exact (copyEntries (c:=ce) (over w3 δ) (HE.out.below (below_old HB3.out (below_over _ _))) (fun e he=>by have:=(HB.out.ents e he).data; omega) (by have:=HB.out.hne; omega)).mono fun e w' h=>entries_of h (size_over_le _ _)
 obtain ⟨A6,c6⟩:=x18'
 simp only [Act.put,List.setIfInBounds_toArray,List.set_cons_zero,List.set_cons_succ,enc_row]
 repeat (first
  | (refine g_w rfl ?_ (fun W=>?_) ?_; rotate_left; (focus (go_simp; (try with_reducible rfl); done)); simp only [Act.put,List.setIfInBounds_toArray,List.set_cons_zero,List.set_cons_succ])
  | (refine g_d rfl (by kernel_rfl) ?_ (fun δ=>?_) ?_; rotate_left; (focus (go_simp; (try with_reducible rfl); done)); simp only [Act.put,List.setIfInBounds_toArray,List.set_cons_zero,List.set_cons_succ]))
 refine g_call rfl 19 #[.slice A5 ls.length c5,.slice A6 es.length c6,.agg (cfgC c' B1 m1 d1 B2 m2 d2),.agg #[.int .i64 now.sec,.int .i64 now.nano]] (fun W=>?_) (fun δ hF=>?_) (fun x22=>?_)
 ·unfold cfgC
  go_simp; try (constructor <;> with_reducible rfl)
 ·have h15:(Made.row Shape.LineD ls w3.heap.size).Fact (A5,c5) (over w3 δ):=hF 2 (by kernel_rfl)
  have h18:(Made.row Shape.EntryD es w3.heap.size).Fact (A6,c6) (over w3 δ):=hF 5 (by kernel_rfl)
  have hbo:Below w3.heap.size w3 (over w3 δ):=below_over _ _
  have q1:=HL.out.1; have q2:=HE.out.1; have q3:=HB.out.hn; have q4:=HB.out.hne
  have:=foldTree (cn:=c5) (ce:=c6) (c1:=d1) (c2:=d2) (now:=now) m (over w3 δ) (h15.2.more fun k hk=>hk.2) HB.out.small (by omega) (h18.2.more fun k hk=>hk.2) (by omega) HB.out.ents (HI3.out.below hbo) (HE3.out.below hbo) hm1 hm2 (Nat.lt_of_lt_of_le WL.out (below_old HB3.out hbo).size) (HM.out _ (below_old HB3.out hbo))
  rw [← HR.out] at this
  refine this.mono fun e w' h=>?_
  obtain ⟨x,hx1,hx2⟩:=fc_of h (size_over_le _ _)
  exact ⟨x,hx1,h.1,hx2⟩
 simp only [Act.put,List.setIfInBounds_toArray,List.set_cons_zero,List.set_cons_succ]
 refine g_alloc rfl (Nat.le_refl _) (fun W=>?_) (fun g4=>?_)
 ·go_simp; try rfl
 simp only [Act.put,List.setIfInBounds_toArray,List.set_cons_zero,List.set_cons_succ]
 refine g_end fun δ hF=>?_
 have hfc:FcAt R w3.heap.size x22 (over w3 δ):=hF 9
 have hfb:Blk (over w3 δ) g4 50 #[.slice none 0 0,.slice none 0 0,.int .i64 0,.int .i64 0]∧w3.heap.size≤g4:=hF 10
 clear hF
 have ex:(madeFc R w3.heap.size).enc x22=.agg (fcC R x22):=rfl
 rw [ex]
 refine endT_store 50 (.tmp 4) (.tmp 26) rfl g4 rfl hfb.1 rfl (by kernel_rfl) rfl rfl (fun w4 b4 hg4 hs4=>?_)
 have hbo:Below w3.heap.size w3 (over w3 δ):=below_over _ _
 have HF4:=Lib.hid (hfc.store hfb.1 hg4)
 have HB34:Hid (Below w3.heap.size w3 w4):=Lib.hid (hbo.grown hg4 hbo.size (fun j hj=>by injection hj with hj; rw [← hj]; exact hfb.2))
 have HB4:Hid (Below w.heap.size w w4):=Lib.hid (below_old HB3.out HB34.out)
 have HX4:=Lib.hid (HX3.out.below HB34.out HX3.out.lt)
 have hb4:Blk w4 g4 50 (fcC R x22):=b4
 have HO4:=Lib.hid hb4
 clear hfc hfb hg4 hs4 b4 hb4 hbo x0 x1 x15 x16 lx k0 k1 k2 k3 k4 k5 k6 k7 k8 k9 k10 k11 k12 lc
 refine g_tail_end ?_
 simp only [Act.put,List.setIfInBounds_toArray,List.set_cons_zero,List.set_cons_succ]
 obtain ⟨⟨A9,c9⟩,⟨A8,c8⟩⟩:=x22
 have y0:=HO4.out.cell 0; have y1:=HO4.out.cell 1; have y2:=HO4.out.cell 2
 have lo:=HO4.out.lt
 unfold fcC at y0 y1 y2 ⊢
 simp only [List.getElem?_toArray,List.getElem?_cons_succ,List.getElem?_cons_zero] at y0 y1 y2
 have x0:=HX4.out.cell 0; have lx:=HX4.out.lt
 unfold gvC at x0
 simp only [List.getElem?_toArray,List.getElem?_cons_zero] at x0
 obtain ⟨rc,hrc⟩:∃ x,x=R.code:=⟨_,rfl⟩
 obtain ⟨n9,hn9⟩:∃ x,x=R.lines.length:=⟨_,rfl⟩
 obtain ⟨n8,hn8⟩:∃ x,x=R.done.length:=⟨_,rfl⟩
 rw [← hrc] at y2; rw [← hn9] at y0; rw [← hn8] at y1
 rw [← hrc,← hn9,← hn8]
 have HRC:=Lib.hid hrc; have HN9:=Lib.hid hn9; have HN8:=Lib.hid hn8
 clear hrc hn9 hn8
 by_cases h9:n9=0
 ·have t1:(rc != 0)=true:=by
   have:R.lines=[]:=List.length_eq_zero_iff.1 (by rw [← HN9.out]; exact h9)
   have:=HN.out.1 this
   rw [← HRC.out] at this
   simpa using this
  subst h9
  go_wp2_with fail
  go_ret
  exact ⟨rfl,HB4.out⟩
 ·have hpos:0<n9:=by omega
  have hne:R.lines≠[]:=fun h0=>h9 (by rw [HN9.out,h0]; rfl)
  have HFD:=Lib.hid (HN.out.2 hne)
  have HR9:Hid (Row Shape.LineD w4 (Old w4) A9 n9 R.lines):=Lib.hid (by
   have:=HF4.out.lines
   rw [← HN9.out] at this
   exact this.more fun k hk=>hk.2)
  have HXL:=Lib.hid (HL.out.below HB4.out)
  have hn0:(n9:Int)≠0:=by omega
  have t0:((n9:Int) == 0)=false:=by simpa using hn0
  have HG4:=Lib.hid (show Blk w4 g4 50 #[.slice A9 n9 c9,.slice A8 n8 c8,.int .i64 rc,.int .i64 R.index] from by
   have:=HO4.out
   unfold fcC at this
   rw [HN9.out,HN8.out,HRC.out]; exact this)
  have hnb:=HB.out.hn
  have hn9m:n9≤9223372036854775807:=by have q:=HF4.out.c1; rw [← HN9.out] at q; have q2:maxLen=9223372036854775807:=rfl; omega
  clear hne hn0 h9 y0 y1 y2 lo x0 lx HO4
  have y0:=HG4.out.cell 0; have y2:=HG4.out.cell 2; have lo:=HG4.out.lt
  simp only [List.getElem?_toArray,List.getElem?_cons_succ,List.getElem?_cons_zero] at y0 y2
  go_wp2_with fail
  obtain ⟨b9,off9,rfl⟩:∃ b9 off9,A9=some ⟨b9,off9,none⟩:=by
   obtain ⟨b9,off9,es9,hl9,e9,-⟩:=HR9.out.at_ hpos
   exact ⟨b9,off9,e9⟩
  clear y0 y2 lo
  go_loopw [5] (fun v5 wr=>∃ k:Nat,k≤n∧v5=.int .i64 k∧Below w4.heap.size w4 wr) (fun v5 _=>n - (intOf v5).toNat)
  case atStart=>exact ⟨0,Nat.zero_le _,rfl,Below.refl _ _⟩
  case round =>
   obtain ⟨k,hk,rfl,hbel⟩:=hrel
   have HBR:=Lib.hid hbel
   have x0:=(HX4.out.below hbel HX4.out.lt).cell 0
   have lx:=Nat.lt_of_lt_of_le HX4.out.lt hbel.size
   unfold gvC at x0
   simp only [List.getElem?_toArray,List.getElem?_cons_zero] at x0
   clear hbel
   by_cases hlt:k<n
   ·have hks:(k:Int)<n:=by omega
    obtain ⟨b1,off1,hA1⟩:∃ b1 off1,A=some ⟨b1,off1,none⟩:=by
     obtain ⟨b1,off1,es1,hl1,e1,-⟩:=HXL.out.at_ hlt
     exact ⟨b1,off1,e1⟩
    subst hA1
    obtain ⟨a,Aa,na,ca,hak,hc1,hc10,hra,lb1⟩:=line_cells HXL.out HBR.out hlt
    have HAM:=Lib.hid (List.mem_of_getElem? hak)
    have HRA:=Lib.hid hra
    unfold lineC at hc1
    clear hak hra
    by_cases hp:a.peer.size=0
    ·have tp:a.peer.toList.isEmpty=true:=by rw [isEmpty_size]; simpa using hp
     have HFI:=Lib.hid (HFD.out a HAM.out hp)
     clear hp
     go_upto_region 13 with (fail)
     obtain ⟨wa,hwa⟩:∃ x,x=wr.alloc (.cells #[.string a.path,.int .i64 a.kind,.int .i64 a.mode,.int .i64 a.uid,.int .i64 a.gid,.int .i64 a.mtime.sec,.int .i64 a.mtime.nano,.slice Aa na ca,.string a.target,.string a.peer] 60):=⟨_,rfl⟩
     obtain ⟨ab,hab⟩:∃ x,x=wr.heap.size:=⟨_,rfl⟩
     have HBA:Hid (Below w4.heap.size w4 wa):=Lib.hid (by rw [hwa]; exact HBR.out.alloc HBR.out.size _)
     have HAB:Hid (Blk wa ab 60 (lineC a Aa na ca).toArray):=Lib.hid (by rw [hwa,hab]; exact Blk.new _ _ _)
     have HABS:Hid (w4.heap.size≤ab):=Lib.hid (by rw [hab]; exact HBR.out.size)
     rw [← hwa,← hab]
     clear hwa hab hc1 hc10 lb1 x0 lx tp
     go_wp2_with fail
     go_loopw [7,8] (fun v7 v8 wq=>∃ (j:Nat) (f:Bool),j≤n9∧v7=.bool f∧v8=.int .i64 j∧FoundSt R.lines a j f∧Below w4.heap.size w4 wq∧Blk wq ab 60 (lineC a Aa na ca).toArray) (fun _ v8 _=>n9 - (intOf v8).toNat)
     case atStart=>exact ⟨0,false,Nat.zero_le _,rfl,rfl,FoundSt.start _ _,HBA.out,HAB.out⟩
     case round =>
      clear HBA HAB
      obtain ⟨j,f,hj,rfl,rfl,hfs,hbq,hab⟩:=hrel
      have HFS:=Lib.hid hfs; have HBQ:=Lib.hid hbq; have HAQ:=Lib.hid hab
      have y0:=(HG4.out.below hbq HG4.out.lt).cell 0
      have lo:=Nat.lt_of_lt_of_le HG4.out.lt hbq.size
      simp only [List.getElem?_toArray,List.getElem?_cons_zero] at y0
      have a0:=hab.cell 0
      have la:=hab.lt
      unfold lineC at a0
      simp only [List.getElem?_toArray,List.getElem?_cons_zero] at a0
      clear hfs hbq hab
      by_cases hjl:j<n9
      ·have hjs:(j:Int)<n9:=by omega
       obtain ⟨b,Ab,nb,cb2,hbj,hc2,hc20,hrb,lb2⟩:=line_cells HR9.out HBQ.out hjl
       have HBJ:=Lib.hid hbj
       have HRB:=Lib.hid hrb
       unfold lineC at hc2
       clear hbj hrb
       by_cases he:b.path=a.path
       ·have te:=text_eq he
        have HEQ:=Lib.hid he
        clear he
        go_upto_region 19 with (fail)
        obtain ⟨wb,hwb⟩:∃ x,x=wr.alloc (.cells #[.string b.path,.int .i64 b.kind,.int .i64 b.mode,.int .i64 b.uid,.int .i64 b.gid,.int .i64 b.mtime.sec,.int .i64 b.mtime.nano,.slice Ab nb cb2,.string b.target,.string b.peer] 60):=⟨_,rfl⟩
        obtain ⟨bb,hbb⟩:∃ x,x=wr.heap.size:=⟨_,rfl⟩
        have HBB:Hid (Below w4.heap.size w4 wb):=Lib.hid (by rw [hwb]; exact HBQ.out.alloc HBQ.out.size _)
        have HLB:Hid (Blk wb bb 60 (lineC b Ab nb cb2).toArray):=Lib.hid (by rw [hwb,hbb]; exact Blk.new _ _ _)
        have HAB2:Hid (Blk wb ab 60 (lineC a Aa na ca).toArray):=Lib.hid (by rw [hwb]; exact HAQ.out.alloc _)
        have HBS:Hid (w4.heap.size≤bb):=Lib.hid (by rw [hbb]; exact HBQ.out.size)
        have HNE:Hid (ab≠bb):=Lib.hid (by rw [hbb]; have:=HAQ.out.lt; omega)
        have HDA:Hid (a.kind≠2→DataAt R.lines j b a.data a.target):=Lib.hid (fun h2=>((HFI.out.2 j b HBJ.out HEQ.out).2 h2).2.2)
        rw [← hwb,← hbb]
        clear hwb hbb hc2 hc20 lb2 y0 lo a0 la te
        go_wp2_with fail
        go_loopw [10] (fun v10 wz=>∃ (i:Nat) (AD:Option Addr) (nD cD:Nat) (D:List UInt8) (T:ByteArray),i≤j∧v10=.int .i64 i∧Below w4.heap.size w4 wz∧Blk wz ab 60 (lineC a Aa na ca).toArray∧Blk wz bb 60 (lineC ⟨b.path,b.kind,b.mode,b.uid,b.gid,b.mtime,D,T,b.peer⟩ AD nD cD).toArray∧Row Shape.byte w4 (Old w4) AD nD D∧DataSt R.lines b a i D T) (fun v10 _=>j - (intOf v10).toNat)
        case atStart=>exact ⟨0,Ab,nb,cb2,b.data,b.target,Nat.zero_le _,rfl,HBB.out,HAB2.out,HLB.out,HRB.out,DataSt.start _ _ _⟩
        case round =>
         clear HBB HLB HAB2
         obtain ⟨i,AD,nD,cD,D,T,hij,rfl,hbz,haz,hlz,hrd,hds⟩:=hrel
         have HBZ:=Lib.hid hbz; have HAZ:=Lib.hid haz; have HLZ:=Lib.hid hlz; have HRD:=Lib.hid hrd; have HDS:=Lib.hid hds
         have y0:=(HG4.out.below hbz HG4.out.lt).cell 0
         have lo:=Nat.lt_of_lt_of_le HG4.out.lt hbz.size
         simp only [List.getElem?_toArray,List.getElem?_cons_zero] at y0
         clear hbz haz hlz hrd hds
         by_cases hil:i<j
         ·have his:(i:Int)<j:=by omega
          have hi9:(i:Int)<n9:=by omega
          obtain ⟨x,Ax,nx,cx,hxi,hc3,hc30,hrx,lb3⟩:=line_cells HR9.out HBZ.out (show i<n9 by omega)
          have HXI:=Lib.hid hxi
          have HRX:=Lib.hid hrx
          have z7:=hc3 7 (by decide); have z8:=hc3 8 (by decide)
          have l9:=HLZ.out.cell 9
          have ll:=HLZ.out.lt
          unfold lineC at z7 z8 l9
          simp only [List.getElem?_toArray,List.getElem?_cons_succ,List.getElem?_cons_zero] at z7 z8 l9
          clear hxi hrx hc3
          by_cases hxp:x.path=b.peer
          ·have te:=text_eq hxp.symm
           have HXP:=Lib.hid hxp
           clear hxp
           go_wp2_with fail
           refine wp_region_grow [] rfl (by kernel_rfl) stays_nil ?_
           repeat (first
            | (refine g_w rfl ?_ (fun W=>?_) ?_; rotate_left; (focus (go_simp; (try with_reducible rfl); done)); simp only [Act.put,List.setIfInBounds_toArray,List.set_cons_zero,List.set_cons_succ])
            | (refine g_d rfl (by kernel_rfl) ?_ (fun δ=>?_) ?_; rotate_left; (focus (go_simp; (try with_reducible rfl); done)); simp only [Act.put,List.setIfInBounds_toArray,List.set_cons_zero,List.set_cons_succ]))
           refine g_end fun δ _=>?_
           obtain ⟨wy,hwy⟩:∃ x,x=over wr δ:=⟨_,rfl⟩
           have HBY:Hid (Below w4.heap.size w4 wy):=Lib.hid (by rw [hwy]; exact below_old HBZ.out (below_over _ _))
           have HAY:Hid (Blk wy ab 60 (lineC a Aa na ca).toArray):=Lib.hid (by rw [hwy]; exact HAZ.out.below (below_over _ _) HAZ.out.lt)
           have HLY:Hid (Blk wy bb 60 (lineC ⟨b.path,b.kind,b.mode,b.uid,b.gid,b.mtime,D,T,b.peer⟩ AD nD cD).toArray):=Lib.hid (by rw [hwy]; exact HLZ.out.below (below_over _ _) HLZ.out.lt)
           have z7':wy.cell? ⟨b9,off9+i*10+7,none⟩=some (.slice Ax nx cx):=by rw [hwy]; exact ((below_over wr δ).cell (p:=⟨b9,off9+i*10+7,none⟩) lb3).trans z7
           have z8':wy.cell? ⟨b9,off9+i*10+8,none⟩=some (.string x.target):=by rw [hwy]; exact ((below_over wr δ).cell (p:=⟨b9,off9+i*10+8,none⟩) lb3).trans z8
           rw [← hwy]
           clear hwy z7 z8 y0 lo l9 ll lb3 hc30 te
           have y0:=(HG4.out.below HBY.out HG4.out.lt).cell 0
           have lo:=Nat.lt_of_lt_of_le HG4.out.lt HBY.out.size
           simp only [List.getElem?_toArray,List.getElem?_cons_zero] at y0
           have f7:=HLY.out.frozen 7; have f8:=HLY.out.frozen 8
           have l7:=HLY.out.cell 7; have l8:=HLY.out.cell 8
           have ll:=HLY.out.lt
           have hgb:g4≠bb:=by have:=HG4.out.lt; have:=HBS.out; omega
           have hb9:b9≠bb:=by
            obtain ⟨b',off',es',hl',e',hbb',-⟩:=HR9.out.at_ hpos
            injection e' with e'; injection e' with e1 e2
            have:=HBS.out
            have hbb':b'<w4.heap.size:=hbb'
            omega
           unfold lineC at l7 l8
           simp only [List.getElem?_toArray,List.getElem?_cons_succ,List.getElem?_cons_zero] at l7 l8
           go_wp2_with fail
           refine ⟨⟨i+1,Ax,nx,cx,x.data,x.target,by omega,by go_num,(HBY.out.setCell (p:=⟨bb,7,none⟩) HBS.out _).setCell (p:=⟨bb,8,none⟩) HBS.out _,(HAY.out.apart HNE.out).apart HNE.out,?_,HRX.out,DataSt.hit HDA.out HXI.out HXP.out hil⟩,by simp [intOf]; omega⟩
           exact ((HLY.out.set_ 7 (.slice Ax nx cx)).set_ 8 (.string x.target)).to (by unfold lineC; simp)
          ·have te:=text_ne (fun e=>hxp e.symm)
           have HXP:=Lib.hid hxp
           clear hxp
           go_wp2_with fail
           refine wp_region_grow [] rfl (by kernel_rfl) stays_nil ?_
           repeat (first
            | (refine g_w rfl ?_ (fun W=>?_) ?_; rotate_left; (focus (go_simp; (try with_reducible rfl); done)); simp only [Act.put,List.setIfInBounds_toArray,List.set_cons_zero,List.set_cons_succ])
            | (refine g_d rfl (by kernel_rfl) ?_ (fun δ=>?_) ?_; rotate_left; (focus (go_simp; (try with_reducible rfl); done)); simp only [Act.put,List.setIfInBounds_toArray,List.set_cons_zero,List.set_cons_succ]))
           refine g_end fun δ _=>?_
           obtain ⟨wy,hwy⟩:∃ x,x=over wr δ:=⟨_,rfl⟩
           have HBY:Hid (Below w4.heap.size w4 wy):=Lib.hid (by rw [hwy]; exact below_old HBZ.out (below_over _ _))
           have HAY:Hid (Blk wy ab 60 (lineC a Aa na ca).toArray):=Lib.hid (by rw [hwy]; exact HAZ.out.below (below_over _ _) HAZ.out.lt)
           have HLY:Hid (Blk wy bb 60 (lineC ⟨b.path,b.kind,b.mode,b.uid,b.gid,b.mtime,D,T,b.peer⟩ AD nD cD).toArray):=Lib.hid (by rw [hwy]; exact HLZ.out.below (below_over _ _) HLZ.out.lt)
           rw [← hwy]
           clear hwy
           go_wp2_with fail
           go_roundw
           case rel=>exact ⟨i+1,AD,nD,cD,D,T,by omega,by go_num,HBY.out,HAY.out,HLY.out,HRD.out,HDS.out.miss HXI.out HXP.out⟩
           case measure=>simp [intOf]; omega
         ·have his:¬ (i:Int)<j:=by omega
          have hie:i=j:=by omega
          subst hie
          have hkind:=(HFI.out.2 i b HBJ.out HEQ.out).1
          have p0:=HAZ.out.cell 1; have p2:=HAZ.out.cell 2; have p5:=HAZ.out.cell 5; have p6:=HAZ.out.cell 6; have p7:=HAZ.out.cell 7; have p8:=HAZ.out.cell 8
          have q0:=HLZ.out.cell 1; have q2:=HLZ.out.cell 2; have q5:=HLZ.out.cell 5; have q6:=HLZ.out.cell 6; have q7:=HLZ.out.cell 7; have q8:=HLZ.out.cell 8
          have pl:=HAZ.out.lt; have ql:=HLZ.out.lt
          unfold lineC at p0 p2 p5 p6 p7 p8 q0 q2 q5 q6 q7 q8
          simp only [List.getElem?_toArray,List.getElem?_cons_succ,List.getElem?_cons_zero] at p0 p2 p5 p6 p7 p8 q0 q2 q5 q6 q7 q8
          rw [hkind] at q0
          clear hkind
          by_cases h2:a.kind=2
          ·have te:(a.kind == 2)=true:=by simpa using h2
           clear h2
           go_wp2_with fail
           go_roundw
           case rel=>exact ⟨i+1,true,by omega,rfl,by go_num,FoundSt.hit HBJ.out HEQ.out,HBZ.out,HAZ.out⟩
           case measure=>simp [intOf]; omega
          ·have te:(a.kind == 2)=false:=by simpa using h2
           obtain ⟨e1,e2,-⟩:=(HFI.out.2 i b HBJ.out HEQ.out).2 h2
           obtain ⟨e3,e4⟩:=HDS.out.done HDA.out h2
           rw [e1] at q2
           rw [e2] at q5 q6
           rw [e4] at q8
           have SB:Hid (∀ W,Below w4.heap.size w4 W→Calls Tryz.prog 24 #[.slice Aa na ca,.slice AD nD cD] W fun e w'=>e=.returned (.bool true)∧∃ δ,w'=over W δ):=Lib.hid (fun W hW=>by
            have hla:=HB.out.lines a HAM.out
            have r1:=HRA.out.1
            have r2:=HRD.out.1
            have:=sameBytes (c:=ca) (c':=cD) W (HRA.out.below hW) (HRD.out.below hW) (by omega) (by rw [e3] at r2; omega)
            rw [e3,decide_eq_true rfl] at this
            exact this)
           clear h2 e1 e2 e3 e4
           have SB1:=Lib.hid (SB.out _ HBZ.out)
           go_wp2_with fail
           refine SB1.out.mono ?_
           rintro e w5 ⟨rfl,δ5,hw5⟩
           have HB5:Hid (Below w4.heap.size w4 w5):=Lib.hid (by rw [hw5]; exact below_old HBZ.out (below_over _ _))
           have HA5:Hid (Blk w5 ab 60 (lineC a Aa na ca).toArray):=Lib.hid (by rw [hw5]; exact HAZ.out.below (below_over _ _) HAZ.out.lt)
           clear hw5
           go_wp2_with fail
           go_roundw
           case rel=>exact ⟨i+1,true,by omega,rfl,by go_num,FoundSt.hit HBJ.out HEQ.out,HB5.out,HA5.out⟩
           case measure=>simp [intOf]; omega
       ·have te:=text_ne he
        have HEQ:=Lib.hid he
        clear he
        go_wp2_with fail
        go_roundw
        case rel=>exact ⟨j+1,f,by omega,rfl,by go_num,HFS.out.miss HBJ.out HEQ.out,HBQ.out.alloc HBQ.out.size _,HAQ.out.alloc _⟩
        case measure=>simp [intOf]; omega
      ·have hjs:¬ (j:Int)<n9:=by omega
       have hfe:f=true:=by
        have h1:j=R.lines.length:=by rw [← HN9.out]; omega
        have:=HFS.out
        rw [h1] at this
        exact this.done HFI.out
       subst hfe
       go_wp2_with fail
       go_roundw
       case rel=>exact ⟨k+1,by omega,by go_num,HBQ.out⟩
       case measure=>simp [intOf]; omega
    ·have tp:a.peer.toList.isEmpty=false:=by rw [isEmpty_size]; simpa using hp
     clear hp
     go_wp2_with fail
     go_roundw
     case rel=>exact ⟨k+1,by omega,by go_num,HBR.out.alloc HBR.out.size _⟩
     case measure=>simp [intOf]; omega
   ·have hks:¬ (k:Int)<n:=by omega
    go_wp2_with fail
    go_ret
    exact ⟨rfl,below_old HB4.out HBR.out⟩
end Go.Proofs.YtfhfcipelgogjaaGreatDoor
