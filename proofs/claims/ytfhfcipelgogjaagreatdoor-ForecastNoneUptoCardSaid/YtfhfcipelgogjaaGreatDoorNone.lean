/- valiselaw25.ForecastNone, walked. No condition but room. -/
import Derived.Test.YtfhfcipelgogjaaGreatDoorGvAll
import Derived.Test.YtfhfcipelgogjaaGreatDoorSameAll
set_option linter.unusedSectionVars false
set_option linter.unusedVariables false
set_option linter.unusedSimpArgs false
set_option maxHeartbeats 8000000
set_option maxRecDepth 100000
namespace Go.Proofs.YtfhfcipelgogjaaGreatDoor
open Go.RowKit
attribute [local go_sem] cell?_over frozen?_over lt_over le_over
theorem noneLaw {A Ae A1 A2:Option Addr} {n cn ne ce n1 c1 n2 c2:Nat} {ls:List LineD} {es:List EntryD} {c:ConfigD} {now:TimeD} (m:Int) (w:World) (hL:Row Shape.LineD w (Old w) A n ls) (hE:Row Shape.EntryD w (Old w) Ae ne es) (h1:Row Shape.str w (Old w) A1 n1 c.include_) (h2:Row Shape.str w (Old w) A2 n2 c.exclude) (hb:GvIn ls es n ne n1 n2)
  (hm:w.cell? ⟨0,0,none⟩=some (.int .i64 m)) :
  Calls Tryz.prog 6 #[.agg (gvC A n cn Ae ne ce c A1 n1 c1 A2 n2 c2 now)] w fun e w'=>e=.returned (.bool true)∧Below w.heap.size w w':=by
 have WL:Hid (0<w.heap.size):=Lib.hid (World.block_lt_of_cell? _ _ hm)
 have HM:Hid (∀ W,Below w.heap.size w W→W.cell? ⟨0,0,none⟩=some (.int .i64 m)):=Lib.hid fun W hb=>(hb.cell (p:=⟨0,0,none⟩) WL.out).trans hm
 have HB:=Lib.hid hb; have HL:=Lib.hid hL; have HE:=Lib.hid hE; have H1:=Lib.hid h1; have H2:=Lib.hid h2
 obtain ⟨w0,hw0⟩:∃ x,x=w.alloc (.cells (gvC A n cn Ae ne ce c A1 n1 c1 A2 n2 c2 now) 46):=⟨_,rfl⟩
 have HB0:Hid (Below w.heap.size w w0):=Lib.hid (by rw [hw0]; exact below_alloc' _ _)
 obtain ⟨xb,hxb⟩:∃ x,x=w.heap.size:=⟨_,rfl⟩
 have HX0:Hid (Blk w0 xb 46 (gvC A n cn Ae ne ce c A1 n1 c1 A2 n2 c2 now)):=Lib.hid (by rw [hw0,hxb]; exact Blk.new _ _ _)
 have AL:=Lib.hid (law25Alive m w0 (Nat.lt_of_lt_of_le WL.out HB0.out.size) (HM.out _ HB0.out))
 have HXB:=Lib.hid hxb
 clear hL hE h1 h2 hb hm
 unfold gvC at hw0 ⊢
 go_enter Tryz.func6,Tryz.ntmps6
 go_upto_region 1 with (fail)
 rw [← hw0,← hxb]
 clear hw0 hxb
 go_wp2_with fail
 refine AL.out.mono ?_
 rintro e w1 ⟨rfl,hb1⟩
 have HB1:=Lib.hid (below_old HB0.out hb1)
 have HX1:=Lib.hid (HX0.out.below hb1 HX0.out.lt)
 have CC:=Lib.hid (copyConfig (d:=c) (c1:=c1) (c2:=c2) w1 (H1.out.below HB1.out) (H2.out.below HB1.out) (by have:=HB.out.hn1; omega) (by have:=HB.out.hn2; omega))
 unfold cfgC at CC
 have x2:=HX1.out.cell 2; have x3:=HX1.out.cell 3; have x4:=HX1.out.cell 4; have x5:=HX1.out.cell 5; have x6:=HX1.out.cell 6; have x7:=HX1.out.cell 7; have x8:=HX1.out.cell 8; have x9:=HX1.out.cell 9; have x10:=HX1.out.cell 10; have x11:=HX1.out.cell 11; have x12:=HX1.out.cell 12; have x13:=HX1.out.cell 13; have x14:=HX1.out.cell 14
 have lx:=HX1.out.lt
 unfold gvC at x2 x3 x4 x5 x6 x7 x8 x9 x10 x11 x12 x13 x14
 simp only [List.getElem?_toArray,List.getElem?_cons_succ,List.getElem?_cons_zero] at x2 x3 x4 x5 x6 x7 x8 x9 x10 x11 x12 x13 x14
 clear hb1 AL HB0 HX0
 go_wp2_with fail
 refine CC.out.mono ?_
 rintro e w2 ⟨B1,m1,d1,B2,m2,d2,hd1,hd2,rfl,hr1,hr2,hb2⟩
 have HR1:=Lib.hid hr1
 have HB2:=Lib.hid (below_old HB1.out hb2)
 have HX2:=Lib.hid (HX1.out.below hb2 HX1.out.lt)
 clear hb2 hr1 hr2 CC HX1 HB1 x2 x3 x4 x5 x6 x7 x8 x9 x10 x11 x12 x13 x14 lx
 unfold cfgC
 go_upto_region 5 with (fail)
 obtain ⟨cb,hcb⟩:∃ x,x=w2.heap.size:=⟨_,rfl⟩
 obtain ⟨c',hc'⟩:∃ x,x={ c with exclude:=[⟨#[42,42]⟩] }:=⟨_,rfl⟩
 obtain ⟨w3,hw3⟩:∃ x,x=(w2.alloc (.cells (cfgC c' B1 m1 d1 (some ⟨cb+1,0,none⟩) 1 1) 42)).alloc (.cells #[.string ⟨#[42,42]⟩] 9):=⟨_,rfl⟩
 have HNX:Hid (c'.exclude=[⟨#[42,42]⟩]):=Lib.hid (by rw [hc'])
 have HNI:Hid (c'.include_=c.include_):=Lib.hid (by rw [hc'])
 have hw3':=hw3
 rw [hc'] at hw3'
 unfold cfgC at hw3'
 simp only at hw3'
 rw [← hcb,← hw3']
 have e1:(w2.alloc (.cells (cfgC c' B1 m1 d1 (some ⟨cb+1,0,none⟩) 1 1) 42)).heap.size=cb+1:=by rw [hcb]; simp
 have hb3:Below w2.heap.size w2 w3:=by rw [hw3]; exact (below_alloc' _ _).trans ((below_alloc' _ _).mono (by simp))
 have HC3:Hid (Blk w3 cb 42 (cfgC c' B1 m1 d1 (some ⟨cb+1,0,none⟩) 1 1)):=Lib.hid (by rw [hw3,hcb]; exact (Blk.new _ _ _).alloc _)
 have HS3:Hid (Blk w3 (cb+1) 9 #[.string ⟨#[42,42]⟩]):=Lib.hid (by
  have:=Blk.new (w2.alloc (.cells (cfgC c' B1 m1 d1 (some ⟨cb+1,0,none⟩) 1 1) 42)) 9 #[.string ⟨#[42,42]⟩]
  rw [e1,← hw3] at this; exact this)
 have HB3:=Lib.hid (below_old HB2.out hb3)
 have HX3:=Lib.hid (HX2.out.below hb3 HX2.out.lt)
 have HI3:Hid (Row Shape.str w3 (Old w3) B1 m1 c'.include_):=Lib.hid (by
  rw [HNI.out]
  exact (HR1.out.keep fun k hk=>hb3.block k hk.2).more fun k hk=>Nat.lt_of_lt_of_le hk.2 hb3.size)
 have HE3:Hid (Row Shape.str w3 (Old w3) (some ⟨cb+1,0,none⟩) 1 c'.exclude):=Lib.hid (by
  rw [HNX.out]
  exact row_of_blk (s:=Shape.str) (es:=[.string ⟨#[42,42]⟩]) HS3.out ⟨rfl,by decide⟩)
 have hm1:m1≤100000000:=by have q1:=HR1.out.1; have q2:=H1.out.1; have q3:=HB.out.hn1; omega
 have HCB:=Lib.hid hcb
 clear hb3 hw3 hw3' hc' e1 hcb HR1 HB2 HX2 hd1 hd2
 have x0:=HX3.out.cell 0; have x1:=HX3.out.cell 1; have x15:=HX3.out.cell 15; have x16:=HX3.out.cell 16
 have lx:=HX3.out.lt
 have k0:=HC3.out.cell 0; have k1:=HC3.out.cell 1; have k2:=HC3.out.cell 2; have k3:=HC3.out.cell 3; have k4:=HC3.out.cell 4; have k5:=HC3.out.cell 5; have k6:=HC3.out.cell 6; have k7:=HC3.out.cell 7; have k8:=HC3.out.cell 8; have k9:=HC3.out.cell 9; have k10:=HC3.out.cell 10; have k11:=HC3.out.cell 11; have k12:=HC3.out.cell 12
 have lc:=HC3.out.lt
 unfold gvC at x0 x1 x15 x16
 unfold cfgC at k0 k1 k2 k3 k4 k5 k6 k7 k8 k9 k10 k11 k12
 simp only [List.getElem?_toArray,List.getElem?_cons_succ,List.getElem?_cons_zero] at x0 x1 x15 x16 k0 k1 k2 k3 k4 k5 k6 k7 k8 k9 k10 k11 k12
 obtain ⟨R,hR⟩:∃ x,x=tellF ls es 0 c' now:=⟨_,rfl⟩
 have HN:Hid (NoneOk R ls):=Lib.hid (by rw [hR]; exact tell_none HNX.out ls es now)
 have HR:=Lib.hid hR
 clear hR
 refine wp_region_grow_t [(2,Made.row Shape.LineD ls w3.heap.size),(5,Made.row Shape.EntryD es w3.heap.size),(9,madeFc R w3.heap.size),(10,Made.blk 50 #[.slice none 0 0,.slice none 0 0,.int .i64 0,.int .i64 0] w3.heap.size)] 11 _ rfl (by kernel_rfl) [2,5,9,10] rfl (by kernel_rfl) (stays_cons (row_stays _ _ _) (stays_cons (row_stays _ _ _) (stays_cons (fc_stays _ _) (stays_cons (blk_stays _ _ _) stays_nil)))) ?_
 simp only [List.take_succ_cons,List.take_zero,List.drop_succ_cons,List.drop_zero]
 repeat (first
  | (refine g_w rfl ?_ (fun W=>?_) ?_; rotate_left; (focus (go_simp; (try with_reducible rfl); done)); simp only [Act.put,List.setIfInBounds_toArray,List.set_cons_zero,List.set_cons_succ])
  | (refine g_d rfl (by kernel_rfl) ?_ (fun δ=>?_) ?_; rotate_left; (focus (go_simp; (try with_reducible rfl); done)); simp only [Act.put,List.setIfInBounds_toArray,List.set_cons_zero,List.set_cons_succ]))
 refine g_call rfl 13 #[.slice A n cn] (fun W=>?_) (fun δ hF=>?_) (fun x15'=>?_)
 ·go_simp; try (constructor <;> with_reducible rfl)
 ·exact (copyLines (c:=cn) (over w3 δ) (HL.out.below (below_old HB3.out (below_over _ _))) HB.out.lines (by have:=HB.out.hn; omega)).mono fun e w' h=>lines_of h (size_over_le _ _)
 obtain ⟨A5,c5⟩:=x15'
 simp only [Act.put,List.setIfInBounds_toArray,List.set_cons_zero,List.set_cons_succ,enc_row]
 repeat (first
  | (refine g_w rfl ?_ (fun W=>?_) ?_; rotate_left; (focus (go_simp; (try with_reducible rfl); done)); simp only [Act.put,List.setIfInBounds_toArray,List.set_cons_zero,List.set_cons_succ])
  | (refine g_d rfl (by kernel_rfl) ?_ (fun δ=>?_) ?_; rotate_left; (focus (go_simp; (try with_reducible rfl); done)); simp only [Act.put,List.setIfInBounds_toArray,List.set_cons_zero,List.set_cons_succ]))
 refine g_call rfl 18 #[.slice Ae ne ce] (fun W=>?_) (fun δ hF=>?_) (fun x18'=>?_)
 ·go_simp; try (constructor <;> with_reducible rfl)
 ·exact (copyEntries (c:=ce) (over w3 δ) (HE.out.below (below_old HB3.out (below_over _ _))) (fun e he=>by have:=(HB.out.ents e he).data; omega) (by have:=HB.out.hne; omega)).mono fun e w' h=>entries_of h (size_over_le _ _)
 obtain ⟨A6,c6⟩:=x18'
 simp only [Act.put,List.setIfInBounds_toArray,List.set_cons_zero,List.set_cons_succ,enc_row]
 repeat (first
  | (refine g_w rfl ?_ (fun W=>?_) ?_; rotate_left; (focus (go_simp; (try with_reducible rfl); done)); simp only [Act.put,List.setIfInBounds_toArray,List.set_cons_zero,List.set_cons_succ])
  | (refine g_d rfl (by kernel_rfl) ?_ (fun δ=>?_) ?_; rotate_left; (focus (go_simp; (try with_reducible rfl); done)); simp only [Act.put,List.setIfInBounds_toArray,List.set_cons_zero,List.set_cons_succ]))
 refine g_call rfl 19 #[.slice A5 ls.length c5,.slice A6 es.length c6,.agg (cfgC c' B1 m1 d1 (some ⟨cb+1,0,none⟩) 1 1),.agg #[.int .i64 now.sec,.int .i64 now.nano]] (fun W=>?_) (fun δ hF=>?_) (fun x22=>?_)
 ·unfold cfgC
  go_simp; try (constructor <;> with_reducible rfl)
 ·have h15:(Made.row Shape.LineD ls w3.heap.size).Fact (A5,c5) (over w3 δ):=hF 2 (by kernel_rfl)
  have h18:(Made.row Shape.EntryD es w3.heap.size).Fact (A6,c6) (over w3 δ):=hF 5 (by kernel_rfl)
  have hbo:Below w3.heap.size w3 (over w3 δ):=below_over _ _
  have q1:=HL.out.1; have q2:=HE.out.1; have q3:=HB.out.hn; have q4:=HB.out.hne
  have:=foldTree (cn:=c5) (ce:=c6) (c1:=d1) (c2:=1) (now:=now) m (over w3 δ) (h15.2.more fun k hk=>hk.2) HB.out.small (by omega) (h18.2.more fun k hk=>hk.2) (by omega) HB.out.ents (HI3.out.below hbo) (HE3.out.below hbo) hm1 (by decide) (Nat.lt_of_lt_of_le WL.out (below_old HB3.out hbo).size) (HM.out _ (below_old HB3.out hbo))
  rw [← HR.out] at this
  refine this.mono fun e w' h=>?_
  obtain ⟨x,hx1,hx2⟩:=fc_of h (size_over_le _ _)
  exact ⟨x,hx1,h.1,hx2⟩
 simp only [Act.put,List.setIfInBounds_toArray,List.set_cons_zero,List.set_cons_succ]
 refine g_alloc rfl (Nat.le_refl _) (fun W=>?_) (fun g4=>?_)
 ·go_simp; try rfl
 simp only [Act.put,List.setIfInBounds_toArray,List.set_cons_zero,List.set_cons_succ]
 refine g_end fun δ hF=>?_
 have hfc:FcAt R w3.heap.size x22 (over w3 δ):=hF 9
 have hfb:Blk (over w3 δ) g4 50 #[.slice none 0 0,.slice none 0 0,.int .i64 0,.int .i64 0]∧w3.heap.size≤g4:=hF 10
 clear hF
 have ex:(madeFc R w3.heap.size).enc x22=.agg (fcC R x22):=rfl
 rw [ex]
 refine endT_store 50 (.tmp 4) (.tmp 22) rfl g4 rfl hfb.1 rfl (by kernel_rfl) rfl rfl (fun w4 b4 hg4 hs4=>?_)
 have hbo:Below w3.heap.size w3 (over w3 δ):=below_over _ _
 have HF4:=Lib.hid (hfc.store hfb.1 hg4)
 have HB34:Hid (Below w3.heap.size w3 w4):=Lib.hid (hbo.grown hg4 hbo.size (fun j hj=>by injection hj with hj; rw [← hj]; exact hfb.2))
 have HB4:Hid (Below w.heap.size w w4):=Lib.hid (below_old HB3.out HB34.out)
 have HX4:=Lib.hid (HX3.out.below HB34.out HX3.out.lt)
 have hb4:Blk w4 g4 50 (fcC R x22):=b4
 have HO4:=Lib.hid hb4
 clear hfc hfb hg4 hs4 b4 hb4 hbo x0 x1 x15 x16 lx k0 k1 k2 k3 k4 k5 k6 k7 k8 k9 k10 k11 k12 lc
 refine g_tail_end ?_
 simp only [Act.put,List.setIfInBounds_toArray,List.set_cons_zero,List.set_cons_succ]
 obtain ⟨⟨A9,c9⟩,⟨A8,c8⟩⟩:=x22
 have y0:=HO4.out.cell 0; have y1:=HO4.out.cell 1; have y2:=HO4.out.cell 2
 have lo:=HO4.out.lt
 unfold fcC at y0 y1 y2 ⊢
 simp only [List.getElem?_toArray,List.getElem?_cons_succ,List.getElem?_cons_zero] at y0 y1 y2
 have x0:=HX4.out.cell 0; have lx:=HX4.out.lt
 unfold gvC at x0
 simp only [List.getElem?_toArray,List.getElem?_cons_zero] at x0
 obtain ⟨rc,hrc⟩:∃ x,x=R.code:=⟨_,rfl⟩
 obtain ⟨n9,hn9⟩:∃ x,x=R.lines.length:=⟨_,rfl⟩
 obtain ⟨n8,hn8⟩:∃ x,x=R.done.length:=⟨_,rfl⟩
 rw [← hrc] at y2; rw [← hn9] at y0; rw [← hn8] at y1
 rw [← hrc,← hn9,← hn8]
 have HRC:=Lib.hid hrc; have HN9:=Lib.hid hn9; have HN8:=Lib.hid hn8
 clear hrc hn9 hn8
 by_cases hok:rc=0∨rc=200
 ·have HD:Hid ((∀ d∈R.done,d.out=2∨d.out=3)∧R.lines=ls):=Lib.hid (HN.out.1 (by rw [← HRC.out]; exact hok))
  have e9:n9=n:=by rw [HN9.out,HD.out.2]; exact HL.out.1
  have R9:Row Shape.LineD w4 (Old w4) A9 n9 ls:=by
   have:=HF4.out.lines
   rw [← HN9.out,HD.out.2] at this
   exact this.more fun k hk=>hk.2
  have RX:Row Shape.LineD w4 (Old w4) A n9 ls:=by rw [e9]; exact HL.out.below HB4.out
  have SL:=Lib.hid (sameLines_eq (c:=c9) (c':=cn) w4 R9 RX HB.out.lines (by have:=HB.out.hn; omega))
  subst e9
  clear R9 RX
  have HR8:Hid (Row Shape.DoneD w4 (Old w4) A8 n8 R.done):=Lib.hid (by
   have:=HF4.out.done
   rw [← HN8.out] at this
   exact this.more fun k hk=>hk.2)
  have hn8m:n8≤9223372036854775807:=by have q:=HF4.out.c2; rw [← HN8.out] at q; have q2:maxLen=9223372036854775807:=rfl; omega
  have tt:(rc == 0)=true∨((rc == 0)=false∧(rc == 200)=true):=by
   rcases hok with h | h <;> subst h <;> simp
  clear hok
  have fin:∀ {Q:Prop},((rc == 0)=true→Q)→((rc == 0)=false→(rc == 200)=true→Q)→Q:=fun a b=>tt.elim a fun h=>b h.1 h.2
  clear tt
  refine fin (fun t1=>?_) (fun t1 t2=>?_) <;> clear fin
  all_goals
   go_wp2_with fail
   go_loopw [5] (fun v5 wr=>∃ k:Nat,k≤n8∧v5=.int .i64 k∧wr=w4) (fun v5 _=>n8 - (intOf v5).toNat)
   case atStart=>exact ⟨0,Nat.zero_le _,rfl,rfl⟩
   case round =>
    obtain ⟨k,hk,rfl,hw⟩:=hrel
    subst hw
    by_cases hlt:k<n8
    ·have hks:(k:Int)<n8:=by omega
     obtain ⟨b8,off8,es8,hl8,rfl,hb8,hc8,hd8⟩:=HR8.out.at_ hlt
     have ho:=HD.out.1 _ (List.getElem_mem hl8)
     have hd8:es8=[.string R.done[k].name,.int .i64 R.done[k].out,.int .i64 R.done[k].code]:=hd8
     subst hd8
     have e3:Shape.DoneD.size=3:=rfl
     have q1:=hc8 1 (by decide)
     simp only [e3,List.getElem?_cons_zero,List.getElem?_cons_succ] at q1
     obtain ⟨o,hoo⟩:∃ x,x=R.done[k].out:=⟨_,rfl⟩
     rw [← hoo] at q1 ho
     have lb8:b8<wr.heap.size:=hb8
     clear hoo hc8 e3 hb8 hd8
     rcases ho with rfl | rfl
     ·go_wp2_with fail
      go_roundw
      case rel=>exact ⟨k+1,by omega,by go_num,trivial⟩
      case measure=>simp [intOf]; omega
     ·go_wp2_with fail
      go_roundw
      case rel=>exact ⟨k+1,by omega,by go_num,trivial⟩
      case measure=>simp [intOf]; omega
    ·have hks:¬ (k:Int)<n8:=by omega
     go_wp2_with fail
     refine SL.out.mono ?_
     rintro e w5 ⟨rfl,δ5,rfl⟩
     go_wp2_with fail
     go_ret
     exact ⟨rfl,below_old HB4.out (below_over _ _)⟩
 ·have e0:n9=0:=by rw [HN9.out,HN.out.2 (by rw [← HRC.out]; exact hok)]; rfl
  have t1:(rc == 0)=false:=by simp; omega
  have t2:(rc == 200)=false:=by simp; omega
  subst e0
  clear hok
  go_wp2_with fail
  go_ret
  exact ⟨rfl,HB4.out⟩
end Go.Proofs.YtfhfcipelgogjaaGreatDoor
