/- extract.Decide, and that what it hands out is new. No condition but room and the variable MaxLen. -/
import Derived.Test.YtfhfcipelgogjaaGreatDoorPlanAll
set_option linter.unusedVariables false
set_option linter.unusedSimpArgs false
set_option maxHeartbeats 8000000
set_option maxRecDepth 100000
namespace Go.Proofs.YtfhfcipelgogjaaGreatDoor
open Go.RowKit
attribute [local go_sem] cell?_over frozen?_over lt_over le_over
theorem decideN (e:EntryD) (c:ConfigD) {A A1 A2:Option Addr} {n cd n1 c1 n2 c2:Nat} (w:World) (m:Int) (h:DecIn e c w A n A1 n1 A2 n2) (hm:w.cell? ⟨0,0,none⟩=some (.int .i64 m)) :
  Calls Tryz.prog 109 #[.agg (entC e A n cd),.agg (cfgC c A1 n1 c1 A2 n2 c2)] w (DecideEndN e c w):=by
 obtain ⟨PL,hPL⟩:∃ p,p=planOf e c:=⟨_,rfl⟩
 unfold DecideEndN
 rw [← hPL]
 unfold planOf at hPL
 unfold entC cfgC
 have H:=Lib.hid h
 have WL:Hid (0<w.heap.size):=Lib.hid (World.block_lt_of_cell? _ _ hm)
 have HM:Hid (∀ W,Below w.heap.size w W→W.cell? ⟨0,0,none⟩=some (.int .i64 m)):=Lib.hid fun W hb=>(hb.cell (p:=⟨0,0,none⟩) WL.out).trans hm
 clear h hm
 by_cases hk:e.kind<1∨4<e.kind
 ·rw [if_pos hk] at hPL
  subst hPL
  have fin:∀ w98,Below (w.heap.size+3) w w98→True:=fun _ _=>trivial
  by_cases h1:e.kind<1
  ·have t1:decide (e.kind<1)=true:=by simpa using h1
   clear h1 hk fin
   go_enter Tryz.func109,Tryz.ntmps109
   go_wp2_with fail
   refine (refusedA 230 _).mono ?_
   rintro e1 w1 ⟨rfl,hb⟩
   obtain ⟨bE,bC,bR,hbw,hsz⟩:=blks3 hb
   have HR:=Lib.hid bR; have HBW:=Lib.hid hbw
   clear bE bC bR hb hbw
   go_wp2_with ((with_reducible refine at_store (ty:=209) (x:=.tmp 4) (y:=.tmp 19) ?_ ?_); exact rfl; refine wpList_store_blk rfl 209 (.tmp 4) (.tmp 19) rfl _ rfl HR.out rfl (by kernel_rfl) rfl rfl ?_; intro w99 b99 g99)
   exact ret_blk rfl rfl b99 whole_plan rfl ⟨HBW.out.grown g99 (by omega) (fun j hj=>by cases hj; omega),_,rfl,refused_rdN _ _ _⟩
  ·have t1:decide (e.kind<1)=false:=by simpa using h1
   have t2:decide (e.kind>4)=true:=by simp; omega
   clear h1 hk fin
   go_enter Tryz.func109,Tryz.ntmps109
   go_wp2_with fail
   refine (refusedA 230 _).mono ?_
   rintro e1 w1 ⟨rfl,hb⟩
   obtain ⟨bE,bC,bR,hbw,hsz⟩:=blks3 hb
   have HR:=Lib.hid bR; have HBW:=Lib.hid hbw
   clear bE bC bR hb hbw
   go_wp2_with ((with_reducible refine at_store (ty:=209) (x:=.tmp 4) (y:=.tmp 19) ?_ ?_); exact rfl; refine wpList_store_blk rfl 209 (.tmp 4) (.tmp 19) rfl _ rfl HR.out rfl (by kernel_rfl) rfl rfl ?_; intro w99 b99 g99)
   exact ret_blk rfl rfl b99 whole_plan rfl ⟨HBW.out.grown g99 (by omega) (fun j hj=>by cases hj; omega),_,rfl,refused_rdN _ _ _⟩
 rw [if_neg hk] at hPL
 have t1:decide (e.kind<1)=false:=by simp; omega
 have t2:decide (e.kind>4)=false:=by simp; omega
 have HK:=Lib.hid hk
 have HS:=Lib.hid (fun w hm=>routeSplit e.name c.maxName c.maxDepth w m H.out.name hm)
 unfold RouteEnd at HS
 obtain ⟨R,hR⟩:∃ R,R=routeE e.name.data.toList c.maxName c.maxDepth:=⟨_,rfl⟩
 obtain ⟨P,hP⟩:∃ P,P=partsOf e.name.data.toList:=⟨_,rfl⟩
 obtain ⟨L,hL⟩:∃ L,L=leftOf e c:=⟨_,rfl⟩
 rw [← hR,← hP] at HS
 rw [← hR,← hP,← hL] at hPL
 have HL:Hid (L=P.drop c.strip.toNat):=Lib.hid (by rw [hL,hP]; rfl)
 have HLK:Hid (linkE e c=if e.kind=3 then symE (L.length - 1) e.link.data.toList c.links c.maxName else if e.kind=4 then hardE e.link.data.toList c.maxName c.maxDepth c.strip else 0):=Lib.hid (by rw [hL]; rfl)
 have HTOT:Hid (totL P≤100000001):=Lib.hid (by
  rw [hP]
  have h1:=tot_parts e.name.data.toList
  have h2:=H.out.name
  have h3:e.name.data.toList.length=e.name.size:=Lib.size_eq e.name |>.symm
  omega)
 have HPL:=Lib.hid hPL
 clear hPL hR hP hL hk
 go_enter Tryz.func109,Tryz.ntmps109
 go_wp2_with fail
 refine (HS.out _ (HM.out _ (by go_grown))).mono ?_
 rintro e1 w1 ⟨hb,hr⟩
 obtain ⟨bE,bC,bR,hbw,hsz⟩:=blks3 hb
 have BE:=Lib.hid bE; have BC:=Lib.hid bC; have BR:=Lib.hid bR; have HB:=Lib.hid hbw
 clear bE bC bR hb hbw HS
 rcases hr with ⟨hne,rfl⟩ | ⟨hz,A0,c0,hc0,rfl,hrow⟩
 ·have tR:(R != 0)=true:=by rw [bne_iff_ne]; exact hne
  have hE:=HPL.out
  rw [if_pos hne] at hE
  subst hE
  clear hne HPL
  go_wp2_with fail
  refine (refusedA _ _).mono ?_
  rintro e1 w98 ⟨rfl,hb98⟩
  have HR98:=Lib.hid (BR.out.below hb98 BR.out.lt)
  have HB98:=Lib.hid (below_old HB.out hb98)
  clear hb98
  go_wp2_with ((with_reducible refine at_store (ty:=209) (x:=.tmp 4) (y:=.tmp 33) ?_ ?_); exact rfl; refine wpList_store_blk rfl 209 (.tmp 4) (.tmp 33) rfl _ rfl HR98.out rfl (by kernel_rfl) rfl rfl ?_; intro w99 b99 g99)
  exact ret_blk rfl rfl b99 whole_plan rfl ⟨HB98.out.grown g99 HB98.out.size (fun j hj=>by cases hj; omega),_,rfl,refused_rdN _ _ _⟩
 subst hz
 have ROW:=Lib.hid hrow; have HC0:=Lib.hid hc0
 clear hrow hc0
 have hPL:=HPL.out
 rw [if_neg (fun h=>h rfl)] at hPL
 have HPL2:=Lib.hid hPL
 clear HPL hPL
 have hPn:P.length≤100000001:=by
  have h1:=HTOT.out
  have h2:∀ l:List (List UInt8),l.length≤totL l:=by
   intro l
   induction l with
   | nil=>simp
   | cons p l ih=>simp only [totL,List.length_cons]; omega
  have:=h2 P
  omega
 obtain ⟨JT,hJT⟩:∃ s,s=(⟨(joinP P).toArray⟩:ByteArray):=⟨_,rfl⟩
 have JS:JT.size≤100000000:=by
  have h1:=join_tot P
  have h2:=HTOT.out
  have h3:JT.size=(joinP P).length:=by rw [hJT]; rfl
  omega
 have JD:JT.data.toList=joinP P:=by rw [hJT]
 obtain ⟨CE,hCE⟩:∃ x,x=chosenE (bytesL c.include_) (bytesL c.exclude):=⟨_,rfl⟩
 obtain ⟨CV,hCV⟩:∃ x,x=chosenV (bytesL c.include_) (bytesL c.exclude) (joinP P):=⟨_,rfl⟩
 have l2:w.heap.size+1<w1.heap.size:=by omega
 have hJ:∀ δ,Calls Tryz.prog 112 #[.slice A0 P.length c0] (over w1 δ) fun e w'=>e=.returned (.string JT)∧∃ δ',w'=over w1 δ':=fun δ=>calls_over ((routeJoin (over w1 δ) (ROW.out.below (below_over w1 δ)) HC0.out HTOT.out).mono fun e w' h=>⟨by rw [h.1,hJT],_,over_of_below h.2⟩)
 have hC:∀ δ,Calls Tryz.prog 161 #[.slice A1 n1 c1,.slice A2 n2 c2,.string JT] (over w1 δ) fun e w'=>e=.returned (.tuple #[.bool CV,.int .i64 CE])∧∃ δ',w'=over w1 δ':=fun δ=>calls_over ((svChosen (c1:=c1) (c2:=c2) JT (over w1 δ) (H.out.below (below_trans_over HB.out HB.out.size δ)).inc (H.out.below (below_trans_over HB.out HB.out.size δ)).exc (by have:=H.out.ninc; omega) (by have:=H.out.nexc; omega) (by omega)).mono fun e w' h=>⟨by rw [h.1,JD,← hCE,← hCV],_,over_of_below h.2⟩)
 have hPL:=HPL2.out
 rw [← hCE,← hCV] at hPL
 have HPL3:=Lib.hid hPL
 clear hCE hCV hJT JS JD hPL HPL2
 have k11:=BC.out.cell 11; have k12:=BC.out.cell 12
 simp only [List.getElem?_toArray,List.getElem?_cons_succ,List.getElem?_cons_zero] at k11 k12
 go_wp2_with fail
 refine wp_region_over (by kernel_rfl) (by kernel_rfl) ?_
 repeat (go_big_quiet_step (first | (go_at_call 112; exact hJ _) | (go_at_call 161; exact hC _)))
 refine wpQuiet_nil ?_
 rintro _ ⟨δ,rfl⟩
 have BE2:=Lib.hid (BE.out.over_ δ); have BC2:=Lib.hid (BC.out.over_ δ); have BR2:=Lib.hid (BR.out.over_ δ)
 have HB2:=Lib.hid (below_trans_over HB.out HB.out.size δ)
 have ROW2:=Lib.hid (ROW.out.below (below_over w1 δ))
 have hsz2:w.heap.size+1+1+1≤(over w1 δ).heap.size:=Nat.le_trans hsz (below_over w1 δ).size
 clear k11 k12 hJ hC BE BC BR HB ROW hsz l2
 generalize over w1 δ=w2 at BE2 BC2 BR2 HB2 ROW2 hsz2 ⊢
 by_cases hce:CE≠0
 ·have tR:(CE != 0)=true:=by rw [bne_iff_ne]; exact hce
  have hE:=HPL3.out
  rw [if_pos hce] at hE
  subst hE
  clear hce HPL3
  go_wp2_with fail
  refine (refusedA _ _).mono ?_
  rintro e1 w98 ⟨rfl,hb98⟩
  have HR98:=Lib.hid (BR2.out.below hb98 BR2.out.lt)
  have HB98:=Lib.hid (below_old HB2.out hb98)
  clear hb98
  go_wp2_with ((with_reducible refine at_store (ty:=209) (x:=.tmp 4) (y:=.tmp 47) ?_ ?_); exact rfl; refine wpList_store_blk rfl 209 (.tmp 4) (.tmp 47) rfl _ rfl HR98.out rfl (by kernel_rfl) rfl rfl ?_; intro w99 b99 g99)
  exact ret_blk rfl rfl b99 whole_plan rfl ⟨HB98.out.grown g99 HB98.out.size (fun j hj=>by cases hj; omega),_,rfl,refused_rdN _ _ _⟩
 have hce0:CE=0:=Classical.byContradiction hce
 subst hce0
 have hPL:=HPL3.out
 rw [if_neg hce] at hPL
 have HPL4:=Lib.hid hPL
 clear hce HPL3 hPL
 have k5:=BC2.out.cell 5
 simp only [List.getElem?_toArray,List.getElem?_cons_succ,List.getElem?_cons_zero] at k5
 have hms:P.length≤1000000000:=by omega
 have HST:=Lib.hid (routeStrip (c:=c0) c.strip w2 ROW2.out hms HC0.out)
 go_wp2_with fail
 refine HST.out.mono ?_
 rintro e1 w3 ⟨hb3,hst⟩
 have BE3:=Lib.hid (BE2.out.below hb3 BE2.out.lt); have BC3:=Lib.hid (BC2.out.below hb3 BC2.out.lt); have BR3:=Lib.hid (BR2.out.below hb3 BR2.out.lt)
 have HB3:=Lib.hid (below_old HB2.out hb3)
 have hsz3:w.heap.size+1+1+1≤w3.heap.size:=Nat.le_trans hsz2 hb3.size
 clear hb3 BE2 BC2 BR2 HB2 ROW2 k5 HST
 rcases hst with ⟨hs1,hs2,rfl⟩ | ⟨hs1,v,rfl,hv⟩
 ·have hE:=HPL4.out
  rw [if_pos (.inr ⟨hs1,by simpa using hs2⟩)] at hE
  subst hE
  clear hs1 hs2 HPL4
  cases CV <;> (
   go_wp2_with ((with_reducible refine at_store (ty:=209) (x:=.tmp 4) (y:=.tmp 61) ?_ ?_); exact rfl; refine wpList_store_blk rfl 209 (.tmp 4) (.tmp 61) rfl _ rfl BR3.out rfl (by kernel_rfl) rfl rfl ?_; intro w99 b99 g99)
   exact ret_blk rfl rfl b99 whole_plan rfl ⟨HB3.out.grown g99 HB3.out.size (fun j hj=>by cases hj; omega),_,rfl,nilS,nilS,nilS,rfl,textsM_nil _ _,textsM_nil _ _,bytesM_nil _ _⟩)
 rw [← List.map_drop,← HL.out] at hv
 have hs3:¬ (0<c.strip∧(P.length:Int)≤c.strip):=by simpa using hs1
 have HV:=Lib.hid hv
 clear hv hs1
 cases CV with
 | false =>
  have hE:=HPL4.out
  rw [if_pos (.inl rfl)] at hE
  subst hE
  clear HPL4 hs3
  go_wp2_with ((with_reducible refine at_store (ty:=209) (x:=.tmp 4) (y:=.tmp 61) ?_ ?_); exact rfl; refine wpList_store_blk rfl 209 (.tmp 4) (.tmp 61) rfl _ rfl BR3.out rfl (by kernel_rfl) rfl rfl ?_; intro w99 b99 g99)
  exact ret_blk rfl rfl b99 whole_plan rfl ⟨HB3.out.grown g99 HB3.out.size (fun j hj=>by cases hj; omega),_,rfl,nilS,nilS,nilS,rfl,textsM_nil _ _,textsM_nil _ _,bytesM_nil _ _⟩
 | true =>
  have hPL:=HPL4.out
  rw [if_neg (by rintro (h | h); cases h; exact hs3 h)] at hPL
  have HPL5:=Lib.hid hPL
  clear HPL4 hPL hs3
  obtain ⟨A4,c4,hc4,rfl,hrow4⟩:=HV.out
  rw [List.length_map] at hc4 hrow4
  rw [List.length_map]
  obtain ⟨n4,hn4⟩:∃ x,x=L.length:=⟨_,rfl⟩
  rw [← hn4] at hc4 hrow4 ⊢
  have ROW4:=Lib.hid hrow4; have HC4:=Lib.hid hc4; have HN4:=Lib.hid hn4
  clear hrow4 hc4 hn4
  have k0:=BE3.out.cell 0; have k4:=BE3.out.cell 4; have k5:=BE3.out.cell 5; have k8:=BE3.out.cell 8; have k9:=BE3.out.cell 9
  have q7:=BC3.out.cell 7; have q10:=BC3.out.cell 10
  simp only [List.getElem?_toArray,List.getElem?_cons_succ,List.getElem?_cons_zero] at k0 k4 k5 k8 k9 q7 q10
  go_wp2_with ((with_reducible refine at_store (ty:=207) (x:=.tmp 10) (y:=.tmp 75) ?_ ?_); exact rfl; refine wpList_store_blk rfl 207 (.tmp 10) (.tmp 75) rfl _ rfl (Blk.new w3 207 zeroJob) rfl (by kernel_rfl) rfl rfl ?_; intro w4 b4 g4; refine StopT.mk ?_)
  have hb4:Below w3.heap.size w3 w4:=((Below.refl _ _).alloc (Nat.le_refl _) _).grown g4 (by simp) (fun j hj=>by cases hj; exact Nat.le_refl _)
  have BJ4:Hid (Blk w4 w3.heap.size 207 #[.int .i64 e.kind,.slice A4 n4 c4,nilS,.string ⟨#[]⟩,nilS,.int .i64 0,.int .i64 e.uid,.int .i64 e.gid,.int .i64 e.mtime.sec,.int .i64 e.mtime.nano,.int .i64 0,.int .i64 c.replace,.bool c.keepIds]):=Lib.hid b4
  have BE4:=Lib.hid (BE3.out.below hb4 BE3.out.lt); have BC4:=Lib.hid (BC3.out.below hb4 BC3.out.lt); have BR4:=Lib.hid (BR3.out.below hb4 BR3.out.lt)
  have HB4:=Lib.hid (below_old HB3.out hb4)
  have ROW5:Hid (Row Shape.str w4 (fun b=>w2.heap.size≤b∧b<w3.heap.size) A4 n4 (textsL L)):=Lib.hid (ROW4.out.keep (fun b hb=>hb4.block b hb.2))
  have hsz4:w3.heap.size+1≤w4.heap.size:=by have:=g4.size; simpa using this
  obtain ⟨J,hJ⟩:∃ J,J=w3.heap.size:=⟨_,rfl⟩
  have hJ3:w.heap.size+1+1+1≤J:=by omega
  rw [← hJ] at BJ4 hsz4 ROW5
  unfold StopT
  rw [← hJ]
  clear b4 g4 hb4 BE3 BC3 BR3 HB3 ROW4 k0 k4 k5 k8 k9 q7 q10 hJ hsz3 HV
  have k0:=BE4.out.cell 0
  simp only [List.getElem?_toArray,List.getElem?_cons_succ,List.getElem?_cons_zero] at k0
  by_cases hl0:L=[]∧e.kind≠2
  ·have hE:=HPL5.out
   rw [if_pos hl0] at hE
   subst hE
   have t7:n4=0:=by rw [HN4.out,hl0.1]; rfl
   subst t7
   have t8:(e.kind != 2)=true:=by rw [bne_iff_ne]; exact hl0.2
   clear hl0 HPL5
   go_wp2_with fail
   refine (refusedA _ _).mono ?_
   rintro e1 w98 ⟨rfl,hb98⟩
   have HR98:=Lib.hid (BR4.out.below hb98 BR4.out.lt)
   have HB98:=Lib.hid (below_old HB4.out hb98)
   clear hb98
   go_wp2_with ((with_reducible refine at_store (ty:=209) (x:=.tmp 4) (y:=.tmp 84) ?_ ?_); exact rfl; refine wpList_store_blk rfl 209 (.tmp 4) (.tmp 84) rfl _ rfl HR98.out rfl (by kernel_rfl) rfl rfl ?_; intro w99 b99 g99)
   exact ret_blk rfl rfl b99 whole_plan rfl ⟨HB98.out.grown g99 HB98.out.size (fun j hj=>by cases hj; omega),_,rfl,refused_rdN _ _ _⟩
  have hPL:=HPL5.out
  rw [if_neg hl0] at hPL
  have HPL6:=Lib.hid hPL
  have HL0:=Lib.hid hl0
  clear hPL HPL5 hl0
  have hkk:e.kind=1∨e.kind=2∨e.kind=3∨e.kind=4:=by have:=HK.out; omega
  rcases hkk with hke | hke | hke | hke
  ·have hE:=HPL6.out
   rw [if_neg (by rw [HLK.out,if_neg (by omega),if_neg (by omega)]; exact fun h=>h rfl),if_neg (by omega),if_neg (by omega),if_pos hke] at hE
   rw [hke] at hE BJ4
   have HE:=Lib.hid hE
   clear hE HPL6
   rw [hke] at k0
   have tk:(e.kind != 2)=true:=by rw [hke]; rfl
   have t6:((n4:Int) == 0)=false:=by rw [beq_eq_false_iff_ne]; intro h; exact HL0.out ⟨List.eq_nil_of_length_eq_zero (by rw [← HN4.out]; omega),by omega⟩
   have t7:¬ n4=0:=by intro h; exact HL0.out ⟨List.eq_nil_of_length_eq_zero (by rw [← HN4.out]; omega),by omega⟩
   have k10:=BE4.out.cell 10
   have j4:=BJ4.out.cell 4
   have jf4:=BJ4.out.frozen 4
   simp only [List.getElem?_toArray,List.getElem?_cons_succ,List.getElem?_cons_zero] at k10 j4
   go_wp2_with fail
   refine (cloneB (c:=cd) _ (H.out.below HB4.out).data (by have:=H.out.ndata; omega)).mono ?_
   rintro e1 w5 ⟨v5,rfl,hown,hb⟩
   obtain ⟨A6,n6,c6,rfl,hnc6,_,hrow6⟩:=hown.rd_new (w:=w4) (Nat.le_refl _) (fun _ h=>h.elim)
   have BE5:=Lib.hid (BE4.out.below hb BE4.out.lt); have BC5:=Lib.hid (BC4.out.below hb BC4.out.lt); have BR5:=Lib.hid (BR4.out.below hb BR4.out.lt); have BJ5:=Lib.hid (BJ4.out.below hb BJ4.out.lt)
   have HB5:=Lib.hid (below_old HB4.out hb)
   have hs45:=hb.size
   have ROW6:Hid (Row Shape.str w5 (fun b=>w2.heap.size≤b∧b<J) A4 n4 (textsL L)):=Lib.hid (ROW5.out.keep fun b hb'=>hb.block b (by have:=hb'.2; omega))
   have ROWD:=Lib.hid hrow6; have HND:=Lib.hid hnc6
   clear hown hrow6 hnc6 hb k10 j4 jf4
   have k3:=BE5.out.cell 3
   have q8:=BC5.out.cell 8
   have q9:=BC5.out.cell 9
   have j4:=BJ5.out.cell 4
   have jf4:=BJ5.out.frozen 4
   have j5:=BJ5.out.cell 5
   have jf5:=BJ5.out.frozen 5
   simp only [List.getElem?_toArray,List.getElem?_cons_succ,List.getElem?_cons_zero] at k3 q8 q9 j4 j5
   have lJ:=BJ5.out.lt
   go_wp2_with fail
   have BJ6:Hid (Blk (w5.setCell ⟨J,4,none⟩ (.slice A6 n6 c6)) J 207 #[.int .i64 1,.slice A4 n4 c4,nilS,.string ⟨#[]⟩,.slice A6 n6 c6,.int .i64 0,.int .i64 e.uid,.int .i64 e.gid,.int .i64 e.mtime.sec,.int .i64 e.mtime.nano,.int .i64 0,.int .i64 c.replace,.bool c.keepIds]):=Lib.hid ((BJ5.out.set_ 4 _).to rfl)
   have BE6:=Lib.hid (BE5.out.far (p:=⟨J,4,none⟩) (show w.heap.size≠J by omega) (.slice A6 n6 c6))
   have BC6:=Lib.hid (BC5.out.far (p:=⟨J,4,none⟩) (show w.heap.size+1≠J by omega) (.slice A6 n6 c6))
   have BR6:=Lib.hid (BR5.out.far (p:=⟨J,4,none⟩) (show w.heap.size+1+1≠J by omega) (.slice A6 n6 c6))
   have KP6:Hid (Turned J w5 (w5.setCell ⟨J,4,none⟩ (.slice A6 n6 c6))):=Lib.hid (turned_cell _ _ _ _)
   clear k3 q8 q9 j4 j5 jf4 jf5 lJ
   generalize w5.setCell ⟨J,4,none⟩ (.slice A6 n6 c6)=w6 at BE6 BC6 BR6 BJ6 KP6 ⊢
   have hs56:=KP6.out.size
   have HB6:=Lib.hid (HB5.out.trans (KP6.out.below (by omega)))
   have HPARTS:Hid (TextsM w6 (Mid (w.heap.size+1+1+1) J w6) (.slice A4 n4 c4) (textsL L)):=Lib.hid (parts_mid (ROW6.out.keep fun b hb'=>KP6.out.block b (by have:=hb'.2; omega)) HC4.out HN4.out hsz2 (by omega))
   have HFROM:Hid (TextsM w6 (Mid (w.heap.size+1+1+1) J w6) nilS []):=Lib.hid (textsM_nil _ _)
   have HDATA:Hid (BytesM w6 (Mid (w.heap.size+1+1+1) J w6) (.slice A6 n6 c6) e.data):=Lib.hid (data_mid ROWD.out HND.out KP6.out (by omega) (by omega))
   clear BE4 BC4 BR4 BJ4 HB4 BE5 BC5 BR5 BJ5 HB5 ROW6 ROWD KP6
   clear k0
   have q8:=BC6.out.cell 8
   have j5:=BJ6.out.cell 5
   have jf5:=BJ6.out.frozen 5
   simp only [List.getElem?_toArray,List.getElem?_cons_succ,List.getElem?_cons_zero] at q8 j5
   have lJ:=BJ6.out.lt
   refine (permsSettle e.mode c.umask c.keepSetid _).mono ?_
   rintro e1 w90 ⟨rfl,hw⟩
   rw [hw]; clear hw
   go_wp2_with fail
   have BJT:Hid (Blk (w6.setCell ⟨J,5,none⟩ (.int .i64 (settleV e.mode c.umask c.keepSetid))) J 207 #[.int .i64 1,.slice A4 n4 c4,nilS,.string ⟨#[]⟩,.slice A6 n6 c6,.int .i64 (settleV e.mode c.umask c.keepSetid),.int .i64 e.uid,.int .i64 e.gid,.int .i64 e.mtime.sec,.int .i64 e.mtime.nano,.int .i64 0,.int .i64 c.replace,.bool c.keepIds]):=Lib.hid ((BJ6.out.set_ 5 _).to rfl)
   have BCT:=Lib.hid (BC6.out.far (p:=⟨J,5,none⟩) (show w.heap.size+1≠J by omega) (.int .i64 (settleV e.mode c.umask c.keepSetid)))
   have BRT:=Lib.hid (BR6.out.far (p:=⟨J,5,none⟩) (show w.heap.size+1+1≠J by omega) (.int .i64 (settleV e.mode c.umask c.keepSetid)))
   have KPT:Hid (Turned J w6 (w6.setCell ⟨J,5,none⟩ (.int .i64 (settleV e.mode c.umask c.keepSetid)))):=Lib.hid (turned_cell _ _ _ _)
   clear q8 j5 jf5 lJ
   generalize w6.setCell ⟨J,5,none⟩ (.int .i64 (settleV e.mode c.umask c.keepSetid))=w91 at BJT BCT BRT KPT ⊢
   have q8:=BCT.out.cell 8
   have j10:=BJT.out.cell 10
   have jf10:=BJT.out.frozen 10
   simp only [List.getElem?_toArray,List.getElem?_cons_succ,List.getElem?_cons_zero] at q8 j10
   have lJ:=BJT.out.lt
   refine (permsSettle 493 c.umask false _).mono ?_
   rintro e1 w92 ⟨rfl,hw⟩
   rw [hw]; clear hw
   have BJU:Hid (Blk (w91.setCell ⟨J,10,none⟩ (.int .i64 (bits .or .i64 (settleV 493 c.umask false) 448))) J 207 #[.int .i64 1,.slice A4 n4 c4,nilS,.string ⟨#[]⟩,.slice A6 n6 c6,.int .i64 (settleV e.mode c.umask c.keepSetid),.int .i64 e.uid,.int .i64 e.gid,.int .i64 e.mtime.sec,.int .i64 e.mtime.nano,.int .i64 (bits .or .i64 (settleV 493 c.umask false) 448),.int .i64 c.replace,.bool c.keepIds]):=Lib.hid ((BJT.out.set_ 10 _).to rfl)
   have BRU:=Lib.hid (BRT.out.far (p:=⟨J,10,none⟩) (show w.heap.size+1+1≠J by omega) (.int .i64 (bits .or .i64 (settleV 493 c.umask false) 448)))
   have KPU:Hid (Turned J w6 (w91.setCell ⟨J,10,none⟩ (.int .i64 (bits .or .i64 (settleV 493 c.umask false) 448)))):=Lib.hid (KPT.out.trans (turned_cell _ _ _ _))
   go_wp2_with (first
    | ((with_reducible refine at_load (ty:=207) (x:=.tmp 10) ?_ ?_); exact rfl; refine wpList_load_blk rfl 207 (.tmp 10) rfl J rfl BJU.out whole_job ?_)
    | ((with_reducible refine at_store (ty:=209) (x:=.tmp 4) (y:=.tmp 146) ?_ ?_); exact rfl; refine wpList_store_blk rfl 209 (.tmp 4) (.tmp 146) rfl _ rfl BRU.out rfl (by kernel_rfl) rfl rfl ?_; intro w99 b99 g99))
   exact ret_blk rfl rfl b99 whole_plan rfl (decide_endN HB6.out KPU.out g99 (by omega) HE.out.symm rfl HPARTS.out HFROM.out HDATA.out)
  ·have hE:=HPL6.out
   rw [if_neg (by rw [HLK.out,if_neg (by omega),if_neg (by omega)]; exact fun h=>h rfl),if_neg (by omega),if_neg (by omega),if_neg (by omega)] at hE
   rw [hke] at hE BJ4
   have HE:=Lib.hid hE
   clear hE HPL6
   rw [hke] at k0
   have tk:(e.kind != 2)=false:=by rw [hke]; rfl
   have HFROM:Hid (TextsM w4 (Mid (w.heap.size+1+1+1) J w4) nilS []):=Lib.hid (textsM_nil _ _)
   have HDATA:Hid (BytesM w4 (Mid (w.heap.size+1+1+1) J w4) nilS []):=Lib.hid (bytesM_nil _ _)
   have HPARTS:Hid (TextsM w4 (Mid (w.heap.size+1+1+1) J w4) (.slice A4 n4 c4) (textsL L)):=Lib.hid (parts_mid ROW5.out HC4.out HN4.out hsz2 (by omega))
   rcases Nat.eq_zero_or_pos n4 with hz | hz
   ·subst hz
    have k3:=BE4.out.cell 3
    have q8:=BC4.out.cell 8
    have q9:=BC4.out.cell 9
    have j5:=BJ4.out.cell 5
    have jf5:=BJ4.out.frozen 5
    simp only [List.getElem?_toArray,List.getElem?_cons_succ,List.getElem?_cons_zero] at k3 q8 q9 j5
    go_wp2_with fail
    clear k3 q8 q9 j5 jf5 k0
    have q8:=BC4.out.cell 8
    have j5:=BJ4.out.cell 5
    have jf5:=BJ4.out.frozen 5
    simp only [List.getElem?_toArray,List.getElem?_cons_succ,List.getElem?_cons_zero] at q8 j5
    have lJ:=BJ4.out.lt
    refine (permsSettle e.mode c.umask c.keepSetid _).mono ?_
    rintro e1 w90 ⟨rfl,hw⟩
    rw [hw]; clear hw
    go_wp2_with fail
    have BJT:Hid (Blk (w4.setCell ⟨J,5,none⟩ (.int .i64 (settleV e.mode c.umask c.keepSetid))) J 207 #[.int .i64 2,.slice A4 0 c4,nilS,.string ⟨#[]⟩,nilS,.int .i64 (settleV e.mode c.umask c.keepSetid),.int .i64 e.uid,.int .i64 e.gid,.int .i64 e.mtime.sec,.int .i64 e.mtime.nano,.int .i64 0,.int .i64 c.replace,.bool c.keepIds]):=Lib.hid ((BJ4.out.set_ 5 _).to rfl)
    have BCT:=Lib.hid (BC4.out.far (p:=⟨J,5,none⟩) (show w.heap.size+1≠J by omega) (.int .i64 (settleV e.mode c.umask c.keepSetid)))
    have BRT:=Lib.hid (BR4.out.far (p:=⟨J,5,none⟩) (show w.heap.size+1+1≠J by omega) (.int .i64 (settleV e.mode c.umask c.keepSetid)))
    have KPT:Hid (Turned J w4 (w4.setCell ⟨J,5,none⟩ (.int .i64 (settleV e.mode c.umask c.keepSetid)))):=Lib.hid (turned_cell _ _ _ _)
    clear q8 j5 jf5 lJ
    generalize w4.setCell ⟨J,5,none⟩ (.int .i64 (settleV e.mode c.umask c.keepSetid))=w91 at BJT BCT BRT KPT ⊢
    have q8:=BCT.out.cell 8
    have j10:=BJT.out.cell 10
    have jf10:=BJT.out.frozen 10
    simp only [List.getElem?_toArray,List.getElem?_cons_succ,List.getElem?_cons_zero] at q8 j10
    have lJ:=BJT.out.lt
    refine (permsSettle 493 c.umask false _).mono ?_
    rintro e1 w92 ⟨rfl,hw⟩
    rw [hw]; clear hw
    have BJU:Hid (Blk (w91.setCell ⟨J,10,none⟩ (.int .i64 (bits .or .i64 (settleV 493 c.umask false) 448))) J 207 #[.int .i64 2,.slice A4 0 c4,nilS,.string ⟨#[]⟩,nilS,.int .i64 (settleV e.mode c.umask c.keepSetid),.int .i64 e.uid,.int .i64 e.gid,.int .i64 e.mtime.sec,.int .i64 e.mtime.nano,.int .i64 (bits .or .i64 (settleV 493 c.umask false) 448),.int .i64 c.replace,.bool c.keepIds]):=Lib.hid ((BJT.out.set_ 10 _).to rfl)
    have BRU:=Lib.hid (BRT.out.far (p:=⟨J,10,none⟩) (show w.heap.size+1+1≠J by omega) (.int .i64 (bits .or .i64 (settleV 493 c.umask false) 448)))
    have KPU:Hid (Turned J w4 (w91.setCell ⟨J,10,none⟩ (.int .i64 (bits .or .i64 (settleV 493 c.umask false) 448)))):=Lib.hid (KPT.out.trans (turned_cell _ _ _ _))
    go_wp2_with (first
     | ((with_reducible refine at_load (ty:=207) (x:=.tmp 10) ?_ ?_); exact rfl; refine wpList_load_blk rfl 207 (.tmp 10) rfl J rfl BJU.out whole_job ?_)
     | ((with_reducible refine at_store (ty:=209) (x:=.tmp 4) (y:=.tmp 146) ?_ ?_); exact rfl; refine wpList_store_blk rfl 209 (.tmp 4) (.tmp 146) rfl _ rfl BRU.out rfl (by kernel_rfl) rfl rfl ?_; intro w99 b99 g99))
    exact ret_blk rfl rfl b99 whole_plan rfl (decide_endN HB4.out KPU.out g99 (by omega) HE.out.symm rfl HPARTS.out HFROM.out HDATA.out)
   ·have t6:((n4:Int) == 0)=false:=by rw [beq_eq_false_iff_ne]; omega
    have t7:¬ n4=0:=by omega
    have k3:=BE4.out.cell 3
    have q8:=BC4.out.cell 8
    have q9:=BC4.out.cell 9
    have j5:=BJ4.out.cell 5
    have jf5:=BJ4.out.frozen 5
    simp only [List.getElem?_toArray,List.getElem?_cons_succ,List.getElem?_cons_zero] at k3 q8 q9 j5
    go_wp2_with fail
    clear k3 q8 q9 j5 jf5 k0
    have q8:=BC4.out.cell 8
    have j5:=BJ4.out.cell 5
    have jf5:=BJ4.out.frozen 5
    simp only [List.getElem?_toArray,List.getElem?_cons_succ,List.getElem?_cons_zero] at q8 j5
    have lJ:=BJ4.out.lt
    refine (permsSettle e.mode c.umask c.keepSetid _).mono ?_
    rintro e1 w90 ⟨rfl,hw⟩
    rw [hw]; clear hw
    go_wp2_with fail
    have BJT:Hid (Blk (w4.setCell ⟨J,5,none⟩ (.int .i64 (settleV e.mode c.umask c.keepSetid))) J 207 #[.int .i64 2,.slice A4 n4 c4,nilS,.string ⟨#[]⟩,nilS,.int .i64 (settleV e.mode c.umask c.keepSetid),.int .i64 e.uid,.int .i64 e.gid,.int .i64 e.mtime.sec,.int .i64 e.mtime.nano,.int .i64 0,.int .i64 c.replace,.bool c.keepIds]):=Lib.hid ((BJ4.out.set_ 5 _).to rfl)
    have BCT:=Lib.hid (BC4.out.far (p:=⟨J,5,none⟩) (show w.heap.size+1≠J by omega) (.int .i64 (settleV e.mode c.umask c.keepSetid)))
    have BRT:=Lib.hid (BR4.out.far (p:=⟨J,5,none⟩) (show w.heap.size+1+1≠J by omega) (.int .i64 (settleV e.mode c.umask c.keepSetid)))
    have KPT:Hid (Turned J w4 (w4.setCell ⟨J,5,none⟩ (.int .i64 (settleV e.mode c.umask c.keepSetid)))):=Lib.hid (turned_cell _ _ _ _)
    clear q8 j5 jf5 lJ
    generalize w4.setCell ⟨J,5,none⟩ (.int .i64 (settleV e.mode c.umask c.keepSetid))=w91 at BJT BCT BRT KPT ⊢
    have q8:=BCT.out.cell 8
    have j10:=BJT.out.cell 10
    have jf10:=BJT.out.frozen 10
    simp only [List.getElem?_toArray,List.getElem?_cons_succ,List.getElem?_cons_zero] at q8 j10
    have lJ:=BJT.out.lt
    refine (permsSettle 493 c.umask false _).mono ?_
    rintro e1 w92 ⟨rfl,hw⟩
    rw [hw]; clear hw
    have BJU:Hid (Blk (w91.setCell ⟨J,10,none⟩ (.int .i64 (bits .or .i64 (settleV 493 c.umask false) 448))) J 207 #[.int .i64 2,.slice A4 n4 c4,nilS,.string ⟨#[]⟩,nilS,.int .i64 (settleV e.mode c.umask c.keepSetid),.int .i64 e.uid,.int .i64 e.gid,.int .i64 e.mtime.sec,.int .i64 e.mtime.nano,.int .i64 (bits .or .i64 (settleV 493 c.umask false) 448),.int .i64 c.replace,.bool c.keepIds]):=Lib.hid ((BJT.out.set_ 10 _).to rfl)
    have BRU:=Lib.hid (BRT.out.far (p:=⟨J,10,none⟩) (show w.heap.size+1+1≠J by omega) (.int .i64 (bits .or .i64 (settleV 493 c.umask false) 448)))
    have KPU:Hid (Turned J w4 (w91.setCell ⟨J,10,none⟩ (.int .i64 (bits .or .i64 (settleV 493 c.umask false) 448)))):=Lib.hid (KPT.out.trans (turned_cell _ _ _ _))
    go_wp2_with (first
     | ((with_reducible refine at_load (ty:=207) (x:=.tmp 10) ?_ ?_); exact rfl; refine wpList_load_blk rfl 207 (.tmp 10) rfl J rfl BJU.out whole_job ?_)
     | ((with_reducible refine at_store (ty:=209) (x:=.tmp 4) (y:=.tmp 146) ?_ ?_); exact rfl; refine wpList_store_blk rfl 209 (.tmp 4) (.tmp 146) rfl _ rfl BRU.out rfl (by kernel_rfl) rfl rfl ?_; intro w99 b99 g99))
    exact ret_blk rfl rfl b99 whole_plan rfl (decide_endN HB4.out KPU.out g99 (by omega) HE.out.symm rfl HPARTS.out HFROM.out HDATA.out)
  ·have hLK:=HLK.out
   rw [if_pos hke] at hLK
   obtain ⟨E,hEE⟩:∃ x,x=linkE e c:=⟨_,rfl⟩
   have hE:=HPL6.out
   rw [← hEE] at hE hLK
   have HE6:=Lib.hid hE; have HLK6:=Lib.hid hLK
   clear hE hLK hEE HPL6
   rw [hke] at BJ4 k0
   have tk:(e.kind != 2)=true:=by rw [hke]; rfl
   have t6:((n4:Int) == 0)=false:=by rw [beq_eq_false_iff_ne]; intro h; exact HL0.out ⟨List.eq_nil_of_length_eq_zero (by rw [← HN4.out]; omega),by omega⟩
   have t7:¬ n4=0:=by intro h; exact HL0.out ⟨List.eq_nil_of_length_eq_zero (by rw [← HN4.out]; omega),by omega⟩
   obtain ⟨b4,off4,hA4,_⟩:=ROW5.out.2 (by omega)
   subst hA4
   have k2:=BE4.out.cell 2
   have q3:=BC4.out.cell 3
   have q6:=BC4.out.cell 6
   simp only [List.getElem?_toArray,List.getElem?_cons_succ,List.getElem?_cons_zero] at k2 q3 q6
   have HPAR:Hid (Row Shape.str w4 (Old w4) (some ⟨b4,off4,none⟩) (n4 - 1) ((textsL L).take (n4 - 1))):=Lib.hid ((rowTake ROW5.out (by omega)).more fun b hb=>by show b<w4.heap.size; have:=hb.2; omega)
   have hz4:n4≤200000000:=by
    have h1:=ROW5.out.1
    have h2:(textsL L).length=L.length:=List.length_map _
    have h3:L.length≤P.length:=by rw [HL.out,List.length_drop]; omega
    omega
   obtain ⟨k4,hk4⟩:∃ k,k=n4 - 1:=⟨_,rfl⟩
   rw [← hk4] at HPAR
   have nn4:((n4:Int) - 1)=(k4:Int):=by omega
   have hcap:(k4:Int)≤(c4:Int):=by have:=HC4.out; omega
   have hw4:IntKind.i64.wrap (k4:Int)=k4:=by rw [IntKind.wrap_i64]; omega
   have HK4:=Lib.hid hk4
   clear hk4
   have lE4:=BE4.out.lt; have lC4:=BC4.out.lt
   go_wp2_with fail
   refine wp_region_grow [(11,madeSym E)] (by kernel_rfl) (by kernel_rfl) (stays_cons (p:=(11,madeSym E)) (fun _ _ _ _ _=>trivial) stays_nil) ?_
   repeat (first
     | (refine g_w rfl ?_ (fun W=>?_) ?_; rotate_left; (focus (go_simp; (try with_reducible rfl); done)); simp only [Act.put,List.setIfInBounds_toArray,List.set_cons_zero,List.set_cons_succ])
     | (refine g_d rfl (by kernel_rfl) ?_ (fun δ=>?_) ?_; rotate_left; (focus (go_simp; (try with_reducible rfl); done)); simp only [Act.put,List.setIfInBounds_toArray,List.set_cons_zero,List.set_cons_succ]))
   refine g_call rfl ?_ ?_ (fun W=>?_) ?_ ?_
   rotate_left 2
   ·go_simp; (constructor <;> with_reducible rfl)
   ·intro δ hF
    refine (targetSym e.link c.links c.maxName _ m (HPAR.out.below (below_over _ _)) (by have:=HK4.out; omega) H.out.link (HM.out _ (below_trans_over HB4.out HB4.out.size _))).mono ?_
    rintro en u4 ⟨hbu,v,rfl⟩
    exact ⟨v,by rw [HLK6.out,HK4.out,HN4.out]; rfl,hbu,trivial⟩
   intro (v5:Value)
   simp only [enc_sym,Act.put,List.setIfInBounds_toArray,List.set_cons_zero,List.set_cons_succ]
   repeat (first
     | (refine g_w rfl ?_ (fun W=>?_) ?_; rotate_left; (focus (go_simp; (try with_reducible rfl); done)); simp only [Act.put,List.setIfInBounds_toArray,List.set_cons_zero,List.set_cons_succ])
     | (refine g_d rfl (by kernel_rfl) ?_ (fun δ=>?_) ?_; rotate_left; (focus (go_simp; (try with_reducible rfl); done)); simp only [Act.put,List.setIfInBounds_toArray,List.set_cons_zero,List.set_cons_succ]))
   refine g_end fun δ _=>?_
   have hb:Below w4.heap.size w4 (over w4 δ):=below_over w4 δ
   have BE5:=Lib.hid (BE4.out.below hb BE4.out.lt); have BC5:=Lib.hid (BC4.out.below hb BC4.out.lt); have BR5:=Lib.hid (BR4.out.below hb BR4.out.lt); have BJ5:=Lib.hid (BJ4.out.below hb BJ4.out.lt)
   have HB5:=Lib.hid (below_old HB4.out hb)
   have hs45:=hb.size
   have ROW6:Hid (Row Shape.str (over w4 δ) (fun b=>w2.heap.size≤b∧b<J) (some ⟨b4,off4,none⟩) n4 (textsL L)):=Lib.hid (ROW5.out.keep fun b hb'=>hb.block b (by have:=hb'.2; omega))
   clear hb HPAR k2 q3 q6
   generalize over w4 δ=w5 at BE5 BC5 BR5 BJ5 HB5 hs45 ROW6 ⊢
   have k2:=BE5.out.cell 2
   have k3:=BE5.out.cell 3
   have q8:=BC5.out.cell 8
   have q9:=BC5.out.cell 9
   have j3:=BJ5.out.cell 3
   have jf3:=BJ5.out.frozen 3
   have j5:=BJ5.out.cell 5
   have jf5:=BJ5.out.frozen 5
   simp only [List.getElem?_toArray,List.getElem?_cons_succ,List.getElem?_cons_zero] at k2 k3 q8 q9 j3 j5
   have lJ:=BJ5.out.lt
   have BJ6:Hid (Blk (w5.setCell ⟨J,3,none⟩ (.string e.link)) J 207 #[.int .i64 3,.slice (some ⟨b4,off4,none⟩) n4 c4,nilS,.string e.link,nilS,.int .i64 0,.int .i64 e.uid,.int .i64 e.gid,.int .i64 e.mtime.sec,.int .i64 e.mtime.nano,.int .i64 0,.int .i64 c.replace,.bool c.keepIds]):=Lib.hid ((BJ5.out.set_ 3 _).to rfl)
   have BE6:=Lib.hid (BE5.out.far (p:=⟨J,3,none⟩) (show w.heap.size≠J by omega) (.string e.link))
   have BC6:=Lib.hid (BC5.out.far (p:=⟨J,3,none⟩) (show w.heap.size+1≠J by omega) (.string e.link))
   have BR6:=Lib.hid (BR5.out.far (p:=⟨J,3,none⟩) (show w.heap.size+1+1≠J by omega) (.string e.link))
   have KP6:Hid (Turned J w5 (w5.setCell ⟨J,3,none⟩ (.string e.link))):=Lib.hid (turned_cell _ _ _ _)
   have hs56:=KP6.out.size
   have HB6:=Lib.hid (HB5.out.trans (KP6.out.below (by omega)))
   by_cases hne:E≠0
   ·have tR:(E != 0)=true:=by rw [bne_iff_ne]; exact hne
    have hE:=HE6.out
    rw [if_pos hne] at hE
    subst hE
    clear hne HE6
    go_wp2_with fail
    refine (refusedA _ _).mono ?_
    rintro e1 w98 ⟨rfl,hb98⟩
    have HR98:=Lib.hid (BR6.out.below hb98 BR6.out.lt)
    have HB98:=Lib.hid (below_old HB6.out hb98)
    clear hb98
    go_wp2_with ((with_reducible refine at_store (ty:=209) (x:=.tmp 4) (y:=.tmp 131) ?_ ?_); exact rfl; refine wpList_store_blk rfl 209 (.tmp 4) (.tmp 131) rfl _ rfl HR98.out rfl (by kernel_rfl) rfl rfl ?_; intro w99 b99 g99)
    exact ret_blk rfl rfl b99 whole_plan rfl ⟨HB98.out.grown g99 HB98.out.size (fun j hj=>by cases hj; omega),_,rfl,refused_rdN _ _ _⟩
   have hez:E=0:=Classical.byContradiction hne
   subst hez
   have hE:=HE6.out
   rw [if_neg hne,if_neg (by omega),if_pos hke,if_neg (by omega)] at hE
   rw [hke] at hE
   have HE:=Lib.hid hE
   clear hE hne HE6
   go_wp2_with fail
   have HPARTS:Hid (TextsM (w5.setCell ⟨J,3,none⟩ (.string e.link)) (Mid (w.heap.size+1+1+1) J (w5.setCell ⟨J,3,none⟩ (.string e.link))) (.slice (some ⟨b4,off4,none⟩) n4 c4) (textsL L)):=Lib.hid (parts_mid (ROW6.out.keep fun b hb'=>KP6.out.block b (by have:=hb'.2; omega)) HC4.out HN4.out hsz2 (by omega))
   clear k2 k3 q8 q9 j3 j5 jf3 jf5 lJ
   generalize w5.setCell ⟨J,3,none⟩ (.string e.link)=w6 at BE6 BC6 BR6 BJ6 KP6 hs56 HB6 HPARTS ⊢
   have HFROM:Hid (TextsM w6 (Mid (w.heap.size+1+1+1) J w6) nilS []):=Lib.hid (textsM_nil _ _)
   have HDATA:Hid (BytesM w6 (Mid (w.heap.size+1+1+1) J w6) nilS []):=Lib.hid (bytesM_nil _ _)
   clear BE4 BC4 BR4 BJ4 HB4 BE5 BC5 BR5 BJ5 HB5 ROW6 KP6
   clear k0
   have q8:=BC6.out.cell 8
   have j5:=BJ6.out.cell 5
   have jf5:=BJ6.out.frozen 5
   simp only [List.getElem?_toArray,List.getElem?_cons_succ,List.getElem?_cons_zero] at q8 j5
   have lJ:=BJ6.out.lt
   refine (permsSettle e.mode c.umask c.keepSetid _).mono ?_
   rintro e1 w90 ⟨rfl,hw⟩
   rw [hw]; clear hw
   go_wp2_with fail
   have BJT:Hid (Blk (w6.setCell ⟨J,5,none⟩ (.int .i64 (settleV e.mode c.umask c.keepSetid))) J 207 #[.int .i64 3,.slice (some ⟨b4,off4,none⟩) n4 c4,nilS,.string e.link,nilS,.int .i64 (settleV e.mode c.umask c.keepSetid),.int .i64 e.uid,.int .i64 e.gid,.int .i64 e.mtime.sec,.int .i64 e.mtime.nano,.int .i64 0,.int .i64 c.replace,.bool c.keepIds]):=Lib.hid ((BJ6.out.set_ 5 _).to rfl)
   have BCT:=Lib.hid (BC6.out.far (p:=⟨J,5,none⟩) (show w.heap.size+1≠J by omega) (.int .i64 (settleV e.mode c.umask c.keepSetid)))
   have BRT:=Lib.hid (BR6.out.far (p:=⟨J,5,none⟩) (show w.heap.size+1+1≠J by omega) (.int .i64 (settleV e.mode c.umask c.keepSetid)))
   have KPT:Hid (Turned J w6 (w6.setCell ⟨J,5,none⟩ (.int .i64 (settleV e.mode c.umask c.keepSetid)))):=Lib.hid (turned_cell _ _ _ _)
   clear q8 j5 jf5 lJ
   generalize w6.setCell ⟨J,5,none⟩ (.int .i64 (settleV e.mode c.umask c.keepSetid))=w91 at BJT BCT BRT KPT ⊢
   have q8:=BCT.out.cell 8
   have j10:=BJT.out.cell 10
   have jf10:=BJT.out.frozen 10
   simp only [List.getElem?_toArray,List.getElem?_cons_succ,List.getElem?_cons_zero] at q8 j10
   have lJ:=BJT.out.lt
   refine (permsSettle 493 c.umask false _).mono ?_
   rintro e1 w92 ⟨rfl,hw⟩
   rw [hw]; clear hw
   have BJU:Hid (Blk (w91.setCell ⟨J,10,none⟩ (.int .i64 (bits .or .i64 (settleV 493 c.umask false) 448))) J 207 #[.int .i64 3,.slice (some ⟨b4,off4,none⟩) n4 c4,nilS,.string e.link,nilS,.int .i64 (settleV e.mode c.umask c.keepSetid),.int .i64 e.uid,.int .i64 e.gid,.int .i64 e.mtime.sec,.int .i64 e.mtime.nano,.int .i64 (bits .or .i64 (settleV 493 c.umask false) 448),.int .i64 c.replace,.bool c.keepIds]):=Lib.hid ((BJT.out.set_ 10 _).to rfl)
   have BRU:=Lib.hid (BRT.out.far (p:=⟨J,10,none⟩) (show w.heap.size+1+1≠J by omega) (.int .i64 (bits .or .i64 (settleV 493 c.umask false) 448)))
   have KPU:Hid (Turned J w6 (w91.setCell ⟨J,10,none⟩ (.int .i64 (bits .or .i64 (settleV 493 c.umask false) 448)))):=Lib.hid (KPT.out.trans (turned_cell _ _ _ _))
   go_wp2_with (first
    | ((with_reducible refine at_load (ty:=207) (x:=.tmp 10) ?_ ?_); exact rfl; refine wpList_load_blk rfl 207 (.tmp 10) rfl J rfl BJU.out whole_job ?_)
    | ((with_reducible refine at_store (ty:=209) (x:=.tmp 4) (y:=.tmp 146) ?_ ?_); exact rfl; refine wpList_store_blk rfl 209 (.tmp 4) (.tmp 146) rfl _ rfl BRU.out rfl (by kernel_rfl) rfl rfl ?_; intro w99 b99 g99))
   exact ret_blk rfl rfl b99 whole_plan rfl (decide_endN HB6.out KPU.out g99 (by omega) HE.out.symm rfl HPARTS.out HFROM.out HDATA.out)
  ·have hLK:=HLK.out
   rw [if_neg (by omega),if_pos hke] at hLK
   obtain ⟨E,hEE⟩:∃ x,x=linkE e c:=⟨_,rfl⟩
   have hE:=HPL6.out
   rw [← hEE] at hE hLK
   have HE6:=Lib.hid hE; have HLK6:=Lib.hid hLK
   clear hE hLK hEE HPL6
   rw [hke] at BJ4 k0
   have tk:(e.kind != 2)=true:=by rw [hke]; rfl
   have t6:((n4:Int) == 0)=false:=by rw [beq_eq_false_iff_ne]; intro h; exact HL0.out ⟨List.eq_nil_of_length_eq_zero (by rw [← HN4.out]; omega),by omega⟩
   have t7:¬ n4=0:=by intro h; exact HL0.out ⟨List.eq_nil_of_length_eq_zero (by rw [← HN4.out]; omega),by omega⟩
   have k2:=BE4.out.cell 2
   have q3:=BC4.out.cell 3
   have q2:=BC4.out.cell 2
   have q5:=BC4.out.cell 5
   simp only [List.getElem?_toArray,List.getElem?_cons_succ,List.getElem?_cons_zero] at k2 q3 q2 q5
   have HH:=Lib.hid (targetHard e.link c.maxName c.maxDepth c.strip w4 m H.out.link (HM.out _ HB4.out))
   unfold HardEnd at HH
   rw [← HLK6.out] at HH
   go_wp2_with fail
   refine HH.out.mono ?_
   rintro e1 w5 ⟨hb,hr⟩
   have BE5:=Lib.hid (BE4.out.below hb BE4.out.lt); have BC5:=Lib.hid (BC4.out.below hb BC4.out.lt); have BR5:=Lib.hid (BR4.out.below hb BR4.out.lt); have BJ5:=Lib.hid (BJ4.out.below hb BJ4.out.lt)
   have HB5:=Lib.hid (below_old HB4.out hb)
   have hs45:=hb.size
   have ROW6:Hid (Row Shape.str w5 (fun b=>w2.heap.size≤b∧b<J) A4 n4 (textsL L)):=Lib.hid (ROW5.out.keep fun b hb'=>hb.block b (by have:=hb'.2; omega))
   clear hb HH k2 q3 q2 q5
   have k3:=BE5.out.cell 3
   have q8:=BC5.out.cell 8
   have q9:=BC5.out.cell 9
   have j2:=BJ5.out.cell 2
   have jf2:=BJ5.out.frozen 2
   have j5:=BJ5.out.cell 5
   have jf5:=BJ5.out.frozen 5
   simp only [List.getElem?_toArray,List.getElem?_cons_succ,List.getElem?_cons_zero] at k3 q8 q9 j2 j5
   have lJ:=BJ5.out.lt
   have BR6:=Lib.hid (fun v=>BR5.out.far (p:=⟨J,2,none⟩) (show w.heap.size+1+1≠J by omega) v)
   have HB6:=Lib.hid (fun v=>HB5.out.trans ((turned_cell w5 J 2 v).below (show w.heap.size≤J by omega)))
   rcases hr with ⟨hne,rfl⟩ | ⟨hz,v5,rfl,hv5⟩
   ·have tR:(E != 0)=true:=by rw [bne_iff_ne]; exact hne
    have hE:=HE6.out
    rw [if_pos hne] at hE
    subst hE
    clear hne HE6
    have BR7:=Lib.hid (BR6.out nilS)
    have HB7:=Lib.hid (HB6.out nilS)
    go_wp2_with fail
    refine (refusedA _ _).mono ?_
    rintro e1 w98 ⟨rfl,hb98⟩
    have HR98:=Lib.hid (BR7.out.below hb98 BR7.out.lt)
    have HB98:=Lib.hid (below_old HB7.out hb98)
    clear hb98
    go_wp2_with ((with_reducible refine at_store (ty:=209) (x:=.tmp 4) (y:=.tmp 131) ?_ ?_); exact rfl; refine wpList_store_blk rfl 209 (.tmp 4) (.tmp 131) rfl _ rfl HR98.out rfl (by kernel_rfl) rfl rfl ?_; intro w99 b99 g99)
    exact ret_blk rfl rfl b99 whole_plan rfl ⟨HB98.out.grown g99 HB98.out.size (fun j hj=>by cases hj; omega),_,rfl,refused_rdN _ _ _⟩
   have hE:=HE6.out
   rw [if_neg (by rw [hz]; exact fun h=>h rfl),if_pos hke,if_neg (by omega),if_neg (by omega)] at hE
   rw [hke] at hE
   have HE:=Lib.hid hE
   have HV5:=Lib.hid hv5
   clear hE HE6 hv5 HLK6
   subst hz
   obtain ⟨A7,c7,hc7,rfl,_⟩:=HV5.out
   clear hc7
   obtain ⟨FL,hFL⟩:∃ x,x=textsL ((partsOf e.link.data.toList).drop c.strip.toNat):=⟨_,rfl⟩
   rw [← hFL] at HE HV5 ⊢
   clear hFL
   obtain ⟨n7,hn7⟩:∃ x,x=FL.length:=⟨_,rfl⟩
   rw [← hn7] at HV5 ⊢
   clear hn7
   have BJ6:Hid (Blk (w5.setCell ⟨J,2,none⟩ (.slice A7 n7 c7)) J 207 #[.int .i64 4,.slice A4 n4 c4,.slice A7 n7 c7,.string ⟨#[]⟩,nilS,.int .i64 0,.int .i64 e.uid,.int .i64 e.gid,.int .i64 e.mtime.sec,.int .i64 e.mtime.nano,.int .i64 0,.int .i64 c.replace,.bool c.keepIds]):=Lib.hid ((BJ5.out.set_ 2 _).to rfl)
   have BE6:=Lib.hid (BE5.out.far (p:=⟨J,2,none⟩) (show w.heap.size≠J by omega) (.slice A7 n7 c7))
   have BC6:=Lib.hid (BC5.out.far (p:=⟨J,2,none⟩) (show w.heap.size+1≠J by omega) (.slice A7 n7 c7))
   have BR7:=Lib.hid (BR6.out (.slice A7 n7 c7))
   have HB7:=Lib.hid (HB6.out (.slice A7 n7 c7))
   have KP6:Hid (Turned J w5 (w5.setCell ⟨J,2,none⟩ (.slice A7 n7 c7))):=Lib.hid (turned_cell _ _ _ _)
   go_wp2_with fail
   have hs56:=KP6.out.size
   have HPARTS:Hid (TextsM (w5.setCell ⟨J,2,none⟩ (.slice A7 n7 c7)) (Mid (w.heap.size+1+1+1) J (w5.setCell ⟨J,2,none⟩ (.slice A7 n7 c7))) (.slice A4 n4 c4) (textsL L)):=Lib.hid (parts_mid (ROW6.out.keep fun b hb'=>KP6.out.block b (by have:=hb'.2; omega)) HC4.out HN4.out hsz2 (by omega))
   have HFROM:Hid (TextsM (w5.setCell ⟨J,2,none⟩ (.slice A7 n7 c7)) (Mid (w.heap.size+1+1+1) J (w5.setCell ⟨J,2,none⟩ (.slice A7 n7 c7))) (.slice A7 n7 c7) FL):=Lib.hid (from_mid HV5.out KP6.out (by omega) (by omega))
   clear k3 q8 q9 j2 j5 jf2 jf5 lJ BR6 HB6
   have HB6:=HB7; have BR6:=BR7
   clear HB7 BR7
   generalize w5.setCell ⟨J,2,none⟩ (.slice A7 n7 c7)=w6 at BE6 BC6 BR6 BJ6 KP6 hs56 HB6 HPARTS HFROM ⊢
   have HDATA:Hid (BytesM w6 (Mid (w.heap.size+1+1+1) J w6) nilS []):=Lib.hid (bytesM_nil _ _)
   clear BE4 BC4 BR4 BJ4 HB4 BE5 BC5 BR5 BJ5 HB5 ROW6 KP6
   clear k0
   have q8:=BC6.out.cell 8
   have j5:=BJ6.out.cell 5
   have jf5:=BJ6.out.frozen 5
   simp only [List.getElem?_toArray,List.getElem?_cons_succ,List.getElem?_cons_zero] at q8 j5
   have lJ:=BJ6.out.lt
   refine (permsSettle e.mode c.umask c.keepSetid _).mono ?_
   rintro e1 w90 ⟨rfl,hw⟩
   rw [hw]; clear hw
   go_wp2_with fail
   have BJT:Hid (Blk (w6.setCell ⟨J,5,none⟩ (.int .i64 (settleV e.mode c.umask c.keepSetid))) J 207 #[.int .i64 4,.slice A4 n4 c4,.slice A7 n7 c7,.string ⟨#[]⟩,nilS,.int .i64 (settleV e.mode c.umask c.keepSetid),.int .i64 e.uid,.int .i64 e.gid,.int .i64 e.mtime.sec,.int .i64 e.mtime.nano,.int .i64 0,.int .i64 c.replace,.bool c.keepIds]):=Lib.hid ((BJ6.out.set_ 5 _).to rfl)
   have BCT:=Lib.hid (BC6.out.far (p:=⟨J,5,none⟩) (show w.heap.size+1≠J by omega) (.int .i64 (settleV e.mode c.umask c.keepSetid)))
   have BRT:=Lib.hid (BR6.out.far (p:=⟨J,5,none⟩) (show w.heap.size+1+1≠J by omega) (.int .i64 (settleV e.mode c.umask c.keepSetid)))
   have KPT:Hid (Turned J w6 (w6.setCell ⟨J,5,none⟩ (.int .i64 (settleV e.mode c.umask c.keepSetid)))):=Lib.hid (turned_cell _ _ _ _)
   clear q8 j5 jf5 lJ
   generalize w6.setCell ⟨J,5,none⟩ (.int .i64 (settleV e.mode c.umask c.keepSetid))=w91 at BJT BCT BRT KPT ⊢
   have q8:=BCT.out.cell 8
   have j10:=BJT.out.cell 10
   have jf10:=BJT.out.frozen 10
   simp only [List.getElem?_toArray,List.getElem?_cons_succ,List.getElem?_cons_zero] at q8 j10
   have lJ:=BJT.out.lt
   refine (permsSettle 493 c.umask false _).mono ?_
   rintro e1 w92 ⟨rfl,hw⟩
   rw [hw]; clear hw
   have BJU:Hid (Blk (w91.setCell ⟨J,10,none⟩ (.int .i64 (bits .or .i64 (settleV 493 c.umask false) 448))) J 207 #[.int .i64 4,.slice A4 n4 c4,.slice A7 n7 c7,.string ⟨#[]⟩,nilS,.int .i64 (settleV e.mode c.umask c.keepSetid),.int .i64 e.uid,.int .i64 e.gid,.int .i64 e.mtime.sec,.int .i64 e.mtime.nano,.int .i64 (bits .or .i64 (settleV 493 c.umask false) 448),.int .i64 c.replace,.bool c.keepIds]):=Lib.hid ((BJT.out.set_ 10 _).to rfl)
   have BRU:=Lib.hid (BRT.out.far (p:=⟨J,10,none⟩) (show w.heap.size+1+1≠J by omega) (.int .i64 (bits .or .i64 (settleV 493 c.umask false) 448)))
   have KPU:Hid (Turned J w6 (w91.setCell ⟨J,10,none⟩ (.int .i64 (bits .or .i64 (settleV 493 c.umask false) 448)))):=Lib.hid (KPT.out.trans (turned_cell _ _ _ _))
   go_wp2_with (first
    | ((with_reducible refine at_load (ty:=207) (x:=.tmp 10) ?_ ?_); exact rfl; refine wpList_load_blk rfl 207 (.tmp 10) rfl J rfl BJU.out whole_job ?_)
    | ((with_reducible refine at_store (ty:=209) (x:=.tmp 4) (y:=.tmp 146) ?_ ?_); exact rfl; refine wpList_store_blk rfl 209 (.tmp 4) (.tmp 146) rfl _ rfl BRU.out rfl (by kernel_rfl) rfl rfl ?_; intro w99 b99 g99))
   exact ret_blk rfl rfl b99 whole_plan rfl (decide_endN HB6.out KPU.out g99 (by omega) HE.out.symm rfl HPARTS.out HFROM.out HDATA.out)
end Go.Proofs.YtfhfcipelgogjaaGreatDoor
