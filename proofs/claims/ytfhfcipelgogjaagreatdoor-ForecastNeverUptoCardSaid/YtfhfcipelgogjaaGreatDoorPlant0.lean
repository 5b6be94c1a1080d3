/- graph.Plant at no line at all: the graph has no node, its tree no root. -/
import Derived.Test.YtfhfcipelgogjaaGreatDoorPlant
set_option linter.unusedSectionVars false
set_option linter.unusedVariables false
set_option linter.unusedSimpArgs false
set_option maxHeartbeats 4000000
set_option maxRecDepth 100000
namespace Go.Proofs.YtfhfcipelgogjaaGreatDoor
open Go.RowKit
attribute [local go_sem] cell?_over frozen?_over lt_over le_over
theorem graphRead0 (w:World) :
  Calls Tryz.prog 52 #[.agg #[.slice none 0 0]] w fun e w'=>Below w.heap.size w w'∧∃ (bi:Nat) (r:Bool),e=.returned (.tuple #[.map (some bi),.bool r])∧IsMap kI (nodeV 0 0) w' bi []:=by
 have hmm:=@run_makeMap Tryz.prog
 go_enter Tryz.func52,Tryz.ntmps52
 go_wp2_with fail
 have BX0:=Lib.hid ((Blk.new w 24 #[.slice none 0 0]).alloc (.map #[] 0))
 have M0:Hid (IsMap kI (nodeV 0 0) ((w.alloc (.cells #[.slice none 0 0] 24)).alloc (.map #[] 0)) (w.heap.size+1) []):=Lib.hid (by have:=IsMap.new kI (nodeV 0 0) (w.alloc (.cells #[.slice none 0 0] 24)); simpa using this)
 have W0:Hid (Below w.heap.size w ((w.alloc (.cells #[.slice none 0 0] 24)).alloc (.map #[] 0))):=Lib.hid (by go_grown)
 go_loopw [5,6,19] (fun v5 v6 v19 wr=>v19=.int .i64 0∧v5=.int .i64 0∧v6=.int .i64 0∧IsMap kI (nodeV 0 0) wr (w.heap.size+1) []∧Blk wr w.heap.size 24 #[.slice none 0 0]∧Below w.heap.size w wr) (fun _ _ v19 _=>0)
 case atStart=>exact ⟨rfl,rfl,rfl,M0.out,BX0.out,W0.out⟩
 case round =>
  clear BX0 M0 W0
  obtain ⟨rfl,rfl,rfl,hmap,hbx,hbel⟩:=hrel
  have HM:=Lib.hid hmap; have BX:=Lib.hid hbx; have HB:=Lib.hid hbel
  have x0:=BX.out.cell 0; have lx:=BX.out.lt
  simp only [List.getElem?_toArray,List.getElem?_cons_zero] at x0
  have BX1:=Lib.hid (BX.out.alloc (.map #[] 0)); have HM1:=Lib.hid (HM.out.alloc (.map #[] 0))
  have PM1:=Lib.hid (IsMap.new kI cI wr)
  have HB1:=Lib.hid (HB.out.alloc HB.out.size (.map #[] 0))
  clear hmap hbx hbel
  obtain ⟨bp,hbp⟩:∃ x,x=wr.heap.size:=⟨_,rfl⟩
  go_wp2_with fail
  rw [← hbp] at PM1 ⊢
  clear hbp
  go_loopw [68] (fun v68 wq=>v68=.int .i64 0∧IsMap kI cI wq bp []∧IsMap kI (nodeV 0 0) wq (w.heap.size+1) []∧Blk wq w.heap.size 24 #[.slice none 0 0]∧Below w.heap.size w wq) (fun v68 _=>0)
  case atStart=>exact ⟨rfl,PM1.out,HM1.out,BX1.out,HB1.out⟩
  case round =>
   clear PM1 HM1 BX1 HB1 BX HM HB x0 lx
   obtain ⟨rfl,hpm,hmap,hbx,hbel⟩:=hrel
   have PM:=Lib.hid hpm; have HM:=Lib.hid hmap; have BX:=Lib.hid hbx; have HB:=Lib.hid hbel
   clear hpm hmap hbx hbel
   have x0:=BX.out.cell 0; have lx:=BX.out.lt
   simp only [List.getElem?_toArray,List.getElem?_cons_zero] at x0
   have RT:=Lib.hid (graphRooted wr PM.out (by simp))
   go_wp2_with fail
   refine RT.out.mono ?_
   rintro e w3 ⟨r,rfl,hr1,hr2,hb3⟩
   have HB3:=Lib.hid (below_old HB.out hb3)
   have HM3:=Lib.hid (HM.out.of_block (hb3.block _ HM.out.lt))
   clear hb3 hr1 hr2
   go_wp2_with fail
   go_ret2
   exact ⟨HB3.out,w.heap.size+1,r,rfl,HM3.out⟩
theorem graphBegin0 (root:Int) (w:World) :
  Calls Tryz.prog 26 #[.agg #[.slice none 0 0],.int .i64 root] w fun e w'=>Below w.heap.size w w'∧∃ err:Int,(err != 0)=true∧e=.returned (.tuple #[.map none,.pointer none,.int .i64 err]):=by
 have hzp:∀ w,(zeroValue 70).run Tryz.prog w=.ok (.pointer none) w:=fun w=>Tryz.zeroValue70 w
 have B0:Hid (Below w.heap.size w (w.alloc (.cells #[.slice none 0 0] 24))):=Lib.hid (below_alloc' _ _)
 have RD:=Lib.hid (graphRead0 (w.alloc (.cells #[.slice none 0 0] 24)))
 go_enter Tryz.func26,Tryz.ntmps26
 go_wp2_with fail
 refine RD.out.mono ?_
 rintro e w1 ⟨hb1,bi,r,rfl,hmap⟩
 have HB:=Lib.hid (below_old B0.out hb1); have HM:=Lib.hid hmap
 have HK:Hid (getKv ([]:List (Int×Nat)) root=none):=Lib.hid rfl
 clear hb1 RD hmap
 cases r with
 | false =>
  go_wp2_with fail
  go_ret3
  exact ⟨HB.out,140,rfl,rfl⟩
 | true =>
  go_wp2_with (first
   | ((with_reducible refine at_look (t:=69) (m:=.tmp 17) (x:=.tmp 18) (c:=false) ?_ ?_); exact rfl; go_loud (refine wpList_lookup_kv0 rfl (.tmp 17) (.tmp 18) _ rfl und_index HM.out root (hzp _) rfl rfl ?_); rw [HK.out]; simp only [Option.map_none,Option.getD_none]))
  go_ret3
  exact ⟨HB.out,141,rfl,rfl⟩
theorem graphTree0 (root:Int) (w:World) :
  Calls Tryz.prog 10 #[.agg #[.slice none 0 0],.int .i64 root] w fun e w'=>Below w.heap.size w w'∧∃ err:Int,(err != 0)=true∧e=.returned (.tuple #[.slice none 0 0,.int .i64 err]):=by
 have B0:Hid (Below w.heap.size w (w.alloc (.cells #[.slice none 0 0] 24))):=Lib.hid (below_alloc' _ _)
 have BE:=Lib.hid (graphBegin0 root (w.alloc (.cells #[.slice none 0 0] 24)))
 go_enter Tryz.func10,Tryz.ntmps10
 go_wp2_with fail
 refine BE.out.mono ?_
 rintro e w1 ⟨hb1,err,herr,rfl⟩
 have HB1:=Lib.hid (below_old B0.out hb1)
 clear hb1 BE
 go_wp2_with fail
 go_ret2
 exact ⟨HB1.out,err,herr,rfl⟩
theorem graphPlant0 {A:Option Addr} {c:Nat} (w:World) :
  Calls Tryz.prog 15 #[.slice A 0 c] w fun e w'=>Below w.heap.size w w'∧e=.returned (.tuple #[.agg #[.slice none 0 0],.int .i64 151]):=by
 have hmm:=@run_makeMap Tryz.prog
 have hzi:∀ w,(zeroValue 3).run Tryz.prog w=.ok (.int .i64 0) w:=fun w=>by kernel_rfl
 go_enter Tryz.func15,Tryz.ntmps15
 go_wp2_with fail
 obtain ⟨bm,hbm⟩:∃ x,x=w.heap.size+1+1:=⟨_,rfl⟩
 obtain ⟨bg,hbg⟩:∃ x,x=w.heap.size+1:=⟨_,rfl⟩
 obtain ⟨br,hbr⟩:∃ x,x=w.heap.size:=⟨_,rfl⟩
 rw [← hbm,← hbg,← hbr]
 have HBM:=Lib.hid hbm; have HBG:=Lib.hid hbg; have HBR:=Lib.hid hbr
 clear hbm hbg hbr
 go_loopw [20] (fun v20 wr=>v20=.int .i64 0∧Below w.heap.size w wr∧Blk wr br 24 #[.slice none 0 0]∧Blk wr bg 24 #[.slice none 0 0]) (fun v20 _=>0)
 case atStart =>
  have e1:(w.alloc (.cells #[.slice none 0 0] 24)).heap.size=bg:=by rw [HBG.out]; simp
  have b1:=Blk.new w 24 #[.slice none 0 0]
  have b2:=Blk.new (w.alloc (.cells #[.slice none 0 0] 24)) 24 #[.slice none 0 0]
  rw [e1] at b2
  rw [← HBR.out] at b1
  refine ⟨rfl,?_,(b1.alloc _).alloc _,b2.alloc _⟩
  exact (((below_alloc' _ _).trans ((below_alloc' _ _).mono (by simp))).trans ((below_alloc' _ _).mono (by simp; omega)))
 case round =>
  obtain ⟨rfl,hbel,hbr,hbg⟩:=hrel
  have BI:=Lib.hid hbel; have RS:=Lib.hid hbr; have BGV:=Lib.hid hbg
  have GT:=Lib.hid (graphTree0 1 wr)
  have q0:=hbg.cell 0; have lq:=hbg.lt
  simp only [List.getElem?_toArray,List.getElem?_cons_succ,List.getElem?_cons_zero] at q0
  clear hbel hbr hbg hmm
  go_wp2_with fail
  refine GT.out.mono ?_
  rintro e w1 ⟨hb1,err,herr,rfl⟩
  have HBw1:Hid (Below w.heap.size w w1):=Lib.hid (below_old BI.out hb1)
  have RS1:=Lib.hid (RS.out.below hb1 RS.out.lt)
  clear hb1 q0 lq GT
  have r0:=RS1.out.cell 0; have fr:=RS1.out.frozen 0; have lr:=RS1.out.lt
  simp only [List.getElem?_toArray,List.getElem?_cons_succ,List.getElem?_cons_zero] at r0
  go_wp2_with fail
  exact ret_blk_tmp rfl rfl (RS1.out.set_ 0 (.slice none 0 0)) whole_Graph rfl rfl ⟨HBw1.out.setCell (p:=⟨br,0,none⟩) (Nat.le_of_eq HBR.out.symm) _,rfl⟩
theorem graphPlantE {A:Option Addr} {n c:Nat} {ls:List LineD} (w:World) (h:Row Shape.LineD w (Old w) A n ls) (hs:SmallP ls) (hn:n≤1000000000) :
  Calls Tryz.prog 15 #[.slice A n c] w (PlantEnd ls w):=by
 rcases Nat.eq_zero_or_pos n with h0 | h0
 ·subst h0
  have hl:ls=[]:=List.length_eq_zero_iff.1 h.1
  subst hl
  refine (graphPlant0 w).mono ?_
  rintro e w' ⟨hb,rfl⟩
  refine ⟨hb,.inr ⟨rfl,fun ps hps=>.inl ?_⟩⟩
  injection hps with hps
  subst hps
  exact .inr (.inl rfl)
 ·exact graphPlant w h hs hn h0
end Go.Proofs.YtfhfcipelgogjaaGreatDoor
