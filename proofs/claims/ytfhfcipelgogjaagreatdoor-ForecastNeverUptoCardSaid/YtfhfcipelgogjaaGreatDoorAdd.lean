/- (*graph.lister).add: the lines of what lies under a node. No condition but room. -/
import Derived.Test.YtfhfcipelgogjaaGreatDoorAddAll
import Derived.Test.YtfhfcipelgogjaaGreatDoorPlanAll
import Derived.Test.YtfhfcipelgogjaaGreatDoorRegAll
import Derived.Test.YtfhfcipelgogjaaGreatDoorBaseAt
import Derived.Deep.DeepCutAuto
import Derived.Deep.CutRange
import Derived.Deep.CutBlock
set_option linter.unusedSectionVars false
set_option linter.unusedVariables false
set_option linter.unusedSimpArgs false
set_option maxHeartbeats 4000000
set_option maxRecDepth 100000
namespace Go.Proofs.YtfhfcipelgogjaaGreatDoor
open Go.RowKit
attribute [local go_sem] cell?_over frozen?_over lt_over le_over
theorem graphAdd {bl bi bf B B0 bg offg N:Nat} {gs:List NodeD} (hS:SmallH gs) (hbl:B0≤bl) (hbf:B0≤bf) (hlf:bl≠bf) (hif:bi≠bf) (hil:bi≠bl):∀ (fuel:Nat) (st:LSt) (i:Nat) (path:ByteArray) (w:World),LsAt bl bi bf B bg offg gs st w→Row Shape.NodeD w (fun n=>n<B0) (some ⟨bg,offg,none⟩) N gs→B≤w.heap.size→i<gs.length→0<path.size→path.size≤200000000→st.bytes≤4194304→4194305≤fuel+st.bytes →
  Calls Tryz.prog 27 #[.pointer (some ⟨bl,0,none⟩),nodeV bg offg i,.string path] w (AddEnd bl bi bf B B0 bg offg gs (addF gs fuel st i path) w)
 | 0,st,i,path,w,_,_,_,_,_,_,h1,h2=>by omega
 | fuel+1,st,i,path,w,hl,hg,hBw,hi,hp0,hp1,hb1,hfu=>by
  obtain ⟨R,hR⟩:∃ R,R=addF gs (fuel+1) st i path:=⟨_,rfl⟩
  rw [← hR]
  have HR:=Lib.hid hR; have HL:=Lib.hid hl; have HG:=Lib.hid hg; have HS:=Lib.hid hS
  obtain ⟨dn,hdn⟩:∃ x,x=gs[i]:=⟨_,rfl⟩
  have HDN:Hid (dn=gs.getD i default):=Lib.hid (by rw [hdn,List.getD_eq_getElem?_getD,List.getElem?_eq_getElem hi]; rfl)
  have hB0w:B0≤w.heap.size:=by have:=hl.ltl; omega
  obtain ⟨A1,c1,A2,c2,hI,hcell⟩:=node_at hB0w hg hi hdn
  have HC:=Lib.hid hcell; have HI:=Lib.hid hI
  have IH:=Lib.hid (graphAdd (B:=B) (N:=N) (bg:=bg) (offg:=offg) hS hbl hbf hlf hif hil fuel)
  obtain ⟨v,M,bL,own,hM⟩:=hl.own
  have x0:=bL.cell 0; have x1:=bL.cell 1; have x2:=bL.cell 2; have x3:=bL.cell 3
  have f3:=bL.frozen 3; have lbl:=bL.lt
  simp only [List.getElem?_toArray,List.getElem?_cons_succ,List.getElem?_cons_zero] at x0 x1 x2 x3
  have BL:=Lib.hid bL; have OWN:=Lib.hid own; have HM:=Lib.hid hM
  have hsz:(path.size:Int)+st.bytes≤9223372036854775807:=by omega
  have hwr:IntKind.i64.wrap ((st.bytes:Int)+path.size)=((st.bytes+path.size:Nat):Int):=by rw [IntKind.wrap_i64]; omega
  unfold nodeV
  obtain ⟨off,hoff⟩:∃ x,x=offg+i*10:=⟨_,rfl⟩
  rw [← hoff] at HC ⊢
  have HOF:=Lib.hid hoff
  clear hR hl hg hS hdn hI hcell bL own hM hoff
  obtain ⟨nb,hnb⟩:∃ x,x=st.bytes+path.size:=⟨_,rfl⟩
  rw [← hnb] at hwr
  have HNB:=Lib.hid hnb
  have hzw:∀ w,(zeroValue 125).run Tryz.prog w=.ok (.agg #[.string ⟨#[]⟩]) w:=fun w=>by kernel_rfl
  obtain ⟨w1,hw1⟩:∃ x,x=w.setCell ⟨bl,3,none⟩ (.int .i64 nb):=⟨_,rfl⟩
  have W1:Hid (w.grownBy w1 (some bl)):=Lib.hid (by rw [hw1]; exact grown_setA _ _ _ _)
  have W1B:Hid (Below B0 w w1):=Lib.hid (by rw [hw1]; exact below_set _ _ _ _ hbl)
  have BL1:Hid (Blk w1 bl 75 #[.map (some bi),v,.map (some bf),.int .i64 nb]):=Lib.hid (by rw [hw1]; exact BL.out.set_ 3 _)
  have SZ1:Hid (w1.heap.size=w.heap.size):=Lib.hid (by rw [hw1]; simp)
  have OWN1:Hid (Own Shape.LineD 60 w1 B M v st.out):=Lib.hid (OWN.out.kept W1.out (by cases hv:v.ownBlock with | none=>exact .inl rfl | some k=>right; intro e; injection e with e; have:=(OWN.out.lt k hv).1; have:=HL.out.ltl; omega) (fun n hn e=>by injection e with e; have:=HM.out n hn; have:=HL.out.ltl; omega))
  have MF1:Hid (IsMap kI cW w1 bf st.first):=Lib.hid (HL.out.first.of_block (W1.out.block bf HL.out.first.lt (fun e=>hlf (by injection e with e; exact e.symm))))
  have HI1:Hid (w1.heap[bi]?=w.heap[bi]?):=Lib.hid (W1.out.block bi HL.out.bys.lt (fun e=>hil (by injection e)))
  have HW1:=Lib.hid hw1
  clear hw1
  go_enter Tryz.func27,Tryz.ntmps27
  by_cases hov:4194304<nb
  ·have hov':(4194304:Int)<nb:=by omega
   have hend:R=(⟨st.out,st.first,nb⟩,false):=by rw [HR.out]; unfold addF; rw [← HNB.out,if_pos hov]
   have HEND:=Lib.hid hend
   clear hnb hov hend
   go_wp2_with fail
   go_ret
   rw [← HW1.out,HEND.out]
   exact ⟨W1B.out,ls_of HL.out hif hil BL1.out OWN1.out HM.out MF1.out HI1.out (by have:=HL.out.len; have:=HNB.out; omega) HL.out.paths,rfl⟩
  ·have hov':¬ (4194304:Int)<nb:=by omega
   have hend:R=addEs gs (addF gs fuel) st.out.isEmpty path dn.ents (put1 st dn path):=by rw [HR.out]; unfold addF; rw [← HNB.out,if_neg hov,HDN.out]
   have HEND:=Lib.hid hend
   clear hnb hend
   go_wp2_with fail
   rw [← HW1.out]
   have y0:=BL1.out.cell 0; have y1:=BL1.out.cell 1; have y2:=BL1.out.cell 2; have y3:=BL1.out.cell 3
   have lbl1:=BL1.out.lt
   simp only [List.getElem?_toArray,List.getElem?_cons_succ,List.getElem?_cons_zero] at y0 y1 y2 y3
   obtain ⟨k0,k1,k2,k3,k4,k5,k6,k7,k8,k9,lbg,hrd,hre⟩:=HC.out w1 W1B.out
   obtain ⟨peer,hpeer⟩:∃ x,x=peerOf st dn:=⟨_,rfl⟩
   have HPE:=Lib.hid hpeer
   clear x0 x1 x2 x3 f3 lbl hrd hre hpeer
   refine wp_region_grow_t [(32,Made.blk 60 #[.string ⟨#[]⟩,.int .i64 0,.int .i64 0,.int .i64 0,.int .i64 0,.int .i64 0,.int .i64 0,.slice none 0 0,.string ⟨#[]⟩,.string ⟨#[]⟩] w1.heap.size)] 33 _ rfl (by kernel_rfl) [32] rfl (by kernel_rfl) (stays_cons (blk_stays _ _ _) stays_nil) ?_
   simp only [List.take_succ_cons,List.take_zero,List.drop_succ_cons,List.drop_zero]
   repeat (first
    | (refine g_w rfl ?_ (fun W=>?_) ?_; rotate_left; (focus (go_simp; (try with_reducible rfl); done)); simp only [Act.put,List.setIfInBounds_toArray,List.set_cons_zero,List.set_cons_succ])
    | (refine g_d rfl (by kernel_rfl) ?_ (fun δ=>?_) ?_; rotate_left; (focus (go_simp; (try with_reducible rfl); done)); simp only [Act.put,List.setIfInBounds_toArray,List.set_cons_zero,List.set_cons_succ]))
   refine g_d rfl (by kernel_rfl) (.agg #[.string peer]) (fun δ=>?_) ?_
   ·have hl':=run_lookup_kv0 und_first (MF1.out.over_ δ) dn.id (hzw (over w1 δ))
    have hl'':(Instr.lookup 73 (.map (some bf)) (.int .i64 dn.id) false).run Tryz.prog (over w1 δ)=.ok (.agg #[.string peer]) (over w1 δ):=by
     refine hl'.trans ?_
     rw [HPE.out]; unfold peerOf
     cases getKv st.first dn.id <;> rfl
    clear hl'
    go_simp
   simp only [Act.put,List.setIfInBounds_toArray,List.set_cons_zero,List.set_cons_succ]
   refine g_w rfl (.string peer) (fun W=>?_) ?_
   ·have hfld:(Instr.field 125 (.agg #[.string peer]) 0).run Tryz.prog W=.ok (.string peer) W:=by first | rfl | kernel_rfl
    go_simp
   simp only [Act.put,List.setIfInBounds_toArray,List.set_cons_zero,List.set_cons_succ]
   repeat (first
    | (refine g_w rfl ?_ (fun W=>?_) ?_; rotate_left; (focus (go_simp; (try with_reducible rfl); done)); simp only [Act.put,List.setIfInBounds_toArray,List.set_cons_zero,List.set_cons_succ])
    | (refine g_d rfl (by kernel_rfl) ?_ (fun δ=>?_) ?_; rotate_left; (focus (go_simp; (try with_reducible rfl); done)); simp only [Act.put,List.setIfInBounds_toArray,List.set_cons_zero,List.set_cons_succ]))
   refine g_alloc rfl (Nat.le_refl _) (fun W=>?_) (fun gL=>?_)
   ·go_simp
   simp only [Act.put,List.setIfInBounds_toArray,List.set_cons_zero,List.set_cons_succ]
   refine g_end fun δ hF=>?_
   have h10:Blk (over w1 δ) gL 60 #[.string ⟨#[]⟩,.int .i64 0,.int .i64 0,.int .i64 0,.int .i64 0,.int .i64 0,.int .i64 0,.slice none 0 0,.string ⟨#[]⟩,.string ⟨#[]⟩]∧w1.heap.size≤gL:=hF 32
   clear hF
   refine endT_store 60 _ _ rfl gL rfl h10.1 rfl (by kernel_rfl) rfl rfl (fun w2 hE hgr hsz=>?_)
   refine g_tail_end ?_
   have hb2:Below w1.heap.size w1 w2:=((below_over w1 δ).grown hgr (size_over_le _ _) (fun m hm=>by injection hm with hm; subst hm; exact h10.2))
   have hE:Blk w2 gL 60 #[.string path,.int .i64 dn.kind,.int .i64 dn.mode,.int .i64 dn.uid,.int .i64 dn.gid,.int .i64 dn.mtime.sec,.int .i64 dn.mtime.nano,.slice none 0 0,.string ⟨#[]⟩,.string peer]:=hE
   have HB2:=Lib.hid hb2; have BG:=Lib.hid hE; have LG:=Lib.hid h10.2
   clear hb2 hE hgr hsz h10 k0 k1 k2 k3 k4 k5 k6 k7 k8 k9 lbg y0 y1 y2 y3 lbl1
   have LBG:=Lib.hid (HI.out.2.2.2.2.2.2.2)
   have SZB:=Lib.hid hB0w
   obtain ⟨ln,hln⟩:∃ x,x=lineAt path dn peer:=⟨_,rfl⟩
   have HLN:=Lib.hid hln
   obtain ⟨fs,hfs⟩:∃ x,x=(put1 st dn path).first:=⟨_,rfl⟩
   have HFS:=Lib.hid hfs
   have e9:=BG.out.cell 9; have lgL:=BG.out.lt
   simp only [List.getElem?_toArray,List.getElem?_cons_succ,List.getElem?_cons_zero] at e9
   clear hln hfs hwr
   go_upto_if 60 with (fail)
   go_cut [] (fun wx=>w1.grownBy wx (some bf)∧IsMap kI cW wx bf fs∧∃ (A:Option Addr) (n c:Nat),n≤c∧c≤maxLen∧Blk wx gL 60 #[.string path,.int .i64 dn.kind,.int .i64 dn.mode,.int .i64 dn.uid,.int .i64 dn.gid,.int .i64 dn.mtime.sec,.int .i64 dn.mtime.nano,.slice A n c,.string ln.target,.string peer]∧Row Shape.byte wx (From w1.heap.size wx) A n ln.data)
   case first =>
    cases hz:peer.toList.isEmpty with
    | false =>
     have HZ:=Lib.hid hz
     have hps:¬ peer.size=0:=by rw [isEmpty_size] at hz; simpa using hz
     have e1:ln=⟨path,dn.kind,dn.mode,dn.uid,dn.gid,dn.mtime,[],⟨#[]⟩,peer⟩:=by rw [HLN.out]; unfold lineAt; rw [if_neg hps]
     have e2:fs=st.first:=by rw [HFS.out]; unfold put1; rw [← HPE.out]; exact if_neg hps
     have E1:=Lib.hid e1; have E2:=Lib.hid e2
     clear hps e1 e2
     go_wp2_with fail
     go_meet
     case rel =>
      refine ⟨grownBy_below' HB2.out,by rw [E2.out]; exact MF1.out.of_block (HB2.out.block bf MF1.out.lt),none,0,0,Nat.le_refl _,Nat.zero_le _,?_,?_⟩
      ·rw [E1.out]; exact BG.out
      ·rw [E1.out]; exact ⟨rfl,fun h=>absurd h (Nat.lt_irrefl _)⟩
    | true =>
     have HZ:=Lib.hid hz
     have hps:peer.size=0:=by rw [isEmpty_size] at hz; simpa using hz
     have e1:ln=⟨path,dn.kind,dn.mode,dn.uid,dn.gid,dn.mtime,dn.data,dn.target,peer⟩:=by rw [HLN.out]; unfold lineAt; rw [if_pos hps]
     have e2:fs=putKv st.first dn.id path:=by rw [HFS.out]; unfold put1; rw [← HPE.out]; exact if_pos hps
     have E1:=Lib.hid e1; have E2:=Lib.hid e2
     clear hps e1 e2
     go_wp2_with fail
     have b2:=Lib.hid (BL1.out.below HB2.out BL1.out.lt)
     have y0:=b2.out.cell 0; have y2:=b2.out.cell 2
     have lbl2:=b2.out.lt
     simp only [List.getElem?_toArray,List.getElem?_cons_succ,List.getElem?_cons_zero] at y0 y2
     have HB2B:=Lib.hid (W1B.out.trans (HB2.out.mono (Nat.le_trans SZB.out W1.out.size)))
     obtain ⟨k0,-,-,-,-,-,-,-,-,-,lbg,-,-⟩:=HC.out w2 HB2B.out
     have MF2:=Lib.hid (MF1.out.of_block (HB2.out.block bf MF1.out.lt))
     refine wp_region_grow_t [] 10 _ rfl (by kernel_rfl) [] rfl (by kernel_rfl) stays_nil ?_
     simp only [List.take_succ_cons,List.take_zero,List.drop_succ_cons,List.drop_zero]
     repeat (first
      | (refine g_w rfl ?_ (fun W=>?_) ?_; rotate_left; (focus (go_simp; (try with_reducible rfl); done)); simp only [Act.put,List.setIfInBounds_toArray,List.set_cons_zero,List.set_cons_succ])
      | (refine g_d rfl (by kernel_rfl) ?_ (fun δ=>?_) ?_; rotate_left; (focus (go_simp; (try with_reducible rfl); done)); simp only [Act.put,List.setIfInBounds_toArray,List.set_cons_zero,List.set_cons_succ]))
     refine g_end fun δ _=>?_
     have MF3:=Lib.hid (MF2.out.over_ δ)
     refine endT_mapUpd _ _ _ 73 rfl und_first MF3.out dn.id path rfl rfl rfl (fun w3 hm3 ho3=>?_)
     refine g_tail_end ?_
     have M3:Hid (IsMap kI cW w3 bf fs):=Lib.hid (by rw [E2.out]; exact hm3)
     have G3:Hid (w1.grownBy w3 (some bf)):=Lib.hid (grownBy_trans (grownBy_below' HB2.out) (grownBy_trans (⟨rfl,rfl,rfl,size_over_le _ _,fun n hn _=>over_heap_lt hn⟩:w2.grownBy (over w2 δ) (some bf)) ho3.grown))
     have hgf:gL≠bf:=by have:=LG.out; have:=MF1.out.lt; omega
     have G3L:Hid (w2.grownBy w3 (some bf)):=Lib.hid (grownBy_trans (⟨rfl,rfl,rfl,size_over_le _ _,fun n hn _=>over_heap_lt hn⟩:w2.grownBy (over w2 δ) (some bf)) ho3.grown)
     have BG3:=Lib.hid (BG.out.grown G3L.out (fun e=>hgf (by injection e)))
     have HB3:Hid (Below B0 w w3):=Lib.hid (W1B.out.trans (below_grown G3.out hbf (Nat.le_trans SZB.out W1.out.size)))
     clear hm3 ho3 y0 y2 k0 lbg lbl2 e9 lgL MF2 MF3 b2
     obtain ⟨-,-,-,-,-,-,-,k7,k8,-,lbg,hrd,-⟩:=HC.out w3 HB3.out
     have RD3:=Lib.hid (hrd.more (M':=Old w3) fun n hn=>by have:=hn; have:=SZB.out; have:=HB3.out.size; show n<_; omega)
     have SD:=Lib.hid (HS.out dn (by rw [HDN.out,List.getD_eq_getElem?_getD,List.getElem?_eq_getElem hi]; exact List.getElem_mem hi))
     clear hrd
     go_wp2_with fail
     refine (cloneB _ RD3.out SD.out.1).mono ?_
     rintro e w4 ⟨v',rfl,hown4,hb4⟩
     obtain ⟨A,n,c,rfl,hnc,hcm,hr4⟩:=hown4.rd_from (B:=w3.heap.size) (Nat.le_refl _) (fun _ h=>h.elim)
     have BG4:=Lib.hid (BG3.out.below hb4 BG3.out.lt)
     have M4:=Lib.hid (M3.out.of_block (hb4.block bf M3.out.lt))
     have G4:=Lib.hid (grownBy_trans G3.out (grownBy_below' (r:=some bf) hb4))
     have R4:=Lib.hid hr4
     have k8':=(hb4.cell (p:=⟨bg,off+8,none⟩) lbg).trans k8
     have lbg4:bg<w4.heap.size:=Nat.lt_of_lt_of_le lbg hb4.size
     have nbg:bg≠gL:=by have:=LG.out; have:=LBG.out; have:=W1.out.size; have:=SZB.out; omega
     have nbg':gL≠bg:=Ne.symm nbg
     have c7:=BG4.out.cell 7; have c8:=BG4.out.cell 8; have fr7:=BG4.out.frozen 7; have fr8:=BG4.out.frozen 8; have lg4:=BG4.out.lt
     simp only [List.getElem?_toArray,List.getElem?_cons_succ,List.getElem?_cons_zero] at c7 c8
     clear hown4 hb4 hr4 k7 k8 lbg
     go_wp2_with fail
     go_meet
     case rel =>
      have LG4:gL<w3.heap.size:=BG3.out.lt
      have S4:Below w1.heap.size w4 ((w4.setCell ⟨gL,7,none⟩ (.slice A n c)).setCell ⟨gL,8,none⟩ (.string dn.target)):=(below_set w4 gL 7 _ LG.out).trans (below_set _ gL 8 _ LG.out)
      refine ⟨⟨S4.os.trans G4.out.os,S4.tape.trans G4.out.tape,S4.output.trans G4.out.output,Nat.le_trans G4.out.size S4.size,fun n hn hne=>(S4.block n hn).trans (G4.out.block n hn hne)⟩,M4.out.of_block (S4.block bf MF1.out.lt),A,n,c,hnc,hcm,?_,?_⟩
      ·have hb:=(BG4.out.set_ 7 (.slice A n c)).set_ 8 (.string dn.target)
       rw [E1.out]
       simpa using hb
      ·rw [E1.out]
       refine (R4.out.keep fun m hm=>?_).more fun m hm=>?_
       ·have h1:=hm.1
        exact (Below.heap_setCell _ _ _ m (by show m≠gL; omega)).trans (Below.heap_setCell _ _ _ m (by show m≠gL; omega))
       ·have h1:=hm.1; have h2:=hm.2; have:=G3.out.size
        exact ⟨by omega,by simpa using h2⟩
   case rest =>
    obtain ⟨q1,q2,A,n,c,hnc,hcm,q3,q4⟩:=hcut
    have GC:=Lib.hid q1; have MC:=Lib.hid q2; have BC:=Lib.hid q3; have RC:=Lib.hid q4
    clear q1 q2 q3 q4 e9 lgL
    have HBC:Hid (Below B0 w wc):=Lib.hid (W1B.out.trans (below_grown GC.out hbf (Nat.le_trans SZB.out W1.out.size)))
    have BLC:=Lib.hid (BL1.out.grown GC.out (fun e=>hlf (by injection e)))
    have OWNC:Hid (Own Shape.LineD 60 wc B M v st.out):=Lib.hid (OWN1.out.kept GC.out (by cases hv:v.ownBlock with | none=>exact .inl rfl | some k=>right; intro e; injection e with e; have:=(OWN.out.lt k hv).1; have:=HL.out.ltf; omega) (fun n hn e=>by injection e with e; have:=HM.out n hn; have:=HL.out.ltf; omega))
    have OB:Hid (∀ k,v.ownBlock=some k→k<w1.heap.size):=Lib.hid fun k hk=>(OWN1.out.lt k hk).2
    obtain ⟨Av,nv,cv,rfl,hncv,hcmv,hrv⟩:=OWN1.out.rd
    have NV:Hid (nv=st.out.length):=Lib.hid hrv.1.symm
    have y1:=BLC.out.cell 1
    have lblc:=BLC.out.lt
    simp only [List.getElem?_toArray,List.getElem?_cons_succ,List.getElem?_cons_zero] at y1
    clear hrv
    go_upto_region 10 with (fail)
    generalize htop:((nv:Int) == 0)=top
    have HTOP:=Lib.hid htop
    have EP:Hid (put1 st dn path=⟨st.out++[ln],fs,nb⟩):=Lib.hid (by rw [HFS.out,HLN.out,HPE.out,HNB.out]; rfl)
    have EB:Hid (∀ q∈fs,q.2.size≤4194304):=Lib.hid (by
     rw [HFS.out]
     intro q hq
     unfold put1 at hq
     simp only at hq
     split at hq
     ·rcases mem_putKv q hq with h | h
      ·exact HL.out.paths q h
      ·rw [h]; have:=HNB.out; omega
     ·exact HL.out.paths q hq)
    clear htop y1
    go_cut [] (fun wx=>Below B0 w wx∧LsAt bl bi bf B bg offg gs (put1 st dn path) wx)
    case rest =>
     obtain ⟨q1,q2⟩:=hcut
     have HBX:=Lib.hid q1; have HLX:=Lib.hid q2
     have NBL:Hid (nb≤4194304):=Lib.hid (by omega)
     have TOP:Hid (top=st.out.isEmpty):=Lib.hid (by rw [← HTOP.out,NV.out]; cases st.out with | nil=>rfl | cons a l=>(simp; omega))
     clear q1 q2
     obtain ⟨-,-,-,-,-,-,-,-,-,k9,lbg,-,hre⟩:=HC.out wc HBX.out
     obtain ⟨n2,hn2⟩:∃ x,x=dn.ents.length:=⟨_,rfl⟩
     have HN2:=Lib.hid hn2
     rw [← hn2] at k9 HC
     have SD:=Lib.hid (HS.out dn (by rw [HDN.out,List.getD_eq_getElem?_getD,List.getElem?_eq_getElem hi]; exact List.getElem_mem hi))
     have hn2s:n2≤1000000000:=by rw [hn2]; exact SD.out.2.2.1
     clear hn2 hre
     go_wp2_with fail
     go_loopw [103] (fun v103 wr=>∃ (q:Nat) (stq:LSt),q≤n2∧v103=.int .i64 q∧R=addEs gs (addF gs fuel) st.out.isEmpty path (dn.ents.drop q) stq∧LsAt bl bi bf B bg offg gs stq wr∧Below B0 w wr∧nb≤stq.bytes∧stq.bytes≤4194304) (fun v103 _=>n2 - (intOf v103).toNat)
     case atStart=>exact ⟨0,put1 st dn path,Nat.zero_le _,rfl,HEND.out,HLX.out,HBX.out,by show nb≤st.bytes+path.size; rw [HNB.out]; exact Nat.le_refl _,by show st.bytes+path.size≤_; rw [← HNB.out]; exact NBL.out⟩
     case round =>
      obtain ⟨q,stq,hq,rfl,hRq,hlq,hbq,hnq,hmq⟩:=hrel
      have HRq:=Lib.hid hRq; have HLq:=Lib.hid hlq; have HBq:=Lib.hid hbq
      clear hRq hlq hbq
      by_cases hlt:q<n2
      ·have hqs:(q:Int)<n2:=by omega
       obtain ⟨-,-,-,-,-,-,-,-,-,-,-,-,hre⟩:=HC.out wr HBq.out
       obtain ⟨b2,off2,es2,hkl,rfl,hbm,hc,hr⟩:=hre.at_ hlt
       obtain ⟨he2,hsz2,_⟩:=hr
       subst he2
       have e13:Shape.EntD.size=2:=rfl
       have c0:=hc 0 (by decide); have c1':=hc 1 (by decide)
       simp only [e13,Nat.add_zero,List.getElem?_cons_zero,List.getElem?_cons_succ] at c0 c1'
       have lb2:b2<wr.heap.size:=by have:=SZB.out; have:=HBq.out.size; omega
       obtain ⟨en,hen⟩:∃ x,x=dn.ents[q]:=⟨_,rfl⟩
       have HDR:Hid (dn.ents.drop q=en :: dn.ents.drop (q+1)):=Lib.hid (by rw [hen]; exact List.drop_eq_getElem_cons hkl)
       rw [← hen] at c0 c1' hsz2
       obtain ⟨hn0,hn1,j,hj⟩:=SD.out.2.2.2 en (by rw [hen]; exact List.getElem_mem hkl)
       have HJ:=Lib.hid hj; have HN0:=Lib.hid hn0
       have SPS:=Lib.hid (subPath_size (top:=top) (path:=path) hn0)
       clear hre hc hen e13 hj hn0 k9 lbg
       go_wp2_with ((with_reducible refine at_store (ty:=103) (x:=.tmp 10) (y:=.tmp 106) ?_ ?_); exact rfl; go_loud (refine wpList_store_blk rfl 103 (.tmp 10) (.tmp 106) rfl _ rfl (Blk.new wr 103 #[.string ⟨#[]⟩,.int .i64 0]) rfl (by kernel_rfl) rfl rfl ?_); intro w3 b3 g3; refine StopR.mk ?_)
       unfold StopR
       have ga:(wr.alloc (.cells #[.string ⟨#[]⟩,.int .i64 0] 103)).grownBy w3 (some wr.heap.size):=g3
       have hsa:(wr.alloc (.cells #[.string ⟨#[]⟩,.int .i64 0] 103)).heap.size=wr.heap.size+1:=by simp
       have HB3:Hid (Below wr.heap.size wr w3):=Lib.hid ⟨ga.os,ga.tape,ga.output,(by have:=ga.size; omega),fun n hn=>(ga.block n (by omega) (by intro e; injection e with e; omega)).trans (Below.heap_alloc wr _ n hn)⟩
       have HL3:=Lib.hid (HLq.out.below HB3.out)
       have HBw3:Hid (Below B0 w w3):=Lib.hid (HBq.out.trans (HB3.out.mono (by have:=SZB.out; have:=HBq.out.size; omega)))
       have b3:Blk w3 wr.heap.size 103 #[.string en.name,.int .i64 en.id]:=b3
       have e0:=b3.cell 0; have e1:=b3.cell 1; have le:=b3.lt
       simp only [List.getElem?_toArray,List.getElem?_cons_succ,List.getElem?_cons_zero] at e0 e1
       have hrm:path.size+1≤4294967280:=by have:=NBL.out; have:=HNB.out; omega
       have hrm2:path.size+1+en.name.size≤4294967280:=by have:=NBL.out; have:=HNB.out; omega
       clear g3 ga hsa c0 c1' lb2 b3
       go_upto_if 110 with (fail)
       go_cut [11] (fun v wx=>v=.string (subPath top path en.name)∧wx=w3)
       case first =>
        cases top with
        | true =>
         go_wp2_with fail
         go_meet
         case rel=>exact ⟨rfl,rfl⟩
        | false =>
         go_wp2_with fail
         go_meet
         case rel=>exact ⟨rfl,rfl⟩
       case rest =>
        obtain ⟨rfl,rfl⟩:=hcut
        obtain ⟨v3,M3,bL3,-,-⟩:=HL3.out.own
        have y0:=bL3.cell 0; have lbl3:=bL3.lt
        simp only [List.getElem?_toArray,List.getElem?_cons_succ,List.getElem?_cons_zero] at y0
        obtain ⟨sub,hsub⟩:∃ x,x=subPath top path en.name:=⟨_,rfl⟩
        rw [← hsub] at SPS ⊢
        have HSUB:=Lib.hid hsub
        clear bL3 hsub
        have hzp:∀ w,(zeroValue 70).run Tryz.prog w=.ok (.pointer none) w:=fun w=>Tryz.zeroValue70 w
        go_wp2_with fail
        refine wp_region_grow_t [] 9 _ rfl (by kernel_rfl) [] rfl (by kernel_rfl) stays_nil ?_
        simp only [List.take_succ_cons,List.take_zero,List.drop_succ_cons,List.drop_zero]
        repeat (first
         | (refine g_w rfl ?_ (fun W=>?_) ?_; rotate_left; (focus (go_simp; (try with_reducible rfl); done)); simp only [Act.put,List.setIfInBounds_toArray,List.set_cons_zero,List.set_cons_succ])
         | (refine g_d rfl (by kernel_rfl) ?_ (fun δ=>?_) ?_; rotate_left; (focus (go_simp; (try with_reducible rfl); done)); simp only [Act.put,List.setIfInBounds_toArray,List.set_cons_zero,List.set_cons_succ]))
        refine g_d rfl (by kernel_rfl) (.pointer (some ⟨bg,offg+j*10,none⟩)) (fun δ=>?_) ?_
        ·have hl':=run_lookup_kv0 und_index (HL3.out.bys.over_ δ) en.id (hzp _)
         rw [HJ.out] at hl'
         have hl'':(Instr.lookup 69 (.map (some bi)) (.int .i64 en.id) false).run Tryz.prog (over wc δ)=.ok (.pointer (some ⟨bg,offg+j*10,none⟩)) (over wc δ):=hl'
         clear hl'
         go_simp
        simp only [Act.put,List.setIfInBounds_toArray,List.set_cons_zero,List.set_cons_succ]
        repeat (first
         | (refine g_w rfl ?_ (fun W=>?_) ?_; rotate_left; (focus (go_simp; (try with_reducible rfl); done)); simp only [Act.put,List.setIfInBounds_toArray,List.set_cons_zero,List.set_cons_succ])
         | (refine g_d rfl (by kernel_rfl) ?_ (fun δ=>?_) ?_; rotate_left; (focus (go_simp; (try with_reducible rfl); done)); simp only [Act.put,List.setIfInBounds_toArray,List.set_cons_zero,List.set_cons_succ]))
        refine g_end fun δ _=>?_
        refine endT_call ?_ ?_ (fun W=>?_) ?_
        rotate_left 2
        ·go_simp; (constructor <;> with_reducible rfl)
        have HB4:Hid (Below B0 w (over wc δ)):=Lib.hid (HBw3.out.trans ((below_over wc δ).mono (by have:=SZB.out; have:=HBw3.out.size; omega)))
        refine (IH.out stq j sub (over wc δ) (HL3.out.below (below_over wc δ)) (HG.out.keep HB4.out.block) (Nat.le_trans hBw HB4.out.size) (idx_get HJ.out).1 SPS.out.1 (by have:=SPS.out.2; have:=NBL.out; have:=HNB.out; omega) hmq (by have:=HNB.out; omega)).mono ?_
        rintro e w5 ⟨hb5,hl5,rfl⟩
        have HB5:=Lib.hid (HB4.out.trans hb5); have HL5:=Lib.hid hl5
        refine ⟨_,rfl,?_⟩
        have BY:=Lib.hid (addF_bytes (gs:=gs) fuel stq j sub hmq)
        obtain ⟨r,hr⟩:∃ x,x=addF gs fuel stq j sub:=⟨_,rfl⟩
        rw [← hr] at HL5 BY ⊢
        have HRR:=Lib.hid hr
        obtain ⟨ok,hok⟩:∃ x,x=r.2:=⟨_,rfl⟩
        rw [← hok] at BY ⊢
        have HOK:=Lib.hid hok
        clear hr hok hb5 hl5 y0 lbl3 e0 e1 le
        simp only [Act.put,List.setIfInBounds_toArray,List.set_cons_zero,List.set_cons_succ]
        repeat (refine g_tail ?_ ?_ ?_; rotate_left; (focus (go_simp; (try with_reducible rfl); done)); simp only [Act.put,List.setIfInBounds_toArray,List.set_cons_zero,List.set_cons_succ])
        refine g_tail_end ?_
        have STEP:Hid (R=if r.2=true then addEs gs (addF gs fuel) st.out.isEmpty path (dn.ents.drop (q+1)) r.1 else (r.1,false)):=Lib.hid (by
         rw [HRq.out,HDR.out]
         conv=>lhs; unfold addEs
         rw [HJ.out]
         simp only
         rw [← TOP.out,← HSUB.out,← HRR.out])
        cases ok with
        | false =>
         have HE3:Hid (R=(r.1,false)):=Lib.hid (by rw [STEP.out,if_neg (by rw [← HOK.out]; decide)])
         go_wp2_with fail
         go_ret
         rw [HE3.out]
         exact ⟨HB5.out,HL5.out,rfl⟩
        | true =>
         have HE3:Hid (R=addEs gs (addF gs fuel) st.out.isEmpty path (dn.ents.drop (q+1)) r.1):=Lib.hid (by rw [STEP.out,if_pos HOK.out.symm])
         go_wp2_with fail
         go_roundw
         case rel=>exact ⟨q+1,r.1,by omega,by go_num,HE3.out,HL5.out,HB5.out,Nat.le_trans hnq (BY.out rfl).1,(BY.out rfl).2⟩
         case measure=>simp [intOf]; omega
      ·have hqs:¬ (q:Int)<n2:=by omega
       have hend:R=(stq,true):=by
        rw [HRq.out,List.drop_eq_nil_of_le (by rw [← HN2.out]; omega)]; rfl
       have HE2:=Lib.hid hend
       clear hend
       go_wp2_with fail
       go_ret
       rw [HE2.out]
       exact ⟨HBq.out,HLq.out,rfl⟩
    case first =>
     obtain ⟨p1,p2,p3,p4,p5,p6,p7,p8⟩:=lineAt_cells path dn peer
     rw [← HLN.out] at p1 p2 p3 p4 p5 p6 p7 p8
     have HPS:Hid (peer.size≤4194304):=Lib.hid (by
      rw [HPE.out]; unfold peerOf
      cases hk:getKv st.first dn.id with
      | none=>exact Nat.zero_le _
      | some q=>exact HL.out.paths _ (getKv_path hk))
     have RD:Hid (LineD.rd wc (From w1.heap.size wc) [.string path,.int .i64 dn.kind,.int .i64 dn.mode,.int .i64 dn.uid,.int .i64 dn.gid,.int .i64 dn.mtime.sec,.int .i64 dn.mtime.nano,.slice A n c,.string ln.target,.string peer] ln):=Lib.hid (by
      obtain ⟨i1,i2,i3,i4,i5,i6,i7,-⟩:=HI.out
      refine ⟨A,n,c,by rw [p1,p2,p3,p4,p5,p6,p7],?_,by rw [p2]; exact i1,by rw [p3]; exact i2,by rw [p4]; exact i3,by rw [p5]; exact i4,by rw [p6]; exact i5,by rw [p6]; exact i6,hnc,hcm,RC.out,?_,?_⟩
      ·rw [p1]; simp only [maxLen]; omega
      ·exact Nat.le_trans p8 i7
      ·rw [p7]; have:=HPS.out; simp only [maxLen]; omega)
     clear p1 p2 p3 p4 p5 p6 p7 p8
     have y1:=BLC.out.cell 1
     have lbd:=BLC.out.lt; have lgd:=BC.out.lt
     have t0:=BC.out.cell 0; have t1:=BC.out.cell 1; have t2:=BC.out.cell 2; have t3:=BC.out.cell 3; have t4:=BC.out.cell 4; have t5:=BC.out.cell 5; have t6:=BC.out.cell 6; have t7:=BC.out.cell 7; have t8:=BC.out.cell 8; have t9:=BC.out.cell 9
     simp only [List.getElem?_toArray,List.getElem?_cons_succ,List.getElem?_cons_zero] at y1 t0 t1 t2 t3 t4 t5 t6 t7 t8 t9
     refine wp_region_grow_tt [(6,madeOne 60 #[.string path,.int .i64 dn.kind,.int .i64 dn.mode,.int .i64 dn.uid,.int .i64 dn.gid,.int .i64 dn.mtime.sec,.int .i64 dn.mtime.nano,.slice A n c,.string ln.target,.string peer] wc.heap.size)] 7 10 _ _ rfl rfl (by kernel_rfl) [6] rfl (by kernel_rfl) (stays_cons (madeOne_stays _ _ _) stays_nil) ?_
     simp only [List.take_succ_cons,List.take_zero,List.drop_succ_cons,List.drop_zero]
     repeat (first
      | (refine g_w rfl ?_ (fun W=>?_) ?_; rotate_left; (focus (go_simp; (try with_reducible rfl); done)); simp only [Act.put,List.setIfInBounds_toArray,List.set_cons_zero,List.set_cons_succ])
      | (refine g_d rfl (by kernel_rfl) ?_ (fun δ=>?_) ?_; rotate_left; (focus (go_simp; (try with_reducible rfl); done)); simp only [Act.put,List.setIfInBounds_toArray,List.set_cons_zero,List.set_cons_succ]))
     refine g_new rfl (fun δ hF=>⟨(over wc δ).heap.size,(over wc δ).alloc (.cells #[.string path,.int .i64 dn.kind,.int .i64 dn.mode,.int .i64 dn.uid,.int .i64 dn.gid,.int .i64 dn.mtime.sec,.int .i64 dn.mtime.nano,.slice A n c,.string ln.target,.string peer] 60),?_,below_alloc' _ _,Blk.new _ _ _,size_over_le _ _⟩) (fun gN=>?_)
     ·clear hF
      go_simp; rfl
     simp only [Act.put,List.setIfInBounds_toArray,List.set_cons_zero,List.set_cons_succ]
     refine g_end fun δ hF=>?_
     have h6:(madeOne 60 #[.string path,.int .i64 dn.kind,.int .i64 dn.mode,.int .i64 dn.uid,.int .i64 dn.gid,.int .i64 dn.mtime.sec,.int .i64 dn.mtime.nano,.slice A n c,.string ln.target,.string peer] wc.heap.size).Fact gN (over wc δ):=hF 6
     clear hF
     have RD2:LineD.rd (over wc δ) (From w1.heap.size wc) [.string path,.int .i64 dn.kind,.int .i64 dn.mode,.int .i64 dn.uid,.int .i64 dn.gid,.int .i64 dn.mtime.sec,.int .i64 dn.mtime.nano,.slice A n c,.string ln.target,.string peer] ln:=Shape.LineD.keep RD.out fun k hk=>over_heap_lt hk.2
     refine endTT_append (v:=.slice Av nv cv) elem_LineD (.tmp 92) (.tmp 94) rfl rfl (OWNC.out.over_ δ) rfl (src_blkT (s:=Shape.LineD) h6.1 RD2) (fun m hm=>⟨lt_over hm.2,fun e=>by have:=OB.out m e.symm; have:=hm.1; omega⟩) (by have:=HL.out.len; simp; omega) (by have:=HL.out.len; simp [maxLen]; omega) (by have:=GC.out.size; have:=SZ1.out; have:=size_over_le wc δ; omega) (fun v' w5 hown5 hg5 hat5=>?_)
     obtain ⟨A5,n5,c5,rfl,h51,h52,-⟩:=hown5.rd
     have O5:=Lib.hid hown5; have G5:=Lib.hid hg5
     have BL5:=Lib.hid ((BLC.out.over_ δ).grown hg5 (fun e=>by have:=(OWN.out.lt bl e.symm).1; have:=HL.out.ltl; omega))
     have z1:=BL5.out.cell 1; have fz1:=BL5.out.frozen 1; have lz:=BL5.out.lt
     simp only [List.getElem?_toArray,List.getElem?_cons_succ,List.getElem?_cons_zero] at z1
     have HWD:Hid (Below wc.heap.size wc (over wc δ)):=Lib.hid (below_over wc δ)
     clear hown5 hg5 hat5 h6 RD2 y1 t0 t1 t2 t3 t4 t5 t6 t7 t8 t9
     simp only [Act.put,List.setIfInBounds_toArray,List.set_cons_zero,List.set_cons_succ]
     repeat (refine g_mid (by kernel_rfl) ?_ ?_ ?_; rotate_left; (focus (go_simp; (try with_reducible rfl); done)); simp only [Act.put,List.setIfInBounds_toArray,List.set_cons_zero,List.set_cons_succ])
     refine g_mid_end ?_
     refine endT_of undef (w5.setCell ⟨bl,1,none⟩ (.slice A5 n5 c5)) (.inr ⟨?_,rfl⟩) ?_
     ·go_simp
     simp only [Act.put,List.setIfInBounds_toArray,List.set_cons_zero,List.set_cons_succ]
     refine g_tail_end ?_
     go_wp2_with fail
     go_meet
     case rel =>
      rw [EP.out]
      exact ls_append2 HL.out hbl hif hil hlf HBC.out SZB.out ((GC.out.block bi (by have:=HL.out.bys.lt; have:=SZ1.out; omega) (fun e=>hif (by injection e))).trans HI1.out) MC.out HWD.out OWNC.out O5.out (fun n hn=>hn.elim (HM.out n) (fun h=>by have:=h.1; have:=SZ1.out; omega)) G5.out BL5.out (by have:=HL.out.len; have:=HNB.out; omega) EB.out
end Go.Proofs.YtfhfcipelgogjaaGreatDoor
