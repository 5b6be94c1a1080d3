/- graph.enter: the entries of a node, looked at and noted. No condition but room. -/
import Derived.Test.YtfhfcipelgogjaaGreatDoorGraphA
import Derived.Test.YtfhfcipelgogjaaGreatDoorGoodAll
import Derived.Test.YtfhfcipelgogjaaGreatDoorRooted
import Derived.Test.YtfhfcipelgogjaaGreatDoorRegAll
import Derived.Test.YtfhfcipelgogjaaGreatDoorBaseAt
set_option linter.unusedSectionVars false
set_option linter.unusedVariables false
set_option linter.unusedSimpArgs false
set_option maxHeartbeats 4000000
set_option maxRecDepth 100000
namespace Go.Proofs.YtfhfcipelgogjaaGreatDoor
open Go.RowKit
attribute [local go_sem] cell?_over frozen?_over lt_over le_over
theorem endT_mapUpd {P:Program} {md:Region.Mode} {ops:Array Oper} {a:Act} {ot:Oper} {Q:Act→World→Prop} {tail:List (Nat×Oper)} {W:World} {κ β:Type} [DecidableEq κ] {cv:β→Value} {K:KeyKind P κ} {b:Nat} {kv:List (κ×β)} (m x v:Operand) (t:TypeId) (ho:ot.op=.mapUpdate t m x v) {e:TypeId} (ht:P.underlying t=some (.map K.ty e)) (h:IsMap K cv W b kv) (k:κ) (y:β)
  (hm:a.eval m=.map (some b)) (hx:a.eval x=K.kf k) (hv:a.eval v=cv y) (hK:∀ W',IsMap K cv W' b (putKv kv k y)→Only b W W'→wpG P md ops Eq W' [] none Q tail (fun _ _=>True) (a.put ot.dst undef)):EndT P md ops ot Q tail a W:=by
 obtain ⟨w',hrun,r1,r2⟩:=run_mapUpdate ht h k y
 refine endT_of undef w' ?_ (hK w' r1 r2)
 unfold execOp
 simp only [ho,hm,hx,hv,Sem.run_bind,hrun,Result.andThen_ok,Sem.run_pure]
 first | exact .inl rfl | exact .inr ⟨rfl,rfl⟩ | exact .inr ⟨trivial,trivial⟩ | simp
def idx (gs:List NodeD):List (Int×Nat):=(gs.zipIdx).map fun p=>(p.1.id,p.2)
def nodeV (bg offg:Nat) (i:Nat):Value:=.pointer (some ⟨bg,offg+i*10,none⟩)
theorem und_index:Tryz.prog.underlying 69=some (.map kI.ty 70):=Tryz.underlying69
def txtLe (a b:ByteArray):Bool:=Op.bytesLess a.toList b.toList || a.toList == b.toList
def enterF (gs:List NodeD) (nid:Int):List EntD→ByteArray→List (Int×Int)→Option (List (Int×Int))
 | [],_,kv=>some kv
 | e :: es,name,kv=>match getKv (idx gs) e.id with
  | none=>none
  | some i=>if ¬ GoodP e.name then none else if txtLe e.name name=true then none
   else if (gs.getD i default).kind≠2 then enterF gs nid es e.name kv
   else if hasKv kv e.id=true then none else enterF gs nid es e.name (kv++[(e.id,nid)])
def EnterEnd (R:Option (List (Int×Int))) (bp:Nat) (w:World) (e:Ending) (w':World):Prop:=
 w.grownBy w' (some bp)∧(∃ kv',IsMap kI cI w' bp kv'∧(e=.returned (.bool true)∧R=some kv'∨e=.returned (.bool false)∧R=none))
theorem grownBy_refl (w:World) (b:Option Nat):w.grownBy w b:=⟨rfl,rfl,rfl,Nat.le_refl _,fun _ _ _=>rfl⟩
theorem grownBy_trans {a b c:World} {r:Option Nat} (h:a.grownBy b r) (k:b.grownBy c r):a.grownBy c r:=
 ⟨k.os.trans h.os,k.tape.trans h.tape,k.output.trans h.output,Nat.le_trans h.size k.size,fun n hn hne=>(k.block n (Nat.lt_of_lt_of_le hn h.size) hne).trans (h.block n hn hne)⟩
theorem cell_ne_map {P:Program} {κ β:Type} [DecidableEq κ] {cv:β→Value} {K:KeyKind P κ} {w:World} {b b' o:Nat} {kv:List (κ×β)} {v:Value} (h:IsMap K cv w b' kv) (hc:w.cell? ⟨b,o,none⟩=some v):b≠b':=by
 rintro rfl
 obtain ⟨es,c,hb,_⟩:=h
 simp [World.cell?,hb] at hc
theorem grown_cellE {w w':World} {bp b o:Nat} (h:w.grownBy w' (some bp)) (hb:b<w.heap.size) (hn:b≠bp):w'.cell? ⟨b,o,none⟩=w.cell? ⟨b,o,none⟩:=
 World.cell?_of_block (w:=w) (h.block b hb (fun e=>hn (by injection e)))
theorem idx_get {gs:List NodeD} {k:Int} {i:Nat} (h:getKv (idx gs) k=some i):∃ hi:i<gs.length,gs[i].id=k:=by
 unfold getKv at h
 rw [Option.map_eq_some_iff] at h
 obtain ⟨p,hp,rfl⟩:=h
 have h1:=List.find?_some hp
 have h2:=List.mem_of_find?_eq_some hp
 rw [decide_eq_true_eq] at h1
 unfold idx at h2
 obtain ⟨⟨n,j⟩,hq,rfl⟩:=List.mem_map.1 h2
 have:=List.mem_zipIdx_iff_getElem?.1 hq
 obtain ⟨hj,he⟩:=List.getElem?_eq_some_iff.1 this
 exact ⟨hj,by rw [he]; exact h1⟩
theorem putKv_new {kv:List (Int×Int)} {k v:Int} (h:hasKv kv k=false):putKv kv k v=kv++[(k,v)]:=by unfold putKv; rw [h]; rfl
theorem getKv_has {kv:List (Int×Int)} {k:Int}:(getKv kv k).isSome=hasKv kv k:=by
 rw [Bool.eq_iff_iff,hasKv_iff,Option.isSome_iff_exists]
 constructor
 ·rintro ⟨v,hv⟩; exact get_has hv
 ·intro h
  obtain ⟨p,hp,e⟩:=List.mem_map.1 h
  unfold getKv
  cases hf:kv.find? (fun p=>decide (p.1=k)) with
  | none=>rw [List.find?_eq_none] at hf; exact absurd e (by simpa using hf p hp)
  | some q=>exact ⟨q.2,rfl⟩
theorem graphEnter {b off bg offg bi bp N:Nat} {es:List Value} {d:NodeD} {gs:List NodeD} {kv:List (Int×Int)} (w:World) (h:NodeAt w b off es d) (hg:Row Shape.NodeD w (Old w) (some ⟨bg,offg,none⟩) N gs) (hi:IsMap kI (nodeV bg offg) w bi (idx gs)) (hp:IsMap kI cI w bp kv) (hne:bi≠bp) (hsm:∀ e∈d.ents,e.name.size≤100000000) (hnb:d.ents.length≤1000000000) :
  Calls Tryz.prog 89 #[.pointer (some ⟨b,off,none⟩),.map (some bi),.map (some bp)] w (EnterEnd (enterF gs d.id d.ents ⟨#[]⟩ kv) bp w):=by
 obtain ⟨R,hR⟩:∃ R,R=enterF gs d.id d.ents ⟨#[]⟩ kv:=⟨_,rfl⟩
 rw [← hR]
 have HR:=Lib.hid hR
 have k0:=h.1 0 (by decide); have k9:=h.1 9 (by decide)
 have lb:=h.2.2
 obtain ⟨A1,n1,c1,A2,n2,c2,rfl,-,hn2,-,-,-,hc2m,-,hrE⟩:=h.cells
 simp only [List.getElem?_cons_succ,List.getElem?_cons_zero] at k0 k9
 rw [Nat.add_zero] at k0
 have HN:=Lib.hid h; have HG:=Lib.hid hg; have HI:=Lib.hid hi; have HP:=Lib.hid hp; have HE:=Lib.hid hrE
 have hz:∀ w,(zeroValue 3).run Tryz.prog w=.ok (.int .i64 0) w:=fun w=>Tryz.zeroValue3 w
 have hzp:∀ w,(zeroValue 70).run Tryz.prog w=.ok (.pointer none) w:=fun w=>Tryz.zeroValue70 w
 rw [← hn2] at hnb
 have HN2:=Lib.hid hn2
 clear hR h hg hi hp hrE hn2
 go_enter Tryz.func89,Tryz.ntmps89
 go_wp2_with fail
 go_loopw [7,18] (fun v7 v18 wr=>∃ (q:Nat) (name:ByteArray) (kvq:List (Int×Int)),q≤n2∧v18=.int .i64 q∧v7=.string name∧R=enterF gs d.id (d.ents.drop q) name kvq∧IsMap kI cI wr bp kvq∧w.grownBy wr (some bp)) (fun _ v18 _=>n2 - (intOf v18).toNat)
 case atStart=>exact ⟨0,_,kv,Nat.zero_le _,rfl,rfl,HR.out,HP.out,grownBy_refl _ _⟩
 case round =>
  obtain ⟨q,name,kvq,hq,rfl,rfl,hRq,hpq,hgr⟩:=hrel
  have HRq:=Lib.hid hRq; have HPq:=Lib.hid hpq; have GRq:=Lib.hid hgr
  clear hRq hpq hgr
  by_cases hlq:q<n2
  ·have hqs:(q:Int)<n2:=by omega
   obtain ⟨b2,off2,es2,hkl,rfl,hbm,hc,hr⟩:=HE.out.at_ hlq
   obtain ⟨he2,hsz2,_⟩:=hr
   subst he2
   have e13:Shape.EntD.size=2:=rfl
   have c0:=hc 0 (by decide); have c1':=hc 1 (by decide)
   simp only [e13,Nat.add_zero,List.getElem?_cons_zero,List.getElem?_cons_succ] at c0 c1'
   have hb2:b2≠bp:=cell_ne_map HP.out c0
   rw [← grown_cellE GRq.out hbm hb2] at c0 c1'
   have hbb:b≠bp:=cell_ne_map HP.out k0
   have k0':=(grown_cellE (o:=off) GRq.out lb hbb).trans k0
   have lb2:b2<wr.heap.size:=Nat.lt_of_lt_of_le hbm GRq.out.size
   have lbr:b<wr.heap.size:=Nat.lt_of_lt_of_le lb GRq.out.size
   have HIq:=Lib.hid (HI.out.of_block (GRq.out.block bi HI.out.lt (fun e=>hne (by injection e))))
   obtain ⟨en,hen⟩:∃ x,x=d.ents[q]:=⟨_,rfl⟩
   have hdrop:d.ents.drop q=en :: d.ents.drop (q+1):=by rw [hen]; exact List.drop_eq_getElem_cons hkl
   have HDR:=Lib.hid hdrop
   rw [← hen] at c0 c1' hsz2
   have HSZ:=Lib.hid (hsm en (by rw [hen]; exact List.getElem_mem hkl))
   clear hc hbm hb2 hbb hen hdrop hsz2 e13
   go_wp2_with ((with_reducible refine at_store (ty:=103) (x:=.tmp 9) (y:=.tmp 21) ?_ ?_); exact rfl; go_loud (refine wpList_store_blk rfl 103 (.tmp 9) (.tmp 21) rfl _ rfl (Blk.new wr 103 #[.string ⟨#[]⟩,.int .i64 0]) rfl (by kernel_rfl) rfl rfl ?_); intro w3 b3 g3; refine StopR.mk ?_)
   unfold StopR
   have ga:(wr.alloc (.cells #[.string ⟨#[]⟩,.int .i64 0] 103)).grownBy w3 (some wr.heap.size):=g3
   have GR3:Hid (w.grownBy w3 (some bp)):=Lib.hid ⟨ga.os.trans GRq.out.os,ga.tape.trans GRq.out.tape,ga.output.trans GRq.out.output,(by { have h1:=ga.size; have h2:=GRq.out.size; have h3:(wr.alloc (.cells #[.string ⟨#[]⟩,.int .i64 0] 103)).heap.size=wr.heap.size+1:=(by simp); omega }),fun n hn hne'=>(ga.block n (by have:=GRq.out.size; simp; omega) (by intro e; injection e with e; have:=GRq.out.size; omega)).trans ((Below.heap_alloc wr _ n (by have:=GRq.out.size; omega)).trans (GRq.out.block n hn hne'))⟩
   have keep3:∀ n,n<wr.heap.size→w3.heap[n]?=wr.heap[n]?:=fun n hn=>(ga.block n (by simp; omega) (by intro e; injection e with e; omega)).trans (Below.heap_alloc wr _ n hn)
   have HP3:=Lib.hid (HPq.out.of_block (keep3 bp HPq.out.lt)); have HI3:=Lib.hid (HIq.out.of_block (keep3 bi HIq.out.lt))
   have b3:Blk w3 wr.heap.size 103 #[.string en.name,.int .i64 en.id]:=b3
   have e0:=b3.cell 0; have e1:=b3.cell 1; have le:=b3.lt
   simp only [List.getElem?_toArray,List.getElem?_cons_succ,List.getElem?_cons_zero] at e0 e1
   have k03:=(World.cell?_of_block (w:=wr) (a:=⟨b,off,none⟩) (keep3 b lbr)).trans k0'
   have lb3:b<w3.heap.size:=by { have h1:=ga.size; have h3:(wr.alloc (.cells #[.string ⟨#[]⟩,.int .i64 0] 103)).heap.size=wr.heap.size+1:=(by simp); omega }
   have B3:=Lib.hid b3
   clear g3 ga keep3 c0 c1' k0' lb2 HIq b3
   have GK:∀ W,Calls Tryz.prog 136 #[.string en.name] W fun e w'=>e=.returned (.bool (decide (GoodP en.name)))∧Below W.heap.size W w':=fun W=>routeGood en.name W (by have:=HSZ.out; omega)
   have HGK:=Lib.hid GK
   clear GK
   cases hk:getKv (idx gs) en.id with
   | none =>
    have hend:R=none:=by rw [HRq.out,HDR.out]; unfold enterF; rw [hk]
    have HEND:=Lib.hid hend; have HK:=Lib.hid hk
    clear hend hk
    go_wp2_with (first
     | ((with_reducible refine at_look (t:=69) (m:=.tmp 22) (x:=.tmp 24) (c:=false) ?_ ?_); exact rfl; go_loud (refine wpList_lookup_kv0 rfl (.tmp 22) (.tmp 24) _ rfl und_index HI3.out en.id (hzp _) rfl rfl ?_); rw [HK.out]))
    go_ret
    exact ⟨GR3.out,kvq,HP3.out,.inr ⟨rfl,HEND.out⟩⟩
   | some i =>
    have HK:=Lib.hid hk
    clear hk
    go_wp2_with (first
     | ((with_reducible refine at_look (t:=69) (m:=.tmp 22) (x:=.tmp 24) (c:=false) ?_ ?_); exact rfl; go_loud (refine wpList_lookup_kv0 rfl (.tmp 22) (.tmp 24) _ rfl und_index HI3.out en.id (hzp _) rfl rfl ?_); rw [HK.out]; simp only [Option.map_some,Option.getD_some,nodeV]))
    refine (HGK.out _).mono ?_
    rintro e w4 ⟨rfl,hb4⟩
    have GR4:=Lib.hid (grownBy_trans GR3.out (⟨hb4.os,hb4.tape,hb4.output,hb4.size,fun n hn _=>hb4.block n hn⟩:w3.grownBy w4 (some bp)))
    have HP4:=Lib.hid (HP3.out.of_block (hb4.block bp HP3.out.lt)); have HI4:=Lib.hid (HI3.out.of_block (hb4.block bi HI3.out.lt)); have B4:=Lib.hid (B3.out.below hb4 B3.out.lt)
    have k04:=(hb4.cell (p:=⟨b,off,none⟩) lb3).trans k03
    have lb4:b<w4.heap.size:=Nat.lt_of_lt_of_le lb3 hb4.size
    clear hb4 e0 e1 le k03 lb3 HP3 HI3 B3 GR3
    have e0:=B4.out.cell 0; have e1:=B4.out.cell 1; have le:=B4.out.lt
    simp only [List.getElem?_toArray,List.getElem?_cons_succ,List.getElem?_cons_zero] at e0 e1
    by_cases hgd:GoodP en.name
    ·rw [decide_eq_true hgd]
     have HGD:=Lib.hid hgd
     clear hgd
     cases htl:txtLe en.name name with
     | true =>
      have hend:R=none:=by rw [HRq.out,HDR.out]; unfold enterF; rw [HK.out]; show (if ¬ GoodP en.name then _ else _)=_; rw [if_neg (fun h=>h HGD.out),if_pos htl]
      have HEND:=Lib.hid hend
      unfold txtLe at htl
      clear hend
      go_wp2_with fail
      go_ret
      exact ⟨GR4.out,kvq,HP4.out,.inr ⟨rfl,HEND.out⟩⟩
     | false =>
      have HTL:=Lib.hid htl
      unfold txtLe at htl
      obtain ⟨hi,hid⟩:=idx_get HK.out
      have hiN:i<N:=by rw [← HG.out.1]; exact hi
      obtain ⟨bg',offg',esg,hkg,hAg,hbg,hcg,hrg⟩:=HG.out.at_ hiN
      injection hAg with hAg
      injection hAg with hAg1 hAg2
      subst hAg1 hAg2
      obtain ⟨_,_,_,_,_,_,heg,_⟩:=hrg
      subst heg
      have cg:=hcg 1 (by decide)
      have e10:Shape.NodeD.size=10:=rfl
      simp only [e10,List.getElem?_cons_zero,List.getElem?_cons_succ] at cg
      rw [← grown_cellE GR4.out hbg (cell_ne_map HP.out cg)] at cg
      have lbg:bg<w4.heap.size:=Nat.lt_of_lt_of_le hbg GR4.out.size
      obtain ⟨kd,hkd⟩:∃ x,x=gs[i].kind:=⟨_,rfl⟩
      rw [← hkd] at cg
      have HKD:Hid (kd=(gs.getD i default).kind):=Lib.hid (by rw [hkd,List.getD_eq_getElem?_getD,List.getElem?_eq_getElem hi]; rfl)
      clear hcg hid hiN hbg hkd e10
      by_cases hk2:kd=2
      ·subst hk2
       cases hpg:getKv kvq en.id with
       | some u =>
        have hend:R=none:=by rw [HRq.out,HDR.out]; unfold enterF; rw [HK.out]; show (if ¬ GoodP en.name then _ else _)=_; rw [if_neg (fun h=>h HGD.out),if_neg (by rw [HTL.out]; decide),if_neg (fun h=>h HKD.out.symm),if_pos (by rw [← getKv_has,hpg]; rfl)]
        have HEND:=Lib.hid hend; have HPG:=Lib.hid hpg
        clear hend hpg
        go_wp2_with (first
         | ((with_reducible refine at_look (t:=174) (m:=.tmp 48) (x:=.tmp 50) (c:=true) ?_ ?_); exact rfl; go_loud (refine wpList_lookup_kv rfl (.tmp 48) (.tmp 50) _ rfl und_mii HP4.out en.id (hz _) rfl rfl ?_); rw [HPG.out]; simp only [Option.map_some,Option.getD_some,Option.isSome_some]))
        go_ret
        exact ⟨GR4.out,kvq,HP4.out,.inr ⟨rfl,HEND.out⟩⟩
       | none =>
        have hhas:hasKv kvq en.id=false:=by rw [← getKv_has,hpg]; rfl
        have hnext:R=enterF gs d.id (d.ents.drop (q+1)) en.name (kvq++[(en.id,d.id)]):=by
         rw [HRq.out,HDR.out]
         conv=>lhs; unfold enterF
         rw [HK.out]
         show (if ¬ GoodP en.name then _ else _)=_
         rw [if_neg (fun h=>h HGD.out),if_neg (by rw [HTL.out]; decide),if_neg (fun h=>h HKD.out.symm),if_neg (by rw [hhas]; decide)]
        have HNX:=Lib.hid hnext; have HPG:=Lib.hid hpg; have HHS:=Lib.hid hhas
        clear hnext hpg hhas
        go_wp2_with (first
         | ((with_reducible refine at_look (t:=174) (m:=.tmp 48) (x:=.tmp 50) (c:=true) ?_ ?_); exact rfl; go_loud (refine wpList_lookup_kv rfl (.tmp 48) (.tmp 50) _ rfl und_mii HP4.out en.id (hz _) rfl rfl ?_); rw [HPG.out]; simp only [Option.map_none,Option.getD_none,Option.isSome_none]))
        refine wp_region_grow_t [] 7 _ rfl (by kernel_rfl) [] rfl (by kernel_rfl) stays_nil ?_
        simp only [List.take_succ_cons,List.take_zero,List.drop_succ_cons,List.drop_zero]
        repeat (first
         | (refine g_w rfl ?_ (fun W=>?_) ?_; rotate_left; (focus (go_simp; (try with_reducible rfl); done)); simp only [Act.put,List.setIfInBounds_toArray,List.set_cons_zero,List.set_cons_succ])
         | (refine g_d rfl (by kernel_rfl) ?_ (fun δ=>?_) ?_; rotate_left; (focus (go_simp; (try with_reducible rfl); done)); simp only [Act.put,List.setIfInBounds_toArray,List.set_cons_zero,List.set_cons_succ]))
        refine g_end fun δ _=>?_
        have HP5:=Lib.hid (HP4.out.over_ δ)
        have GR5:=Lib.hid (grownBy_trans GR4.out (⟨rfl,rfl,rfl,size_over_le _ _,fun n hn _=>over_heap_lt hn⟩:w4.grownBy (over w4 δ) (some bp)))
        refine endT_mapUpd _ _ _ 174 rfl und_mii HP5.out en.id d.id rfl rfl rfl (fun w6 hm6 ho6=>?_)
        refine g_tail_end ?_
        rw [putKv_new HHS.out] at hm6
        have HP6:=Lib.hid hm6
        have GR6:=Lib.hid (grownBy_trans GR5.out ho6.grown)
        clear hm6 ho6
        go_wp2_with fail
        go_roundw
        case rel=>exact ⟨q+1,en.name,_,by omega,by go_num,rfl,HNX.out,HP6.out,GR6.out⟩
        case measure=>simp [intOf]; omega
      ·have hk2':(kd != 2)=true:=by rw [bne_iff_ne]; exact hk2
       have hnext:R=enterF gs d.id (d.ents.drop (q+1)) en.name kvq:=by
        rw [HRq.out,HDR.out]
        conv=>lhs; unfold enterF
        rw [HK.out]
        show (if ¬ GoodP en.name then _ else _)=_
        rw [if_neg (fun h=>h HGD.out),if_neg (by rw [HTL.out]; decide),if_pos (by rw [← HKD.out]; exact hk2)]
       have HNX:=Lib.hid hnext
       clear hnext hk2
       go_wp2_with fail
       go_roundw
       case rel=>exact ⟨q+1,en.name,kvq,by omega,by go_num,rfl,HNX.out,HP4.out,GR4.out⟩
       case measure=>simp [intOf]; omega
    ·rw [decide_eq_false hgd]
     have hend:R=none:=by rw [HRq.out,HDR.out]; unfold enterF; rw [HK.out]; exact if_pos hgd
     have HEND:=Lib.hid hend
     clear hend hgd
     go_wp2_with fail
     go_ret
     exact ⟨GR4.out,kvq,HP4.out,.inr ⟨rfl,HEND.out⟩⟩
  ·have hqs:¬ (q:Int)<n2:=by omega
   have hqe:q=n2:=by omega
   have hend:R=some kvq:=by
    rw [HRq.out,List.drop_eq_nil_of_le (by rw [← HN2.out]; omega)]
    rfl
   have HEND:=Lib.hid hend
   clear hend
   go_wp2_with fail
   go_ret
   exact ⟨GRq.out,kvq,HPq.out,.inl ⟨rfl,HEND.out⟩⟩
end Go.Proofs.YtfhfcipelgogjaaGreatDoor
