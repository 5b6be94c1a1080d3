/- graph.read: whether a graph is well-formed, and the index of its nodes. No condition but room. graph.begin: the index of a well-formed graph and the node of the root. No condition but room. -/
import Derived.Test.YtfhfcipelgogjaaGreatDoorEnter
import Derived.OwnWalk
set_option linter.unusedSectionVars false
set_option linter.unusedVariables false
set_option linter.unusedSimpArgs false
set_option maxHeartbeats 4000000
set_option maxRecDepth 100000
namespace Go.Proofs.YtfhfcipelgogjaaGreatDoor
open Go.RowKit
attribute [local go_sem] cell?_over frozen?_over lt_over le_over
def scanB:List NodeD→Int→Bool
 | [],_=>true
 | n :: r,last=>decide (last<n.id) && decide (n.id≤1099511627776) && soundB n && scanB r n.id
def entsSum:List NodeD→Nat
 | []=>0
 | n :: r=>n.ents.length+entsSum r
def enterAll (gs:List NodeD):List NodeD→List (Int×Int)→Option (List (Int×Int))
 | [],kv=>some kv
 | n :: r,kv=>(enterF gs n.id n.ents ⟨#[]⟩ kv).bind (enterAll gs r)
def basicB (gs:List NodeD):Bool:=decide (gs.length≤4096) && scanB gs 0 && decide (entsSum gs≤8192)
def WfG (gs:List NodeD):Prop:=basicB gs=true∧∃ kv,enterAll gs gs []=some kv∧AllEnds kv
def NotWfG (gs:List NodeD):Prop:=basicB gs=false∨enterAll gs gs []=none∨∃ kv,enterAll gs gs []=some kv∧¬ ∃ rank,Falls kv rank
def SmallG (gs:List NodeD):Prop:=∀ n∈gs,n.ents.length≤1000000000∧(∀ e∈n.ents,e.name.size≤100000000)
def GreadEnd (gs:List NodeD) (bg offg:Nat) (w:World) (e:Ending) (w':World):Prop:=
 Below w.heap.size w w'∧∃ m ok,e=.returned (.tuple #[m,.bool ok])∧(ok=true→∃ bi,w.heap.size≤bi∧m=.map (some bi)∧IsMap kI (nodeV bg offg) w' bi (idx gs)∧WfG gs)∧(ok=false→NotWfG gs)
theorem entsSum_take {gs:List NodeD} {i:Nat} (h:i<gs.length):entsSum (gs.take (i+1))=entsSum (gs.take i)+gs[i].ents.length:=by
 rw [List.take_succ_eq_append_getElem h]
 generalize gs.take i=l
 induction l with
 | nil=>simp [entsSum]
 | cons a l ih=>simp only [List.cons_append,entsSum,ih]; omega
theorem entsSum_le:∀ (l:List NodeD),(∀ n∈l,n.ents.length≤1000000000)→entsSum l≤l.length*1000000000
 | [],_=>Nat.zero_le _
 | n :: r,h=>by
  have h1:=h n (List.mem_cons_self ..)
  have h2:=entsSum_le r fun x hx=>h x (List.mem_cons_of_mem _ hx)
  simp only [entsSum,List.length_cons]
  omega
theorem putKv_newN {kv:List (Int×Nat)} {k:Int} {v:Nat} (h:hasKv kv k=false):putKv kv k v=kv++[(k,v)]:=by unfold putKv; rw [h]; rfl
theorem idx_take {gs:List NodeD} {i:Nat} (h:i<gs.length):idx (gs.take (i+1))=idx (gs.take i)++[(gs[i].id,i)]:=by
 unfold idx
 rw [List.take_succ_eq_append_getElem h,List.zipIdx_append,List.map_append]
 congr 1
 simp [List.length_take]
 omega
theorem enterF_len {gs:List NodeD} {nid:Int}:∀ (es:List EntD) (name:ByteArray) (kv kv':List (Int×Int)),enterF gs nid es name kv=some kv'→kv'.length≤kv.length+es.length
 | [],_,kv,kv',h=>by simp only [enterF] at h; injection h with h; subst h; simp
 | e :: es,name,kv,kv',h=>by
  unfold enterF at h
  split at h
  ·cases h
  ·split at h
   ·cases h
   ·split at h
    ·cases h
    ·split at h
     ·have:=enterF_len es _ _ _ h; simp only [List.length_cons]; omega
     ·split at h
      ·cases h
      ·have:=enterF_len es _ _ _ h
       simp only [List.length_cons,List.length_append,List.length_nil] at this ⊢
       omega
theorem enterAll_len {gs:List NodeD}:∀ (r:List NodeD) (kv kv':List (Int×Int)),enterAll gs r kv=some kv'→kv'.length≤kv.length+entsSum r
 | [],kv,kv',h=>by simp only [enterAll] at h; injection h with h; subst h; simp [entsSum]
 | n :: r,kv,kv',h=>by
  unfold enterAll at h
  rw [Option.bind_eq_some_iff] at h
  obtain ⟨k1,h1,h2⟩:=h
  have a1:=enterF_len _ _ _ _ h1
  have a2:=enterAll_len r _ _ h2
  simp only [entsSum]
  omega
theorem graphRead {bg offg N c:Nat} {gs:List NodeD} (w:World) (hg:Row Shape.NodeD w (Old w) (some ⟨bg,offg,none⟩) N gs) (hs:SmallG gs) (hN:N≤1000000000) :
  Calls Tryz.prog 52 #[.agg #[.slice (some ⟨bg,offg,none⟩) N c]] w (GreadEnd gs bg offg w):=by
 have HG:=Lib.hid hg; have HS:=Lib.hid hs
 have HN:=Lib.hid hg.1
 have hmm:=@run_makeMap Tryz.prog
 clear hg hs
 by_cases h4:4096<N
 ·have t4:(4096:Int)<N:=by omega
  have hb:basicB gs=false:=by unfold basicB; rw [HN.out,decide_eq_false (by omega)]; rfl
  have HB:=Lib.hid hb
  clear hb h4
  go_enter Tryz.func52,Tryz.ntmps52
  go_wp2_with fail
  go_ret2
  exact ⟨by go_grown,_,false,rfl,(fun h=>by cases h),fun _=>.inl HB.out⟩
 have t4:¬ (4096:Int)<N:=by omega
 go_enter Tryz.func52,Tryz.ntmps52
 go_wp2_with fail
 have BX0:=Lib.hid ((Blk.new w 24 #[.slice (some ⟨bg,offg,none⟩) N c]).alloc (.map #[] 0))
 have M0:Hid (IsMap kI (nodeV bg offg) ((w.alloc (.cells #[.slice (some ⟨bg,offg,none⟩) N c] 24)).alloc (.map #[] 0)) (w.heap.size+1) (idx (gs.take 0))):=Lib.hid (by have:=IsMap.new kI (nodeV bg offg) (w.alloc (.cells #[.slice (some ⟨bg,offg,none⟩) N c] 24)); simpa [idx] using this)
 have W0:Hid (Below w.heap.size w ((w.alloc (.cells #[.slice (some ⟨bg,offg,none⟩) N c] 24)).alloc (.map #[] 0))):=Lib.hid (by go_grown)
 go_loopw [5,6,19] (fun v5 v6 v19 wr=>∃ (i:Nat) (last:Int),i≤N∧v19=.int .i64 i∧v5=.int .i64 last∧v6=.int .i64 (entsSum (gs.take i))∧scanB gs 0=scanB (gs.drop i) last∧(∀ k∈(idx (gs.take i)).map (·.1),k≤last)∧IsMap kI (nodeV bg offg) wr (w.heap.size+1) (idx (gs.take i))∧Blk wr w.heap.size 24 #[.slice (some ⟨bg,offg,none⟩) N c]∧Below w.heap.size w wr) (fun _ _ v19 _=>N - (intOf v19).toNat)
 case atStart=>exact ⟨0,0,Nat.zero_le _,rfl,rfl,by simp [entsSum],by simp,(fun k hk=>by simp [idx] at hk),M0.out,BX0.out,W0.out⟩
 case round =>
  clear BX0 M0 W0
  obtain ⟨i,last,hi,rfl,rfl,rfl,hsc,hkeys,hmap,hbx,hbel⟩:=hrel
  have HSC:=Lib.hid hsc; have HK:=Lib.hid hkeys; have HM:=Lib.hid hmap; have BX:=Lib.hid hbx; have HB:=Lib.hid hbel
  clear hsc hkeys hmap hbx hbel
  have x0:=BX.out.cell 0; have lx:=BX.out.lt
  simp only [List.getElem?_toArray,List.getElem?_cons_zero] at x0
  by_cases hlt:i<N
  ·have hls:(i:Int)<N:=by omega
   obtain ⟨bg',offg',es,hkl,hA,hbm,hc,hr⟩:=HG.out.at_ hlt
   injection hA with hA
   injection hA with hA1 hA2
   subst hA1 hA2
   have e10:Shape.NodeD.size=10:=rfl
   rw [e10] at hc
   obtain ⟨dn,hdn⟩:∃ x,x=gs[i]:=⟨_,rfl⟩
   rw [← hdn] at hr
   have NA:=Lib.hid (show NodeAt w bg (offg+i*10) es dn from ⟨hc,hr,hbm⟩)
   have NB:=Lib.hid (NA.out.below HB.out)
   have hsmall:=HS.out dn (by rw [hdn]; exact List.getElem_mem hkl)
   have hsc2:scanB (gs.drop i) last=(decide (last<dn.id) && decide (dn.id≤1099511627776) && soundB dn && scanB (gs.drop (i+1)) dn.id):=by rw [List.drop_eq_getElem_cons hkl,← hdn]; rfl
   have c0:=NB.out.1 0 (by decide); have c9:=NB.out.1 9 (by decide)
   have lg:=NB.out.2.2
   obtain ⟨A1,n1,c1,A2,n2,c2,rfl,-,hn2,-⟩:=NB.out.cells
   simp only [List.getElem?_cons_zero,List.getElem?_cons_succ] at c0 c9
   rw [Nat.add_zero] at c0
   have HDN:=Lib.hid hdn
   clear hc hr hbm hdn e10
   have BNO:Hid (scanB (gs.drop i) last=false→basicB gs=false):=Lib.hid fun h=>by unfold basicB; rw [HSC.out,h]; simp
   by_cases h1:last<dn.id
   ·have u1:decide (dn.id≤last)=false:=by simpa using h1
    by_cases h2:dn.id≤1099511627776
    ·have u2:decide (dn.id>1099511627776)=false:=by simpa using h2
     obtain ⟨sb,hsb⟩:∃ x,x=soundB dn:=⟨_,rfl⟩
     have SC:=Lib.hid (graphSound NB.out)
     rw [← hsb] at SC hsc2
     rw [decide_eq_true h1,decide_eq_true h2] at hsc2
     have H1:=Lib.hid h1
     clear hsb h1 h2
     cases sb with
     | false =>
      have HNO:=Lib.hid (BNO.out (by rw [hsc2]; rfl))
      clear hsc2
      go_wp2_with fail
      refine SC.out.mono ?_
      rintro e w3 ⟨rfl,hb3⟩
      have HB3:=Lib.hid (below_old HB.out hb3)
      clear hb3
      go_wp2_with fail
      go_ret2
      exact ⟨HB3.out,_,false,rfl,(fun h=>by cases h),fun _=>.inl HNO.out⟩
     | true =>
      have hsc3:scanB gs 0=scanB (gs.drop (i+1)) dn.id:=by rw [HSC.out,hsc2]; rfl
      have HS3:=Lib.hid hsc3
      clear hsc2 hsc3
      go_wp2_with fail
      refine SC.out.mono ?_
      rintro e w3 ⟨rfl,hb3⟩
      have HB3:=Lib.hid (below_old HB.out hb3)
      have HM3:=Lib.hid (HM.out.of_block (hb3.block _ HM.out.lt)); have BX3:=Lib.hid (BX.out.below hb3 BX.out.lt)
      have NB3:=Lib.hid (NB.out.below hb3)
      clear hb3 c0 c9 lg x0 lx HM BX
      have c0:=NB3.out.1 0 (by decide); have c9:=NB3.out.1 9 (by decide)
      have lg:=NB3.out.2.2
      have x0:=BX3.out.cell 0; have lx:=BX3.out.lt
      simp only [List.getElem?_toArray,List.getElem?_cons_zero,List.getElem?_cons_succ] at c0 c9 x0
      rw [Nat.add_zero] at c0
      have hhas:hasKv (idx (gs.take i)) dn.id=false:=by
       rw [← Bool.not_eq_true,hasKv_iff]
       intro h
       have:=HK.out _ h
       have:=H1.out
       omega
      have HHS:=Lib.hid hhas
      clear hhas
      go_wp2_with (first
       | ((with_reducible refine at_upd (t:=69) (m:=.tmp 48) (x:=.tmp 52) (v:=.tmp 53) ?_ ?_); exact rfl; go_loud (refine wpList_mapUpdate_kv rfl (.tmp 48) (.tmp 52) (.tmp 53) _ rfl und_index HM3.out dn.id i rfl rfl rfl (fun w7 hm7 ho7=>StopR.mk ?_))))
      unfold StopR
      rw [putKv_newN HHS.out] at hm7
      have HM7:Hid (IsMap kI (nodeV bg offg) w7 (w.heap.size+1) (idx (gs.take (i+1)))):=Lib.hid (by rw [idx_take hkl,← HDN.out]; exact hm7)
      have BX7:=Lib.hid (BX3.out.grown ho7.grown (by intro e; injection e with e; omega))
      have HB7:=Lib.hid (HB3.out.grown ho7.grown HB3.out.size (fun k e=>by injection e with e; omega))
      have hg1:bg≠w.heap.size+1:=by have:=NA.out.2.2; omega
      have c97:=(World.cell?_of_block (w:=w3) (a:=⟨bg,offg+i*10+9,none⟩) (ho7.block bg hg1)).trans c9
      have lg7:bg<w7.heap.size:=by have:=ho7.size; omega
      have hsum:entsSum (gs.take i)≤5000000000000:=by
       have h1:=entsSum_le (gs.take i) fun n hn=>(HS.out n (List.mem_of_mem_take hn)).1
       rw [List.length_take] at h1
       omega
      have hsm1:=hsmall.1
      rw [← hn2] at hsm1
      have hes:entsSum (gs.take (i+1))=entsSum (gs.take i)+n2:=by rw [entsSum_take hkl,← HDN.out,hn2]
      have HES:=Lib.hid hes
      have HKN:Hid (∀ k∈(idx (gs.take (i+1))).map (·.1),k≤dn.id):=Lib.hid fun k hk=>by
       rw [idx_take hkl,List.map_append,List.mem_append] at hk
       rcases hk with hk | hk
       ·have:=HK.out k hk; have:=H1.out; omega
       ·simp at hk; rw [hk,HDN.out]; exact Int.le_refl _
      obtain ⟨sm,hsm⟩:∃ x,x=entsSum (gs.take i):=⟨_,rfl⟩
      rw [← hsm] at hsum HES ⊢
      clear hm7 ho7 c0 c9 x0 lx lg hg1 hes hn2 hsmall hsm HM3 BX3
      go_wp2_with fail
      go_roundw
      case rel=>exact ⟨i+1,dn.id,by omega,by go_num,rfl,by rw [HES.out]; go_num,HS3.out,HKN.out,HM7.out,BX7.out,HB7.out⟩
      case measure=>simp [intOf]; omega
    ·have u2:decide (dn.id>1099511627776)=true:=by simpa using h2
     have HNO:=Lib.hid (BNO.out (by rw [hsc2,decide_eq_false h2]; simp))
     clear hsc2 h1 h2
     go_wp2_with fail
     go_ret2
     exact ⟨HB.out,_,false,rfl,(fun h=>by cases h),fun _=>.inl HNO.out⟩
   ·have u1:decide (dn.id≤last)=true:=by simpa using h1
    have HNO:=Lib.hid (BNO.out (by rw [hsc2,decide_eq_false h1]; simp))
    clear hsc2 h1
    go_wp2_with fail
    go_ret2
    exact ⟨HB.out,_,false,rfl,(fun h=>by cases h),fun _=>.inl HNO.out⟩
  ·have hls:¬ (i:Int)<N:=by omega
   have hiN:i=N:=by omega
   subst hiN
   have htk:gs.take i=gs:=List.take_of_length_le (by rw [HN.out]; omega)
   have hdr:gs.drop i=[]:=List.drop_eq_nil_of_le (by rw [HN.out]; omega)
   rw [htk] at HM
   rw [hdr] at HSC
   rw [htk]
   have hsum:entsSum gs≤5000000000000:=by
    have h1:=entsSum_le gs fun n hn=>(HS.out n hn).1
    rw [HN.out] at h1
    omega
   obtain ⟨sm,hsm⟩:∃ x,x=entsSum gs:=⟨_,rfl⟩
   rw [← hsm] at hsum ⊢
   have HSM:=Lib.hid hsm
   clear htk hdr HK hsm
   by_cases h8:8192<sm
   ·have u8:decide ((sm:Int)>8192)=true:=by simp; omega
    have hb:basicB gs=false:=by unfold basicB; rw [← HSM.out,decide_eq_false (show ¬ sm≤8192 by omega)]; simp
    have HNO:=Lib.hid hb
    clear hb h8
    go_wp2_with fail
    go_ret2
    exact ⟨HB.out,_,false,rfl,(fun h=>by cases h),fun _=>.inl HNO.out⟩
   ·have u8:decide ((sm:Int)>8192)=false:=by simp; omega
    have hb:basicB gs=true:=by
     unfold basicB
     rw [← HSM.out,decide_eq_true (show sm≤8192 by omega),decide_eq_true (show gs.length≤4096 by rw [HN.out]; omega),HSC.out]
     rfl
    have HBA:=Lib.hid hb
    obtain ⟨RE,hRE⟩:∃ x,x=enterAll gs gs []:=⟨_,rfl⟩
    have HRE:=Lib.hid hRE
    have hsm8:sm≤8192:=by omega
    clear hb h8 hRE HSC
    have BX1:=Lib.hid (BX.out.alloc (.map #[] 0)); have HM1:=Lib.hid (HM.out.alloc (.map #[] 0))
    have PM1:=Lib.hid (IsMap.new kI cI wr)
    have HB1:=Lib.hid (HB.out.alloc HB.out.size (.map #[] 0))
    have lbp:w.heap.size+1<wr.heap.size:=HM.out.lt
    obtain ⟨bp,hbp⟩:∃ x,x=wr.heap.size:=⟨_,rfl⟩
    go_wp2_with fail
    rw [← hbp] at PM1 lbp ⊢
    clear hbp
    go_loopw [68] (fun v68 wq=>∃ (k:Nat) (kv:List (Int×Int)),k≤i∧v68=.int .i64 k∧RE=enterAll gs (gs.drop k) kv∧IsMap kI cI wq bp kv∧IsMap kI (nodeV bg offg) wq (w.heap.size+1) (idx gs)∧Blk wq w.heap.size 24 #[.slice (some ⟨bg,offg,none⟩) i c]∧Below w.heap.size w wq) (fun v68 _=>i - (intOf v68).toNat)
    case atStart=>exact ⟨0,[],Nat.zero_le _,rfl,HRE.out,PM1.out,HM1.out,BX1.out,HB1.out⟩
    case round =>
     clear PM1 HM1 BX1 HB1 BX HM HB x0 lx
     obtain ⟨k,kv,hk,rfl,hre,hpm,hmap,hbx,hbel⟩:=hrel
     have REk:=Lib.hid hre; have PM:=Lib.hid hpm; have HM:=Lib.hid hmap; have BX:=Lib.hid hbx; have HB:=Lib.hid hbel
     clear hre hpm hmap hbx hbel
     have x0:=BX.out.cell 0; have lx:=BX.out.lt
     simp only [List.getElem?_toArray,List.getElem?_cons_zero] at x0
     by_cases hlt:k<i
     ·have hks:(k:Int)<i:=by omega
      obtain ⟨bg',offg',es,hkl,hA,hbm,hc,hr⟩:=HG.out.at_ hlt
      injection hA with hA
      injection hA with hA1 hA2
      subst hA1 hA2
      have e10:Shape.NodeD.size=10:=rfl
      rw [e10] at hc
      have NA:NodeAt w bg (offg+k*10) es gs[k]:=⟨hc,hr,hbm⟩
      have lg:bg<wr.heap.size:=Nat.lt_of_lt_of_le hbm HB.out.size
      have hsmall:=HS.out gs[k] (List.getElem_mem hkl)
      have EN:=Lib.hid (graphEnter (bi:=w.heap.size+1) (bp:=bp) wr (NA.below HB.out) (HG.out.below HB.out) HM.out PM.out (by omega) hsmall.2 hsmall.1)
      have hnx:enterAll gs (gs.drop k) kv=(enterF gs gs[k].id gs[k].ents ⟨#[]⟩ kv).bind (enterAll gs (gs.drop (k+1))):=by rw [List.drop_eq_getElem_cons hkl]; rfl
      have HNX:=Lib.hid hnx
      clear hc hr hbm e10 NA hsmall hnx
      go_wp2_with fail
      refine EN.out.mono ?_
      rintro e w3 ⟨hgr,kv',hpm',hen⟩
      have PM3:=Lib.hid hpm'
      have HM3:=Lib.hid (HM.out.of_block (hgr.block _ HM.out.lt (by intro e; injection e with e; omega)))
      have BX3:=Lib.hid (BX.out.grown hgr (by intro e; injection e with e; omega))
      have HB3:=Lib.hid (HB.out.grown hgr HB.out.size (fun k e=>by injection e with e; omega))
      clear hpm' hgr PM HM BX HB EN
      rcases hen with ⟨rfl,hef⟩ | ⟨rfl,hef⟩
      ·have hre2:RE=enterAll gs (gs.drop (k+1)) kv':=by rw [REk.out,HNX.out,hef]; rfl
       have RE2:=Lib.hid hre2
       clear hef hre2
       go_wp2_with fail
       go_roundw
       case rel=>exact ⟨k+1,kv',by omega,by go_num,RE2.out,PM3.out,HM3.out,BX3.out,HB3.out⟩
       case measure=>simp [intOf]; omega
      ·have hre2:RE=none:=by rw [REk.out,HNX.out,hef]; rfl
       have RE2:=Lib.hid hre2
       clear hef hre2
       go_wp2_with fail
       go_ret2
       exact ⟨HB3.out,_,false,rfl,(fun h=>by cases h),fun _=>.inr (.inl (by rw [← HRE.out]; exact RE2.out))⟩
     ·have hks:¬ (k:Int)<i:=by omega
      have hre2:RE=some kv:=by rw [REk.out,List.drop_eq_nil_of_le (by rw [HN.out]; omega)]; rfl
      have RE2:=Lib.hid hre2
      have hlen:kv.length≤8192:=by
       have:=enterAll_len gs [] kv (by rw [← HRE.out]; exact hre2)
       have:=HSM.out
       simp at *
       omega
      clear hre2
      have RT:=Lib.hid (graphRooted wr PM.out (by omega))
      go_wp2_with fail
      refine RT.out.mono ?_
      rintro e w3 ⟨r,rfl,hr1,hr2,hb3⟩
      have HB3:=Lib.hid (below_old HB.out hb3)
      have HM3:=Lib.hid (HM.out.of_block (hb3.block _ HM.out.lt))
      have Q1:=Lib.hid hr1; have Q2:=Lib.hid hr2
      clear hb3 hr1 hr2
      go_wp2_with fail
      go_ret2
      exact ⟨HB3.out,_,r,rfl,(fun h=>⟨w.heap.size+1,by omega,rfl,HM3.out,HBA.out,kv,by rw [← HRE.out]; exact RE2.out,Q1.out h⟩),fun h=>.inr (.inr ⟨kv,by rw [← HRE.out]; exact RE2.out,Q2.out h⟩)⟩
end Go.Proofs.YtfhfcipelgogjaaGreatDoor
namespace Go.Proofs.YtfhfcipelgogjaaGreatDoor
open Go.RowKit
attribute [local go_sem] cell?_over frozen?_over lt_over le_over
def RootG (gs:List NodeD) (root:Int) (i:Nat):Prop:=WfG gs∧getKv (idx gs) root=some i∧(gs.getD i default).kind=2
def NoRootG (gs:List NodeD) (root:Int):Prop:=NotWfG gs∨getKv (idx gs) root=none∨∃ i,getKv (idx gs) root=some i∧(gs.getD i default).kind≠2
def BeginEnd (gs:List NodeD) (root:Int) (bg offg:Nat) (w:World) (e:Ending) (w':World):Prop:=
 Below w.heap.size w w'∧((∃ bi i,w.heap.size≤bi∧e=.returned (.tuple #[.map (some bi),nodeV bg offg i,.int .i64 0])∧IsMap kI (nodeV bg offg) w' bi (idx gs)∧RootG gs root i) ∨
  ∃ err:Int,(err != 0)=true∧e=.returned (.tuple #[.map none,.pointer none,.int .i64 err])∧NoRootG gs root)
theorem graphBegin {bg offg N c:Nat} {gs:List NodeD} (root:Int) (w:World) (hg:Row Shape.NodeD w (Old w) (some ⟨bg,offg,none⟩) N gs) (hs:SmallG gs) (hN:N≤1000000000) :
  Calls Tryz.prog 26 #[.agg #[.slice (some ⟨bg,offg,none⟩) N c],.int .i64 root] w (BeginEnd gs root bg offg w):=by
 have HG:=Lib.hid hg; have HS:=Lib.hid hs
 have hzp:∀ w,(zeroValue 70).run Tryz.prog w=.ok (.pointer none) w:=fun w=>Tryz.zeroValue70 w
 have B0:Hid (Below w.heap.size w (w.alloc (.cells #[.slice (some ⟨bg,offg,none⟩) N c] 24))):=Lib.hid (below_alloc' _ _)
 have RD:=Lib.hid (graphRead (c:=c) _ (HG.out.below B0.out) HS.out hN)
 clear hg hs
 go_enter Tryz.func26,Tryz.ntmps26
 go_wp2_with fail
 refine RD.out.mono ?_
 rintro e w1 ⟨hb1,m,ok,rfl,hok,hno⟩
 have hb:=below_old B0.out hb1
 have HB:=Lib.hid hb; have HOK:=Lib.hid hok; have HNO:=Lib.hid hno
 have hsz0:(w.alloc (.cells #[.slice (some ⟨bg,offg,none⟩) N c] 24)).heap.size=w.heap.size+1:=by simp
 clear hb1 hb hok hno RD
 cases ok with
 | false =>
  go_wp2_with fail
  go_ret3
  exact ⟨HB.out,.inr ⟨140,rfl,rfl,.inl (HNO.out (by simp))⟩⟩
 | true =>
  obtain ⟨bi,hbi,rfl,hmap,hwf⟩:=HOK.out (by simp)
  have HM:=Lib.hid hmap; have WF:=Lib.hid hwf
  have hbi2:w.heap.size≤bi:=by omega
  clear hmap hwf hbi hsz0
  cases hk:getKv (idx gs) root with
  | none =>
   have HK:=Lib.hid hk
   clear hk
   go_wp2_with (first
    | ((with_reducible refine at_look (t:=69) (m:=.tmp 17) (x:=.tmp 18) (c:=false) ?_ ?_); exact rfl; go_loud (refine wpList_lookup_kv0 rfl (.tmp 17) (.tmp 18) _ rfl und_index HM.out root (hzp _) rfl rfl ?_); rw [HK.out]; simp only [Option.map_none,Option.getD_none]))
   go_ret3
   exact ⟨HB.out,.inr ⟨141,rfl,rfl,.inr (.inl HK.out)⟩⟩
  | some i =>
   have HK:=Lib.hid hk
   obtain ⟨hi,hid⟩:=idx_get hk
   have hiN:i<N:=by rw [← HG.out.1]; exact hi
   obtain ⟨bg',offg',esg,hkg,hAg,hbg,hcg,hrg⟩:=HG.out.at_ hiN
   injection hAg with hAg
   injection hAg with hAg1 hAg2
   subst hAg1 hAg2
   obtain ⟨_,_,_,_,_,_,heg,_⟩:=hrg
   subst heg
   have cg:=hcg 1 (by decide)
   have e10:Shape.NodeD.size=10:=rfl
   simp only [e10,List.getElem?_cons_zero,List.getElem?_cons_succ] at cg
   rw [← HB.out.cell hbg] at cg
   have lbg:bg<w1.heap.size:=Nat.lt_of_lt_of_le hbg HB.out.size
   obtain ⟨kd,hkd⟩:∃ x,x=gs[i].kind:=⟨_,rfl⟩
   rw [← hkd] at cg
   have HKD:Hid (kd=(gs.getD i default).kind):=Lib.hid (by rw [hkd,List.getD_eq_getElem?_getD,List.getElem?_eq_getElem hi]; rfl)
   clear hcg hid hiN hbg hkd e10 hk
   by_cases h2:kd=2
   ·subst h2
    go_wp2_with (first
     | ((with_reducible refine at_look (t:=69) (m:=.tmp 17) (x:=.tmp 18) (c:=false) ?_ ?_); exact rfl; go_loud (refine wpList_lookup_kv0 rfl (.tmp 17) (.tmp 18) _ rfl und_index HM.out root (hzp _) rfl rfl ?_); rw [HK.out]; simp only [Option.map_some,Option.getD_some,nodeV]))
    go_ret3
    exact ⟨HB.out,.inl ⟨bi,i,hbi2,rfl,HM.out,WF.out,HK.out,HKD.out.symm⟩⟩
   ·have h2':(kd != 2)=true:=by rw [bne_iff_ne]; exact h2
    have HNE:Hid ((gs.getD i default).kind≠2):=Lib.hid (by rw [← HKD.out]; exact h2)
    clear h2
    go_wp2_with (first
     | ((with_reducible refine at_look (t:=69) (m:=.tmp 17) (x:=.tmp 18) (c:=false) ?_ ?_); exact rfl; go_loud (refine wpList_lookup_kv0 rfl (.tmp 17) (.tmp 18) _ rfl und_index HM.out root (hzp _) rfl rfl ?_); rw [HK.out]; simp only [Option.map_some,Option.getD_some,nodeV]))
    go_ret3
    exact ⟨HB.out,.inr ⟨173,rfl,rfl,.inr (.inr ⟨i,HK.out,HNE.out⟩)⟩⟩
end Go.Proofs.YtfhfcipelgogjaaGreatDoor
