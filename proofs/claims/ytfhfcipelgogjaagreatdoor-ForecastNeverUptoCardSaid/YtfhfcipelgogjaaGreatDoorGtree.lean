/- graph.Tree: the lines of a tree. No condition but room. -/
import Derived.Test.YtfhfcipelgogjaaGreatDoorAdd
set_option linter.unusedSectionVars false
set_option linter.unusedVariables false
set_option linter.unusedSimpArgs false
set_option maxHeartbeats 4000000
set_option maxRecDepth 100000
namespace Go.Proofs.YtfhfcipelgogjaaGreatDoor
open Go.RowKit
attribute [local go_sem] cell?_over frozen?_over lt_over le_over
def TFUEL:Nat:=4194305
def tree0 (gs:List NodeD) (i:Nat):LSt×Bool:=addF gs TFUEL ⟨[],[],0⟩ i ⟨#[46]⟩
def TreeEnd (gs:List NodeD) (root:Int) (w:World) (e:Ending) (w':World):Prop:=
 Below w.heap.size w w'∧((∃ i st v M,RootG gs root i∧tree0 gs i=(st,true)∧(st.out.length≤4194304∧∀ l∈st.out,l.data.length≤1000000000)∧e=.returned (.tuple #[v,.int .i64 0])∧Own Shape.LineD 60 w' w.heap.size M v st.out∧∀ n,M n→w.heap.size≤n) ∨
  ∃ err:Int,(err != 0)=true∧e=.returned (.tuple #[.slice none 0 0,.int .i64 err])∧(NoRootG gs root∨∃ i,RootG gs root i∧(tree0 gs i).2=false))
theorem enterAll_known {gs:List NodeD}:∀ (l:List NodeD) (kv kv':List (Int×Int)),enterAll gs l kv=some kv'→∀ n∈l,∀ e∈n.ents,0<e.name.size∧∃ j,getKv (idx gs) e.id=some j
 | [],_,_,_=>fun n hn=>by cases hn
 | x :: l,kv,kv',h=>by
  unfold enterAll at h
  rw [Option.bind_eq_some_iff] at h
  obtain ⟨kv1,h1,h2⟩:=h
  intro n hn
  rcases List.mem_cons.1 hn with rfl | hn
  ·have key:∀ (es:List EntD) (name:ByteArray) (kv kv':List (Int×Int)),enterF gs n.id es name kv=some kv'→∀ e∈es,0<e.name.size∧∃ j,getKv (idx gs) e.id=some j:=by
    intro es
    induction es with
    | nil=>intro _ _ _ _ e he; cases he
    | cons x es ih =>
     intro name kv kv' h e he
     unfold enterF at h
     cases hk:getKv (idx gs) x.id with
     | none=>rw [hk] at h; cases h
     | some i =>
      rw [hk] at h
      simp only at h
      have hgood:GoodP x.name:=by
       apply Classical.byContradiction
       intro hg
       rw [if_pos hg] at h; cases h
      have hrest:∃ name kv kv',enterF gs n.id es name kv=some kv':=by
       rw [if_neg (by simpa using hgood)] at h
       split at h
       ·cases h
       ·split at h
        ·exact ⟨_,_,_,h⟩
        ·split at h
         ·cases h
         ·exact ⟨_,_,_,h⟩
      rcases List.mem_cons.1 he with rfl | he
      ·refine ⟨?_,i,hk⟩
       rw [← size_list]
       exact List.length_pos_iff.2 hgood.1
      ·obtain ⟨a,b,c,hr⟩:=hrest
       exact ih a b c hr e he
   exact key _ _ _ _ h1
  ·exact enterAll_known l kv1 kv' h2 n hn
theorem scanB_sound:∀ (l:List NodeD) (last:Int),scanB l last=true→∀ n∈l,soundB n=true
 | [],_,_=>fun n hn=>by cases hn
 | x :: l,last,h=>by
  unfold scanB at h
  simp only [Bool.and_eq_true,decide_eq_true_eq] at h
  obtain ⟨⟨⟨h1,h2⟩,h3⟩,h4⟩:=h
  intro n hn
  rcases List.mem_cons.1 hn with rfl | hn
  ·exact h3
  ·exact scanB_sound l x.id h4 n hn
theorem small_target {n:NodeD} (h:soundB n=true):n.target.size≤4096:=by
 unfold soundB at h
 simp only [Bool.and_eq_true] at h
 have h8:=h.2
 unfold textB at h8
 split at h8
 ·have:=of_decide_eq_true h8; exact this.2.1
 ·have:=of_decide_eq_true h8; omega
theorem smallH_of {gs:List NodeD} (h:WfG gs) (hs:SmallG gs) (hd:∀ n∈gs,n.data.length≤1000000000):SmallH gs:=by
 obtain ⟨hb,kv,hkv,_⟩:=h
 have hsc:scanB gs 0=true:=by unfold basicB at hb; simp only [Bool.and_eq_true] at hb; exact hb.1.2
 intro n hn
 have h1:=small_target (scanB_sound gs 0 hsc n hn)
 have h2:=enterAll_known gs [] kv hkv n hn
 exact ⟨hd n hn,by omega,(hs n hn).1,fun e he=>⟨(h2 e he).1,(hs n hn).2 e he,(h2 e he).2⟩⟩
theorem getD_data {gs:List NodeD} (hd:∀ n∈gs,n.data.length≤1000000000) (i:Nat):(gs.getD i default).data.length≤1000000000:=by
 rw [List.getD_eq_getElem?_getD]
 by_cases hi:i<gs.length
 ·rw [List.getElem?_eq_getElem hi]; exact hd _ (List.getElem_mem hi)
 ·rw [List.getElem?_eq_none (by omega)]
  show ([]:List UInt8).length≤_
  simp
theorem addF_data {gs:List NodeD} (hd:∀ n∈gs,n.data.length≤1000000000):∀ (f:Nat) (st:LSt) (j:Nat) (p:ByteArray),(∀ l∈st.out,l.data.length≤1000000000)→∀ l∈(addF gs f st j p).1.out,l.data.length≤1000000000
 | 0,st,j,p,h=>h
 | f+1,st,j,p,h=>by
  unfold addF
  split
  ·exact h
  ·have hp:∀ l∈(put1 st (gs.getD j default) p).out,l.data.length≤1000000000:=fun l hl=>by
    unfold put1 at hl
    rcases List.mem_append.1 hl with hl | hl
    ·exact h l hl
    ·simp only [List.mem_singleton] at hl
     subst hl
     unfold lineAt
     split
     ·exact getD_data hd j
     ·exact Nat.zero_le _
   revert hp
   generalize put1 st (gs.getD j default) p=s1
   generalize (gs.getD j default).ents=es
   induction es generalizing s1 with
   | nil=>exact fun hp=>hp
   | cons e es ih =>
    intro hp
    unfold addEs
    cases getKv (idx gs) e.id with
    | none=>exact hp
    | some k =>
     simp only
     split
     ·exact ih _ (addF_data hd f _ _ _ hp)
     ·exact addF_data hd f _ _ _ hp
theorem graphTree {bg offg N c:Nat} {gs:List NodeD} (root:Int) (w:World) (hg:Row Shape.NodeD w (Old w) (some ⟨bg,offg,none⟩) N gs) (hs:SmallG gs) (hd:∀ n∈gs,n.data.length≤1000000000) (hN:N≤1000000000) :
  Calls Tryz.prog 10 #[.agg #[.slice (some ⟨bg,offg,none⟩) N c],.int .i64 root] w (TreeEnd gs root w):=by
 have HG:=Lib.hid hg; have HS:=Lib.hid hs; have HD:=Lib.hid hd
 have B0:Hid (Below w.heap.size w (w.alloc (.cells #[.slice (some ⟨bg,offg,none⟩) N c] 24))):=Lib.hid (below_alloc' _ _)
 have BE:=Lib.hid (graphBegin (c:=c) root _ (HG.out.below B0.out) HS.out hN)
 clear hg hs hd
 have hmm:=@run_makeMap Tryz.prog
 go_enter Tryz.func10,Tryz.ntmps10
 go_wp2_with fail
 refine BE.out.mono ?_
 rintro e w1 ⟨hb1,hcase⟩
 have HB1:=Lib.hid (below_old B0.out hb1)
 have hsz0:(w.alloc (.cells #[.slice (some ⟨bg,offg,none⟩) N c] 24)).heap.size=w.heap.size+1:=by simp
 clear hb1 BE
 rcases hcase with ⟨bi,i,hbi,rfl,hmap,hroot⟩ | ⟨err,herr,rfl,hno⟩
 ·have HM:=Lib.hid hmap; have HRT:=Lib.hid hroot
  have hbi2:w.heap.size≤bi:=by omega
  have lbi:=hmap.lt
  have SH:=Lib.hid (smallH_of hroot.1 HS.out HD.out)
  have hi:i<gs.length:=(idx_get hroot.2.1).1
  clear hmap hroot hbi hsz0
  unfold nodeV
  go_wp2_with fail
  obtain ⟨bf,hbf⟩:∃ x,x=w1.heap.size:=⟨_,rfl⟩
  obtain ⟨w3,hw3⟩:∃ x,x=(w1.alloc (.map #[] 0)).alloc (.cells #[.map (some bi),.slice none 0 0,.map (some bf),.int .i64 0] 75):=⟨_,rfl⟩
  rw [← hbf,← hw3]
  have hs1:w3.heap.size=bf+2:=by rw [hw3,hbf]; simp
  have hb3:Below w1.heap.size w1 w3:=by rw [hw3]; exact ((below_alloc' _ _).trans ((below_alloc' _ _).mono (by simp)))
  have HB3:=Lib.hid (below_old HB1.out hb3)
  have BL:Blk w3 (bf+1) 75 #[.map (some bi),.slice none 0 0,.map (some bf),.int .i64 0]:=by
   have:=Blk.new (w1.alloc (.map #[] 0)) 75 #[.map (some bi),.slice none 0 0,.map (some bf),.int .i64 0]
   rw [← hw3] at this
   have e:(w1.alloc (.map #[] 0)).heap.size=bf+1:=by rw [hbf]; simp
   rw [e] at this; exact this
  have MF:IsMap kI cW w3 bf ([]:List (Int×ByteArray)):=by
   rw [hw3,hbf]; exact (IsMap.new kI cW w1).alloc _
  have hl0:w.heap.size≤bf:=by rw [hbf]; exact HB1.out.size
  have LS:LsAt (bf+1) bi bf (bf+2) bg offg gs ⟨[],[],0⟩ w3:=⟨⟨.slice none 0 0,fun _=>False,BL,Own.start _ _ _ _,fun _ h=>h.elim⟩,MF,HM.out.of_block (hb3.block bi lbi),Nat.le_refl _,fun p hp=>(by cases hp),by omega,by omega,by omega⟩
  have HLS:=Lib.hid LS
  have e1:(ByteArray.mk #[46]).size=1:=rfl
  have GA:=Lib.hid (graphAdd (B0:=w.heap.size) (N:=N) SH.out (by omega) hl0 (by omega) (by omega) (by omega) TFUEL ⟨[],[],0⟩ i ⟨#[46]⟩ w3 LS (HG.out.keep HB3.out.block) (by omega) hi (by rw [e1]; omega) (by rw [e1]; omega) (Nat.zero_le _) (by show 4194305≤4194305+0; omega))
  clear hw3 hb3 BL MF LS hbf
  refine GA.out.mono ?_
  obtain ⟨R,hR⟩:∃ R,R=addF gs TFUEL ⟨[],[],0⟩ i ⟨#[46]⟩:=⟨_,rfl⟩
  have HR:Hid (tree0 gs i=R):=Lib.hid hR.symm
  rw [← hR]
  rintro e w4 ⟨hb4,hl4,rfl⟩
  have HB4:=Lib.hid (HB3.out.trans hb4)
  obtain ⟨ok,hok⟩:∃ x,x=R.2:=⟨_,rfl⟩
  rw [← hok]
  have HOK:=Lib.hid hok
  obtain ⟨v,M,bL,own,hM⟩:=hl4.own
  have x1:=bL.cell 1; have lbl:=bL.lt
  simp only [List.getElem?_toArray,List.getElem?_cons_succ,List.getElem?_cons_zero] at x1
  have OWN:=Lib.hid own; have HMM:=Lib.hid hM
  have LEN:Hid (R.1.out.length≤R.1.bytes∧(R.2=true→R.1.bytes≤4194304)):=Lib.hid ⟨hl4.len,fun h=>by rw [hR] at h ⊢; exact (addF_bytes TFUEL ⟨[],[],0⟩ i ⟨#[46]⟩ (Nat.zero_le _) h).2⟩
  have OUT:Hid (∀ l∈R.1.out,l.data.length≤1000000000):=Lib.hid (by rw [hR]; exact addF_data HD.out TFUEL ⟨[],[],0⟩ i ⟨#[46]⟩ (fun l hl=>(by cases hl)))
  clear hb4 hl4 hok bL own hM GA hR HLS
  cases ok with
  | true =>
   go_wp2_with fail
   go_ret2
   refine ⟨HB4.out,.inl ⟨i,R.1,v,M,HRT.out,by rw [HR.out,HOK.out],⟨Nat.le_trans LEN.out.1 (LEN.out.2 HOK.out.symm),OUT.out⟩,rfl,OWN.out.low (by omega),fun n hn=>?_⟩⟩
   have:=HMM.out n hn
   omega
  | false =>
   go_wp2_with fail
   go_ret2
   exact ⟨HB4.out,.inr ⟨142,rfl,rfl,.inr ⟨i,HRT.out,by rw [HR.out,← HOK.out]⟩⟩⟩
 ·have HNO:=Lib.hid hno
  clear hno
  go_wp2_with fail
  go_ret2
  exact ⟨HB1.out,.inr ⟨err,herr,rfl,.inl HNO.out⟩⟩
end Go.Proofs.YtfhfcipelgogjaaGreatDoor
