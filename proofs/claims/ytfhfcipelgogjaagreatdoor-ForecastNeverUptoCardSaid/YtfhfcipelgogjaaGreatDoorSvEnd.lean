/- The sieve's set of places: step. No condition but room. The sieve: does a text, or a beginning ahead of a stroke, match? No condition but room. The sieve: names that are wanted. No condition but room. -/
import Derived.Test.YtfhfcipelgogjaaGreatDoorSvMid
set_option linter.unusedVariables false
set_option linter.unusedSimpArgs false
set_option maxHeartbeats 2000000
set_option maxRecDepth 100000
namespace Go.Proofs.YtfhfcipelgogjaaGreatDoor
open Go.RowKit
attribute [local go_sem] cell?_over frozen?_over lt_over le_over
theorem tok_cells {w:World} {B n:Nat} {A:Option Addr} {ts:List Tok} (h:Row Shape.Tok w (fun b=>b<B) A n ts) {i:Nat} (hi:i<n) :
  ∃ b off V,A=some ⟨b,off,none⟩∧b<B∧w.cell? ⟨b,off+i*5,none⟩=some (.int .i64 ((tk ts i).kind:Nat))∧Words w b (off+i*5+1) V∧∀ x,hasN V x=(tk ts i).has x:=by
 obtain ⟨b,off,es,hl,hA,hb,hc,hc0,hrd⟩:=h.elem (Keeps.refl _ _) hi
 obtain ⟨V,hes,hs4,hbits⟩:=hrd
 have e5:Shape.Tok.size=5:=rfl
 rw [e5] at hc hc0
 subst hes
 have c1:=hc 1 (by omega); have c2:=hc 2 (by omega); have c3:=hc 3 (by omega); have c4:=hc 4 (by omega)
 simp only [tokCs,List.getElem?_cons_zero,List.getElem?_cons_succ] at hc0 c1 c2 c3 c4
 rw [tk_at hl]
 refine ⟨b,off,V,hA,hb,hc0,fun j hj=>⟨?_,hs4 j⟩,hbits⟩
 match j,hj with
 | 0,_=>exact c1
 | 1,_=>exact c2
 | 2,_=>exact c3
 | 3,_=>exact c4
def stayB (ts:List Tok) (p:Nat→Bool) (b:UInt8) (n j:Nat):Bool:=decide (j<n) && p j && (tk ts j).eats b
def comeB (ts:List Tok) (p:Nat→Bool) (b:UInt8) (j:Nat):Bool:=decide (0<j) && p (j - 1) && (tk ts (j - 1)).one && (tk ts (j - 1)).has b
theorem byte_ne47 {b:UInt8}:((b.toNat:Int) != 47)=(b != 47):=by
 rw [Bool.eq_iff_iff,bne_iff_ne,bne_iff_ne,ne_eq,ne_eq,← UInt8.toNat_inj]
 have:(47:UInt8).toNat=47:=rfl
 omega
theorem skip_congr {ts:List Tok} {p q:Nat→Bool} {n:Nat} (h:∀ i,i≤n→p i=q i):∀ {k:Nat},k≤n→skipRow ts p k=skipRow ts q k
 | 0,hk=>h 0 hk
 | k+1,hk=>by
  show (p (k+1) || (skipRow ts p k && !(tk ts k).one))=(q (k+1) || (skipRow ts q k && !(tk ts k).one))
  rw [h (k+1) hk,skip_congr h (by omega:k≤n)]
theorem step_set {ts:List Tok} {p:Nat→Bool} {on:List Bool} {b:UInt8} {j n:Nat} {v:Bool} (h:∀ k,k≤n→on.getD k false=if j+1≤k then stepRow ts p b k else p k) (hl:j<on.length) (hv:stepRow ts p b j=v) (k:Nat) (hk:k≤n) :
  (on.set j v).getD k false=if j≤k then stepRow ts p b k else p k:=by
 by_cases h1:k=j
 ·subst h1
  rw [if_pos (Nat.le_refl _),hv]
  simp [List.getD_eq_getElem?_getD,hl]
 ·have e:(on.set j v).getD k false=on.getD k false:=by
   simp [List.getD_eq_getElem?_getD,List.getElem?_set,Ne.symm h1]
  rw [e,h k hk]
  by_cases h2:j+1≤k
  ·rw [if_pos h2,if_pos (by omega)]
  ·rw [if_neg h2,if_neg (by omega)]
theorem svStep {gr go B:Nat} {A:Option Addr} {n c:Nat} {ts:List Tok} {on:List Bool} (b:UInt8) (w:World) (h:RunAt w gr go B A n c ts on) (hn:n≤100000) :
  Calls Tryz.prog 235 #[.pointer (some ⟨gr,0,none⟩),.int .u8 b.toNat] w fun e w'=>e=.returned (.tuple #[])∧∃ on',RunAt w' gr go B A n c ts on'∧(∀ k,k≤n→on'.getD k false=skipRow ts (stepRow ts (fun k=>on.getD k false) b) k)∧w.grownBy w' (some go):=by
 have H:=Lib.hid h
 have k0:=h.cells.1
 have l0:=h.blk.lt
 have HT:=Lib.hid h.lenT
 obtain ⟨p,hp⟩:∃ p:Nat→Bool,p=fun k=>on.getD k false:=⟨_,rfl⟩
 have HP:=Lib.hid hp
 rw [← hp]
 clear h hp
 go_enter Tryz.func235,Tryz.ntmps235
 go_wp2_with fail
 go_loopw [4] (fun it wr=>∃ (m:Nat) (on':List Bool),((m=0∧it=.int .i64 (-1))∨∃ j:Nat,m=j+1∧it=.int .i64 j)∧m≤n+1∧RunAt wr gr go B A n c ts on'∧(∀ k,k≤n→on'.getD k false=if m≤k then stepRow ts p b k else p k)∧w.grownBy wr (some go)) (fun it _=>(intOf it+1).toNat)
 case atStart=>exact ⟨n+1,on,.inr ⟨n,rfl,rfl⟩,Nat.le_refl _,H.out,fun k hk=>by rw [if_neg (by omega),HP.out],⟨rfl,rfl,rfl,Nat.le_refl _,fun _ _ _=>rfl⟩⟩
 case round =>
  obtain ⟨m,on',hm,hmn,hrun,hon,hg⟩:=hrel
  have R:=Lib.hid hrun; have ON:=Lib.hid hon; have G:=Lib.hid hg
  clear hrun hon hg k0 l0
  rcases hm with ⟨rfl,rfl⟩ | ⟨j,rfl,rfl⟩
  ·go_wp2_with fail
   refine (svSkip _ R.out hn).mono ?_
   rintro e w2 ⟨rfl,on2,hr2,hon2,hg2⟩
   have R2:=Lib.hid hr2; have O2:=Lib.hid hon2; have G2:=Lib.hid (grownBy_transH G.out hg2)
   clear hr2 hon2 hg2
   go_wp2_with fail
   refine bodyPost_end (v:=.tuple #[]) (by simp [results,Tryz.results235,go_sem]) rfl ⟨rfl,on2,R2.out,fun k hk=>?_,G2.out⟩
   rw [O2.out k hk]
   exact skip_congr (fun i hi=>by rw [ON.out i (by omega),if_pos (Nat.zero_le _)]) hk
  ·have q0:=R.out.cells.1; have q1:=R.out.cells.2; have qj:=R.out.at_ (i:=j) (by omega)
   have lr:=R.out.blk.lt; have lo:=R.out.onb.lt; have hBr:=R.out.hr
   have hpj:on'.getD j false=p j:=by rw [ON.out j (by omega),if_neg (by omega)]
   rw [hpj] at qj
   clear hpj
   obtain ⟨pj,hpj⟩:∃ v,v=p j:=⟨_,rfl⟩
   rw [← hpj] at qj
   have PJ:=Lib.hid hpj
   clear hpj
   go_upto_region 3 with (fail)
   go_cut [5] (fun v wx=>v=.bool (stayB ts p b n j)∧wr=wx)
   case first =>
    have ES:stayB ts p b n j=(decide (j<n) && pj && (tk ts j).eats b):=by unfold stayB; rw [PJ.out]
    by_cases hjn:j<n
    ·obtain ⟨b0,off,V,hA,hb0,hk,hw,hbits⟩:=tok_cells R.out.row hjn
     have lb:b0<wr.heap.size:=by omega
     subst hA
     obtain ⟨K,hK⟩:∃ K,K=(tk ts j).kind:=⟨_,rfl⟩
     rw [← hK] at hk
     have ES2:Hid (stayB ts p b n j=(pj && (K == 2 || (K == 1 && b != 47)))):=Lib.hid (by rw [ES,decide_eq_true hjn,Bool.true_and]; unfold Tok.eats; rw [hK])
     clear ES hw hbits hK
     cases pj with
     | false =>
      go_wp2_with fail
      go_meet
      case rel=>exact ⟨by rw [ES2.out]; rfl,rfl⟩
     | true =>
      by_cases h2:K=2
      ·have t2:((K:Int) == 2)=true:=by rw [h2]; rfl
       go_wp2_with fail
       go_meet
       case rel=>exact ⟨by rw [ES2.out,h2]; rfl,rfl⟩
      ·have t2:((K:Int) == 2)=false:=by rw [beq_eq_false_iff_ne]; omega
       have H2:=Lib.hid h2
       clear h2
       by_cases h1:K=1
       ·have t1:((K:Int) == 1)=true:=by rw [h1]; rfl
        have H1:=Lib.hid h1
        clear h1
        go_wp2_with fail
        go_meet
        case rel=>exact ⟨by rw [ES2.out,H1.out]; simp [byte_ne47],rfl⟩
       ·have t1:((K:Int) == 1)=false:=by rw [beq_eq_false_iff_ne]; omega
        have H1:=Lib.hid h1
        clear h1
        go_wp2_with fail
        go_meet
        case rel=>exact ⟨by rw [ES2.out]; simp [H1.out,H2.out],rfl⟩
    ·have ES2:=Lib.hid ES
     clear ES
     go_wp2_with fail
     go_meet
     case rel=>exact ⟨by rw [ES2.out,decide_eq_false hjn]; rfl,rfl⟩
   case rest =>
    obtain ⟨rfl,rfl⟩:=hcut
    obtain ⟨st,hst⟩:∃ st,st=stayB ts p b n j:=⟨_,rfl⟩
    rw [← hst]
    have ST:=Lib.hid hst
    clear hst qj
    go_upto_region 4 with (fail)
    go_cut [6] (fun v wx=>v=.bool (comeB ts p b j)∧wr=wx)
    case first =>
     by_cases hj0:j=0
     ·have c0:decide (0<j)=false:=decide_eq_false (by omega)
      have EC:=Lib.hid (show comeB ts p b j=false by unfold comeB; rw [c0]; rfl)
      go_wp2_with fail
      go_meet
      case rel=>exact ⟨by rw [EC.out],rfl⟩
     ·have c0:decide (0<j)=true:=decide_eq_true (by omega)
      obtain ⟨i,hi⟩:∃ i,i=j - 1:=⟨_,rfl⟩
      have EC:Hid (comeB ts p b j=(p i && (tk ts i).one && (tk ts i).has b)):=Lib.hid (by unfold comeB; rw [c0,← hi,Bool.true_and])
      have ew:IntKind.i64.wrap ((j:Int) - 1)=(i:Int):=by rw [IntWalk.i64_in _ (by omega)]; omega
      have ew2:(j:Int) - 1=(i:Int):=by omega
      have hin:i<n:=by omega
      have hij:i<j:=by omega
      clear hi
      have qi:=R.out.at_ (i:=i) (by omega)
      have hpi:on'.getD i false=p i:=by rw [ON.out i (by omega),if_neg (by omega)]
      rw [hpi] at qi
      clear hpi
      obtain ⟨pi,hpi⟩:∃ v,v=p i:=⟨_,rfl⟩
      rw [← hpi] at qi
      have EC1:Hid (comeB ts p b j=(pi && (tk ts i).one && (tk ts i).has b)):=Lib.hid (by rw [EC.out,hpi])
      clear EC hpi
      obtain ⟨b0,off,V,hA,hb0,hk,hw,hbits⟩:=tok_cells R.out.row hin
      have lb:b0<wr.heap.size:=by omega
      subst hA
      obtain ⟨K,hK⟩:∃ K,K=(tk ts i).kind:=⟨_,rfl⟩
      rw [← hK] at hk
      have EC2:Hid (comeB ts p b j=(pi && (K == 0) && hasN V b)):=Lib.hid (by rw [EC1.out,hbits b]; unfold Tok.one; rw [hK])
      have HW:=Lib.hid hw
      clear EC1 hw hbits hK
      cases pi with
      | false =>
       go_wp2_with fail
       go_meet
       case rel=>exact ⟨by rw [EC2.out]; rfl,rfl⟩
      | true =>
       by_cases h0:K=0
       ·have t0:((K:Int) == 0)=true:=by rw [h0]; rfl
        have H0:=Lib.hid h0
        clear h0
        go_wp2_with fail
        refine (svHas b0 (off+i*5) V b _ HW.out).mono ?_
        rintro e w2 ⟨rfl,hw2⟩
        rw [hw2]
        clear hw2
        go_wp2_with fail
        go_meet
        case rel=>exact ⟨by rw [EC2.out,H0.out]; rfl,rfl⟩
       ·have t0:((K:Int) == 0)=false:=by rw [beq_eq_false_iff_ne]; omega
        have H0:=Lib.hid h0
        clear h0
        go_wp2_with fail
        go_meet
        case rel=>exact ⟨by rw [EC2.out]; simp [H0.out],rfl⟩
    case rest =>
     obtain ⟨rfl,rfl⟩:=hcut
     obtain ⟨cm,hcm⟩:∃ cm,cm=comeB ts p b j:=⟨_,rfl⟩
     rw [← hcm]
     have CM:=Lib.hid hcm
     clear hcm
     have qj:=R.out.at_ (i:=j) (by omega)
     have fj:=R.out.onb.frozen j
     have VV:Hid (stepRow ts p b j=(st || cm)):=Lib.hid (by rw [ST.out,CM.out]; unfold stepRow stayB comeB; rw [HT.out])
     have FIN:=fun v (hv:stepRow ts p b j=v)=>step_set (n:=n) ON.out (by have:=R.out.len; omega) hv
     have FI:=Lib.hid FIN
     clear FIN
     have RS:=Lib.hid (R.out.set j)
     have NX:Hid ((j=0∧Value.int .i64 ((j:Int) - 1)=.int .i64 (-1))∨∃ i:Nat,j=i+1∧Value.int .i64 ((j:Int) - 1)=.int .i64 i):=Lib.hid (by
      by_cases hj0:j=0
      ·left; subst hj0; exact ⟨rfl,rfl⟩
      ·right; exact ⟨j - 1,by omega,by congr 1; omega⟩)
     cases st with
     | true =>
      go_wp2_with fail
      go_roundw
      case rel=>exact ⟨j,_,NX.out,by omega,RS.out true,FI.out true (by rw [VV.out]; rfl),grown_cell G.out⟩
      case measure=>simp [intOf]
     | false =>
      go_wp2_with fail
      go_roundw
      case rel=>exact ⟨j,_,NX.out,by omega,RS.out cm,FI.out cm (by rw [VV.out]; rfl),grown_cell G.out⟩
      case measure=>simp [intOf]
end Go.Proofs.YtfhfcipelgogjaaGreatDoor
namespace Go.Proofs.YtfhfcipelgogjaaGreatDoor
open Go.RowKit
attribute [local go_sem] cell?_over frozen?_over lt_over le_over
def hitAt (ts:List Tok) (x:List UInt8) (i:Nat):Bool:=(i == x.length || tx x i == 47) && reach ts x ts.length i
theorem hits_yes {ts:List Tok} {x:List UInt8} {i:Nat} (hi:i≤x.length) (h:hitAt ts x i=true):hitsT ts x=true:=by
 unfold hitsT
 rw [List.any_eq_true]
 exact ⟨i,List.mem_range.2 (by omega),h⟩
theorem hits_end {ts:List Tok} {x:List UInt8} (h:∀ i,i<x.length→hitAt ts x i=false):hitsT ts x=reach ts x ts.length x.length:=by
 have e:hitAt ts x x.length=reach ts x ts.length x.length:=by unfold hitAt; simp
 cases hr:reach ts x ts.length x.length with
 | true=>exact hits_yes (Nat.le_refl _) (by rw [e,hr])
 | false =>
  unfold hitsT
  rw [List.any_eq_false]
  intro i hi
  have hi':=List.mem_range.1 hi
  by_cases hl:i<x.length
  ·have:=h i hl
   unfold hitAt at this
   rw [this]; decide
  ·have:i=x.length:=by omega
   subst this
   unfold hitAt at e
   rw [e,hr]; decide
theorem tx_at {x:ByteArray} {i:Nat} (h:i<x.size):tx x.data.toList i=x[i]:=by
 unfold tx
 rw [getElem!_pos x.data.toList i (by rw [len_data']; exact h)]
 rfl
theorem svHits {A:Option Addr} {n c:Nat} {ts:List Tok} (x:ByteArray) (w:World) (h:Row Shape.Tok w (Old w) A n ts) (hn:n≤100000) (hx:x.size≤140737488355328) :
  Calls Tryz.prog 205 #[.slice A n c,.string x] w fun e w'=>e=.returned (.bool (hitsT ts x.data.toList))∧Below w.heap.size w w':=by
 have H:=Lib.hid h
 have HT:=Lib.hid h.1
 obtain ⟨X,hX⟩:∃ X,X=x.data.toList:=⟨_,rfl⟩
 have HL:Hid (X.length=x.size):=Lib.hid (by rw [hX,len_data'])
 have HTX:Hid (∀ i (hi:i<x.size),tx X i=x[i]):=Lib.hid fun i hi=>by rw [hX,tx_at hi]
 rw [← hX]
 clear h hX
 go_enter Tryz.func205,Tryz.ntmps205
 go_wp2_with fail
 refine (svBegin (c:=c) w H.out hn).mono ?_
 rintro e w1 ⟨gr,go,on,rfl,hr,hon,hb⟩
 have R1:=Lib.hid hr; have ON1:=Lib.hid hon; have HB1:=Lib.hid hb
 clear hr hon hb
 go_wp2_with fail
 go_loopw [11] (fun it wr=>∃ (i:Nat) (on':List Bool),it=.int .i64 i∧i≤x.size∧RunAt wr gr go w.heap.size A n c ts on'∧(∀ k,k≤n→on'.getD k false=onAt ts X k i)∧(∀ j,j<i→hitAt ts X j=false)∧Below w.heap.size w wr) (fun it _=>x.size - (intOf it).toNat)
 case atStart=>exact ⟨0,on,rfl,Nat.zero_le _,R1.out,fun k hk=>by rw [ON1.out k hk]; exact on_begin ts X k (by rw [HT.out]; exact hk),fun j hj=>absurd hj (Nat.not_lt_zero _),HB1.out⟩
 case round =>
  obtain ⟨i,on',rfl,hi,hr,hon,hno,hb⟩:=hrel
  have R:=Lib.hid hr; have ON:=Lib.hid hon; have NO:=Lib.hid hno; have HB:=Lib.hid hb
  clear hr hon hno hb R1 ON1 HB1
  have DN:Hid (on'.getD n false=reach ts X ts.length i):=Lib.hid (by
   have:=on_done ts X i
   rw [HT.out] at this ⊢
   rw [ON.out n (Nat.le_refl _),this])
  by_cases hlt:i<x.size
  ·have hhit:Hid (hitAt ts X i=((x[i] == 47) && reach ts X ts.length i)):=Lib.hid (by
    unfold hitAt
    rw [HTX.out i hlt,HL.out,show (i == x.size)=false by simp; omega,Bool.false_or])
   obtain ⟨b,hb⟩:∃ b:UInt8,b=x[i]:=⟨_,rfl⟩
   have HBy:=Lib.hid hb
   by_cases h47:b=47
   ·have t47:((x[i].toNat:Int) == 47)=true:=by rw [← hb,h47]; rfl
    clear hb
    go_wp2_with fail
    refine (svDone _ R.out hn).mono ?_
    rintro e w2 ⟨rfl,hb2⟩
    have R2:=Lib.hid (R.out.below hb2); have HB2:=Lib.hid (below_old HB.out hb2)
    clear hb2 R HB
    cases hd:on'.getD n false with
    | true =>
     have HH:=Lib.hid (hits_yes (ts:=ts) (x:=X) (i:=i) (by rw [HL.out]; exact hi) (by rw [hhit.out,← DN.out,hd,← HBy.out,h47]; rfl))
     clear hd
     go_wp2_with fail
     go_ret
     exact ⟨by rw [HH.out]; rfl,HB2.out⟩
    | false =>
     have HH:Hid (hitAt ts X i=false):=Lib.hid (by rw [hhit.out,← DN.out,hd]; simp)
     clear hd
     go_wp2_with fail
     refine (svStep x[i] _ R2.out hn).mono ?_
     rintro e w3 ⟨rfl,on3,hr3,hon3,hg3⟩
     have R3:=Lib.hid hr3
     have HB3:=Lib.hid (HB2.out.grown hg3 HB2.out.size (fun k hk=>by injection hk with hk; rw [← hk]; exact R3.out.ho))
     have ON3:Hid (∀ k,k≤n→on3.getD k false=onAt ts X k (i+1)):=Lib.hid fun k hk=>by
      rw [hon3 k hk,← HTX.out i hlt]
      exact on_step ts X i (fun k hk=>ON.out k (by rw [HT.out] at hk; exact hk)) k (by rw [HT.out]; exact hk)
     clear hr3 hon3 hg3
     go_wp2_with fail
     go_roundw
     case rel=>exact ⟨i+1,on3,by go_num,by omega,R3.out,ON3.out,fun j hj=>by
      by_cases hji:j=i
      ·rw [hji]; exact HH.out
      ·exact NO.out j (by omega),HB3.out⟩
     case measure=>simp [intOf]; omega
   ·have t47:((x[i].toNat:Int) == 47)=false:=by
     rw [← hb,beq_eq_false_iff_ne]
     intro e
     exact h47 (UInt8.toNat_inj.1 (by have e47:(47:UInt8).toNat=47:=rfl; omega))
    have HH:Hid (hitAt ts X i=false):=Lib.hid (by rw [hhit.out,← HBy.out]; simp [h47])
    clear hb
    go_wp2_with fail
    refine (svStep x[i] _ R.out hn).mono ?_
    rintro e w3 ⟨rfl,on3,hr3,hon3,hg3⟩
    have R3:=Lib.hid hr3
    have HB3:=Lib.hid (HB.out.grown hg3 HB.out.size (fun k hk=>by injection hk with hk; rw [← hk]; exact R3.out.ho))
    have ON3:Hid (∀ k,k≤n→on3.getD k false=onAt ts X k (i+1)):=Lib.hid fun k hk=>by
     rw [hon3 k hk,← HTX.out i hlt]
     exact on_step ts X i (fun k hk=>ON.out k (by rw [HT.out] at hk; exact hk)) k (by rw [HT.out]; exact hk)
    clear hr3 hon3 hg3
    go_wp2_with fail
    go_roundw
    case rel=>exact ⟨i+1,on3,by go_num,by omega,R3.out,ON3.out,fun j hj=>by
     by_cases hji:j=i
     ·rw [hji]; exact HH.out
     ·exact NO.out j (by omega),HB3.out⟩
    case measure=>simp [intOf]; omega
  ·have e:i=x.size:=by omega
   go_wp2_with fail
   refine (svDone _ R.out hn).mono ?_
   rintro e' w2 ⟨rfl,hb2⟩
   have HB2:=Lib.hid (below_old HB.out hb2)
   have EE:Hid (on'.getD n false=hitsT ts X):=Lib.hid (by rw [hits_end (ts:=ts) (x:=X) (fun j hj=>NO.out j (by rw [HL.out] at hj; omega)),DN.out,HL.out,e])
   rw [EE.out]
   clear hb2 e
   go_wp2_with fail
   go_ret
   exact ⟨rfl,HB2.out⟩
end Go.Proofs.YtfhfcipelgogjaaGreatDoor
namespace Go.Proofs.YtfhfcipelgogjaaGreatDoor
open Go.RowKit
attribute [local go_sem] cell?_over frozen?_over lt_over le_over
abbrev bytesL (l:List ByteArray):List (List UInt8):=l.map (·.data.toList)
theorem comp_parts {s:ByteArray} {w w':World} {e:Ending} (h:CompEnd s w e w'):Below w.heap.size w w'∧((checkE s.data.toList≠0∧e=.returned (.tuple #[.slice none 0 0,.int .i64 (checkE s.data.toList)])) ∨
  (checkE s.data.toList=0∧∃ (ts:List Tok) (A:Option Addr) (c:Nat),readB s.data.toList 0=some ts∧e=.returned (.tuple #[.slice A ts.length c,.int .i64 0])∧Row Shape.Tok w' (Old w') A ts.length ts∧ts.length≤4096)):=by
 obtain ⟨hb,hm⟩:=h
 refine ⟨hb,?_⟩
 have hl:s.data.toList.length=s.size:=len_data' s
 unfold checkE
 by_cases h4:4096<s.size
 ·rw [if_pos h4] at hm
  rw [if_pos (by rw [hl]; exact h4)]
  exact .inl ⟨by decide,hm⟩
 ·rw [if_neg h4] at hm
  rw [if_neg (by rw [hl]; exact h4)]
  cases hr:readB s.data.toList 0 with
  | none =>
   rw [hr] at hm
   exact .inl ⟨by decide,hm⟩
  | some ts =>
   rw [hr] at hm
   obtain ⟨v,rfl,hown⟩:=hm
   obtain ⟨A,n,c,rfl,hnc,_,hrow⟩:=hown.rd_old
   have:=hrow.1
   subst this
   refine .inr ⟨rfl,ts,A,c,rfl,rfl,hrow,?_⟩
   rcases readB_len _ _ (Nat.le_refl _) hr with h | h
   ·rw [hl] at h; omega
   ·rw [h]; simp
theorem first_all {l:List (List UInt8)} (h:∀ p∈l,checkE p=0):firstE l=0:=by
 induction l with
 | nil=>rfl
 | cons p l ih =>
  unfold firstE
  rw [if_pos (h p (by simp))]
  exact ih fun q hq=>h q (by simp [hq])
theorem first_at {l:List (List UInt8)} {k:Nat} (hk:k<l.length) (h:∀ i (hi:i<k),checkE (l[i]'(by omega))=0) (hne:checkE l[k]≠0):firstE l=checkE l[k]:=by
 induction l generalizing k with
 | nil=>simp at hk
 | cons p l ih =>
  unfold firstE
  cases k with
  | zero =>
   simp only [List.getElem_cons_zero] at hne ⊢
   rw [if_neg hne]
  | succ k =>
   have h0:=h 0 (by omega)
   simp only [List.getElem_cons_zero] at h0
   rw [if_pos h0]
   simp only [List.getElem_cons_succ] at hne ⊢
   exact ih (by simpa using hk) (fun i hi=>by have:=h (i+1) (by omega); simpa using this) hne
theorem any_take {l:List (List UInt8)} {f:List UInt8→Bool} {k:Nat} (hk:k<l.length):(l.take (k+1)).any f=((l.take k).any f || f l[k]):=by
 rw [List.take_succ_eq_append_getElem hk,List.any_append]
 simp
theorem svChosen {A1 A2:Option Addr} {n1 c1 n2 c2:Nat} {inc exc:List ByteArray} (x:ByteArray) (w:World) (h1:Row Shape.str w (Old w) A1 n1 inc) (h2:Row Shape.str w (Old w) A2 n2 exc) (hn1:n1≤140737488355328) (hn2:n2≤140737488355328) (hx:x.size≤140737488355328) :
  Calls Tryz.prog 161 #[.slice A1 n1 c1,.slice A2 n2 c2,.string x] w fun e w'=>e=.returned (.tuple #[.bool (chosenV (bytesL inc) (bytesL exc) x.data.toList),.int .i64 (chosenE (bytesL inc) (bytesL exc))])∧Below w.heap.size w w':=by
 have H1:=Lib.hid h1; have H2:=Lib.hid h2
 have L1:=Lib.hid h1.1; have L2:=Lib.hid h2.1
 obtain ⟨CV,hCV⟩:∃ v,v=chosenV (bytesL inc) (bytesL exc) x.data.toList:=⟨_,rfl⟩
 obtain ⟨CE,hCE⟩:∃ v,v=chosenE (bytesL inc) (bytesL exc):=⟨_,rfl⟩
 rw [← hCV,← hCE]
 have HV:=Lib.hid hCV; have HE:=Lib.hid hCE
 obtain ⟨W0,hW0⟩:∃ v,v=inc.isEmpty:=⟨_,rfl⟩
 have t0:((n1:Int) == 0)=W0:=by
  rw [hW0,← h1.1]
  cases inc <;> simp
  omega
 have HW0:=Lib.hid hW0
 clear h1 h2 hCV hCE hW0
 go_enter Tryz.func161,Tryz.ntmps161
 go_wp2_with fail
 go_loopw [8,23] (fun v it wr=>∃ k:Nat,it=.int .i64 k∧k≤n1∧v=.bool (W0 || ((bytesL inc).take k).any (hitsP x.data.toList))∧(∀ i (hi:i<k) (hl:i<inc.length),checkE (inc[i]).data.toList=0)∧Below w.heap.size w wr) (fun _ it _=>n1 - (intOf it).toNat)
 case atStart=>exact ⟨0,rfl,Nat.zero_le _,by simp,fun i hi=>absurd hi (Nat.not_lt_zero _),Below.refl _ _⟩
 case round =>
  obtain ⟨k,rfl,hk,rfl,hall,hb⟩:=hrel
  have ALinc:=Lib.hid hall; have HBinc:=Lib.hid hb
  clear hall hb
  obtain ⟨V,hV⟩:∃ V,V=(W0 || ((bytesL inc).take k).any (hitsP x.data.toList)):=⟨_,rfl⟩
  rw [← hV]
  have VV:=Lib.hid hV
  clear hV
  by_cases hlt:k<n1
  ·obtain ⟨b,off,hl,hA,hbl,hcell,hsz⟩:=str_cell (H1.out.below HBinc.out) hlt
   subst hA
   have hsz':(inc[k]).size≤9223372036854775807:=hsz
   obtain ⟨s,hs⟩:∃ s,s=inc[k]:=⟨_,rfl⟩
   rw [← hs] at hcell hsz'
   have HS:=Lib.hid hs
   have HLK:=Lib.hid hl
   clear hs hsz
   go_wp2_with fail
   refine (svCompile s _ hsz').mono ?_
   rintro e w2 hce
   obtain ⟨hb2,hce⟩:=comp_parts hce
   have HB2:=Lib.hid (below_old HBinc.out hb2)
   clear hb2
   rcases hce with ⟨hne,rfl⟩ | ⟨hz,ts,At,ct,hrd,rfl,hrow,hts⟩
   ·obtain ⟨E,hE⟩:∃ E,E=checkE s.data.toList:=⟨_,rfl⟩
    rw [← hE] at hne ⊢
    have tE:(E != 0)=true:=by rw [bne_iff_ne]; exact hne
    have ER:=Lib.hid hE; have NE:=Lib.hid hne
    clear hE hne
    go_wp2_with fail
    go_ret2
    have hf:firstE (bytesL inc)=E:=by
     have:=first_at (l:=bytesL inc) (k:=k) (by simpa using HLK.out) (fun i hi=>by have:=ALinc.out i hi (by have:=HLK.out; omega); simpa using this) (by simp only [List.getElem_map]; rw [← HS.out,← ER.out]; exact NE.out)
     rw [this]
     simp only [List.getElem_map]
     rw [← HS.out,ER.out]
    refine ⟨?_,HB2.out⟩
    have h1:CE=E:=by rw [HE.out]; unfold chosenE; rw [if_neg (by rw [hf]; exact NE.out),hf]
    have h2:CV=false:=by rw [HV.out]; unfold chosenV; rw [← HE.out,h1]; simp [NE.out]
    rw [h1,h2]; rfl
   ·have HROW:=Lib.hid hrow; have HZ:=Lib.hid hz
    have HIT:Hid (hitsP x.data.toList s.data.toList=hitsT ts x.data.toList):=Lib.hid (by unfold hitsP; rw [hrd])
    have VN:Hid ((W0 || ((bytesL inc).take (k+1)).any (hitsP x.data.toList))=(V || hitsT ts x.data.toList)):=Lib.hid (by
     rw [any_take (by simpa using HLK.out),← Bool.or_assoc,← VV.out]
     simp only [List.getElem_map]
     rw [← HS.out,HIT.out])
    have ALN:Hid (∀ i (hi:i<k+1) (hl:i<inc.length),checkE (inc[i]).data.toList=0):=Lib.hid fun i hi hl=>by
     by_cases hik:i=k
     ·subst hik; rw [← HS.out]; exact HZ.out
     ·exact ALinc.out i (by omega) hl
    clear hrd hrow hz
    cases V with
    | true =>
     go_wp2_with fail
     go_roundw
     case rel=>exact ⟨k+1,by go_num,by omega,by rw [VN.out]; rfl,ALN.out,HB2.out⟩
     case measure=>simp [intOf]; omega
    | false =>
     go_wp2_with fail
     refine (svHits (c:=ct) x _ HROW.out (by omega) hx).mono ?_
     rintro e w3 ⟨rfl,hb3⟩
     have HB3:=Lib.hid (below_old HB2.out hb3)
     clear hb3
     go_wp2_with fail
     go_roundw
     case rel=>exact ⟨k+1,by go_num,by omega,by rw [VN.out]; rfl,ALN.out,HB3.out⟩
     case measure=>simp [intOf]; omega
  ·have AA:Hid (∀ p∈bytesL inc,checkE p=0):=Lib.hid fun p hp=>by
    obtain ⟨q,hq,rfl⟩:=List.mem_map.1 hp
    obtain ⟨i,hi,rfl⟩:=List.getElem_of_mem hq
    have:=L1.out
    exact ALinc.out i (by omega) hi
   have VA:Hid (V=(W0 || (bytesL inc).any (hitsP x.data.toList))):=Lib.hid (by
    rw [VV.out,List.take_of_length_le (by have:=L1.out; simp; omega)])
   have AAi:=AA; have VAi:=VA; have HB1:=HBinc
   clear AA VA VV ALinc HBinc
   have hn:=hlt
   clear hlt hk
   go_wp2_with fail
   go_loopw [9,44] (fun v it wr=>∃ k:Nat,it=.int .i64 k∧k≤n2∧v=.bool (false || ((bytesL exc).take k).any (hitsP x.data.toList))∧(∀ i (hi:i<k) (hl:i<exc.length),checkE (exc[i]).data.toList=0)∧Below w.heap.size w wr) (fun _ it _=>n2 - (intOf it).toNat)
   case atStart=>exact ⟨0,rfl,Nat.zero_le _,by simp,fun i hi=>absurd hi (Nat.not_lt_zero _),HB1.out⟩
   case round =>
    obtain ⟨k,rfl,hk,rfl,hall,hb⟩:=hrel
    have ALexc:=Lib.hid hall; have HBexc:=Lib.hid hb
    clear hall hb
    obtain ⟨V2,hV⟩:∃ V2,V2=(false || ((bytesL exc).take k).any (hitsP x.data.toList)):=⟨_,rfl⟩
    rw [← hV]
    have VV:=Lib.hid hV
    clear hV
    by_cases hlt:k<n2
    ·obtain ⟨b,off,hl,hA,hbl,hcell,hsz⟩:=str_cell (H2.out.below HBexc.out) hlt
     subst hA
     have hsz':(exc[k]).size≤9223372036854775807:=hsz
     obtain ⟨s,hs⟩:∃ s,s=exc[k]:=⟨_,rfl⟩
     rw [← hs] at hcell hsz'
     have HS:=Lib.hid hs
     have HLK:=Lib.hid hl
     clear hs hsz
     go_wp2_with fail
     refine (svCompile s _ hsz').mono ?_
     rintro e w2 hce
     obtain ⟨hb2,hce⟩:=comp_parts hce
     have HB2:=Lib.hid (below_old HBexc.out hb2)
     clear hb2
     rcases hce with ⟨hne,rfl⟩ | ⟨hz,ts,At,ct,hrd,rfl,hrow,hts⟩
     ·obtain ⟨E,hE⟩:∃ E,E=checkE s.data.toList:=⟨_,rfl⟩
      rw [← hE] at hne ⊢
      have tE:(E != 0)=true:=by rw [bne_iff_ne]; exact hne
      have ER:=Lib.hid hE; have NE:=Lib.hid hne
      clear hE hne
      go_wp2_with fail
      go_ret2
      have hf:firstE (bytesL exc)=E:=by
       have:=first_at (l:=bytesL exc) (k:=k) (by simpa using HLK.out) (fun i hi=>by have:=ALexc.out i hi (by have:=HLK.out; omega); simpa using this) (by simp only [List.getElem_map]; rw [← HS.out,← ER.out]; exact NE.out)
       rw [this]
       simp only [List.getElem_map]
       rw [← HS.out,ER.out]
      refine ⟨?_,HB2.out⟩
      have h1:CE=E:=by rw [HE.out]; unfold chosenE; rw [if_pos (first_all AAi.out),hf]
      have h2:CV=false:=by rw [HV.out]; unfold chosenV; rw [← HE.out,h1]; simp [NE.out]
      rw [h1,h2]; rfl
     ·have HROW:=Lib.hid hrow; have HZ:=Lib.hid hz
      have HIT:Hid (hitsP x.data.toList s.data.toList=hitsT ts x.data.toList):=Lib.hid (by unfold hitsP; rw [hrd])
      have VN:Hid ((false || ((bytesL exc).take (k+1)).any (hitsP x.data.toList))=(V2 || hitsT ts x.data.toList)):=Lib.hid (by
       rw [any_take (by simpa using HLK.out),← Bool.or_assoc,← VV.out]
       simp only [List.getElem_map]
       rw [← HS.out,HIT.out])
      have ALN:Hid (∀ i (hi:i<k+1) (hl:i<exc.length),checkE (exc[i]).data.toList=0):=Lib.hid fun i hi hl=>by
       by_cases hik:i=k
       ·subst hik; rw [← HS.out]; exact HZ.out
       ·exact ALexc.out i (by omega) hl
      clear hrd hrow hz
      cases V2 with
      | true =>
       go_wp2_with fail
       go_roundw
       case rel=>exact ⟨k+1,by go_num,by omega,by rw [VN.out]; rfl,ALN.out,HB2.out⟩
       case measure=>simp [intOf]; omega
      | false =>
       go_wp2_with fail
       refine (svHits (c:=ct) x _ HROW.out (by omega) hx).mono ?_
       rintro e w3 ⟨rfl,hb3⟩
       have HB3:=Lib.hid (below_old HB2.out hb3)
       clear hb3
       go_wp2_with fail
       go_roundw
       case rel=>exact ⟨k+1,by go_num,by omega,by rw [VN.out]; rfl,ALN.out,HB3.out⟩
       case measure=>simp [intOf]; omega
    ·have AA:Hid (∀ p∈bytesL exc,checkE p=0):=Lib.hid fun p hp=>by
      obtain ⟨q,hq,rfl⟩:=List.mem_map.1 hp
      obtain ⟨i,hi,rfl⟩:=List.getElem_of_mem hq
      have:=L2.out
      exact ALexc.out i (by omega) hi
     have VA:Hid (V2=(false || (bytesL exc).any (hitsP x.data.toList))):=Lib.hid (by
      rw [VV.out,List.take_of_length_le (by have:=L2.out; simp; omega)])
     have HCE:Hid (CE=0):=Lib.hid (by rw [HE.out]; unfold chosenE; rw [if_pos (first_all AAi.out),first_all AA.out])
     have HCV:Hid (CV=(V && !V2)):=Lib.hid (by
      rw [HV.out]
      unfold chosenV
      rw [← HE.out,HCE.out,VAi.out,HW0.out,VA.out]
      simp)
     cases V <;> cases V2 <;> (
      go_wp2_with fail
      go_ret2
      exact ⟨by rw [HCE.out,HCV.out]; rfl,HBexc.out⟩)
end Go.Proofs.YtfhfcipelgogjaaGreatDoor
