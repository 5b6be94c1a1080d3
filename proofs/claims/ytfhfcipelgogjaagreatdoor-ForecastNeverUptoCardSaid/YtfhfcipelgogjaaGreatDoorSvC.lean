/- The sieve's reader: a set in brackets. No condition but room. -/
import Derived.Test.YtfhfcipelgogjaaGreatDoorSvAll
import Derived.Test.YtfhfcipelgogjaaGreatDoorBaseAt
import Derived.Deep.DeepCutAuto
import Derived.Deep.CutRange
import Derived.Deep.CutBlock
set_option linter.unusedVariables false
set_option linter.unusedSimpArgs false
set_option maxHeartbeats 2000000
set_option maxRecDepth 100000
namespace Go.Proofs.YtfhfcipelgogjaaGreatDoor
open Go.RowKit
attribute [local go_sem] cell?_over frozen?_over lt_over le_over
def tokCs (k:Int) (W:Nat→Nat):Array Value:=#[.int .i64 k,.int .u64 (W 0),.int .u64 (W 1),.int .u64 (W 2),.int .u64 (W 3)]
def zero4:Nat→Nat:=fun _=>0
theorem has_zero (b:UInt8):hasN zero4 b=false:=by unfold hasN zero4; simp
def ClassEnd (s:ByteArray) (g i:Nat) (w:World) (e:Ending) (w':World):Prop:=
 w.grownBy w' (some g)∧∃ W,e=.returned (.agg (tokCs 0 W))∧Small4 W∧match classB s.data.toList i with
 | some (f,nx)=>(∀ b,hasN W b=f b)∧Rdr w' g s nx false
 | none=>∃ j:Nat,j≤s.size+5∧Rdr w' g s j true
def cellNat (w:World) (g:Nat):Nat:=match w.cell? ⟨g,1,none⟩ with
 | some (.int _ n)=>n.toNat
 | _=>0
theorem Rdr.at_ {w:World} {g:Nat} {s:ByteArray} {i:Nat} {bad:Bool} (h:Rdr w g s i bad):cellNat w g=i:=by
 unfold cellNat
 rw [h.cells.2.1]
 simp
def SetAt (s:ByteArray) (i0 ii n:Nat) (bad:Bool) (W:Nat→Nat):Prop:=
 if bad=true then setB s.data.toList i0 (fun _=>false) 0=none∧ii≤s.size+2
 else ii≤s.size∧n≤ii∧∃ f,setB s.data.toList i0 (fun _=>false) 0=setB s.data.toList ii f n∧∀ b,hasN W b=f b
def SetEnd (s:ByteArray) (i0 ii n:Nat) (bad:Bool) (W:Nat→Nat):Prop:=
 (bad=true∧setB s.data.toList i0 (fun _=>false) 0=none)∨(bad=false∧peekB s ii 93=false∧setB s.data.toList i0 (fun _=>false) 0=none) ∨
 (bad=false∧peekB s ii 93=true∧∃ f,setB s.data.toList i0 (fun _=>false) 0=(if n≠0 then some (f,ii+1) else none)∧∀ b,hasN W b=f b)
theorem setAt_0 {s:ByteArray} {i0:Nat} (h:i0≤s.size):SetAt s i0 i0 0 false zero4:=by
 unfold SetAt
 rw [if_neg (by decide)]
 exact ⟨h,Nat.zero_le _,_,rfl,has_zero⟩
theorem len_data' (s:ByteArray):s.data.toList.length=s.size:=by rw [Array.length_toList]; rfl
theorem setAt_bad {s:ByteArray} {i0 j n:Nat} {W:Nat→Nat} (h:setB s.data.toList i0 (fun _=>false) 0=none) (hj:j≤s.size+2):SetAt s i0 j n true W:=by
 unfold SetAt; rw [if_pos rfl]; exact ⟨h,hj⟩
theorem SetAt.good {s:ByteArray} {i0 ii n:Nat} {W:Nat→Nat} (h:SetAt s i0 ii n false W):ii≤s.size∧n≤ii∧∃ f,setB s.data.toList i0 (fun _=>false) 0=setB s.data.toList ii f n∧∀ b,hasN W b=f b:=by
 unfold SetAt at h; rw [if_neg (by decide)] at h; exact h
theorem end_bad {s:ByteArray} {i0 ii n:Nat} {W:Nat→Nat} (h:SetAt s i0 ii n true W):SetEnd s i0 ii n true W:=by
 unfold SetAt at h; rw [if_pos rfl] at h; exact .inl ⟨rfl,h.1⟩
theorem end_out {s:ByteArray} {i0 ii n:Nat} {W:Nat→Nat} (h:SetAt s i0 ii n false W) (hl:¬ ii<s.size):SetEnd s i0 ii n false W:=by
 obtain ⟨_,_,f,h1,_⟩:=h.good
 refine .inr (.inl ⟨rfl,peek_no hl,?_⟩)
 rw [h1,setB_end (fun e=>hl (by rw [len_data'] at e; exact e.1)),if_neg (fun e=>hl (by rw [len_data'] at e; exact e.1))]
theorem end_br {s:ByteArray} {i0 ii n:Nat} {W:Nat→Nat} (h:SetAt s i0 ii n false W) (hl:ii<s.size) (hp:peekB s ii 93=true):SetEnd s i0 ii n false W:=by
 obtain ⟨_,_,f,h1,h2⟩:=h.good
 have hp':s.data.toList[ii]?=some 93:=by unfold peekB at hp; simpa using hp
 refine .inr (.inr ⟨rfl,hp,f,?_,h2⟩)
 rw [h1,setB_end (fun e=>e.2 hp')]
 by_cases hn:n≠0
 ·rw [if_pos ⟨by rw [len_data']; exact hl,hn⟩,if_pos hn]
 ·rw [if_neg (fun e=>hn e.2),if_neg hn]
theorem not_br {s:ByteArray} {ii:Nat} (hl:ii<s.size) (hp:peekB s ii 93=false):ii<s.data.toList.length∧s.data.toList[ii]?≠some 93:=by
 refine ⟨by rw [len_data']; exact hl,fun e=>?_⟩
 unfold peekB at hp
 rw [e] at hp
 simp at hp
theorem dash_peek (s:ByteArray) (i:Nat):dashB s.data.toList i=(peekB s i 45 && decide (i+1<s.size) && !peekB s (i+1) 93):=by
 unfold dashB peekB; rw [len_data']
theorem step_none {s:ByteArray} {i0 ii n:Nat} {W:Nat→Nat} (h:SetAt s i0 ii n false W) (hb:ii<s.data.toList.length∧s.data.toList[ii]?≠some 93) (h1:itemB s.data.toList ii=none):setB s.data.toList i0 (fun _=>false) 0=none:=by
 obtain ⟨_,_,f,h2,_⟩:=h.good
 rw [h2,setB_none hb h1]
theorem step_one {s:ByteArray} {i0 ii n nx:Nat} {lo:UInt8} {W W':Nat→Nat} (h:SetAt s i0 ii n false W) (hb:ii<s.data.toList.length∧s.data.toList[ii]?≠some 93) (h1:itemB s.data.toList ii=some (lo,nx)) (hd:dashB s.data.toList nx=false)
  (hw:∀ b,hasN W' b=orS (hasN W) (inR lo lo) b):SetAt s i0 nx (n+1) false W':=by
 obtain ⟨_,h0,f,h2,h3⟩:=h.good
 have hl:=itemB_lt h1
 rw [len_data'] at hl
 unfold SetAt
 rw [if_neg (by decide)]
 refine ⟨hl.2,by omega,_,by rw [h2,setB_one hb h1 hd],fun b=>?_⟩
 rw [hw b]; unfold orS; rw [h3 b]
theorem step_dash0 {s:ByteArray} {i0 ii n nx:Nat} {lo:UInt8} {W:Nat→Nat} (h:SetAt s i0 ii n false W) (hb:ii<s.data.toList.length∧s.data.toList[ii]?≠some 93) (h1:itemB s.data.toList ii=some (lo,nx)) (hd:dashB s.data.toList nx=true)
  (h2:itemB s.data.toList (nx+1)=none):setB s.data.toList i0 (fun _=>false) 0=none:=by
 obtain ⟨_,_,f,h3,_⟩:=h.good
 rw [h3,setB_dash0 hb h1 hd h2]
theorem step_gt {s:ByteArray} {i0 ii n nx nx2:Nat} {lo hi:UInt8} {W:Nat→Nat} (h:SetAt s i0 ii n false W) (hb:ii<s.data.toList.length∧s.data.toList[ii]?≠some 93) (h1:itemB s.data.toList ii=some (lo,nx)) (hd:dashB s.data.toList nx=true)
  (h2:itemB s.data.toList (nx+1)=some (hi,nx2)) (hg:hi.toNat<lo.toNat):setB s.data.toList i0 (fun _=>false) 0=none:=by
 obtain ⟨_,_,f,h3,_⟩:=h.good
 rw [h3,setB_dash hb h1 hd h2,if_pos hg]
theorem step_dash {s:ByteArray} {i0 ii n nx nx2:Nat} {lo hi:UInt8} {W W':Nat→Nat} (h:SetAt s i0 ii n false W) (hb:ii<s.data.toList.length∧s.data.toList[ii]?≠some 93) (h1:itemB s.data.toList ii=some (lo,nx)) (hd:dashB s.data.toList nx=true)
  (h2:itemB s.data.toList (nx+1)=some (hi,nx2)) (hg:¬ hi.toNat<lo.toNat) (hw:∀ b,hasN W' b=orS (hasN W) (inR lo hi) b):SetAt s i0 nx2 (n+1) false W':=by
 obtain ⟨_,h0,f,h3,h4⟩:=h.good
 have hl:=itemB_lt h1
 have hl2:=itemB_lt h2
 rw [len_data'] at hl2
 unfold SetAt
 rw [if_neg (by decide)]
 refine ⟨hl2.2,by omega,_,by rw [h3,setB_dash hb h1 hd h2,if_neg hg],fun b=>?_⟩
 rw [hw b]; unfold orS; rw [h4 b]
theorem plain_parts {s:ByteArray} {g i:Nat} {e:Ending} {w':World} (h:match itemB s.data.toList i with
 | some (c,nx)=>e=.returned (.int .u8 c.toNat)∧Rdr w' g s nx false
 | none=>∃ j:Nat,s.size≤j∧j≤s.size+1∧e=.returned (.int .u8 0)∧Rdr w' g s j true) :
  ∃ (c:UInt8) (j:Nat) (bad:Bool),e=.returned (.int .u8 c.toNat)∧Rdr w' g s j bad∧((bad=false∧itemB s.data.toList i=some (c,j))∨(bad=true∧itemB s.data.toList i=none∧s.size≤j∧j≤s.size+1)):=by
 cases hit:itemB s.data.toList i with
 | none =>
  rw [hit] at h
  obtain ⟨j,h1,h2,h3,h4⟩:=h
  exact ⟨0,j,true,h3,h4,.inr ⟨rfl,rfl,h1,h2⟩⟩
 | some x =>
  rw [hit] at h
  exact ⟨x.1,x.2,false,h.1,h.2,.inl ⟨rfl,rfl⟩⟩
def MidAt (s:ByteArray) (i0 ii j n:Nat) (bad:Bool) (lo hi:UInt8) (W:Nat→Nat):Prop:=
 (bad=true∧setB s.data.toList i0 (fun _=>false) 0=none∧ii<j∧j≤s.size+1) ∨
 (bad=false∧ii<j∧j≤s.size∧(hi.toNat<lo.toNat→setB s.data.toList i0 (fun _=>false) 0=none)∧(¬ hi.toNat<lo.toNat→∀ W',(∀ b,hasN W' b=orS (hasN W) (inR lo hi) b)→SetAt s i0 j (n+1) false W'))
theorem mid_bad {s:ByteArray} {i0 ii j n:Nat} {lo hi:UInt8} {W:Nat→Nat} (h:setB s.data.toList i0 (fun _=>false) 0=none) (hi':ii<j) (hj:j≤s.size+1):MidAt s i0 ii j n true lo hi W:=.inl ⟨rfl,h,hi',hj⟩
theorem mid_one {s:ByteArray} {i0 ii n nx:Nat} {lo:UInt8} {W:Nat→Nat} (h:SetAt s i0 ii n false W) (hb:ii<s.data.toList.length∧s.data.toList[ii]?≠some 93) (h1:itemB s.data.toList ii=some (lo,nx)) (hd:dashB s.data.toList nx=false) :
  MidAt s i0 ii nx n false lo lo W:=by
 have hl:=itemB_lt h1
 rw [len_data'] at hl
 exact .inr ⟨rfl,hl.1,hl.2,fun hg=>absurd hg (Nat.lt_irrefl _),fun _ W' hw=>step_one h hb h1 hd hw⟩
theorem mid_dash {s:ByteArray} {i0 ii n nx j:Nat} {bad:Bool} {lo hi:UInt8} {W:Nat→Nat} (h:SetAt s i0 ii n false W) (hb:ii<s.data.toList.length∧s.data.toList[ii]?≠some 93) (h1:itemB s.data.toList ii=some (lo,nx)) (hd:dashB s.data.toList nx=true)
  (h2:(bad=false∧itemB s.data.toList (nx+1)=some (hi,j))∨(bad=true∧itemB s.data.toList (nx+1)=none∧s.size≤j∧j≤s.size+1)):MidAt s i0 ii j n bad lo hi W:=by
 rcases h2 with ⟨rfl,h2⟩ | ⟨rfl,h2,h4,h3⟩
 ·have hl:=itemB_lt h1
  have hl2:=itemB_lt h2
  rw [len_data'] at hl2
  exact .inr ⟨rfl,by omega,hl2.2,fun hg=>step_gt h hb h1 hd h2 hg,fun hg W' hw=>step_dash h hb h1 hd h2 hg hw⟩
 ·have hb1:=hb.1
  rw [len_data'] at hb1
  exact .inl ⟨rfl,step_dash0 h hb h1 hd h2,by omega,h3⟩
def DashIs (s:ByteArray) (nx:Nat) (bad db:Bool):Prop:=(bad=true∧db=false)∨(bad=false∧dashB s.data.toList nx=db)
theorem DashIs.of_good {s:ByteArray} {nx:Nat} {bad db:Bool} (h:DashIs s nx bad db) (hb:bad=false):dashB s.data.toList nx=db:=by
 rcases h with ⟨h,_⟩ | ⟨_,h⟩
 ·rw [hb] at h; cases h
 ·exact h
theorem DashIs.of_bad {s:ByteArray} {nx:Nat} {bad db:Bool} (h:DashIs s nx bad db) (hb:bad=true):db=false:=by
 rcases h with ⟨_,h⟩ | ⟨h,_⟩
 ·exact h
 ·rw [hb] at h; cases h
theorem dash_lt {s:ByteArray} {nx:Nat} (h:dashB s.data.toList nx=true):nx+1<s.size:=by
 unfold dashB at h
 simp only [Bool.and_eq_true,decide_eq_true_eq] at h
 rw [len_data'] at h
 exact h.1.2
theorem MidAt.bad_ {s:ByteArray} {i0 ii j n:Nat} {lo hi:UInt8} {W:Nat→Nat} (h:MidAt s i0 ii j n true lo hi W):setB s.data.toList i0 (fun _=>false) 0=none:=by
 rcases h with ⟨_,h,_⟩ | ⟨h,_⟩
 ·exact h
 ·cases h
theorem MidAt.good_ {s:ByteArray} {i0 ii j n:Nat} {lo hi:UInt8} {W:Nat→Nat} (h:MidAt s i0 ii j n false lo hi W):j≤s.size∧(hi.toNat<lo.toNat→setB s.data.toList i0 (fun _=>false) 0=none)∧(¬ hi.toNat<lo.toNat→∀ W',(∀ b,hasN W' b=orS (hasN W) (inR lo hi) b)→SetAt s i0 j (n+1) false W'):=by
 rcases h with ⟨h,_⟩ | ⟨_,_,h⟩
 ·cases h
 ·exact h
theorem grown_step {a b c:World} {g k:Nat} (h:a.grownBy b (some g)) (hc:b.grownBy c (some k)) (hk:a.heap.size≤k):a.grownBy c (some g):=
 ⟨hc.os.trans h.os,hc.tape.trans h.tape,hc.output.trans h.output,Nat.le_trans h.size hc.size,fun n hn hr=>(hc.block n (Nat.lt_of_lt_of_le hn h.size) (by intro e; injection e; omega)).trans (h.block n hn hr)⟩
def SetFin (s:ByteArray) (i0 ii:Nat) (bad:Bool) (W:Nat→Nat):Prop:=
 (bad=true∧setB s.data.toList i0 (fun _=>false) 0=none)∨(bad=false∧∃ f,setB s.data.toList i0 (fun _=>false) 0=some (f,ii+1)∧∀ b,hasN W b=f b)
theorem SetEnd.fin_ {s:ByteArray} {i0 ii n:Nat} {bad:Bool} {W:Nat→Nat} (h:SetEnd s i0 ii n bad W) :
  ((decide (n=0) || !peekB s ii 93)=true→setB s.data.toList i0 (fun _=>false) 0=none)∧((decide (n=0) || !peekB s ii 93)=false→SetFin s i0 ii bad W):=by
 rcases h with ⟨rfl,h⟩ | ⟨rfl,hp,h⟩ | ⟨rfl,hp,f,h,hb⟩
 ·exact ⟨fun _=>h,fun _=>.inl ⟨rfl,h⟩⟩
 ·exact ⟨fun _=>h,fun e=>by rw [hp] at e; simp at e⟩
 ·rw [hp]
  refine ⟨fun e=>?_,fun e=>?_⟩
  ·have:n=0:=by simpa using e
   rw [h,if_neg (by simp [this])]
  ·have:n≠0:=by simpa using e
   exact .inr ⟨rfl,f,by rw [h,if_pos this],hb⟩
def flipW (W : Nat → Nat) (q : Nat) : Nat → Nat := fun j => if j < q then 18446744073709551615 - W j else W j
theorem xor_all (v : Nat) (hv : v < 18446744073709551616) : bits .xor .u64 (if IntKind.u64.signed = true then -1 else IntKind.u64.max) (v : Int) = ((18446744073709551615 - v : Nat) : Int) := by
  have h1 : (if IntKind.u64.signed = true then (-1 : Int) else IntKind.u64.max) = ((18446744073709551615 : Nat) : Int) := by decide
  rw [h1]
  have h2 : (BitVec.ofNat 64 18446744073709551615 ^^^ BitVec.ofNat 64 v) = ~~~ BitVec.ofNat 64 v := by
    have : BitVec.ofNat 64 18446744073709551615 = BitVec.allOnes 64 := by decide
    rw [this, BitVec.allOnes_xor]
  have h3 : bits .xor .u64 ((18446744073709551615 : Nat) : Int) (v : Int) = IntKind.u64.wrap (((BitVec.ofNat 64 18446744073709551615 ^^^ BitVec.ofNat 64 v).toNat : Nat) : Int) := by
    simp only [bits, BitVec.ofInt_natCast]
    rfl
  have h4 : (BitVec.ofNat 64 v).toNat = v := by rw [BitVec.toNat_ofNat]; exact Nat.mod_eq_of_lt hv
  rw [h3, h2, BitVec.toNat_not, h4, wraps_u64 _ (Int.natCast_nonneg _) (by omega)]
theorem tok_flip {w:World} {g q:Nat} {W:Nat→Nat} (h:TokB w g 0 (flipW W q)) (hs:Small4 W) (hq:q<4) :
  TokB (w.setCell ⟨g,1+q,none⟩ (.int .u64 (bits .xor .u64 (if IntKind.u64.signed=true then -1 else IntKind.u64.max) ((flipW W q q:Nat):Int)))) g 0 (flipW W (q+1)):=by
 have e:flipW W q q=W q:=by unfold flipW; rw [if_neg (Nat.lt_irrefl _)]
 rw [e,xor_all _ (hs q)]
 have h2:=tok_set h (q:=q) (x:=18446744073709551615 - W q) hq
 have e2:setW (flipW W q) q (18446744073709551615 - W q)=flipW W (q+1):=by
  funext j
  unfold setW flipW
  by_cases hj:j=q
  ·subst hj; rw [if_pos rfl,if_pos (by omega)]
  ·rw [if_neg hj]
   by_cases hj2:j<q
   ·rw [if_pos hj2,if_pos (by omega)]
   ·rw [if_neg hj2,if_neg (by omega)]
 rw [← e2]
 exact h2
theorem small_flip {W:Nat→Nat} (h:Small4 W) (q:Nat):Small4 (flipW W q):=fun j=>by
 have:=h j
 unfold flipW
 split <;> omega
theorem has_flip {W:Nat→Nat} (h:Small4 W) (b:UInt8):hasN (flipW W 4) b=(hasN W b != true):=by
 have hb:b.toNat<256:=b.toNat_lt
 unfold hasN flipW
 rw [if_pos (by omega)]
 have h1:=h (b.toNat / 64)
 have e:18446744073709551615 - W (b.toNat / 64)=2 ^ 64 - (W (b.toNat / 64)+1):=by omega
 rw [e,Nat.testBit_two_pow_sub_succ (by omega),decide_eq_true (by omega),Bool.true_and]
 cases (W (b.toNat / 64)).testBit (b.toNat % 64) <;> rfl
theorem grown_one (w:World) (a:Addr) (v:Value):w.grownBy (w.setCell a v) (some a.block):=
 ⟨rfl,rfl,rfl,by simp,fun n _ hne=>Below.heap_setCell _ _ _ n (fun e=>hne (by rw [e]))⟩
def cut47 (W:Nat→Nat):Nat→Nat:=setW W 0 (W 0 &&& (2 ^ 64 - 1 - 2 ^ 47))
theorem andNot_47 (v:Nat) (hv:v<18446744073709551616):bits .andNot .u64 (v:Int) 140737488355328=((v &&& (2 ^ 64 - 1 - 2 ^ 47):Nat):Int):=by
 have h1:(140737488355328:Int)=((140737488355328:Nat):Int):=rfl
 rw [h1]
 have h3:bits .andNot .u64 (v:Int) ((140737488355328:Nat):Int)=IntKind.u64.wrap (((BitVec.ofNat 64 v &&& ~~~ BitVec.ofNat 64 140737488355328).toNat:Nat):Int):=by
  simp only [bits,BitVec.ofInt_natCast]
  rfl
 have h4:(BitVec.ofNat 64 v).toNat=v:=by rw [BitVec.toNat_ofNat]; exact Nat.mod_eq_of_lt hv
 have h5:(~~~ BitVec.ofNat 64 140737488355328).toNat=2 ^ 64 - 1 - 2 ^ 47:=by decide
 have h6:v &&& (2 ^ 64 - 1 - 2 ^ 47)≤v:=Nat.and_le_left
 rw [h3,BitVec.toNat_and,h4,h5,wraps_u64 _ (Int.natCast_nonneg _) (by omega)]
theorem tok_cut {w:World} {g:Nat} {W:Nat→Nat} (h:TokB w g 0 W) (hs:Small4 W):TokB (w.setCell ⟨g,1,none⟩ (.int .u64 (bits .andNot .u64 ((W 0:Nat):Int) 140737488355328))) g 0 (cut47 W):=by
 rw [andNot_47 _ (hs 0)]
 exact tok_set h (q:=0) (by omega)
theorem small_cut {W:Nat→Nat} (h:Small4 W):Small4 (cut47 W):=small_set h (Nat.lt_of_le_of_lt Nat.and_le_left (h 0))
theorem has_cut (W:Nat→Nat) (b:UInt8):hasN (cut47 W) b=(b != 47 && hasN W b):=by
 have hb:b.toNat<256:=b.toNat_lt
 have h47:(47:UInt8).toNat=47:=rfl
 unfold hasN cut47 setW
 by_cases hq:b.toNat / 64=0
 ·rw [if_pos hq,hq,Nat.testBit_and,show (2 ^ 64 - 1 - 2 ^ 47:Nat)=2 ^ 64 - (2 ^ 47+1) by decide,Nat.testBit_two_pow_sub_succ (by decide),decide_eq_true (by omega),Bool.true_and,Nat.testBit_two_pow,Bool.and_comm]
  congr 1
  rw [Bool.eq_iff_iff,bne_iff_ne]
  simp only [Bool.not_eq_true',decide_eq_false_iff_not,ne_eq]
  rw [← UInt8.toNat_inj,h47]
  omega
 ·rw [if_neg hq]
  have:(b != 47)=true:=by rw [bne_iff_ne,ne_eq,← UInt8.toNat_inj,h47]; omega
  rw [this,Bool.true_and]
theorem whole_tok:Whole Tryz.prog 302 5:=⟨by kernel_rfl,by kernel_rfl⟩
theorem peek_lit {s:ByteArray} {g i:Nat} {bad:Bool} {w:World} (h:Rdr w g s i bad) (hs:s.size≤140737488355328) (hi:i≤s.size+10) (k:Nat) (b:UInt8) (K B:Int) (hK:K=(k:Nat)) (hB:B=b.toNat) (hk:k≤1) :
  Calls Tryz.prog 227 #[.pointer (some ⟨g,0,none⟩),.int .i64 K,.int .u8 B] w fun e w'=>e=.returned (.bool (peekB s (i+k) b))∧Below w.heap.size w w':=by
 subst hK; subst hB
 exact svPeek s g i k b bad w h hs hi hk
theorem peek_over {s:ByteArray} {g i:Nat} {bad:Bool} {w:World} (h:Rdr w g s i bad) (hs:s.size≤140737488355328) (hi:i≤s.size+10) (k:Nat) (b:UInt8) (K B:Int) (v:Bool) (hK:K=(k:Nat)) (hB:B=b.toNat) (hk:k≤1) (hv:peekB s (i+k) b=v) (δ:World) :
  Calls Tryz.prog 227 #[.pointer (some ⟨g,0,none⟩),.int .i64 K,.int .u8 B] (over w δ) fun e w'=>e=.returned (.bool v)∧∃ δ',w'=over (over w δ) δ':=by
 subst hv
 exact (peek_lit (Blk.over_ h δ) hs hi k b K B hK hB hk).mono fun e w' ⟨he,hb⟩=>⟨he,exists_over hb⟩
theorem svClass (s:ByteArray) (g i:Nat) (w:World) (h:Rdr w g s i false) (hs:s.size≤140737488355328) (hi:i≤s.size) :
  Calls Tryz.prog 229 #[.pointer (some ⟨g,0,none⟩)] w (ClassEnd s g i w):=by
 have H:=Lib.hid h
 clear h
 go_enter Tryz.func229,Tryz.ntmps229
 go_wp2_with fail
 have hg0:=H.out.lt
 have P0:=Lib.hid (peek_lit (w:=(w.alloc (.cells #[.int .i64 0,.int .u64 0,.int .u64 0,.int .u64 0,.int .u64 0] 302)).alloc (.cells #[.int .i64 0,.int .u64 0,.int .u64 0,.int .u64 0,.int .u64 0] 302)) ((Blk.alloc (Blk.alloc H.out _) _)) hs (by omega) 0 33 0 33 rfl rfl (by omega))
 refine P0.out.mono ?_
 rintro e w1 ⟨rfl,hb1⟩
 obtain ⟨b1,b2,hb,hsz⟩:=blks2 hb1
 have R1:Hid (Rdr w1 g s i false):=Lib.hid (H.out.below hb hg0)
 have G1:Hid (w.grownBy w1 (some g)):=Lib.hid (grown_bel hb)
 have Z1:=Lib.hid b1
 have T1:Hid (TokB w1 (w.heap.size+1) 0 zero4):=Lib.hid b2
 clear P0 hb1 b1 b2 hb
 rw [Nat.add_zero]
 obtain ⟨nb,hnb⟩:∃ nb,nb=peekB s i 33:=⟨_,rfl⟩
 rw [← hnb]
 obtain ⟨i0,hi0⟩:∃ i0:Nat,i0=if nb then i+1 else i:=⟨_,rfl⟩
 have hi0s:i0≤s.size:=by
  rw [hi0]
  cases nb with
  | false=>exact hi
  | true =>
   by_cases hc:i<s.size
   ·simp; omega
   ·rw [peek_no hc] at hnb; cases hnb
 have HC:Hid (classB s.data.toList i=(setB s.data.toList i0 (fun _=>false) 0).map fun x=>(fun b=>b != 47 && (x.1 b != nb),x.2)):=Lib.hid (by
  unfold classB
  rw [show notB s.data.toList i=nb from hnb.symm,hi0])
 have HI0:=Lib.hid hi0
 have hii:=hi
 clear hnb hi0 hi
 have k1:=R1.out.cells.2.1; have f1:=R1.out.frozen 1; have l1:=R1.out.lt
 go_upto_if 11 with (fail)
 go_cut [] (fun wx=>Rdr wx g s i0 false∧TokB wx (w.heap.size+1) 0 zero4∧Blk wx w.heap.size 302 (tokCs 0 zero4)∧w.grownBy wx (some g)∧w.heap.size+2≤wx.heap.size)
 case first =>
  cases nb with
  | true =>
   go_wp2_with fail
   go_meet
   case rel =>
    have e0:i0=i+1:=HI0.out
    subst e0
    have hz:(Blk w1 w.heap.size 302 (tokCs 0 zero4)):=Z1.out
    exact ⟨(R1.out.set_ 1 (.int .i64 ((i:Int)+1))).to rfl,T1.out.far (by simp; omega) _,hz.far (by simp; omega) _,grown_cell G1.out,by simp; omega⟩
  | false =>
   go_wp2_with fail
   go_meet
   case rel =>
    have e0:i0=i:=HI0.out
    subst e0
    exact ⟨R1.out,T1.out,Z1.out,G1.out,by omega⟩
 case rest =>
  obtain ⟨h1,h2,h3,h4,h5⟩:=hcut
  have R2:=Lib.hid h1; have T2:=Lib.hid h2; have Z2:=Lib.hid h3; have G2:=Lib.hid h4
  clear h1 h2 h3 h4 R1 T1 Z1 G1 k1 f1 l1
  have hi0':=hi0s
  go_upto_block 0 with (fail)
  go_cut [5] (fun it wx=>∃ (ii n:Nat) (bad:Bool) (W':Nat→Nat),it=.int .i64 n∧n≤s.size+2∧ii≤s.size+2∧Rdr wx g s ii bad∧TokB wx (w.heap.size+1) 0 W'∧Small4 W'∧Blk wx w.heap.size 302 (tokCs 0 zero4)∧w.grownBy wx (some g)∧w.heap.size+2≤wx.heap.size∧SetEnd s i0 ii n bad W')
  case first =>
   go_wp2_with fail
   go_loopw [5] (fun it wr=>∃ (ii n:Nat) (bad:Bool) (W':Nat→Nat),it=.int .i64 n∧n≤ii∧ii≤s.size+2∧Rdr wr g s ii bad∧TokB wr (w.heap.size+1) 0 W'∧Small4 W'∧Blk wr w.heap.size 302 (tokCs 0 zero4)∧w.grownBy wr (some g)∧w.heap.size+2≤wr.heap.size∧SetAt s i0 ii n bad W') (fun _ wr=>s.size+20 - cellNat wr g)
   case atStart=>exact ⟨i0,0,false,zero4,rfl,Nat.zero_le _,by omega,R2.out,T2.out,fun _=>by simp [zero4],Z2.out,G2.out,h5,setAt_0 hi0'⟩
   case round =>
    obtain ⟨ii,n,bad,W',rfl,hn,hii,hr,ht,hs4,hz,hg,hsz,hset⟩:=hrel
    have CN:=Lib.hid hr.at_
    have R:=Lib.hid hr; have T:=Lib.hid ht; have S4:=Lib.hid hs4; have Z:=Lib.hid hz; have G:=Lib.hid hg; have SE:=Lib.hid hset
    clear hr ht hs4 hz hg hset R2 T2 Z2 G2
    go_wp2_with fail
    refine (svMore s g ii bad _ R.out hs (by omega)).mono ?_
    rintro e w2 ⟨rfl,hb2⟩
    have hg0':g<wr.heap.size:=R.out.lt
    have R2:Hid (Rdr w2 g s ii bad):=Lib.hid (R.out.below hb2 hg0')
    have T2:Hid (TokB w2 (w.heap.size+1) 0 W'):=Lib.hid (T.out.below hb2 (by omega))
    have Z2:=Lib.hid (Z.out.below hb2 (by omega))
    have G2:Hid (w.grownBy w2 (some g)):=Lib.hid (grownBy_transH G.out (grown_bel hb2))
    have hsz2:w.heap.size+2≤w2.heap.size:=Nat.le_trans hsz hb2.size
    clear hb2 R T Z G hsz
    cases bad with
    | true =>
     rw [show (decide (ii<s.size) && !true)=false by simp]
     go_wp2_with fail
     go_meet
     case rel=>exact ⟨ii,n,true,W',rfl,by omega,hii,R2.out,T2.out,S4.out,Z2.out,G2.out,hsz2,end_bad SE.out⟩
    | false =>
     rw [show (decide (ii<s.size) && !false)=decide (ii<s.size) by simp]
     by_cases hlt:ii<s.size
     ·rw [decide_eq_true hlt]
      go_wp2_with fail
      refine (peek_lit R2.out hs (by omega) 0 93 0 93 rfl rfl (by omega)).mono ?_
      rintro e w3 ⟨rfl,hb3⟩
      rw [Nat.add_zero]
      have hg2:g<w2.heap.size:=R2.out.lt
      have R3:Hid (Rdr w3 g s ii false):=Lib.hid (R2.out.below hb3 hg2)
      have T3:Hid (TokB w3 (w.heap.size+1) 0 W'):=Lib.hid (T2.out.below hb3 (by omega))
      have Z3:=Lib.hid (Z2.out.below hb3 (by omega))
      have G3:Hid (w.grownBy w3 (some g)):=Lib.hid (grownBy_transH G2.out (grown_bel hb3))
      have hsz3:w.heap.size+2≤w3.heap.size:=Nat.le_trans hsz2 hb3.size
      clear hb3 R2 T2 Z2 G2 hsz2
      cases hp:peekB s ii 93 with
      | true =>
       have HP:=Lib.hid hp
       clear hp
       go_wp2_with fail
       go_meet
       case rel=>exact ⟨ii,n,false,W',rfl,by omega,hii,R3.out,T3.out,S4.out,Z3.out,G3.out,hsz3,end_br SE.out hlt HP.out⟩
      | false =>
       have NB:=Lib.hid (not_br hlt hp)
       clear hp
       go_wp2_with fail
       refine (svPlain s g ii _ R3.out hs (by omega)).mono ?_
       rintro e w4 ⟨hg4,hpe⟩
       have T4:Hid (TokB w4 (w.heap.size+1) 0 W'):=Lib.hid (T3.out.grown hg4 (by intro e; injection e; omega))
       have Z4:=Lib.hid (Z3.out.grown hg4 (by intro e; injection e; omega))
       have G4:Hid (w.grownBy w4 (some g)):=Lib.hid (grownBy_transH G3.out hg4)
       have hsz4:w.heap.size+2≤w4.heap.size:=Nat.le_trans hsz3 hg4.size
       clear hg4 T3 Z3 G3 hsz3 R3
       obtain ⟨lo,nx,bad0,rfl,hr4,hit⟩:=plain_parts hpe
       have R4:Hid (Rdr w4 g s nx bad0):=Lib.hid hr4
       have IT:=Lib.hid hit
       clear hpe hr4 hit
       go_upto_if 50 with (fail)
       go_cut [50] (fun tv wx=>∃ db:Bool,tv=.bool db∧Rdr wx g s nx bad0∧TokB wx (w.heap.size+1) 0 W'∧Blk wx w.heap.size 302 (tokCs 0 zero4)∧w.grownBy wx (some g)∧w.heap.size+2≤wx.heap.size∧DashIs s nx bad0 db)
       case first =>
        rcases IT.out with ⟨rfl,hit⟩ | ⟨rfl,hit,hj1,hj2⟩
        ·have hnx:=itemB_lt hit
         rw [len_data'] at hnx
         clear hit IT
         have k0:=R4.out.cells.1; have k1:=R4.out.cells.2.1; have l1:=R4.out.lt
         have ew:IntKind.i64.wrap ((nx:Int)+1)=(nx:Int)+1:=IntWalk.i64_in _ (by omega)
         cases hp45:peekB s nx 45 with
         | false =>
          have DB:=Lib.hid (show dashB s.data.toList nx=false by rw [dash_peek,hp45]; rfl)
          have Q0:=Lib.hid (peek_over R4.out hs (by omega) 0 45 0 45 false rfl rfl (by omega) hp45)
          clear hp45
          refine wp_region_over (by kernel_rfl) (by kernel_rfl) ?_
          repeat (go_big_quiet_step ((go_at_call 227; exact calls_over (Q0.out _))))
          refine wpQuiet_nil ?_
          rintro _ ⟨δ,rfl⟩
          go_wp2_with fail
          go_meet
          case rel=>exact ⟨false,rfl,Blk.over_ R4.out δ,Blk.over_ T4.out δ,Blk.over_ Z4.out δ,grownBy_transH G4.out (grown_bel (below_over w4 δ)),Nat.le_trans hsz4 (size_over_le _ _),.inr ⟨rfl,DB.out⟩⟩
         | true =>
          have Q0:=Lib.hid (peek_over R4.out hs (by omega) 0 45 0 45 true rfl rfl (by omega) hp45)
          have P45:=Lib.hid hp45
          clear hp45
          by_cases hl2:nx+1<s.size
          ·have c1:decide ((nx:Int)+1<s.size)=true:=by simp; omega
           cases hp93:peekB s (nx+1) 93 with
           | true =>
            have DB:=Lib.hid (show dashB s.data.toList nx=false by rw [dash_peek,hp93]; simp)
            have Q1:=Lib.hid (peek_over R4.out hs (by omega) 1 93 1 93 true rfl rfl (by omega) hp93)
            clear hp93
            refine wp_region_over (by kernel_rfl) (by kernel_rfl) ?_
            repeat (go_big_quiet_step ((go_at_call 227; (first | (with_reducible exact calls_over (Q0.out _)) | (with_reducible exact calls_over (Q1.out _))))))
            refine wpQuiet_nil ?_
            rintro _ ⟨δ,rfl⟩
            go_wp2_with fail
            go_meet
            case rel=>exact ⟨false,rfl,Blk.over_ R4.out δ,Blk.over_ T4.out δ,Blk.over_ Z4.out δ,grownBy_transH G4.out (grown_bel (below_over w4 δ)),Nat.le_trans hsz4 (size_over_le _ _),.inr ⟨rfl,DB.out⟩⟩
           | false =>
            have DB:=Lib.hid (show dashB s.data.toList nx=true by rw [dash_peek,hp93,P45.out,decide_eq_true hl2]; rfl)
            have Q1:=Lib.hid (peek_over R4.out hs (by omega) 1 93 1 93 false rfl rfl (by omega) hp93)
            clear hp93
            refine wp_region_over (by kernel_rfl) (by kernel_rfl) ?_
            repeat (go_big_quiet_step ((go_at_call 227; (first | (with_reducible exact calls_over (Q0.out _)) | (with_reducible exact calls_over (Q1.out _))))))
            refine wpQuiet_nil ?_
            rintro _ ⟨δ,rfl⟩
            go_wp2_with fail
            go_meet
            case rel=>exact ⟨true,rfl,Blk.over_ R4.out δ,Blk.over_ T4.out δ,Blk.over_ Z4.out δ,grownBy_transH G4.out (grown_bel (below_over w4 δ)),Nat.le_trans hsz4 (size_over_le _ _),.inr ⟨rfl,DB.out⟩⟩
          ·have c1:decide ((nx:Int)+1<s.size)=false:=by simp; omega
           have DB:=Lib.hid (show dashB s.data.toList nx=false by rw [dash_peek,decide_eq_false hl2]; simp)
           refine wp_region_over (by kernel_rfl) (by kernel_rfl) ?_
           repeat (go_big_quiet_step ((go_at_call 227; exact calls_over (Q0.out _))))
           refine wpQuiet_nil ?_
           rintro _ ⟨δ,rfl⟩
           go_wp2_with fail
           go_meet
           case rel=>exact ⟨false,rfl,Blk.over_ R4.out δ,Blk.over_ T4.out δ,Blk.over_ Z4.out δ,grownBy_transH G4.out (grown_bel (below_over w4 δ)),Nat.le_trans hsz4 (size_over_le _ _),.inr ⟨rfl,DB.out⟩⟩
        ·have Q0:=Lib.hid (peek_over R4.out hs (by omega) 0 45 0 45 false rfl rfl (by omega) (peek_no (by omega)))
         clear hit IT
         refine wp_region_over (by kernel_rfl) (by kernel_rfl) ?_
         repeat (go_big_quiet_step ((go_at_call 227; exact calls_over (Q0.out _))))
         refine wpQuiet_nil ?_
         rintro _ ⟨δ,rfl⟩
         go_wp2_with fail
         go_meet
         case rel=>exact ⟨false,rfl,Blk.over_ R4.out δ,Blk.over_ T4.out δ,Blk.over_ Z4.out δ,grownBy_transH G4.out (grown_bel (below_over w4 δ)),Nat.le_trans hsz4 (size_over_le _ _),.inl ⟨rfl,rfl⟩⟩
       case rest =>
        obtain ⟨db,rfl,q1,q2,q3,q4,q5,q6⟩:=hcut
        clear R4 T4 Z4 G4 hsz4
        generalize wc=w5 at *
        have R5:Hid (Rdr w5 g s nx bad0):=Lib.hid q1
        have T5:Hid (TokB w5 (w.heap.size+1) 0 W'):=Lib.hid q2
        have Z5:=Lib.hid q3; have G5:Hid (w.grownBy w5 (some g)):=Lib.hid q4; have DI:=Lib.hid q6
        have hsz5:=q5
        clear q1 q2 q3 q4 q5 q6
        go_upto_if 50 with (fail)
        go_cut [7] (fun hv wx=>∃ (j:Nat) (bad:Bool) (hi:UInt8),hv=.int .u8 hi.toNat∧Rdr wx g s j bad∧TokB wx (w.heap.size+1) 0 W'∧Blk wx w.heap.size 302 (tokCs 0 zero4)∧w.grownBy wx (some g)∧w.heap.size+2≤wx.heap.size∧MidAt s i0 ii j n bad lo hi W')
        case first =>
         rcases IT.out with ⟨rfl,hit⟩ | ⟨rfl,hit,hj1,hj2⟩
         ·have hnx:=itemB_lt hit
          rw [len_data'] at hnx
          have HIT:=Lib.hid hit
          clear hit IT
          cases db with
          | false =>
           have DB:=Lib.hid (DI.out.of_good rfl)
           go_wp2_with fail
           go_meet
           case rel=>exact ⟨nx,false,lo,rfl,R5.out,T5.out,Z5.out,G5.out,hsz5,mid_one SE.out NB.out HIT.out DB.out⟩
          | true =>
           have DB:=Lib.hid (DI.out.of_good rfl)
           have hnl:=dash_lt DB.out
           have k1:=R5.out.cells.2.1; have f1:=R5.out.frozen 1; have l1:=R5.out.lt
           go_wp2_with fail
           have R6:Hid (Rdr (w5.setCell ⟨g,1,none⟩ (.int .i64 ((nx:Int)+1))) g s (nx+1) false):=Lib.hid ((R5.out.set_ 1 (.int .i64 ((nx:Int)+1))).to rfl)
           have T6:Hid (TokB (w5.setCell ⟨g,1,none⟩ (.int .i64 ((nx:Int)+1))) (w.heap.size+1) 0 W'):=Lib.hid (T5.out.far (by simp; omega) _)
           have Z6:=Lib.hid (Z5.out.far (p:=⟨g,1,none⟩) (by simp; omega) (.int .i64 ((nx:Int)+1)))
           have G6:Hid (w.grownBy (w5.setCell ⟨g,1,none⟩ (.int .i64 ((nx:Int)+1))) (some g)):=Lib.hid (grown_cell G5.out)
           have hsz6:w.heap.size+2≤(w5.setCell ⟨g,1,none⟩ (.int .i64 ((nx:Int)+1))).heap.size:=by simp; omega
           clear k1 f1 l1
           generalize w5.setCell ⟨g,1,none⟩ (.int .i64 ((nx:Int)+1))=w6 at R6 T6 Z6 G6 hsz6 ⊢
           refine (svPlain s g (nx+1) _ R6.out hs (by omega)).mono ?_
           rintro e w7 ⟨hg7,hpe⟩
           obtain ⟨hi,j,bad,rfl,hr7,hit7⟩:=plain_parts hpe
           have R7:Hid (Rdr w7 g s j bad):=Lib.hid hr7
           have T7:Hid (TokB w7 (w.heap.size+1) 0 W'):=Lib.hid (T6.out.grown hg7 (by intro e; injection e; omega))
           have Z7:=Lib.hid (Z6.out.grown hg7 (by intro e; injection e; omega))
           have G7:Hid (w.grownBy w7 (some g)):=Lib.hid (grownBy_transH G6.out hg7)
           have hsz7:w.heap.size+2≤w7.heap.size:=Nat.le_trans hsz6 hg7.size
           have IT7:=Lib.hid hit7
           clear hg7 hpe hr7 hit7
           go_wp2_with fail
           go_meet
           case rel=>exact ⟨j,bad,hi,rfl,R7.out,T7.out,Z7.out,G7.out,hsz7,mid_dash SE.out NB.out HIT.out DB.out IT7.out⟩
         ·have e0:db=false:=DI.out.of_bad rfl
          subst e0
          have SB:=Lib.hid (step_none SE.out NB.out hit)
          clear hit IT
          go_wp2_with fail
          go_meet
          case rel=>exact ⟨nx,true,lo,rfl,R5.out,T5.out,Z5.out,G5.out,hsz5,mid_bad SB.out (by omega) hj2⟩
        case rest =>
         obtain ⟨j,bad,hi,rfl,q1,q2,q3,q4,q5,q6⟩:=hcut
         clear R5 T5 Z5 G5 hsz5
         have R8:Hid (Rdr wc g s j bad):=Lib.hid q1
         have T8:Hid (TokB wc (w.heap.size+1) 0 W'):=Lib.hid q2
         have Z8:=Lib.hid q3; have G8:Hid (w.grownBy wc (some g)):=Lib.hid q4; have MI:=Lib.hid q6
         have hsz8:=q5
         have k2:=R8.out.cells.2.2; have f2:=R8.out.frozen 2; have l2:=R8.out.lt
         clear q1 q2 q3 q4 q5 q6
         have hij:ii<j∧j≤s.size+1:=by
          rcases MI.out with ⟨_,_,q1,q2⟩ | ⟨_,q1,q2,_⟩
          ·exact ⟨q1,q2⟩
          ·exact ⟨q1,by omega⟩
         obtain ⟨hij1,hij2⟩:=hij
         cases bad with
         | true =>
          have SB:=Lib.hid (MI.out.bad_)
          go_wp2_with fail
          have R9:Hid (Rdr (wc.setCell ⟨g,2,none⟩ (.bool true)) g s j true):=Lib.hid ((R8.out.set_ 2 (.bool true)).to rfl)
          have T9:Hid (TokB (wc.setCell ⟨g,2,none⟩ (.bool true)) (w.heap.size+1) 0 W'):=Lib.hid (T8.out.far (by simp; omega) _)
          have Z9:=Lib.hid (Z8.out.far (p:=⟨g,2,none⟩) (by simp; omega) (.bool true))
          have G9:Hid (w.grownBy (wc.setCell ⟨g,2,none⟩ (.bool true)) (some g)):=Lib.hid (grown_cell G8.out)
          have hsz9:w.heap.size+2≤(wc.setCell ⟨g,2,none⟩ (.bool true)).heap.size:=by simp; omega
          clear k2 f2 l2
          generalize wc.setCell ⟨g,2,none⟩ (.bool true)=w9 at R9 T9 Z9 G9 hsz9 ⊢
          refine (svAdd (w.heap.size+1) 0 W' lo hi _ T9.out S4.out).mono ?_
          rintro e w10 ⟨rfl,W2,ht10,hs10,hb10,hg10⟩
          have R10:Hid (Rdr w10 g s j true):=Lib.hid (R9.out.grown hg10 (by intro e; injection e; omega))
          have Z10:=Lib.hid (Z9.out.grown hg10 (by intro e; injection e; omega))
          have G10:Hid (w.grownBy w10 (some g)):=Lib.hid (grown_step G9.out hg10 (by omega))
          have hsz10:w.heap.size+2≤w10.heap.size:=Nat.le_trans hsz9 hg10.size
          have T10:Hid (TokB w10 (w.heap.size+1) 0 W2):=Lib.hid ht10
          have S10:=Lib.hid hs10; have B10:=Lib.hid hb10
          clear ht10 hs10 hb10 hg10
          go_wp2_with fail
          go_roundw
          case rel=>exact ⟨j,n+1,true,W2,by go_num,(by omega),by omega,R10.out,T10.out,S10.out,Z10.out,G10.out,hsz10,setAt_bad SB.out (by omega)⟩
          case measure =>
           have h1:=CN.out
           have h2:=R10.out.at_
           omega
         | false =>
          obtain ⟨m1,m2,m3⟩:=MI.out.good_
          by_cases hgt:hi.toNat<lo.toNat
          ·have c1:decide (hi.toNat<lo.toNat)=true:=decide_eq_true hgt
           have SB:=Lib.hid (m2 hgt)
           clear m2 m3
           go_wp2_with fail
           have R9:Hid (Rdr (wc.setCell ⟨g,2,none⟩ (.bool true)) g s j true):=Lib.hid ((R8.out.set_ 2 (.bool true)).to rfl)
           have T9:Hid (TokB (wc.setCell ⟨g,2,none⟩ (.bool true)) (w.heap.size+1) 0 W'):=Lib.hid (T8.out.far (by simp; omega) _)
           have Z9:=Lib.hid (Z8.out.far (p:=⟨g,2,none⟩) (by simp; omega) (.bool true))
           have G9:Hid (w.grownBy (wc.setCell ⟨g,2,none⟩ (.bool true)) (some g)):=Lib.hid (grown_cell G8.out)
           have hsz9:w.heap.size+2≤(wc.setCell ⟨g,2,none⟩ (.bool true)).heap.size:=by simp; omega
           clear k2 f2 l2
           generalize wc.setCell ⟨g,2,none⟩ (.bool true)=w9 at R9 T9 Z9 G9 hsz9 ⊢
           refine (svAdd (w.heap.size+1) 0 W' lo hi _ T9.out S4.out).mono ?_
           rintro e w10 ⟨rfl,W2,ht10,hs10,hb10,hg10⟩
           have R10:Hid (Rdr w10 g s j true):=Lib.hid (R9.out.grown hg10 (by intro e; injection e; omega))
           have Z10:=Lib.hid (Z9.out.grown hg10 (by intro e; injection e; omega))
           have G10:Hid (w.grownBy w10 (some g)):=Lib.hid (grown_step G9.out hg10 (by omega))
           have hsz10:w.heap.size+2≤w10.heap.size:=Nat.le_trans hsz9 hg10.size
           have T10:Hid (TokB w10 (w.heap.size+1) 0 W2):=Lib.hid ht10
           have S10:=Lib.hid hs10; have B10:=Lib.hid hb10
           clear ht10 hs10 hb10 hg10
           go_wp2_with fail
           go_roundw
           case rel=>exact ⟨j,n+1,true,W2,by go_num,(by omega),by omega,R10.out,T10.out,S10.out,Z10.out,G10.out,hsz10,setAt_bad SB.out (by omega)⟩
           case measure =>
            have h1:=CN.out
            have h2:=R10.out.at_
            omega
          ·have c1:decide (hi.toNat<lo.toNat)=false:=decide_eq_false hgt
           have SB:=Lib.hid (m3 hgt)
           clear m2 m3
           go_wp2_with fail
           have R9:Hid (Rdr (wc.setCell ⟨g,2,none⟩ (.bool false)) g s j false):=Lib.hid ((R8.out.set_ 2 (.bool false)).to rfl)
           have T9:Hid (TokB (wc.setCell ⟨g,2,none⟩ (.bool false)) (w.heap.size+1) 0 W'):=Lib.hid (T8.out.far (by simp; omega) _)
           have Z9:=Lib.hid (Z8.out.far (p:=⟨g,2,none⟩) (by simp; omega) (.bool false))
           have G9:Hid (w.grownBy (wc.setCell ⟨g,2,none⟩ (.bool false)) (some g)):=Lib.hid (grown_cell G8.out)
           have hsz9:w.heap.size+2≤(wc.setCell ⟨g,2,none⟩ (.bool false)).heap.size:=by simp; omega
           clear k2 f2 l2
           generalize wc.setCell ⟨g,2,none⟩ (.bool false)=w9 at R9 T9 Z9 G9 hsz9 ⊢
           refine (svAdd (w.heap.size+1) 0 W' lo hi _ T9.out S4.out).mono ?_
           rintro e w10 ⟨rfl,W2,ht10,hs10,hb10,hg10⟩
           have R10:Hid (Rdr w10 g s j false):=Lib.hid (R9.out.grown hg10 (by intro e; injection e; omega))
           have Z10:=Lib.hid (Z9.out.grown hg10 (by intro e; injection e; omega))
           have G10:Hid (w.grownBy w10 (some g)):=Lib.hid (grown_step G9.out hg10 (by omega))
           have hsz10:w.heap.size+2≤w10.heap.size:=Nat.le_trans hsz9 hg10.size
           have T10:Hid (TokB w10 (w.heap.size+1) 0 W2):=Lib.hid ht10
           have S10:=Lib.hid hs10; have B10:=Lib.hid hb10
           clear ht10 hs10 hb10 hg10
           go_wp2_with fail
           go_roundw
           case rel=>exact ⟨j,n+1,false,W2,by go_num,(by omega),by omega,R10.out,T10.out,S10.out,Z10.out,G10.out,hsz10,SB.out W2 B10.out⟩
           case measure =>
            have h1:=CN.out
            have h2:=R10.out.at_
            omega
     ·rw [decide_eq_false hlt]
      go_wp2_with fail
      go_meet
      case rel=>exact ⟨ii,n,false,W',rfl,by omega,hii,R2.out,T2.out,S4.out,Z2.out,G2.out,hsz2,end_out SE.out hlt⟩
  case rest =>
   obtain ⟨ii,n,bad,W',rfl,hn,hii,q1,q2,hs4,q3,q4,q5,hse⟩:=hcut
   clear R2 T2 Z2 G2
   generalize wc=w3 at *
   have R3:Hid (Rdr w3 g s ii bad):=Lib.hid q1
   have T3:Hid (TokB w3 (w.heap.size+1) 0 W'):=Lib.hid q2
   have Z3:=Lib.hid q3; have G3:Hid (w.grownBy w3 (some g)):=Lib.hid q4
   have hsz3:=q5
   have S4:=Lib.hid hs4; have SE:=Lib.hid hse
   clear q1 q2 q3 q4 q5 hs4 hse
   go_upto_region 15 with (fail)
   go_cut [81] (fun tv wx=>tv=.bool (decide (n=0) || !peekB s ii 93)∧Rdr wx g s ii bad∧TokB wx (w.heap.size+1) 0 W'∧Blk wx w.heap.size 302 (tokCs 0 zero4)∧w.grownBy wx (some g)∧w.heap.size+2≤wx.heap.size)
   case first =>
    cases n with
    | zero =>
     go_wp2_with fail
     go_meet
     case rel=>exact ⟨by simp,R3.out,T3.out,Z3.out,G3.out,hsz3⟩
    | succ n =>
     have c1:(((n+1:Nat):Int) == 0)=false:=by rw [beq_eq_false_iff_ne]; omega
     go_wp2_with fail
     refine (peek_lit R3.out hs (by omega) 0 93 0 93 rfl rfl (by omega)).mono ?_
     rintro e w4 ⟨rfl,hb4⟩
     rw [Nat.add_zero]
     have hg3:g<w3.heap.size:=R3.out.lt
     have R4:Hid (Rdr w4 g s ii bad):=Lib.hid (R3.out.below hb4 hg3)
     have T4:Hid (TokB w4 (w.heap.size+1) 0 W'):=Lib.hid (T3.out.below hb4 (by omega))
     have Z4:=Lib.hid (Z3.out.below hb4 (by omega))
     have G4:Hid (w.grownBy w4 (some g)):=Lib.hid (grownBy_transH G3.out (grown_bel hb4))
     have hsz4:w.heap.size+2≤w4.heap.size:=Nat.le_trans hsz3 hb4.size
     clear hb4
     go_wp2_with fail
     go_meet
     case rel=>exact ⟨by rw [show decide (n+1=0)=false by simp]; rfl,R4.out,T4.out,Z4.out,G4.out,hsz4⟩
   case rest =>
    obtain ⟨rfl,q1,q2,q3,q4,q5⟩:=hcut
    clear R3 T3 Z3 G3 hsz3
    generalize wc=w4 at *
    have R4:Hid (Rdr w4 g s ii bad):=Lib.hid q1
    have T4:Hid (TokB w4 (w.heap.size+1) 0 W'):=Lib.hid q2
    have Z4:=Lib.hid q3; have G4:Hid (w.grownBy w4 (some g)):=Lib.hid q4
    have hsz4:=q5
    clear q1 q2 q3 q4 q5
    have k2:=R4.out.cells.2.2; have f2:=R4.out.frozen 2; have l2:=R4.out.lt
    go_upto_if 81 with (fail)
    go_cut [] (fun wx=>∃ bad2:Bool,Rdr wx g s ii bad2∧TokB wx (w.heap.size+1) 0 W'∧Blk wx w.heap.size 302 (tokCs 0 zero4)∧w.grownBy wx (some g)∧w.heap.size+2≤wx.heap.size∧SetFin s i0 ii bad2 W')
    case first =>
     have FI:=Lib.hid (SE.out.fin_)
     cases hq:(decide (n=0) || !peekB s ii 93) with
     | true =>
      have FI2:=Lib.hid (FI.out.1 hq)
      clear FI hq
      go_wp2_with fail
      go_meet
      case rel=>exact ⟨true,(R4.out.set_ 2 (.bool true)).to rfl,T4.out.far (by simp; omega) _,Z4.out.far (p:=⟨g,2,none⟩) (by simp; omega) _,grown_cell G4.out,by simp; omega,.inl ⟨rfl,FI2.out⟩⟩
     | false =>
      have FI2:=Lib.hid (FI.out.2 hq)
      clear FI hq
      go_wp2_with fail
      go_meet
      case rel=>exact ⟨bad,R4.out,T4.out,Z4.out,G4.out,hsz4,FI2.out⟩
    case rest =>
     obtain ⟨bad2,q1,q2,q3,q4,q5,hfin⟩:=hcut
     clear R4 T4 Z4 G4 hsz4 k2 f2 l2
     generalize wc=w5 at *
     have R5:Hid (Rdr w5 g s ii bad2):=Lib.hid q1
     have T5:Hid (TokB w5 (w.heap.size+1) 0 W'):=Lib.hid q2
     have Z5:=Lib.hid q3; have G5:Hid (w.grownBy w5 (some g)):=Lib.hid q4
     have hsz5:=q5
     have FIN:=Lib.hid hfin
     clear q1 q2 q3 q4 q5 hfin SE
     have k1:=R5.out.cells.2.1; have f1:=R5.out.frozen 1; have l1:=R5.out.lt
     go_upto_if 92 with (fail)
     have R6:Hid (Rdr (w5.setCell ⟨g,1,none⟩ (.int .i64 ((ii:Int)+1))) g s (ii+1) bad2):=Lib.hid ((R5.out.set_ 1 (.int .i64 ((ii:Int)+1))).to rfl)
     have T6:Hid (TokB (w5.setCell ⟨g,1,none⟩ (.int .i64 ((ii:Int)+1))) (w.heap.size+1) 0 W'):=Lib.hid (T5.out.far (by simp; omega) _)
     have Z6:=Lib.hid (Z5.out.far (p:=⟨g,1,none⟩) (by simp; omega) (.int .i64 ((ii:Int)+1)))
     have G6:Hid (w.grownBy (w5.setCell ⟨g,1,none⟩ (.int .i64 ((ii:Int)+1))) (some g)):=Lib.hid (grown_cell G5.out)
     have hsz6:w.heap.size+2≤(w5.setCell ⟨g,1,none⟩ (.int .i64 ((ii:Int)+1))).heap.size:=by simp; omega
     clear k1 f1 l1 R5 T5 Z5 G5 hsz5
     generalize w5.setCell ⟨g,1,none⟩ (.int .i64 ((ii:Int)+1))=w6 at R6 T6 Z6 G6 hsz6 ⊢
     go_cut [] (fun wx=>∃ W2,Rdr wx g s (ii+1) bad2∧TokB wx (w.heap.size+1) 0 W2∧Blk wx w.heap.size 302 (tokCs 0 zero4)∧w.grownBy wx (some g)∧w.heap.size+2≤wx.heap.size∧Small4 W2∧∀ b,hasN W2 b=(hasN W' b != nb))
     case first =>
      cases nb with
      | false =>
       go_wp2_with fail
       go_meet
       case rel=>exact ⟨W',R6.out,T6.out,Z6.out,G6.out,hsz6,S4.out,fun b=>by simp⟩
      | true =>
       go_wp2_with fail
       go_loopw [93] (fun it wr=>∃ q:Nat,it=.int .i64 q∧q≤4∧Rdr wr g s (ii+1) bad2∧TokB wr (w.heap.size+1) 0 (flipW W' q)∧Blk wr w.heap.size 302 (tokCs 0 zero4)∧w.grownBy wr (some g)∧w.heap.size+2≤wr.heap.size) (fun it _=>4 - (intOf it).toNat)
       case atStart=>exact ⟨0,rfl,by omega,R6.out,T6.out,Z6.out,G6.out,hsz6⟩
       case round =>
        obtain ⟨q,rfl,hq,q1,q2,q3,q4,q5⟩:=hrel
        have R:Hid (Rdr wr g s (ii+1) bad2):=Lib.hid q1
        have T:Hid (TokB wr (w.heap.size+1) 0 (flipW W' q)):=Lib.hid q2
        have Z:=Lib.hid q3; have G:=Lib.hid q4
        have hszr:=q5
        clear q1 q2 q3 q4 q5 R6 T6 Z6 G6 hsz6
        have hq4:q=0∨q=1∨q=2∨q=3∨q=4:=by omega
        rcases hq4 with rfl | rfl | rfl | rfl | rfl
        ·have c:=T.out.cell 1
         simp only [List.getElem?_toArray,List.getElem?_cons_succ,List.getElem?_cons_zero] at c
         have f:=T.out.frozen 1; have l:=T.out.lt
         go_wp2_with fail
         go_roundw
         case rel=>exact ⟨1,by go_num,by omega,R.out.far (by simp; omega) _,tok_flip (q:=0) T.out S4.out (by omega),Z.out.far (p:=⟨w.heap.size+1,1,none⟩) (by simp) _,grown_step G.out (grown_one _ _ _) (by show w.heap.size≤w.heap.size+1; omega),by simp; omega⟩
         case measure=>simp [intOf]
        ·have c:=T.out.cell 2
         simp only [List.getElem?_toArray,List.getElem?_cons_succ,List.getElem?_cons_zero] at c
         have f:=T.out.frozen 2; have l:=T.out.lt
         go_wp2_with fail
         go_roundw
         case rel=>exact ⟨2,by go_num,by omega,R.out.far (by simp; omega) _,tok_flip (q:=1) T.out S4.out (by omega),Z.out.far (p:=⟨w.heap.size+1,2,none⟩) (by simp) _,grown_step G.out (grown_one _ _ _) (by show w.heap.size≤w.heap.size+1; omega),by simp; omega⟩
         case measure=>simp [intOf]
        ·have c:=T.out.cell 3
         simp only [List.getElem?_toArray,List.getElem?_cons_succ,List.getElem?_cons_zero] at c
         have f:=T.out.frozen 3; have l:=T.out.lt
         go_wp2_with fail
         go_roundw
         case rel=>exact ⟨3,by go_num,by omega,R.out.far (by simp; omega) _,tok_flip (q:=2) T.out S4.out (by omega),Z.out.far (p:=⟨w.heap.size+1,3,none⟩) (by simp) _,grown_step G.out (grown_one _ _ _) (by show w.heap.size≤w.heap.size+1; omega),by simp; omega⟩
         case measure=>simp [intOf]
        ·have c:=T.out.cell 4
         simp only [List.getElem?_toArray,List.getElem?_cons_succ,List.getElem?_cons_zero] at c
         have f:=T.out.frozen 4; have l:=T.out.lt
         go_wp2_with fail
         go_roundw
         case rel=>exact ⟨4,by go_num,by omega,R.out.far (by simp; omega) _,tok_flip (q:=3) T.out S4.out (by omega),Z.out.far (p:=⟨w.heap.size+1,4,none⟩) (by simp) _,grown_step G.out (grown_one _ _ _) (by show w.heap.size≤w.heap.size+1; omega),by simp; omega⟩
         case measure=>simp [intOf]
        ·go_wp2_with fail
         go_meet
         case rel=>exact ⟨flipW W' 4,R.out,T.out,Z.out,G.out,hszr,small_flip S4.out _,fun b=>has_flip S4.out b⟩
     case rest =>
      obtain ⟨W2,q1,q2,q3,q4,q5,hs2,hb2⟩:=hcut
      clear R6 T6 Z6 G6 hsz6
      generalize wc=w7 at *
      have R7:Hid (Rdr w7 g s (ii+1) bad2):=Lib.hid q1
      have T7:Hid (TokB w7 (w.heap.size+1) 0 W2):=Lib.hid q2
      have Z7:=Lib.hid q3; have G7:Hid (w.grownBy w7 (some g)):=Lib.hid q4
      have hsz7:=q5
      have S7:=Lib.hid hs2; have B7:=Lib.hid hb2
      clear q1 q2 q3 q4 q5 hs2 hb2
      have c:=T7.out.cell 1
      simp only [List.getElem?_toArray,List.getElem?_cons_succ,List.getElem?_cons_zero] at c
      have f:=T7.out.frozen 1; have l:=T7.out.lt
      go_upto_region 25 with (fail)
      have R8:Hid (Rdr (w7.setCell ⟨w.heap.size+1,1,none⟩ (.int .u64 (bits .andNot .u64 (W2 0) 140737488355328))) g s (ii+1) bad2):=Lib.hid (R7.out.far (by simp; omega) _)
      have T8:Hid (TokB (w7.setCell ⟨w.heap.size+1,1,none⟩ (.int .u64 (bits .andNot .u64 (W2 0) 140737488355328))) (w.heap.size+1) 0 (cut47 W2)):=Lib.hid (tok_cut T7.out S7.out)
      have Z8:=Lib.hid (Z7.out.far (p:=⟨w.heap.size+1,1,none⟩) (by simp) (.int .u64 (bits .andNot .u64 (W2 0) 140737488355328)))
      have G8:Hid (w.grownBy (w7.setCell ⟨w.heap.size+1,1,none⟩ (.int .u64 (bits .andNot .u64 (W2 0) 140737488355328))) (some g)):=Lib.hid (grown_step G7.out (grown_one _ _ _) (by show w.heap.size≤w.heap.size+1; omega))
      clear c f l R7 T7 Z7 G7
      generalize w7.setCell ⟨w.heap.size+1,1,none⟩ (.int .u64 (bits .andNot .u64 (W2 0) 140737488355328))=w8 at R8 T8 Z8 G8 ⊢
      go_wp2_with (first
       | ((with_reducible refine at_load (ty:=302) (x:=.tmp 3) ?_ ?_); exact rfl; refine wpList_load_blk rfl 302 (.tmp 3) rfl _ rfl T8.out whole_tok ?_)
       | ((with_reducible refine at_store (ty:=302) (x:=.tmp 2) (y:=.tmp 111) ?_ ?_); exact rfl; refine wpList_store_blk rfl 302 (.tmp 2) (.tmp 111) rfl _ rfl Z8.out rfl (by kernel_rfl) rfl rfl ?_; intro w9 b9 g9))
      refine ret_blk rfl rfl b9 whole_tok rfl ⟨grown_step G8.out g9 (Nat.le_refl _),cut47 W2,rfl,small_cut S7.out,?_⟩
      have R9:Rdr w9 g s (ii+1) bad2:=R8.out.grown g9 (by intro e; injection e; omega)
      rcases FIN.out with ⟨rfl,hf⟩ | ⟨rfl,f,hf,hbf⟩
      ·rw [HC.out,hf]
       exact ⟨ii+1,by omega,R9⟩
      ·rw [HC.out,hf]
       refine ⟨fun b=>?_,R9⟩
       rw [has_cut,B7.out b,hbf b]
end Go.Proofs.YtfhfcipelgogjaaGreatDoor
