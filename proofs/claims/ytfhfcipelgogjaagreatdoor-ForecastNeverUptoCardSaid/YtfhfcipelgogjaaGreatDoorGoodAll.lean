/- strings.ContainsAny at a stroke and a nought byte, at every text. No condition but room. route.Good at every text. No condition but room. -/
import Derived.Test.YtfhfcipelgogjaaGreatDoorRouteAll
set_option linter.unusedVariables false
set_option linter.unusedSimpArgs false
set_option maxHeartbeats 2000000
set_option maxRecDepth 100000
namespace Go.Proofs.YtfhfcipelgogjaaGreatDoor
open Go.RowKit
attribute [local go_sem] cell?_over frozen?_over lt_over le_over
theorem get_eq (s:ByteArray) (i:Nat) (h:i<s.size):s.get! i=s[i]'h:=by
 simp [ByteArray.get!,getElem!_pos,h]
 rfl
theorem decode_tail (s:ByteArray) (i:Nat):∀ j,i<j→j<i+(Utf8.decode s i).2→128≤(s.get! j).toNat:=by
 intro j h1 h2
 simp only [Utf8.decode] at h2
 have key:∀ k,(decide (i+k<s.size) && (s.get! (i+k)).toNat / 64 == 2)=true→128≤(s.get! (i+k)).toNat:=fun k h=>by
  simp at h
  omega
 have hj:j=i+1∨j=i+2∨j=i+3:=by
  repeat' split at h2
  all_goals (simp at h2; omega)
 rcases hj with rfl | rfl | rfl
 all_goals (
  repeat' split at h2
  all_goals first | (exfalso; simp at h2; done) | (exfalso; simp at h2; omega) | (apply key; simp_all; done) | (apply key; simp_all; omega))
theorem decode_four (s:ByteArray) (i:Nat):(Utf8.decode s i).2≤4:=by
 simp only [Utf8.decode]
 repeat' split
 all_goals simp
def Hit (s:ByteArray):Prop:=(47:UInt8)∈s.data.toList∨(0:UInt8)∈s.data.toList
theorem any_yes (s:ByteArray) (i:Nat) (h:i<s.size) (hx:s.get! i=47∨s.get! i=0):Hit s:=by
 have hm:s[i]∈s.data.toList:=by
  have:=Lib.data_getElem? s i h
  exact List.mem_of_getElem? this
 rw [get_eq s i h] at hx
 rcases hx with hx | hx
 ·exact .inl (hx ▸ hm)
 ·exact .inr (hx ▸ hm)
theorem any_no (s:ByteArray) (h:∀ j,j<s.size→s.get! j≠47∧s.get! j≠0):¬ Hit s:=by
 have key:∀ b∈s.data.toList,b≠47∧b≠0:=by
  intro b hb
  obtain ⟨j,hj,rfl⟩:=List.getElem_of_mem hb
  have hjs:j<s.size:=by rw [Array.length_toList] at hj; exact hj
  have:=h j hjs
  rw [get_eq s j hjs] at this
  exact this
 rintro (h1 | h1)
 ·exact (key _ h1).1 rfl
 ·exact (key _ h1).2 rfl
theorem any_iff (l:List UInt8):(0≤Lib.indexAny l [47,0]→(47:UInt8)∈l∨(0:UInt8)∈l)∧((47:UInt8)∈l∨(0:UInt8)∈l→0≤Lib.indexAny l [47,0]):=by
 induction l with
 | nil=>exact ⟨fun h=>absurd h (by decide),fun h=>by simp at h⟩
 | cons b l ih =>
  unfold Lib.indexAny
  by_cases hb:([47,0]:List UInt8).contains b=true
  ·rw [if_pos hb]
   have:b=47∨b=0:=by simpa using hb
   exact ⟨fun _=>by rcases this with rfl | rfl <;> simp,fun _=>Int.le_refl _⟩
  ·rw [if_neg hb]
   have hn:b≠47∧b≠0:=by simpa using hb
   have hge:=Lib.indexAny_ge [47,0] l
   by_cases h1:Lib.indexAny l [47,0]=-1
   ·have h2:(Lib.indexAny l [47,0] == -1)=true:=by rw [h1]; rfl
    rw [h2,if_pos rfl]
    refine ⟨fun h=>absurd h (by decide),fun h=>?_⟩
    have:=ih.2 (by simpa [hn.1.symm,hn.2.symm] using h)
    omega
   ·have h2:(Lib.indexAny l [47,0] == -1)=false:=by simpa using h1
    rw [h2]
    refine ⟨fun _=>?_,fun _=>?_⟩
    ·rcases ih.1 (by omega) with h | h
     ·exact .inl (List.mem_cons_of_mem _ h)
     ·exact .inr (List.mem_cons_of_mem _ h)
    ·show 0≤Lib.indexAny l [47,0]+1
     omega
def IxEnd (s:ByteArray) (w:World) (e:Ending) (w':World):Prop:=∃ k:Int,e=.returned (.int .i64 k)∧((0≤k→Hit s)∧(Hit s→0≤k))∧Below w.heap.size w w'
theorem indexAnyAll (s:ByteArray) (w:World) (hs:s.size<4294967281) :
  Calls Tryz.prog 213 #[.string s,.string ⟨#[47,0]⟩] w (IxEnd s w):=by
 by_cases h8:8<s.size
 ·refine (Any.strings_IndexAny_long Tryz.lays153 (fun w=>by kernel_rfl) (by kernel_rfl) s ⟨#[47,0]⟩ w (by decide) h8 hs (by decide) ?_).mono ?_
  ·intro j b hb
   have hm:=List.mem_of_getElem? hb
   simp at hm
   rcases hm with rfl | rfl <;> decide
  ·rintro e w' ⟨rfl,rfl⟩
   refine ⟨_,by rw [show (⟨#[47,0]⟩:ByteArray).data.toList=[47,0] from rfl],?_,((Below.refl _ w).alloc (Nat.le_refl _) _).alloc (by simp) _⟩
   exact any_iff s.data.toList
 ·have h8z:decide ((8:Int)<(s.size:Int))=false:=decide_eq_false (by omega)
  have H8:=Lib.hid h8
  clear h8
  go_enter Tryz.func213,Tryz.ntmps213
  go_wp2_with fail
  refine (Any.strings_shouldUseASCIISet (ρ:=Tryz.lays153_ren) { Tryz.lays153 with } _ _).mono ?_
  rintro e w' ⟨rfl,hw⟩
  rw [hw,h8z]
  clear hw
  go_wp2_with fail
  go_loopw [9,10] (fun _ _ wx=>∃ i:Nat,i≤9223372036854775807∧(∀ j,j<i→j<s.size→s.get! j≠47∧s.get! j≠0)∧Below w.heap.size w wx∧wx.heap[w.heap.size]?=some (.stringIter s i)) (fun _ _ wx=>s.size - wx.iterPos w.heap.size)
  case atStart=>exact ⟨0,by omega,fun j hj=>absurd hj (Nat.not_lt_zero _),below_iter _ _ _,World.iter_heap w s 0⟩
  case round =>
   obtain ⟨i,hi9,hno,hb,hit⟩:=hrel
   have NO:=Lib.hid hno
   clear hno
   have HB:=Lib.hid hb; have HIT:=Lib.hid hit
   by_cases hlt:i<s.size
   ·have hnx:=fun ty=>Lib.run_next_any_at (P:=Tryz.prog) wr w.heap.size s i ty hit hlt
    by_cases hx:s.get! i=47∨s.get! i=0
    ·have hgi:=get_eq s i hlt
     have ha:(s[i]'hlt).toNat<128:=by rw [← hgi]; rcases hx with h | h <;> rw [h] <;> decide
     rw [decode_ascii s i hlt ha] at hnx
     obtain ⟨r,hr⟩:∃ r,r=(s[i]'hlt).toNat:=⟨_,rfl⟩
     simp only [← hr] at hnx
     have hr2:r=47∨r=0:=by rw [hr,← hgi]; rcases hx with h | h <;> rw [h]; exact .inl rfl; exact .inr rfl
     have HRN:Hid (∀ W,Calls Tryz.prog 215 #[.string ⟨#[47,0]⟩,.int .i32 (r:Int)] W fun e w'=>∃ k:Nat,k≤1∧e=.returned (.int .i64 k)∧Below W.heap.size W w'):=Lib.hid fun W=>by
      refine (Any.strings_IndexRune_ascii (ρ:=Tryz.lays153_ren) { Tryz.lays153 with } ⟨#[47,0]⟩ r W (by omega) (by omega)).mono ?_
      rintro e w' ⟨rfl,hw⟩
      rcases hr2 with rfl | rfl
      ·exact ⟨0,by omega,rfl,hw ▸ Below.refl _ _⟩
      ·exact ⟨1,by omega,rfl,hw ▸ Below.refl _ _⟩
     have HB2:=Lib.hid (Lib.below_iterAt HB.out (Nat.le_refl _) s (i+1))
     have HYES:=Lib.hid (any_yes s i hlt hx)
     clear hb hit hr ha hgi hx hr2
     go_wp2_with fail
     refine (HRN.out _).mono ?_
     rintro e w2 ⟨k,hk,rfl,hb2⟩
     have HB3:=Lib.hid (below_old HB2.out hb2)
     have hk0:decide ((k:Int)≥0)=true:=by simp
     clear hb2 hk
     go_wp2_with fail
     go_ret
     exact ⟨_,rfl,⟨fun _=>HYES.out,fun _=>by omega⟩,HB3.out⟩
    have hx1:s.get! i≠47∧s.get! i≠0:=⟨fun h=>hx (.inl h),fun h=>hx (.inr h)⟩
    have htl:=decode_tail s i
    have hstep:1≤(Utf8.decode s i).2∧((Utf8.decode s i).1:Int)≤2147483647∧(Utf8.decode s i).1≠47∧(Utf8.decode s i).1≠0:=by
     obtain ⟨n1,n2⟩:=hx1
     rw [get_eq s i hlt] at n1 n2
     refine ⟨?_,by have:=decode_le s i; omega,?_⟩
     ·by_cases ha:(s[i]'hlt).toNat<128
      ·rw [decode_ascii s i hlt ha]; exact Nat.le_refl _
      ·exact (decode_high s i hlt (by omega)).2
     ·by_cases ha:(s[i]'hlt).toNat<128
      ·rw [decode_ascii s i hlt ha]
       exact ⟨fun e=>n1 (UInt8.toNat_inj.1 e),fun e=>n2 (UInt8.toNat_inj.1 e)⟩
      ·have:=(decode_high s i hlt (by omega)).1
       omega
    have hn4:=decode_four s i
    obtain ⟨n,hn⟩:∃ n,n=(Utf8.decode s i).2:=⟨_,rfl⟩
    obtain ⟨r,hr⟩:∃ n,n=(Utf8.decode s i).1:=⟨_,rfl⟩
    simp only [← hn,← hr] at hnx hstep htl hn4
    have HNO:Hid (∀ j,j<i+n→j<s.size→s.get! j≠47∧s.get! j≠0):=Lib.hid fun j hj hjs=>by
     rcases Nat.lt_trichotomy j i with h | h | h
     ·exact NO.out j h hjs
     ·rw [h]; exact hx1
     ·have:=htl j h hj
      exact ⟨fun e=>by rw [e] at this; exact absurd this (by decide),fun e=>by rw [e] at this; exact absurd this (by decide)⟩
    obtain ⟨h1,h2,h3,h4⟩:=hstep
    have HB2:=Lib.hid (Lib.below_iterAt HB.out (Nat.le_refl _) s (i+n))
    have HI2:=Lib.hid (Lib.iterAt_heap wr w.heap.size s i (i+n) HIT.out)
    have HRN:Hid (∀ W,Calls Tryz.prog 215 #[.string ⟨#[47,0]⟩,.int .i32 (r:Int)] W fun e w'=>e=.returned (.int .i64 (-1))∧Below W.heap.size W w'):=Lib.hid fun W=>by
     by_cases h128:r<128
     ·refine (Any.strings_IndexRune_ascii (ρ:=Tryz.lays153_ren) { Tryz.lays153 with } ⟨#[47,0]⟩ r W (by omega) (by omega)).mono ?_
      rintro e w' ⟨rfl,hw⟩
      refine ⟨?_,hw ▸ Below.refl _ _⟩
      have e1:((r:Int)).toNat.toUInt8=UInt8.ofNat r:=rfl
      have e2:(47 == UInt8.ofNat r)=false:=by
       rw [beq_eq_false_iff_ne]
       intro e
       have:=congrArg UInt8.toNat e
       simp at this
       omega
      have e3:(0 == UInt8.ofNat r)=false:=by
       rw [beq_eq_false_iff_ne]
       intro e
       have:=congrArg UInt8.toNat e
       simp at this
       omega
      rw [e1,show (⟨#[47,0]⟩:ByteArray).data.toList=[47,0] from rfl]
      simp [Lib.indexByte,e2,e3]
     ·exact runeHigh r W (by omega) (by omega)
    clear hb hit hn hr hx hx1 htl
    go_wp2_with fail
    refine (HRN.out _).mono ?_
    rintro e w2 ⟨rfl,hb2⟩
    have hsz:=HB2.out.size
    have HB3:=Lib.hid (below_old HB2.out hb2)
    have HI3:Hid (w2.heap[w.heap.size]?=some (.stringIter s (i+n))):=Lib.hid (by rw [hb2.block _ (by have:=(Array.getElem?_eq_some_iff.1 HI2.out).1; exact this)]; exact HI2.out)
    clear hb2
    go_wp2_with fail
    go_roundw
    case rel=>exact ⟨i+n,by omega,HNO.out,HB3.out,HI3.out⟩
    case measure =>
     have q1:wr.iterPos w.heap.size=i:=by unfold World.iterPos; rw [HIT.out]
     have q2:w2.iterPos w.heap.size=i+n:=by unfold World.iterPos; rw [HI3.out]
     rw [q1,q2]; omega
   ·have hnx:=fun ty=>Lib.run_next_end_at (P:=Tryz.prog) wr w.heap.size s i ty hit hlt
    clear hb hit
    go_wp2_with fail
    go_ret
    exact ⟨_,rfl,⟨fun h=>by omega,fun h=>absurd h (any_no s fun j hj=>NO.out j (by omega) hj)⟩,HB.out⟩
theorem anyAll (s:ByteArray) (w:World) (hs:s.size<4294967281) :
  Calls Tryz.prog 182 #[.string s,.string ⟨#[47,0]⟩] w fun e w'=>∃ r,e=.returned (.bool r)∧(r=true↔Hit s)∧Below w.heap.size w w':=by
 have H:=Lib.hid (fun w=>indexAnyAll s w hs)
 clear hs
 go_enter Tryz.func182,Tryz.ntmps182
 go_wp2_with fail
 refine (H.out _).mono ?_
 rintro e w' ⟨k,rfl,hk,hb⟩
 have HB:=Lib.hid hb; have HK:=Lib.hid hk
 clear hb hk
 by_cases h0:0≤k
 ·have t0:decide (k≥0)=true:=by simpa using h0
  have HY:=Lib.hid (HK.out.1 h0)
  clear h0
  go_wp2_with fail
  go_ret
  exact ⟨true,rfl,⟨fun _=>HY.out,fun _=>rfl⟩,HB.out⟩
 ·have t0:decide (k≥0)=false:=by simpa using h0
  have HY:=Lib.hid (fun h=>h0 (HK.out.2 h))
  clear h0
  go_wp2_with fail
  go_ret
  exact ⟨false,rfl,⟨(fun h=>by cases h),fun h=>absurd h HY.out⟩,HB.out⟩
end Go.Proofs.YtfhfcipelgogjaaGreatDoor
namespace Go.Proofs.YtfhfcipelgogjaaGreatDoor
open Go.RowKit
attribute [local go_sem] cell?_over frozen?_over lt_over le_over
instance (s:ByteArray):Decidable (Hit s):=by unfold Hit; exact inferInstance
def GoodP (s:ByteArray):Prop:=s.data.toList≠[]∧s.data.toList≠[46]∧s.data.toList≠[46,46]∧s.size≤255∧¬ Hit s
instance (s:ByteArray):Decidable (GoodP s):=by unfold GoodP; exact inferInstance
theorem bytes_extG {s:ByteArray} {l:List UInt8} (h:s.data.toList=l):s=⟨l.toArray⟩:=by
 cases s
 simp at h
 subst h
 simp
theorem empty_litG {s:ByteArray} (h:s.data.toList≠[]):s.toList.isEmpty=false:=by
 rw [Lib.toList_data]
 cases hl:s.data.toList with
 | nil=>exact absurd hl h
 | cons _ _=>rfl
theorem list_litG {s:ByteArray} {l:List UInt8} (h:s.data.toList≠l):(s.toList == l)=false:=by
 rw [Lib.toList_data]
 exact beq_eq_false_iff_ne.2 h
theorem routeGood (s:ByteArray) (w:World) (hs:s.size<4294967281) :
  Calls Tryz.prog 136 #[.string s] w fun e w'=>e=.returned (.bool (decide (GoodP s)))∧Below w.heap.size w w':=by
 obtain ⟨E,hE⟩:∃ E,E=decide (GoodP s):=⟨_,rfl⟩
 rw [← hE]
 by_cases h0:s.data.toList=[]
 ·have e0:E=false:=by rw [hE]; exact decide_eq_false fun h=>h.1 h0
  subst e0
  have:=bytes_extG h0
  subst this
  clear hE h0
  go_enter Tryz.func136,Tryz.ntmps136
  go_wp2_with fail
  go_ret
  exact ⟨rfl,Below.refl _ _⟩
 by_cases h1:s.data.toList=[46]
 ·have e0:E=false:=by rw [hE]; exact decide_eq_false fun h=>h.2.1 h1
  subst e0
  have:=bytes_extG h1
  subst this
  clear hE h0 h1
  go_enter Tryz.func136,Tryz.ntmps136
  go_wp2_with fail
  go_ret
  exact ⟨rfl,Below.refl _ _⟩
 by_cases h2:s.data.toList=[46,46]
 ·have e0:E=false:=by rw [hE]; exact decide_eq_false fun h=>h.2.2.1 h2
  subst e0
  have:=bytes_extG h2
  subst this
  clear hE h0 h1 h2
  go_enter Tryz.func136,Tryz.ntmps136
  go_wp2_with fail
  go_ret
  exact ⟨rfl,Below.refl _ _⟩
 have t0:=empty_litG h0
 have t1:=list_litG h1
 have t2:=list_litG h2
 have HA:=Lib.hid (fun w=>anyAll s w hs)
 by_cases h:s.size≤255
 ·have c1:decide ((s.size:Int)≤255)=true:=by simp; omega
  have hE2:E=decide (¬ Hit s):=by rw [hE,decide_eq_decide]; exact ⟨fun g=>g.2.2.2.2,fun g=>⟨h0,h1,h2,h,g⟩⟩
  have HE:=Lib.hid hE2
  clear hE hE2 h h0 h1 h2
  go_enter Tryz.func136,Tryz.ntmps136
  go_wp2_with fail
  refine (HA.out _).mono ?_
  rintro e w' ⟨r,rfl,hr,hb⟩
  have HB:=Lib.hid hb
  have hE3:E=!r:=by
   rw [HE.out]
   cases r with
   | true=>exact decide_eq_false fun g=>g (hr.1 rfl)
   | false=>exact decide_eq_true fun g=>by have:=hr.2 g; cases this
  clear hb hr
  subst hE3
  cases r with
  | true =>
   go_wp2_with fail
   go_ret
   exact ⟨rfl,HB.out⟩
  | false =>
   go_wp2_with fail
   go_ret
   exact ⟨rfl,HB.out⟩
 ·have c1:decide ((s.size:Int)≤255)=false:=by simp; omega
  have e0:E=false:=by rw [hE]; exact decide_eq_false fun g=>h g.2.2.2.1
  subst e0
  clear hE h h0 h1 h2
  go_enter Tryz.func136,Tryz.ntmps136
  go_wp2_with fail
  go_ret
  exact ⟨rfl,Below.refl _ _⟩
end Go.Proofs.YtfhfcipelgogjaaGreatDoor
