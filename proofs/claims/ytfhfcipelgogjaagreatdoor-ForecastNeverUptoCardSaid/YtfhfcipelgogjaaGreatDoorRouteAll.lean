/- strings.ContainsAny at a stroke and a nought byte: no for a text that holds neither, whatever else it holds. No condition but room. What stands between blanks; lines of a text, plain. No condition. What a name says: its parts, plain. No condition. Names: the pieces of the way to a name's parts. No condition but room. strings.Split at a blank answers the words of a text; plain. No condition. The pieces of a name that say something: strings.Split, then slices.DeleteFunc. No condition but room and the variable MaxLen. route.Split: the parts of a name, or what is wrong with it. No condition but room and the variable MaxLen. -/
import Derived.Test.YtfhfcipelgogjaaGreatDoorBaseAt
import Derived.Test.YtfhfcipelgogjaaGreatDoorLayAny
import Derived.Test.YtfhfcipelgogjaaGreatDoorLayIx
import Derived.Laws.RangeAny
import Derived.Laws.Runes
import Derived.Lib.IndexAny
import Derived.WalkMore
import Derived.Lib.OthersKept
import Derived.Lib.IndexLaws
import Derived.Lib.IndexBytes
import Derived.Lib.Split
import Derived.Lib.SplitLaws
import Derived.Test.YtfhfcipelgogjaaGreatDoorLayDel
import Derived.Lib.OwnBridge
import Derived.Test.YtfhfcipelgogjaaGreatDoorLayTx
set_option linter.unusedVariables false
set_option linter.unusedSimpArgs false
set_option maxHeartbeats 4000000
set_option maxRecDepth 100000
namespace Go.Proofs.YtfhfcipelgogjaaGreatDoor
open Go.RowKit
attribute [local go_sem] cell?_over frozen?_over lt_over le_over
theorem below_iter (w:World) (s:ByteArray) (i:Nat):Below w.heap.size w (w.iter s i):=
 (Below.refl _ w).alloc (Nat.le_refl _) _
theorem valid_eq (r:Int):Lib.validRune r=Utf8.valid r:=by
 unfold Lib.validRune Utf8.valid
 rw [Bool.eq_iff_iff]
 simp
 omega
theorem runeHigh (r:Int) (w:World) (h0:128≤r) (h1:r≤2147483647) :
  Calls Tryz.prog 215 #[.string ⟨#[47,0]⟩,.int .i32 r] w fun e w'=>e=.returned (.int .i64 (-1))∧Below w.heap.size w w':=by
 have c0:decide ((0:Int)≤r)=true:=by simp; omega
 have c1:decide (r<(128:Int))=false:=by simp; omega
 by_cases he:r=65533
 ·subst he
  go_enter Tryz.func215,Tryz.ntmps215
  go_wp2_with fail
  go_loopw [5,6] (fun _ _ wr=>∃ i:Nat,i≤2∧wr=w.iter ⟨#[47,0]⟩ i) (fun _ _ wr=>2 - wr.iterPos w.heap.size)
  case atStart=>exact ⟨0,by omega,rfl⟩
  case round =>
   obtain ⟨i,hi,rfl⟩:=hrel
   obtain rfl | rfl | rfl:i=0∨i=1∨i=2:=by omega
   ·have hnx:=fun ty=>run_next_ascii (P:=Tryz.prog) w ⟨#[47,0]⟩ 0 ty (by decide) (by decide)
    go_wp2_with fail
    go_roundw
    case rel=>exact ⟨1,by omega,rfl⟩
    case measure=>simp
   ·have hnx:=fun ty=>run_next_ascii (P:=Tryz.prog) w ⟨#[47,0]⟩ 1 ty (by decide) (by decide)
    go_wp2_with fail
    go_roundw
    case rel=>exact ⟨2,by omega,rfl⟩
    case measure=>simp
   ·have hnx:=fun ty=>run_next_end (P:=Tryz.prog) w ⟨#[47,0]⟩ 2 ty (by decide)
    go_wp2_with fail
    go_ret
    exact ⟨rfl,below_iter _ _ _⟩
 ·have c2:(r == 65533)=false:=by simpa using he
  obtain ⟨V,hV⟩:∃ v,v=Utf8.valid r:=⟨_,rfl⟩
  have HVR:=Lib.hid (fun w=>Any.utf8_ValidRune Tryz.lays119 r w)
  rw [valid_eq,← hV] at HVR
  have HF:=Lib.hid (fun hv=>encode_facts r hv h0)
  have HV:=Lib.hid hV
  clear hV
  go_enter Tryz.func215,Tryz.ntmps215
  go_wp2_with fail
  refine (HVR.out _).mono ?_
  rintro e w' ⟨rfl,rfl⟩
  cases V with
  | false =>
   go_wp2_with fail
   go_ret
   exact ⟨rfl,Below.refl _ _⟩
  | true =>
   obtain ⟨e1,e2,e3⟩:=HF.out HV.out.symm
   obtain ⟨rs,hrs⟩:∃ s,s=Utf8.encode r:=⟨_,rfl⟩
   rw [← hrs] at e1 e2 e3
   have hcv:∀ w,(convert 21 9 (.int .i32 r)).run Tryz.prog w=.ok (.string rs) w:=fun w=>by
    rw [hrs]
    exact run_convert_int_string w _ _ .i32 r (by kernel_rfl) (by kernel_rfl)
   clear hrs
   obtain h2 | h2 | h2:rs.size=2∨rs.size=3∨rs.size=4:=by omega
   ·have h1s:1<rs.size:=by omega
    have e3':128≤(rs[1]'h1s).toNat:=by
     have:=e3 (by omega)
     simpa [h2] using this
    have hne:(((({ data:=#[47,0] }:ByteArray)[1]).toNat:Int) != ((rs[1]'h1s).toNat:Int))=true:=by
     have:(({ data:=#[47,0] }:ByteArray)[1]).toNat=0:=rfl
     rw [this,bne_iff_ne]; omega
    have hIB:∀ W,Calls Tryz.prog 150 #[.string ByteArray.empty,.int .u8 ((rs[1]'h1s).toNat:Int)] W fun e w'=>e=.returned (.int .i64 (-1))∧W=w':=fun W=>(Any.strings_IndexByte Tryz.lays137 _ _ W).mono fun e w' h=>⟨h.1,h.2.symm⟩
    clear e1 e2 e3 e3'
    go_wp2_with fail
    go_step3
    go_wp2_with fail
    go_loopw [9,10,11,12] (fun a _ _ _ wr=>a=.int .i64 1∧wr=w') (fun _ _ _ _ _=>0)
    case atStart=>exact ⟨rfl,rfl⟩
    case round =>
     obtain ⟨rfl,rfl⟩:=hrel
     go_wp2_with fail
     go_step3
     go_wp2_with fail
     refine wp_region_over (by kernel_rfl) (by kernel_rfl) ?_
     repeat (go_big_quiet_step (fail))
     refine wpQuiet_nil ?_
     rintro _ ⟨δ,rfl⟩
     go_wp2_with fail
     refine wp_region_over (by kernel_rfl) (by kernel_rfl) ?_
     repeat (go_big_quiet_step (first | (go_at_call 150; exact calls_over_same (hIB _))))
     refine wpQuiet_nil ?_
     rintro _ ⟨δ2,rfl⟩
     go_wp2_with fail
     (simp only [Exit.noGoto_ret,Exit.inBlock,Exit.then])
     show Exit.noGoto _ Exit.ret _ _
     (simp only [Exit.noGoto_ret,Exit.inBlock,Exit.then])
     go_ret
     exact ⟨rfl,below_trans_over (below_over wr δ) (below_over wr δ).size δ2⟩
   all_goals (
    clear e1 e2 e3
    go_wp2_with fail
    go_step3
    go_wp2_with fail
    go_loopw [9,10,11,12] (fun a _ _ _ wr=>a=.int .i64 ((rs.size:Int) - 1)∧wr=w') (fun _ _ _ _ _=>0)
    case atStart=>exact ⟨by simp [h2],rfl⟩
    case round =>
     obtain ⟨rfl,rfl⟩:=hrel
     go_wp2_with fail
     rw [Exit.noGoto_ret]
     go_ret
     exact ⟨rfl,Below.refl _ _⟩)
theorem indexAnyNone (s:ByteArray) (w:World) (hs:s.size<4294967281) (hn:(47:UInt8)∉s.data.toList∧(0:UInt8)∉s.data.toList) :
  Calls Tryz.prog 213 #[.string s,.string ⟨#[47,0]⟩] w fun e w'=>e=.returned (.int .i64 (-1))∧Below w.heap.size w w':=by
 have hN:Lib.indexAny s.data.toList [47,0]=-1:=Lib.indexAny_none fun j b hj hb=>by
  have hm:=List.mem_of_getElem? hb
  have h1:b≠47:=fun h=>hn.1 (h ▸ hm)
  have h2:b≠0:=fun h=>hn.2 (h ▸ hm)
  simp [h1,h2]
 by_cases h8:8<s.size
 ·refine (Any.strings_IndexAny_long Tryz.lays153 (fun w=>by kernel_rfl) (by kernel_rfl) s ⟨#[47,0]⟩ w (by decide) h8 hs (by decide) ?_).mono ?_
  ·intro j b hb
   have hm:=List.mem_of_getElem? hb
   simp at hm
   rcases hm with rfl | rfl <;> decide
  ·rintro e w' ⟨rfl,rfl⟩
   exact ⟨by rw [show (⟨#[47,0]⟩:ByteArray).data.toList=[47,0] from rfl,hN],((Below.refl _ w).alloc (Nat.le_refl _) _).alloc (by simp) _⟩
 ·have h8z:decide ((8:Int)<(s.size:Int))=false:=decide_eq_false (by omega)
  have HA:Hid (∀ i (hi:i<s.size),s[i]≠47∧s[i]≠0):=Lib.hid fun i hi=>by
   have hm:s[i]∈s.data.toList:=by
    have:=Lib.data_getElem? s i hi
    exact List.mem_of_getElem? this
   exact ⟨fun e=>hn.1 (e ▸ hm),fun e=>hn.2 (e ▸ hm)⟩
  have H8:=Lib.hid h8
  clear hN hn h8
  go_enter Tryz.func213,Tryz.ntmps213
  go_wp2_with fail
  refine (Any.strings_shouldUseASCIISet (ρ:=Tryz.lays153_ren) { Tryz.lays153 with } _ _).mono ?_
  rintro e w' ⟨rfl,hw⟩
  rw [hw,h8z]
  clear hw
  go_wp2_with fail
  go_loopw [9,10] (fun _ _ wx=>∃ i:Nat,Below w.heap.size w wx∧wx.heap[w.heap.size]?=some (.stringIter s i)) (fun _ _ wx=>s.size - wx.iterPos w.heap.size)
  case atStart=>exact ⟨0,below_iter _ _ _,World.iter_heap w s 0⟩
  case round =>
   obtain ⟨i,hb,hit⟩:=hrel
   have HB:=Lib.hid hb; have HIT:=Lib.hid hit
   by_cases hlt:i<s.size
   ·have hnx:=fun ty=>Lib.run_next_any_at (P:=Tryz.prog) wr w.heap.size s i ty hit hlt
    have hstep:1≤(Utf8.decode s i).2∧((Utf8.decode s i).1:Int)≤2147483647∧(Utf8.decode s i).1≠47∧(Utf8.decode s i).1≠0:=by
     obtain ⟨n1,n2⟩:=HA.out i hlt
     refine ⟨?_,by have:=decode_le s i; omega,?_⟩
     ·by_cases ha:(s[i]'hlt).toNat<128
      ·rw [decode_ascii s i hlt ha]; exact Nat.le_refl _
      ·exact (decode_high s i hlt (by omega)).2
     ·by_cases ha:(s[i]'hlt).toNat<128
      ·rw [decode_ascii s i hlt ha]
       exact ⟨fun e=>n1 (UInt8.toNat_inj.1 e),fun e=>n2 (UInt8.toNat_inj.1 e)⟩
      ·have:=(decode_high s i hlt (by omega)).1
       omega
    obtain ⟨n,hn⟩:∃ n,n=(Utf8.decode s i).2:=⟨_,rfl⟩
    obtain ⟨r,hr⟩:∃ n,n=(Utf8.decode s i).1:=⟨_,rfl⟩
    simp only [← hn,← hr] at hnx hstep
    obtain ⟨h1,h2,h3,h4⟩:=hstep
    have HB2:=Lib.hid (Lib.below_iterAt HB.out (Nat.le_refl _) s (i+n))
    have HI2:=Lib.hid (Lib.iterAt_heap wr w.heap.size s i (i+n) HIT.out)
    have HRN:Hid (∀ W,Calls Tryz.prog 215 #[.string ⟨#[47,0]⟩,.int .i32 (r:Int)] W fun e w'=>e=.returned (.int .i64 (-1))∧Below W.heap.size W w'):=Lib.hid fun W=>by
     by_cases h128:r<128
     ·refine (Any.strings_IndexRune_ascii (ρ:=Tryz.lays153_ren) { Tryz.lays153 with } ⟨#[47,0]⟩ r W (by omega) (by omega)).mono ?_
      rintro e w' ⟨rfl,hw⟩
      refine ⟨?_,hw ▸ Below.refl _ _⟩
      have e1:((r:Int)).toNat.toUInt8=UInt8.ofNat r:=rfl
      have e2:(47 == UInt8.ofNat r)=false:=by
       rw [beq_eq_false_iff_ne]
       intro e
       have:=congrArg UInt8.toNat e
       simp at this
       omega
      have e3:(0 == UInt8.ofNat r)=false:=by
       rw [beq_eq_false_iff_ne]
       intro e
       have:=congrArg UInt8.toNat e
       simp at this
       omega
      rw [e1,show (⟨#[47,0]⟩:ByteArray).data.toList=[47,0] from rfl]
      simp [Lib.indexByte,e2,e3]
     ·exact runeHigh r W (by omega) (by omega)
    clear hb hit hn hr
    go_wp2_with fail
    refine (HRN.out _).mono ?_
    rintro e w2 ⟨rfl,hb2⟩
    have hsz:=HB2.out.size
    have HB3:=Lib.hid (below_old HB2.out hb2)
    have HI3:Hid (w2.heap[w.heap.size]?=some (.stringIter s (i+n))):=Lib.hid (by rw [hb2.block _ (by have:=(Array.getElem?_eq_some_iff.1 HI2.out).1; exact this)]; exact HI2.out)
    clear hb2
    go_wp2_with fail
    go_roundw
    case rel=>exact ⟨i+n,HB3.out,HI3.out⟩
    case measure =>
     have q1:wr.iterPos w.heap.size=i:=by unfold World.iterPos; rw [HIT.out]
     have q2:w2.iterPos w.heap.size=i+n:=by unfold World.iterPos; rw [HI3.out]
     rw [q1,q2]; omega
   ·have hnx:=fun ty=>Lib.run_next_end_at (P:=Tryz.prog) wr w.heap.size s i ty hit hlt
    clear hb hit
    go_wp2_with fail
    go_ret
    exact ⟨rfl,HB.out⟩
theorem anyNone (s:ByteArray) (w:World) (hs:s.size<4294967281) (hn:(47:UInt8)∉s.data.toList∧(0:UInt8)∉s.data.toList) :
  Calls Tryz.prog 182 #[.string s,.string ⟨#[47,0]⟩] w fun e w'=>e=.returned (.bool false)∧Below w.heap.size w w':=by
 have H:=Lib.hid (fun w=>indexAnyNone s w hs hn)
 clear hn hs
 go_enter Tryz.func182,Tryz.ntmps182
 go_wp2_with fail
 refine (H.out _).mono ?_
 rintro e w' ⟨rfl,hb⟩
 have HB:=Lib.hid hb
 clear hb
 go_wp2_with fail
 go_ret
 exact ⟨rfl,HB.out⟩
end Go.Proofs.YtfhfcipelgogjaaGreatDoor
namespace Go.Proofs.YtfhfcipelgogjaaGreatDoor
open Go.RowKit
def splitW (b:UInt8):List UInt8→List (List UInt8)
 | []=>[[]]
 | c :: l=>if c=b then [] :: splitW b l else match splitW b l with
  | w :: r=>(c :: w) :: r
  | []=>[[c]]
theorem splitW_ne (b:UInt8) (l:List UInt8):splitW b l≠[]:=by
 cases l with
 | nil=>simp [splitW]
 | cons c l =>
  unfold splitW
  split
  ·simp
  ·split <;> simp
theorem splitW_none {b:UInt8} {w:List UInt8} (h:b∉w):splitW b w=[w]:=by
 induction w with
 | nil=>rfl
 | cons c w ih =>
  rw [List.mem_cons,not_or] at h
  unfold splitW
  rw [if_neg (fun e=>h.1 e.symm),ih h.2]
theorem splitW_cut {b:UInt8} {w l:List UInt8} (h:b∉w):splitW b (w++b :: l)=w :: splitW b l:=by
 induction w with
 | nil =>
  rw [List.nil_append]
  conv=>lhs; unfold splitW
  rw [if_pos rfl]
 | cons c w ih =>
  rw [List.mem_cons,not_or] at h
  rw [List.cons_append]
  conv=>lhs; unfold splitW
  rw [if_neg (fun e=>h.1 e.symm),ih h.2]
theorem splitW_length (b:UInt8) (l:List UInt8):(splitW b l).length=l.count b+1:=by
 induction l with
 | nil=>rfl
 | cons c l ih =>
  unfold splitW
  by_cases hc:c=b
  ·subst hc
   rw [if_pos rfl,List.length_cons,ih,List.count_cons_self]
  ·rw [if_neg hc,List.count_cons_of_ne hc]
   cases hs:splitW b l with
   | nil=>exact absurd hs (splitW_ne b l)
   | cons w r=>rw [hs] at ih; simpa using ih
theorem splitW_small {b:UInt8}:∀ {l w:List UInt8},w∈splitW b l→w.length≤l.length
 | [],w,h=>by simp [splitW] at h; subst h; simp
 | c :: l,w,h=>by
  unfold splitW at h
  split at h
  ·rcases List.mem_cons.1 h with rfl | h
   ·simp
   ·have:=splitW_small h; simp; omega
  ·split at h
   ·next w' r hs =>
    rcases List.mem_cons.1 h with rfl | h
    ·have:=splitW_small (w:=w') (by rw [hs]; simp); simpa using this
    ·have:=splitW_small (w:=w) (l:=l) (by rw [hs]; exact List.mem_cons_of_mem _ h); simp; omega
   ·next hs=>exact absurd hs (splitW_ne b l)
theorem index_cases (l:List UInt8) (c:UInt8):(Lib.indexByte l c=-1∧c∉l)∨∃ m:Nat,m<l.length∧Lib.indexByte l c=m∧c∉l.take m∧l=l.take m++c :: l.drop (m+1):=by
 have hge:=Lib.indexByte_ge l c
 by_cases h:Lib.indexByte l c=-1
 ·refine .inl ⟨h,fun hm=>?_⟩
  obtain ⟨k,hk⟩:=List.getElem?_of_mem hm
  exact Lib.indexByte_none h k hk
 ·obtain ⟨m,hm⟩:=Int.eq_ofNat_of_zero_le (show 0≤Lib.indexByte l c by omega)
  obtain ⟨h1,h2⟩:=Lib.indexByte_some hm
  obtain ⟨hlt,hget⟩:=List.getElem?_eq_some_iff.1 h1
  refine .inr ⟨m,hlt,hm,fun hc=>?_,?_⟩
  ·obtain ⟨k,hk⟩:=List.getElem?_of_mem hc
   obtain ⟨hk1,hk2⟩:=List.getElem?_eq_some_iff.1 hk
   rw [List.length_take] at hk1
   rw [List.getElem_take] at hk2
   exact h2 k (by omega) (List.getElem?_eq_some_iff.2 ⟨by omega,hk2⟩)
  ·conv=>lhs; rw [← List.take_append_drop m l]
   rw [List.drop_eq_getElem_cons hlt,hget]
theorem splitW_at {b:UInt8} {l:List UInt8} {m:Nat} (h:b∉l.take m) (he:l=l.take m++b :: l.drop (m+1)):splitW b l=l.take m :: splitW b (l.drop (m+1)):=by
 conv=>lhs; rw [he]
 exact splitW_cut h
end Go.Proofs.YtfhfcipelgogjaaGreatDoor
namespace Go.Proofs.YtfhfcipelgogjaaGreatDoor
open Go.RowKit
def keepP (p:List UInt8):Bool:=!(p == [] || p == [46])
def partsOf (l:List UInt8):List (List UInt8):=(splitW 47 l).filter keepP
def routeE (l:List UInt8) (mn md:Int):Int:=
 if l=[] then 90 else if mn<l.length then 93 else if (0:UInt8)∈l then 91 else if l.head?=some 47 then 92
 else if [46,46]∈partsOf l then 94 else if (partsOf l).any (fun p=>decide (255<p.length)) then 95 else if md<(partsOf l).length then 96 else 0
theorem splitW_mem {b:UInt8}:∀ {l w:List UInt8},w∈splitW b l→b∉w∧∀ x∈w,x∈l
 | [],w,h=>by simp [splitW] at h; subst h; simp
 | c :: l,w,h=>by
  unfold splitW at h
  split at h
  ·rcases List.mem_cons.1 h with rfl | h
   ·simp
   ·obtain ⟨h1,h2⟩:=splitW_mem h
    exact ⟨h1,fun x hx=>List.mem_cons_of_mem _ (h2 x hx)⟩
  ·next hc =>
   split at h
   ·next v r hs =>
    rcases List.mem_cons.1 h with rfl | h
    ·obtain ⟨h1,h2⟩:=splitW_mem (b:=b) (l:=l) (w:=v) (by rw [hs]; simp)
     refine ⟨fun hb=>?_,fun x hx=>?_⟩
     ·rcases List.mem_cons.1 hb with rfl | hb
      ·exact hc rfl
      ·exact h1 hb
     ·rcases List.mem_cons.1 hx with rfl | hx
      ·simp
      ·exact List.mem_cons_of_mem _ (h2 x hx)
    ·obtain ⟨h1,h2⟩:=splitW_mem (b:=b) (l:=l) (w:=w) (by rw [hs]; simp [h])
     exact ⟨h1,fun x hx=>List.mem_cons_of_mem _ (h2 x hx)⟩
   ·next hs=>exact absurd hs (splitW_ne b l)
theorem parts_mem {l p:List UInt8} (h:p∈partsOf l):(47:UInt8)∉p∧(∀ x∈p,x∈l)∧p≠[]∧p≠[46]∧p.length≤l.length:=by
 obtain ⟨h1,h2⟩:=List.mem_filter.1 h
 obtain ⟨a,b⟩:=splitW_mem h1
 unfold keepP at h2
 simp at h2
 exact ⟨a,b,h2.1,h2.2,splitW_small h1⟩
theorem parts_len (l:List UInt8):(partsOf l).length≤l.length+1:=by
 have h1:=List.length_filter_le keepP (splitW 47 l)
 have h2:=splitW_length 47 l
 have h3:=List.count_le_length (a:=(47:UInt8)) (l:=l)
 unfold partsOf
 omega
end Go.Proofs.YtfhfcipelgogjaaGreatDoor
namespace Go.Proofs.YtfhfcipelgogjaaGreatDoor
open Go.RowKit
attribute [local go_sem] cell?_over frozen?_over lt_over le_over
theorem bytes_ext {s:ByteArray} {l:List UInt8} (h:s.data.toList=l):s=⟨l.toArray⟩:=by
 cases s
 simp at h
 subst h
 simp
theorem empty_lit {s:ByteArray} (h:s.data.toList≠[]):s.toList.isEmpty=false:=by
 rw [Lib.toList_data]
 cases hl:s.data.toList with
 | nil=>exact absurd hl h
 | cons _ _=>rfl
theorem list_lit {s:ByteArray} {l:List UInt8} (h:s.data.toList≠l):(s.toList == l)=false:=by
 rw [Lib.toList_data]
 exact beq_eq_false_iff_ne.2 h
theorem goodPart (s:ByteArray) (w:World) (hs:s.size<4294967281) (hn:(47:UInt8)∉s.data.toList∧(0:UInt8)∉s.data.toList) (h0:s.data.toList≠[]) (h1:s.data.toList≠[46]) (h2:s.data.toList≠[46,46]) :
  Calls Tryz.prog 136 #[.string s] w fun e w'=>e=.returned (.bool (decide (s.size≤255)))∧Below w.heap.size w w':=by
 have t0:=empty_lit h0
 have t1:=list_lit h1
 have t2:=list_lit h2
 have HA:=Lib.hid (fun w=>anyNone s w hs hn)
 clear hn h0 h1 h2
 by_cases h:s.size≤255
 ·have c1:decide ((s.size:Int)≤255)=true:=by simp; omega
  rw [decide_eq_true h]
  clear h
  go_enter Tryz.func136,Tryz.ntmps136
  go_wp2_with fail
  refine (HA.out _).mono ?_
  rintro e w' ⟨rfl,hb⟩
  have HB:=Lib.hid hb
  clear hb
  go_wp2_with fail
  go_ret
  exact ⟨rfl,HB.out⟩
 ·have c1:decide ((s.size:Int)≤255)=false:=by simp; omega
  rw [decide_eq_false h]
  clear h
  go_enter Tryz.func136,Tryz.ntmps136
  go_wp2_with fail
  go_ret
  exact ⟨rfl,Below.refl _ _⟩
theorem dropPiece (s:ByteArray) (w:World):Calls Tryz.prog 203 #[.string s] w fun e w'=>e=.returned (.bool (!keepP s.data.toList))∧w'=w:=by
 by_cases h0:s.data.toList=[]
 ·have:=bytes_ext h0
  subst this
  go_enter Tryz.func203,Tryz.ntmps203
  go_wp2_with fail
  go_ret
  exact ⟨rfl,rfl⟩
 ·have t0:=empty_lit h0
  by_cases h1:s.data.toList=[46]
  ·have:=bytes_ext h1
   subst this
   go_enter Tryz.func203,Tryz.ntmps203
   go_wp2_with fail
   go_ret
   exact ⟨rfl,rfl⟩
  ·have t1:=list_lit h1
   have hk:(!keepP s.data.toList)=false:=by unfold keepP; rw [beq_eq_false_iff_ne.2 h0,beq_eq_false_iff_ne.2 h1]; rfl
   rw [hk]
   clear h0 h1 hk
   go_enter Tryz.func203,Tryz.ntmps203
   go_wp2_with fail
   go_ret
   exact ⟨rfl,rfl⟩
end Go.Proofs.YtfhfcipelgogjaaGreatDoor
namespace Go.Proofs.YtfhfcipelgogjaaGreatDoor
open Go.RowKit
theorem splitB_words (c:UInt8):∀ (k:Nat) (s:ByteArray),s.data.toList.count c=k→(Lib.splitB ⟨#[c]⟩ 0 k s).map (·.data.toList)=splitW c s.data.toList
 | 0,s,h=>by
  rw [Lib.splitB_zero,splitW_none (List.count_eq_zero.1 h)]
  rfl
 | k+1,s,h=>by
  have hix:Lib.indexB s ⟨#[c]⟩=Lib.indexByte s.data.toList c:=Lib.index_one _ _
  rcases index_cases s.data.toList c with ⟨_,hn⟩ | ⟨m,hm,hi,hn,he⟩
  ·rw [List.count_eq_zero.2 hn] at h; omega
  ·rw [Lib.splitB_hit _ _ _ _ m (hix.trans hi)]
   have h1:(s.extract 0 (m+0)).data.toList=s.data.toList.take m:=by rw [Lib.extract_data]; simp
   have h2:(s.extract (m+(⟨#[c]⟩:ByteArray).size) s.size).data.toList=s.data.toList.drop (m+1):=by
    rw [Lib.extract_data,List.take_of_length_le]
    ·rfl
    ·rw [List.length_drop,Array.length_toList]; exact Nat.le_refl _
   have hc:(s.data.toList.drop (m+1)).count c=k:=by
    rw [he,List.count_append,List.count_cons_self,List.count_eq_zero.2 hn] at h
    omega
   rw [List.map_cons,h1,splitB_words c k _ (by rw [h2]; exact hc),h2]
   exact (splitW_at hn he).symm
theorem split_words (c:UInt8) (s:ByteArray):(Lib.splitB ⟨#[c]⟩ 0 (Lib.countB s ⟨#[c]⟩) s).map (·.data.toList)=splitW c s.data.toList∧Lib.countB s ⟨#[c]⟩+1=(splitW c s.data.toList).length:=by
 have h:Lib.countB s ⟨#[c]⟩=s.data.toList.count c:=Lib.count_one _ _
 exact ⟨splitB_words c _ s h.symm,by rw [h,splitW_length]⟩
end Go.Proofs.YtfhfcipelgogjaaGreatDoor
namespace Go.Proofs.YtfhfcipelgogjaaGreatDoor
open Go.RowKit
abbrev textsL (l:List (List UInt8)):List ByteArray:=l.map fun p=>⟨p.toArray⟩
theorem texts_back (l:List ByteArray):textsL (l.map (·.data.toList))=l:=by
 induction l with
 | nil=>rfl
 | cons x l ih =>
  unfold textsL at ih ⊢
  rw [List.map_cons,List.map_cons,ih]
theorem splitStroke (s:ByteArray) (w:World) (m:Int) (hs:s.size<4294967281) (hm:w.cell? ⟨0,0,none⟩=some (.int .i64 m)) :
  Calls Tryz.prog 63 #[.string s,.string ⟨#[47]⟩] w fun e w'=>e=.returned (.slice (some ⟨w.heap.size,0,none⟩) (splitW 47 s.data.toList).length (splitW 47 s.data.toList).length) ∧
   w'=w.alloc (.cells ((textsL (splitW 47 s.data.toList)).map Value.string).toArray 9):=by
 have h:=Any.strings_Split Tryz.lays146 (by kernel_rfl) s ⟨#[47]⟩ m w hs hm (by decide)
 obtain ⟨h1,h2⟩:=split_words 47 s
 refine h.mono ?_
 rintro e w' ⟨rfl,rfl⟩
 refine ⟨by rw [h2],?_⟩
 have h3:(Lib.splitB ⟨#[47]⟩ 0 (Lib.countB s ⟨#[47]⟩) s)=textsL (splitW 47 s.data.toList):=by
  rw [← h1]
  exact (texts_back _).symm
 rw [h3]
 rfl
theorem texts_filter (l : List (List UInt8)) : (textsL l).filter (fun x => !!keepP x.data.toList) = textsL (l.filter keepP) := by
  induction l with
  | nil => rfl
  | cons p l ih =>
    simp only [textsL, List.map_cons, List.filter_cons] at ih ⊢
    rw [ih]
    cases h : keepP p <;> simp [h]
theorem delPieces (ws : List (List UInt8)) (w : World) (hl : ws.length ≤ 4294967281) (hsz : ∀ p ∈ ws, p.length ≤ maxLen) :
    Calls Tryz.prog 202 #[.slice (some ⟨w.heap.size, 0, none⟩) ws.length ws.length, .func (.func 203) #[] #[]] (w.alloc (.cells ((textsL ws).map Value.string).toArray 9)) fun e w' =>
      e = .returned (.slice (some ⟨w.heap.size, 0, none⟩) (ws.filter keepP).length ws.length) ∧ Below w.heap.size w w' ∧ Row Shape.str w' (Old w') (some ⟨w.heap.size, 0, none⟩) (ws.filter keepP).length (textsL (ws.filter keepP)) := by
  have heg : ∀ args w, (callFunc 203 args).run Tryz.prog w = .ok (.enter 203 args) w := enters_of Tryz.func203 (by kernel_rfl) rfl
  have hg : ∀ (W : World) (x : ByteArray), FnGives Tryz.prog 203 #[] #[.string x] (.bool (!keepP x.data.toList)) W := fun W x => (dropPiece x W).mono fun e w' h => ⟨h.1, 0, h.2⟩
  have hcell : ∀ j, j < ws.length → (w.alloc (.cells ((textsL ws).map Value.string).toArray 9)).cell? ⟨w.heap.size, 0 + j, none⟩ = some (.string (textsL ws).toArray[j]!) := fun j hj => by
    rw [Nat.zero_add]
    have : (textsL ws).toArray[j]! = (textsL ws)[j]'(by simpa using hj) := by
      rw [getElem!_pos _ j (by simpa using hj)]; simp
    rw [this]
    simp [World.cell?_alloc_at, hj]
  have hH : Sort.Holds Value.string (w.alloc (.cells ((textsL ws).map Value.string).toArray 9)) w.heap.size 0 (textsL ws).toArray := fun j hj => ⟨hcell j (by simpa using hj), by simp⟩
  have h := AnyE.slices_DeleteFunc Tryz.laysH10 Value.string (fun _ => rfl) (fun x => !keepP x.data.toList) 203 #[] heg ByteArray.empty Tryz.zeroValue9 w.heap.size 0 ws.length (textsL ws).toArray _ (fun W x _ => hg W x) (fun n os dk x _ => hg _ x) hH (by simp; omega) (by simp)
  have hf : ((textsL ws).toArray.toList.filter fun x => !(!keepP x.data.toList)) = textsL (ws.filter keepP) := by simpa using texts_filter ws
  rw [hf] at h
  obtain ⟨K, hK⟩ : ∃ K, K = ws.filter keepP := ⟨_, rfl⟩
  have hKl : K.length ≤ ws.length := by rw [hK]; exact List.length_filter_le _ _
  have hKs : ∀ p ∈ K, p.length ≤ maxLen := fun p hp => hsz p (List.mem_filter.1 (by rw [← hK]; exact hp)).1
  rw [← hK] at h ⊢
  have hds : (textsL K ++ List.replicate ((textsL ws).toArray.size - (textsL K).length) ByteArray.empty).toArray.size = (textsL ws).toArray.size := by
    have e1 : (textsL ws).toArray.size = ws.length := by simp
    have e2 : (textsL K).length = K.length := by simp
    rw [List.size_toArray, List.length_append, List.length_replicate, e1, e2]
    omega
  have hP := Sort.holds_putRow Value.string (w.alloc (.cells ((textsL ws).map Value.string).toArray 9)) w.heap.size 0 _ _ hH hds
  have e0 : (textsL ws).toArray.size = ws.length := by simp
  have e2 : (textsL K).length = K.length := by simp
  rw [e0, e2] at h
  rw [e0, e2] at hP hds
  refine h.mono ?_
  rintro e w' ⟨rfl, q, rfl⟩
  refine ⟨rfl, Lib.below_putRow ((Below.refl _ w).alloc (Nat.le_refl _) _) (Nat.le_refl _), by simp, fun hn => ⟨w.heap.size, 0, rfl, by show w.heap.size < (Sort.putRow _ _ _ _ _).heap.size; rw [Sort.size_putRow]; simp, fun i hi => ?_⟩⟩
  have hi' : i < K.length := by simpa using hi
  refine ⟨[.string ⟨K[i].toArray⟩], fun j hj => ?_, ?_⟩
  · have hj0 : j = 0 := by have : j < 1 := hj; omega
    subst hj0
    have := (hP i (by rw [hds]; omega)).1
    rw [getElem!_pos _ i (by rw [hds]; omega)] at this
    have e1 : (textsL K ++ List.replicate (ws.length - K.length) ByteArray.empty).toArray[i]'(by rw [hds]; omega) = ⟨K[i].toArray⟩ := by
      rw [List.getElem_toArray, List.getElem_append_left (by simpa using hi')]
      simp
    rw [e1] at this
    rw [Sort.putRow_ahead, Sort.cell?_ahead]
    simpa [Shape.str] using this
  · refine ⟨by simp, ?_⟩
    have := hKs K[i] (List.getElem_mem hi')
    simpa [ByteArray.size] using this
end Go.Proofs.YtfhfcipelgogjaaGreatDoor
namespace Go.Proofs.YtfhfcipelgogjaaGreatDoor
open Go.RowKit
attribute [local go_sem] cell?_over frozen?_over lt_over le_over
def RouteEnd (l:List UInt8) (mn md:Int) (w:World) (e:Ending) (w':World):Prop:=
 Below w.heap.size w w'∧((routeE l mn md≠0∧e=.returned (.tuple #[.slice none 0 0,.int .i64 (routeE l mn md)])) ∨
  (routeE l mn md=0∧∃ (A:Option Addr) (c:Nat),(partsOf l).length≤c∧e=.returned (.tuple #[.slice A (partsOf l).length c,.int .i64 0])∧Row Shape.str w' (Old w') A (partsOf l).length (textsL (partsOf l))))
theorem hasParts {A:Option Addr} {n c:Nat} {l:List ByteArray} (x:ByteArray) (w:World) (h:Row Shape.str w (Old w) A n l) (hn:n≤9223372036854775807) :
  Calls Tryz.prog 204 #[.slice A n c,.string x] w fun e w'=>e=.returned (.bool (l.map (·.data.toList) |>.contains x.data.toList))∧w'=w:=by
 have hl:=h.1
 rcases Nat.eq_zero_or_pos n with h0 | h0
 ·subst h0
  obtain rfl:l=[]:=List.eq_nil_of_length_eq_zero hl
  exact Any.slices_Contains_string_empty Tryz.lays110 A c x w
 ·obtain ⟨b,off,hA,hb,hc⟩:=h.2 h0
  subst hA
  refine (Any.slices_Contains_string Tryz.lays110 b off n c l x w (by omega) hn ?_).mono ?_
  ·intro j hj
   obtain ⟨es,hes,hrd⟩:=hc j hj
   have h1:=hes 0 (by decide)
   obtain ⟨rfl,_⟩:=hrd
   rw [List.getD_eq_getElem?_getD,List.getElem?_eq_getElem hj]
   simpa [Shape.str] using h1
  ·rintro e w' ⟨rfl,rfl⟩
   refine ⟨?_,rfl⟩
   rw [List.take_of_length_le (by omega)]
   congr 2
   rw [Bool.eq_iff_iff,Lib.containsS_iff,List.contains_iff_mem,List.mem_map]
   constructor
   ·exact fun hx=>⟨x,hx,rfl⟩
   ·rintro ⟨a,ha,he⟩
    have h1:=bytes_ext he
    have h2:=bytes_ext (s:=x) rfl
    rw [h2,← h1]; exact ha
theorem head_eq {s:ByteArray} (h:0<s.size):s.data.toList.head?=some (s[0]'h):=by
 have:=Lib.data_getElem? s 0 h
 rw [← this,List.head?_eq_getElem?]
theorem texts_data (l:List (List UInt8)):(textsL l).map (·.data.toList)=l:=by
 rw [List.map_map]
 conv=>rhs; rw [← List.map_id l]
 exact List.map_congr_left fun _ _=>rfl
theorem routeSplit (s:ByteArray) (mn md:Int) (w:World) (m:Int) (hs:s.size≤100000000) (hm:w.cell? ⟨0,0,none⟩=some (.int .i64 m)) :
  Calls Tryz.prog 160 #[.string s,.int .i64 mn,.int .i64 md] w (RouteEnd s.data.toList mn md w):=by
 have hsl:s.data.toList.length=s.size:=Lib.size_eq s |>.symm
 obtain ⟨E,hE⟩:∃ E,E=routeE s.data.toList mn md:=⟨_,rfl⟩
 unfold RouteEnd
 rw [← hE]
 unfold routeE at hE
 by_cases h0:s.data.toList=[]
 ·rw [if_pos h0] at hE
  have:=bytes_ext h0
  subst this
  subst hE
  go_enter Tryz.func160,Tryz.ntmps160
  go_wp2_with fail
  go_ret2
  first | exact ⟨Below.refl _ _,.inl ⟨by decide,rfl⟩⟩ | exact ⟨Below.refl _ _,rfl⟩
 rw [if_neg h0] at hE
 have t0:=empty_lit h0
 have hpos:0<s.size:=by
  rw [← hsl]; exact List.length_pos_iff.2 h0
 by_cases h1:mn<s.size
 ·rw [hsl,if_pos h1] at hE
  have t1:decide ((s.size:Int)>mn)=true:=by simpa using h1
  subst hE
  clear h0 hsl
  go_enter Tryz.func160,Tryz.ntmps160
  go_wp2_with fail
  go_ret2
  first | exact ⟨Below.refl _ _,.inl ⟨by decide,rfl⟩⟩ | exact ⟨Below.refl _ _,rfl⟩
 rw [hsl,if_neg h1] at hE
 have t1:decide ((s.size:Int)>mn)=false:=by simpa using h1
 have HIX:=Lib.hid (fun w=>Any.strings_IndexByte Tryz.lays137 s 0 w)
 by_cases h2:(0:UInt8)∈s.data.toList
 ·rw [if_pos h2] at hE
  obtain ⟨k,hk⟩:∃ k:Nat,Lib.indexByte s.data.toList 0=k:=by
   rcases index_cases s.data.toList 0 with ⟨_,hn⟩ | ⟨k,_,h,_⟩
   ·exact absurd h2 hn
   ·exact ⟨k,h⟩
  have e0:((0:Int)).toNat.toUInt8=(0:UInt8):=rfl
  rw [e0,hk] at HIX
  subst hE
  have t2:decide ((k:Int)≥0)=true:=by simp
  clear h0 hsl h1 h2 e0 hk
  go_enter Tryz.func160,Tryz.ntmps160
  go_wp2_with fail
  refine (HIX.out _).mono ?_
  rintro e w' ⟨rfl,hw⟩
  rw [hw]; clear hw
  go_wp2_with fail
  go_ret2
  first | exact ⟨Below.refl _ _,.inl ⟨by decide,rfl⟩⟩ | exact ⟨Below.refl _ _,rfl⟩
 rw [if_neg h2] at hE
 have hk:Lib.indexByte s.data.toList 0=-1:=by
  rcases index_cases s.data.toList 0 with ⟨h,_⟩ | ⟨k,h3,_,_,h4⟩
  ·exact h
  ·exact absurd (by rw [h4]; simp) h2
 have e0:((0:Int)).toNat.toUInt8=(0:UInt8):=rfl
 rw [e0,hk] at HIX
 clear e0 hk
 rw [head_eq hpos] at hE
 by_cases h3:s[0]'hpos=47
 ·rw [if_pos (by rw [h3])] at hE
  have t3:(((s[0]'hpos).toNat:Int) == 47)=true:=by rw [h3]; rfl
  subst hE
  clear h0 hsl h1 h2 h3
  go_enter Tryz.func160,Tryz.ntmps160
  go_wp2_with fail
  refine (HIX.out _).mono ?_
  rintro e w' ⟨rfl,hw⟩
  rw [hw]; clear hw
  go_wp2_with fail
  go_ret2
  first | exact ⟨Below.refl _ _,.inl ⟨by decide,rfl⟩⟩ | exact ⟨Below.refl _ _,rfl⟩
 rw [if_neg (by intro h; injection h with h; exact h3 h)] at hE
 have t3:(((s[0]'hpos).toNat:Int) == 47)=false:=by
  rw [beq_eq_false_iff_ne]
  intro h
  exact h3 (UInt8.toNat_inj.1 (by have:(47:UInt8).toNat=47:=rfl; omega))
 have HW:=Lib.hid (splitStroke s w m (by omega) hm)
 have WS:Hid ((splitW 47 s.data.toList).length≤100000001):=Lib.hid (by
  rw [splitW_length]
  have:=List.count_le_length (a:=(47:UInt8)) (l:=s.data.toList)
  omega)
 have HD:=Lib.hid (delPieces (splitW 47 s.data.toList) w (by have:=WS.out; omega) (fun p hp=>by have:=splitW_small hp; unfold maxLen; omega))
 have PL:=Lib.hid (parts_len s.data.toList)
 have PM:=Lib.hid (fun p (hp:p∈partsOf s.data.toList)=>parts_mem hp)
 have h2':=Lib.hid h2
 obtain ⟨P,hP⟩:∃ P,P=partsOf s.data.toList:=⟨_,rfl⟩
 rw [show (splitW 47 s.data.toList).filter keepP=partsOf s.data.toList from rfl,← hP] at HD
 rw [← hP] at PL PM hE ⊢
 obtain ⟨W1,hW1⟩:∃ W,W=w.alloc (.cells ((textsL (splitW 47 s.data.toList)).map Value.string).toArray 9):=⟨_,rfl⟩
 rw [← hW1] at HW HD
 have HE:=Lib.hid hE
 have HPP:Hid (P=(splitW 47 s.data.toList).filter keepP):=Lib.hid hP
 clear hW1 hE hP h0 h1 h2 h3 hm
 go_enter Tryz.func160,Tryz.ntmps160
 go_wp2_with fail
 refine (HIX.out _).mono ?_
 rintro e w' ⟨rfl,hw⟩
 rw [hw]; clear hw
 go_wp2_with fail
 refine HW.out.mono ?_
 rintro e w1 ⟨rfl,hw⟩
 rw [hw]; clear hw
 go_wp2_with fail
 refine HD.out.mono ?_
 rintro e w2 ⟨rfl,hb,hrow⟩
 have HB:=Lib.hid hb; have ROW:=Lib.hid hrow
 have HC:=Lib.hid (hasParts (c:=(splitW 47 s.data.toList).length) ⟨#[46,46]⟩ w2 hrow (by have:=PL.out; omega))
 rw [texts_data,show (⟨#[46,46]⟩:ByteArray).data.toList=[46,46] from rfl] at HC
 have hPc:P.length≤(splitW 47 s.data.toList).length:=by rw [HPP.out]; exact List.length_filter_le _ _
 have HPC:=Lib.hid hPc
 clear hb hrow HD HW hPc
 generalize (splitW 47 s.data.toList).length=c at HC WS HPC ⊢
 go_wp2_with fail
 refine HC.out.mono ?_
 rintro e w3 ⟨rfl,hw⟩
 rw [hw]; clear hw
 by_cases hdd:[46,46]∈P
 ·have hE:E=94:=by rw [HE.out,if_pos hdd]
  subst hE
  rw [List.contains_iff_mem.2 hdd]
  clear hdd
  go_wp2_with fail
  go_ret2
  first | exact ⟨HB.out,.inl ⟨by decide,rfl⟩⟩ | exact ⟨HB.out,rfl⟩
 rw [show P.contains [46,46]=false by rw [← Bool.not_eq_true,List.contains_iff_mem]; exact hdd]
 have HDD:=Lib.hid hdd
 clear hdd
 go_wp2_with fail
 go_loopw [34] (fun it wr=>∃ k:Nat,it=.int .i64 k∧k≤P.length∧(∀ i (hi:i<k) (hl:i<P.length),P[i].length≤255)∧Below w.heap.size w wr∧Below w2.heap.size w2 wr) (fun it _=>P.length - (intOf it).toNat)
 case atStart=>exact ⟨0,rfl,Nat.zero_le _,fun i hi=>absurd hi (Nat.not_lt_zero _),HB.out,Below.refl _ _⟩
 case round =>
  obtain ⟨k,rfl,hk,hall,hb,hb2⟩:=hrel
  have AL:=Lib.hid hall; have HB3:=Lib.hid hb; have HB4:=Lib.hid hb2
  clear hall hb hb2
  have hPn:P.length≤100000001:=by have:=PL.out; omega
  by_cases hlt:k<P.length
  ·obtain ⟨b,off,hl,hA,hbl,hcell,hsz⟩:=str_cell (ROW.out.below HB4.out) hlt
   injection hA with hA
   injection hA with hA1 hA2
   subst hA1 hA2
   rw [Nat.zero_add] at hcell
   obtain ⟨p,hp⟩:∃ p,p=P[k]:=⟨_,rfl⟩
   rw [show (textsL P)[k]=⟨p.toArray⟩ by rw [hp]; simp] at hcell hsz
   have HM:=PM.out p (by rw [hp]; exact List.getElem_mem hlt)
   have hpd:(⟨p.toArray⟩:ByteArray).data.toList=p:=rfl
   have hpz:(⟨p.toArray⟩:ByteArray).size=p.length:=rfl
   have hmem:p∈P:=by rw [hp]; exact List.getElem_mem hlt
   have HG:=Lib.hid (fun w=>goodPart ⟨p.toArray⟩ w (by rw [hpz]; omega) (by rw [hpd]; exact ⟨HM.1,fun h=>h2'.out (HM.2.1 _ h)⟩) (by rw [hpd]; exact HM.2.2.1) (by rw [hpd]; exact HM.2.2.2.1) (by rw [hpd]; intro h; rw [h] at hmem; exact HDD.out hmem))
   rw [hpz] at HG
   have HP:=Lib.hid hp
   have HLT:=Lib.hid hlt
   clear hp hsz HM hbl hmem hpd hpz
   go_wp2_with fail
   refine (HG.out _).mono ?_
   rintro e w4 ⟨rfl,hb4⟩
   have HB5:=Lib.hid (below_old HB3.out hb4); have HB6:=Lib.hid (below_old HB4.out hb4)
   clear hb4
   by_cases h255:p.length≤255
   ·rw [decide_eq_true h255]
    have ALN:Hid (∀ i (hi:i<k+1) (hl:i<P.length),P[i].length≤255):=Lib.hid fun i hi hl=>by
     by_cases hik:i=k
     ·subst hik; rw [← HP.out]; exact h255
     ·exact AL.out i (by omega) hl
    clear h255
    go_wp2_with fail
    go_roundw
    case rel=>exact ⟨k+1,by go_num,by have:=HLT.out; omega,ALN.out,HB5.out,HB6.out⟩
    case measure=>simp [intOf]; omega
   ·rw [decide_eq_false h255]
    have hE:E=95:=by
     rw [HE.out,if_neg HDD.out,if_pos]
     rw [List.any_eq_true]
     refine ⟨p,by rw [HP.out]; exact List.getElem_mem HLT.out,?_⟩
     simp; omega
    subst hE
    clear h255
    go_wp2_with fail
    go_ret2
    first | exact ⟨HB5.out,.inl ⟨by decide,rfl⟩⟩ | exact ⟨HB5.out,rfl⟩
  ·have hany:¬ (P.any fun p=>decide (255<p.length))=true:=by
    rw [List.any_eq_true]
    rintro ⟨q,hq,h5⟩
    obtain ⟨i,hi,rfl⟩:=List.getElem_of_mem hq
    have:=AL.out i (by omega) hi
    simp at h5
    omega
   have hE:E=if md<P.length then 96 else 0:=by rw [HE.out,if_neg HDD.out,if_neg hany]
   have hkn:k=P.length:=by omega
   subst hkn
   clear hany hlt hk AL
   by_cases hmd:md<P.length
   ·have t6:decide ((P.length:Int)>md)=true:=by simpa using hmd
    rw [if_pos hmd] at hE
    subst hE
    clear hmd
    go_wp2_with fail
    go_ret2
    first | exact ⟨HB3.out,.inl ⟨by decide,rfl⟩⟩ | exact ⟨HB3.out,rfl⟩
   ·have t6:decide ((P.length:Int)>md)=false:=by simpa using hmd
    rw [if_neg hmd] at hE
    subst hE
    clear hmd
    go_wp2_with fail
    go_ret2
    first | exact ⟨HB3.out,.inr ⟨rfl,_,_,HPC.out,rfl,ROW.out.below HB4.out⟩⟩ | exact ⟨HB3.out,_,⟨_,HPC.out,rfl⟩,ROW.out.below HB4.out⟩ | exact ⟨HB3.out,_,_,HPC.out,rfl,ROW.out.below HB4.out⟩
end Go.Proofs.YtfhfcipelgogjaaGreatDoor
