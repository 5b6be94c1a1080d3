/- Names without their first parts, both ways. No condition but room. Where the text of a symbolic link leads: whether it leaves, plain. And an own list cut short. No condition. target.Sym: whether the text of a symbolic link leads out. No condition but room and the variable MaxLen. The parts of a hard link's name, both ways. No condition but room and the variable MaxLen. The mode that a new thing gets: the program's and the document's. No condition. -/
import Derived.Test.YtfhfcipelgogjaaGreatDoorRouteAll
import Derived.Test.YtfhfcipelgogjaaGreatDoorEscAll
import Derived.Lib.SliceRun
import Derived.WalkMore
import Derived.Test.YtfhfcipelgogjaaGreatDoorBaseAt
import Derived.Laws.BitsLemmas
set_option linter.unusedVariables false
set_option linter.unusedSimpArgs false
set_option maxHeartbeats 4000000
set_option maxRecDepth 100000
namespace Go.Proofs.YtfhfcipelgogjaaGreatDoor
open Go.RowKit
attribute [local go_sem] cell?_over frozen?_over lt_over le_over
theorem elem_strS:Elem Tryz.prog 40 9 Shape.str 16:=⟨Tryz.underlying40,by kernel_rfl⟩
def TextsV (w':World) (v:Value) (l:List ByteArray):Prop:=∃ (A:Option Addr) (c:Nat),l.length≤c∧v=.slice A l.length c∧Row Shape.str w' (Old w') A l.length l
def TextsN (w w':World) (v:Value) (l:List ByteArray):Prop:=∃ (A:Option Addr) (c:Nat),l.length≤c∧v=.slice A l.length c∧Row Shape.str w' (New w w') A l.length l
theorem TextsN.old {w w':World} {v:Value} {l:List ByteArray} (h:TextsN w w' v l):TextsV w' v l:=by
 obtain ⟨A,c,h1,h2,h3⟩:=h
 exact ⟨A,c,h1,h2,h3.more fun _ hn=>hn.2⟩
theorem TextsN.from_ {w w1 w':World} {v:Value} {l:List ByteArray} (h:TextsN w1 w' v l) (hs:w.heap.size≤w1.heap.size):TextsN w w' v l:=by
 obtain ⟨A,c,h1,h2,h3⟩:=h
 exact ⟨A,c,h1,h2,h3.more fun _ hn=>⟨Nat.le_trans hs hn.1,hn.2⟩⟩
theorem textsN_own {w w':World} {v:Value} {l:List ByteArray} (h:Own Shape.str 9 w' w.heap.size (fun _=>False) v l):TextsN w w' v l:=by
 obtain ⟨A,n,c,rfl,hnc,_,hrow⟩:=h.rd_new (w:=w) (Nat.le_refl _) (fun _ h=>h.elim)
 obtain rfl:l.length=n:=hrow.1
 exact ⟨A,c,hnc,rfl,hrow⟩
theorem Row.drop_ {α : Type} {s : Shape α} {w : World} {M : Nat → Prop} {n : Nat} {b off : Nat} {l : List α} (h : Row s w M (some ⟨b, off, none⟩) n l) {k : Nat} (hkn : k ≤ n) : Row s w M (some ⟨b, off + k * s.size, none⟩) (n - k) (l.drop k) := by
  have hl := h.1
  refine ⟨by rw [List.length_drop, hl], fun hpos => ?_⟩
  obtain ⟨b1, off1, e, hb, hi⟩ := h.2 (by omega)
  injection e with e
  injection e with e1 e2
  subst e1 e2
  refine ⟨b, off + k * s.size, rfl, hb, fun i hil => ?_⟩
  rw [List.length_drop] at hil
  obtain ⟨es, h1, h2⟩ := hi (k + i) (by omega)
  refine ⟨es, fun j hj => ?_, by rw [List.getElem_drop]; exact h2⟩
  rw [← h1 j hj, Nat.add_mul]
  congr 2
  omega
theorem cloneOwn {A : Option Addr} {n c : Nat} {l : List ByteArray} (w : World) (h : Row Shape.str w (Old w) A n l) (hn : n ≤ 1000000000) :
    Calls Tryz.prog 115 #[.slice A n c] w fun e w' => ∃ v, e = .returned v ∧ Own Shape.str 9 w' w.heap.size (fun _ => False) v l ∧ Below w.heap.size w w' := by
  have hl := h.1
  have qs : ∀ (w : World) (a : Option Addr) (n c n' c' : Nat), (binOp .eql 40 (.slice a n c) (.slice none n' c')).run Tryz.prog w = .ok (.bool a.isNone) w := fun w a n c n' c' => Lib.run_eql_slice_nil w _ _ a n c n' c' Tryz.underlying40
  cases A with
  | none =>
    rcases Nat.eq_zero_or_pos n with h0 | h0
    · subst h0
      obtain rfl : l = [] := List.eq_nil_of_length_eq_zero hl
      clear h hl
      go_enter Tryz.func115, Tryz.ntmps115
      go_wp2_with fail
      go_ret
      exact ⟨_, rfl, Own.start _ _ _ _, Below.refl _ _⟩
    · obtain ⟨_, _, e, _⟩ := h.2 h0
      cases e
  | some ad =>
    have hs := (Row.src (h.keep (Keeps.old_alloc w (.cells #[] 9)))).flat (M' := fun _ => False) flat_str
    clear h
    go_enter Tryz.func115, Tryz.ntmps115
    go_wp2_with (first
      | (at_builtin
         go_loud (refine wpList_append_list (v := .slice (some ⟨w.heap.size, 0, none⟩) 0 0) rfl (.tmp 5) (.tmp 6) _ rfl elem_strS rfl (Own.made Shape.str _ w _ (Nat.le_refl _)) rfl hs (fun _ h => h.elim) ?_ ?_ ?_ ?_)
         · first | (simp; done) | (simp; omega)
         · first | (simp [maxLen]; done) | (simp [maxLen]; omega)
         · simp
         intro v' w1 hown hg hat))
    go_ret
    exact ⟨_, rfl, by simpa using hown, ((Below.refl _ _).alloc (Nat.le_refl _) _).grown hg (by simp) (by simp [Value.ownBlock])⟩
theorem cloneStr {A:Option Addr} {n c:Nat} {l:List ByteArray} (w:World) (h:Row Shape.str w (Old w) A n l) (hn:n≤1000000000) :
  Calls Tryz.prog 115 #[.slice A n c] w fun e w'=>∃ v,e=.returned v∧TextsN w w' v l∧Below w.heap.size w w':=
 (cloneOwn w h hn).mono fun _ _ ⟨v,h1,h2,h3⟩=>⟨v,h1,textsN_own h2,h3⟩
def StripEnd (l:List ByteArray) (n:Int) (w:World) (e:Ending) (w':World):Prop:=
 Below w.heap.size w w'∧((0<n∧l.length≤n∧e=.returned (.tuple #[.slice none 0 0,.bool false]))∨(¬ (0<n∧l.length≤n)∧∃ v,e=.returned (.tuple #[v,.bool true])∧TextsN w w' v (l.drop n.toNat)))
theorem routeStrip {A:Option Addr} {m c:Nat} {l:List ByteArray} (n:Int) (w:World) (h:Row Shape.str w (Old w) A m l) (hm:m≤1000000000) (hc:m≤c) :
  Calls Tryz.prog 162 #[.slice A m c,.int .i64 n] w (StripEnd l n w):=by
 have hl:=h.1
 subst hl
 cases A with
 | none =>
  rcases Nat.eq_zero_or_pos l.length with h0 | h0
  ·obtain rfl:l=[]:=List.eq_nil_of_length_eq_zero h0
   have HC:=Lib.hid (fun c'=>cloneStr (c:=c') w h (by simp))
   clear h hm hc h0
   by_cases h1:0<n
   ·have t1:decide (n>0)=true:=by simpa using h1
    have t2:decide ((0:Int)≤n)=true:=by simp; omega
    have H1:=Lib.hid h1
    clear h1
    go_enter Tryz.func162,Tryz.ntmps162
    go_wp2_with fail
    go_ret2
    exact ⟨Below.refl _ _,.inl ⟨H1.out,by have:=H1.out; simp; omega,rfl⟩⟩
   ·have t1:decide (n>0)=false:=by simpa using h1
    have H1:=Lib.hid h1
    have mx:max n 0=0:=by omega
    clear h1
    go_enter Tryz.func162,Tryz.ntmps162
    go_wp2_with fail
    refine (HC.out _).mono ?_
    rintro e w2 ⟨v,rfl,hv,hb⟩
    have HV:=Lib.hid hv; have HB:=Lib.hid hb
    clear hv hb
    go_wp2_with fail
    go_ret2
    exact ⟨HB.out,.inr ⟨fun h=>by have:=H1.out; omega,v,rfl,by rw [List.drop_nil]; exact HV.out⟩⟩
  ·obtain ⟨_,_,e,_⟩:=h.2 h0
   cases e
 | some ad =>
  by_cases h1:0<n
  ·have t1:decide (n>0)=true:=by simpa using h1
   by_cases h2:(l.length:Int)≤n
   ·have t2:decide ((l.length:Int)≤n)=true:=by simpa using h2
    have H1:=Lib.hid h1; have H2:=Lib.hid h2
    clear h1 h2
    go_enter Tryz.func162,Tryz.ntmps162
    go_wp2_with fail
    go_ret2
    exact ⟨Below.refl _ _,.inl ⟨H1.out,H2.out,rfl⟩⟩
   ·have t2:decide ((l.length:Int)≤n)=false:=by simpa using h2
    obtain ⟨k,hk⟩:∃ k:Nat,n=k:=⟨n.toNat,by omega⟩
    subst hk
    obtain ⟨b,off,hAd,hb,_⟩:=h.2 (by omega)
    injection hAd with hAd
    subst hAd
    have hk2:k<l.length:=by omega
    have hk0:0<k:=by omega
    have hd:=Row.drop_ h (k:=k) (by omega)
    rw [show Shape.str.size=1 from rfl,Nat.mul_one] at hd
    have HC:=Lib.hid (fun c'=>cloneStr (c:=c') w hd (by omega))
    have mx:max (k:Int) 0=k:=by omega
    have H1:=Lib.hid h1; have H2:=Lib.hid h2
    clear h1 h2 h hd
    go_enter Tryz.func162,Tryz.ntmps162
    go_wp2_with fail
    refine (HC.out _).mono ?_
    rintro e w2 ⟨v,rfl,hv,hb⟩
    have HV:=Lib.hid hv; have HB:=Lib.hid hb
    clear hv hb
    go_wp2_with fail
    go_ret2
    exact ⟨HB.out,.inr ⟨fun h=>by have:=H2.out; omega,v,rfl,by rw [Int.toNat_natCast]; exact HV.out⟩⟩
  ·have t1:decide (n>0)=false:=by simpa using h1
   have H1:=Lib.hid h1
   have HC:=Lib.hid (fun w' c' (h:Row Shape.str w' (Old w') (some ad) l.length l)=>cloneStr (c:=c') w' h hm)
   have mx:max n 0=0:=by omega
   have H:=Lib.hid h
   clear h1 h
   go_enter Tryz.func162,Tryz.ntmps162
   go_wp2_with fail
   refine (HC.out _ _ H.out).mono ?_
   rintro e w2 ⟨v,rfl,hv,hb⟩
   have HV:=Lib.hid hv; have HB:=Lib.hid hb
   clear hv hb
   go_wp2_with fail
   go_ret2
   exact ⟨HB.out,.inr ⟨fun h=>by have:=H1.out; omega,v,rfl,by rw [show n.toNat=0 by have:=H1.out; omega]; exact HV.out⟩⟩
end Go.Proofs.YtfhfcipelgogjaaGreatDoor
namespace Go.Proofs.YtfhfcipelgogjaaGreatDoor
open Go.RowKit
def climb:Nat→List (List UInt8)→Int
 | _,[]=>0
 | n,p :: ps=>if keepP p=false then climb n ps else if p=[46,46] then (if n=0 then 101 else climb (n - 1) ps) else climb (n+1) ps
def symE (d:Nat) (l:List UInt8) (pol mn:Int):Int:=
 if pol≠0∧pol≠1 then 100 else if l=[] then 90 else if mn<l.length then 93 else if (0:UInt8)∈l then 91 else if pol=0 then 0 else if l.head?=some 47 then 92 else climb d (splitW 47 l)
theorem climb_drop {P:List (List UInt8)} {k:Nat} (h:k<P.length) (n:Nat):climb n (P.drop k)=if keepP P[k]=false then climb n (P.drop (k+1)) else if P[k]=[46,46] then (if n=0 then 101 else climb (n - 1) (P.drop (k+1))) else climb (n+1) (P.drop (k+1)):=by
 rw [List.drop_eq_getElem_cons h]
 conv=>lhs; unfold climb
def SymEnd (d:Nat) (l:List UInt8) (pol mn:Int) (w:World) (e:Ending) (w':World):Prop:=
 Below w.heap.size w w'∧∃ v,e=.returned (.tuple #[v,.int .i64 (symE d l pol mn)])
theorem Cells.take_ {α:Type} {s:Shape α} {w:World} {M:Nat→Prop}:∀ {xs:List Value} {l:List α} (k:Nat),Cells s w M xs l→Cells s w M (xs.take (k*s.size)) (l.take k)
 | xs,[],k,h=>by
  simp only [Cells] at h
  subst h
  simp [Cells]
 | xs,a :: l,0,h=>by simp [Cells]
 | xs,a :: l,k+1,h=>by
  obtain ⟨es,rest,rfl,hr,hc⟩:=h
  have hl:=s.len hr
  refine ⟨es,rest.take (k*s.size),?_,hr,Cells.take_ k hc⟩
  rw [List.take_append,hl,Nat.add_mul,Nat.one_mul,Nat.add_sub_cancel,List.take_of_length_le (by omega)]
theorem Own.take_ {α:Type} {s:Shape α} {e:TypeId} {w:World} {base g n cap:Nat} {l:List α} (h:Own s e w base (fun _=>False) (.slice (some ⟨g,0,none⟩) n cap) l) {k:Nat} (hk:k≤n):Own s e w base (fun _=>False) (.slice (some ⟨g,0,none⟩) k cap) (l.take k):=by
 obtain ⟨xs,⟨h1,h2⟩,hc,_⟩:=h
 rcases h2 with ⟨h,_⟩ | ⟨g',cap',cur,hv,hb,hg,hn,hm,hs,ht⟩
 ·cases h
 ·injection hv with e1 e2 e3
  injection e1 with e1
  injection e1 with e1
  subst e1 e3
  have hkl:(l.take k).length=k:=by rw [List.length_take]; omega
  refine ⟨xs.take (k*s.size),⟨?_,.inr ⟨g,cap,cur,by rw [hkl],hb,hg,by rw [hkl]; omega,hm,hs,?_⟩⟩,Cells.take_ k hc,fun _ h=>h.elim⟩
  ·rw [List.length_take,h1,hkl]
   have:k*s.size≤l.length*s.size:=Nat.mul_le_mul_right _ (by omega)
   omega
  ·rw [hkl,← ht,List.take_take]
   congr 1
   have:k*s.size≤l.length*s.size:=Nat.mul_le_mul_right _ (by omega)
   omega
end Go.Proofs.YtfhfcipelgogjaaGreatDoor
namespace Go.Proofs.YtfhfcipelgogjaaGreatDoor
open Go.RowKit
attribute [local go_sem] cell?_over frozen?_over lt_over le_over
theorem row_made (w:World) (l:List ByteArray) (e:TypeId) (hs:∀ x∈l,x.size≤maxLen):Row Shape.str (w.alloc (.cells (l.map Value.string).toArray e)) (fun b=>b=w.heap.size) (some ⟨w.heap.size,0,none⟩) l.length l:=by
 refine ⟨rfl,fun hn=>⟨w.heap.size,0,rfl,rfl,fun i hi=>⟨[.string l[i]],fun j hj=>?_,rfl,hs _ (List.getElem_mem hi)⟩⟩⟩
 have hj0:j=0:=by have:j<1:=hj; omega
 subst hj0
 simp [Shape.str,World.cell?_alloc_at,hi]
theorem targetSym {A:Option Addr} {n c:Nat} {l:List ByteArray} (s:ByteArray) (pol mn:Int) (w:World) (m:Int) (h:Row Shape.str w (Old w) A n l) (hn:n≤200000000) (hs:s.size≤100000000) (hm:w.cell? ⟨0,0,none⟩=some (.int .i64 m)) :
  Calls Tryz.prog 163 #[.slice A n c,.string s,.int .i64 pol,.int .i64 mn] w (SymEnd n s.data.toList pol mn w):=by
 have hsl:s.data.toList.length=s.size:=Lib.size_eq s |>.symm
 obtain ⟨E,hE⟩:∃ E,E=symE n s.data.toList pol mn:=⟨_,rfl⟩
 unfold SymEnd
 rw [← hE]
 unfold symE at hE
 by_cases hp:pol≠0∧pol≠1
 ·rw [if_pos hp] at hE
  have p0:(pol != 0)=true:=by rw [bne_iff_ne]; exact hp.1
  have p1:(pol != 1)=true:=by rw [bne_iff_ne]; exact hp.2
  subst hE
  clear hp h
  go_enter Tryz.func163,Tryz.ntmps163
  go_wp2_with fail
  go_step3
  go_wp2_with fail
  rw [Exit.noGoto_ret]
  go_ret2
  exact ⟨Below.refl _ _,_,rfl⟩
 rw [if_neg hp] at hE
 have hp2:pol=0∨pol=1:=by omega
 clear hp
 by_cases h0:s.data.toList=[]
 ·rw [if_pos h0] at hE
  have:=bytes_ext h0
  subst this
  subst hE
  clear h
  rcases hp2 with rfl | rfl <;> (
   go_enter Tryz.func163,Tryz.ntmps163
   go_wp2_with fail
   go_step3
   go_wp2_with fail
   rw [Exit.noGoto_ret]
   go_ret2
   exact ⟨Below.refl _ _,_,rfl⟩)
 rw [if_neg h0] at hE
 have t0:=empty_lit h0
 have hpos:0<s.size:=by
  rw [← hsl]; exact List.length_pos_iff.2 h0
 by_cases h1:mn<s.size
 ·rw [hsl,if_pos h1] at hE
  have t1:decide ((s.size:Int)>mn)=true:=by simpa using h1
  subst hE
  clear h0 hsl h
  rcases hp2 with rfl | rfl <;> (
   go_enter Tryz.func163,Tryz.ntmps163
   go_wp2_with fail
   go_step3
   go_wp2_with fail
   rw [Exit.noGoto_ret]
   go_ret2
   exact ⟨Below.refl _ _,_,rfl⟩)
 rw [hsl,if_neg h1] at hE
 have t1:decide ((s.size:Int)>mn)=false:=by simpa using h1
 have HIX:=Lib.hid (fun w=>Any.strings_IndexByte Tryz.lays137 s 0 w)
 have e0:((0:Int)).toNat.toUInt8=(0:UInt8):=rfl
 by_cases h2:(0:UInt8)∈s.data.toList
 ·rw [if_pos h2] at hE
  obtain ⟨k,hk⟩:∃ k:Nat,Lib.indexByte s.data.toList 0=k:=by
   rcases index_cases s.data.toList 0 with ⟨_,hn⟩ | ⟨k,_,h,_⟩
   ·exact absurd h2 hn
   ·exact ⟨k,h⟩
  rw [e0,hk] at HIX
  subst hE
  clear h0 hsl h1 h2 e0 hk h
  rcases hp2 with rfl | rfl <;> (
   go_enter Tryz.func163,Tryz.ntmps163
   go_wp2_with fail
   go_step3
   go_wp2_with fail
   refine (HIX.out _).mono ?_
   rintro e w' ⟨rfl,hw⟩
   rw [hw]; clear hw
   go_wp2_with fail
   rw [Exit.noGoto_ret]
   go_ret2
   exact ⟨Below.refl _ _,_,rfl⟩)
 rw [if_neg h2] at hE
 have hk:Lib.indexByte s.data.toList 0=-1:=by
  rcases index_cases s.data.toList 0 with ⟨h,_⟩ | ⟨k,h3,_,_,h4⟩
  ·exact h
  ·exact absurd (by rw [h4]; simp) h2
 rw [e0,hk] at HIX
 clear e0 hk
 rcases hp2 with rfl | rfl
 ·rw [if_pos rfl] at hE
  subst hE
  clear h0 hsl h1 h2 h
  go_enter Tryz.func163,Tryz.ntmps163
  go_wp2_with fail
  go_step3
  go_wp2_with fail
  refine (HIX.out _).mono ?_
  rintro e w' ⟨rfl,hw⟩
  rw [hw]; clear hw
  go_wp2_with fail
  rw [Exit.noGoto_ret]
  go_ret2
  exact ⟨Below.refl _ _,_,rfl⟩
 rw [if_neg (by decide),head_eq hpos] at hE
 by_cases h3:s[0]'hpos=47
 ·rw [if_pos (by rw [h3])] at hE
  have t3:(((s[0]'hpos).toNat:Int) == 47)=true:=by rw [h3]; rfl
  subst hE
  clear h0 hsl h1 h2 h3 h
  go_enter Tryz.func163,Tryz.ntmps163
  go_wp2_with fail
  go_step3
  go_wp2_with fail
  refine (HIX.out _).mono ?_
  rintro e w' ⟨rfl,hw⟩
  rw [hw]; clear hw
  go_wp2_with fail
  rw [Exit.noGoto_ret]
  go_ret2
  exact ⟨Below.refl _ _,_,rfl⟩
 rw [if_neg (by intro h; injection h with h; exact h3 h)] at hE
 have t3:(((s[0]'hpos).toNat:Int) == 47)=false:=by
  rw [beq_eq_false_iff_ne]
  intro h
  exact h3 (UInt8.toNat_inj.1 (by have:(47:UInt8).toNat=47:=rfl; omega))
 have HCL:=Lib.hid (fun c=>cloneOwn (c:=c) w h (by omega))
 obtain ⟨P,hP⟩:∃ P,P=splitW 47 s.data.toList:=⟨_,rfl⟩
 have WS:Hid (P.length≤100000001):=Lib.hid (by
  rw [hP,splitW_length]
  have:=List.count_le_length (a:=(47:UInt8)) (l:=s.data.toList)
  omega)
 have PS:Hid (∀ p∈P,p.length≤maxLen):=Lib.hid (fun p hp=>by have:=splitW_small (by rw [← hP]; exact hp); unfold maxLen; omega)
 have hln:=h.1
 have HW:=Lib.hid (fun w hm=>splitStroke s w m (by omega) hm)
 have HM:=Lib.hid hm
 rw [← hP] at HW hE
 have HE:=Lib.hid hE
 have WL:Hid (0<w.heap.size):=Lib.hid (World.block_lt_of_cell? _ _ hm)
 clear h0 hsl h1 h2 h3 h hm hE hP
 go_enter Tryz.func163,Tryz.ntmps163
 go_wp2_with fail
 go_step3
 go_wp2_with fail
 refine (HIX.out _).mono ?_
 rintro e w' ⟨rfl,hw⟩
 rw [hw]; clear hw
 go_wp2_with fail
 refine (HCL.out _).mono ?_
 rintro e w1 ⟨v,rfl,hown,hb⟩
 have hm1:=(hb.cell (p:=⟨0,0,none⟩) WL.out).trans HM.out
 have HW1:=Lib.hid (HW.out w1 hm1)
 have O1:=Lib.hid hown; have HB:=Lib.hid hb
 clear hown hb hm1
 obtain ⟨G,hG⟩:∃ G,G=w1.heap.size:=⟨_,rfl⟩
 have ROW0:=Lib.hid ((row_made w1 (textsL P) 9 (fun x hx=>by obtain ⟨p,hp,rfl⟩:=List.mem_map.1 hx; exact PS.out p hp)))
 rw [List.length_map,← hG] at ROW0
 rw [← hG] at HW1
 obtain ⟨W1,hW1⟩:∃ W,W=w1.alloc (.cells ((textsL P).map Value.string).toArray 9):=⟨_,rfl⟩
 have O2:Hid (Own Shape.str 9 W1 w.heap.size (fun _=>False) v l):=Lib.hid (by rw [hW1]; exact O1.out.alloc _)
 have NB:Hid (v.ownBlock≠some G):=Lib.hid (fun h=>by have:=O1.out.lt G h; omega)
 have GS:Hid (G<W1.heap.size):=Lib.hid (by rw [hW1,hG]; simp)
 have HB1:Hid (Below w.heap.size w W1):=Lib.hid (by rw [hW1]; exact HB.out.alloc HB.out.size _)
 rw [← hW1] at HW1 ROW0
 clear hW1 hG O1
 go_wp2_with fail
 go_step3
 go_wp2_with fail
 refine HW1.out.mono ?_
 rintro e w2 ⟨rfl,hw⟩
 rw [hw]; clear hw
 go_wp2_with fail
 go_loopw [10,44] (fun v it wr=>∃ (k:Nat) (lst:List ByteArray),it=.int .i64 k∧k≤P.length∧Own Shape.str 9 wr w.heap.size (fun _=>False) v lst∧lst.length≤n+k∧E=climb lst.length (P.drop k)∧Below w.heap.size w wr∧Row Shape.str wr (fun b=>b=G) (some ⟨G,0,none⟩) P.length (textsL P)∧v.ownBlock≠some G∧G<wr.heap.size) (fun _ it _=>P.length - (intOf it).toNat)
 case atStart=>exact ⟨0,l,rfl,Nat.zero_le _,O2.out,by omega,by rw [hln]; exact HE.out,HB1.out,ROW0.out,NB.out,GS.out⟩
 case round =>
  obtain ⟨k,lst,rfl,hk,hown,hll,hE,hbel,hrow,hnb,hgs⟩:=hrel
  have O:=Lib.hid hown; have HBK:=Lib.hid hbel; have ROW:=Lib.hid hrow; have NBK:=Lib.hid hnb; have HEK:=Lib.hid hE
  have hPn:P.length≤100000001:=WS.out
  clear hown hbel hrow hnb hE O2 HB1 ROW0 NB GS HE
  by_cases hlt:k<P.length
  ·obtain ⟨b,off,hl,hA,hbl,hcell,hsz⟩:=str_cell ROW.out hlt
   injection hA with hA
   injection hA with hA1 hA2
   subst hA1 hA2
   rw [Nat.zero_add] at hcell
   have hcl:=climb_drop hlt lst.length
   obtain ⟨p,hp⟩:∃ p,p=P[k]:=⟨_,rfl⟩
   rw [show (textsL P)[k]=⟨p.toArray⟩ by rw [hp]; simp] at hcell hsz
   rw [← hp] at hcl
   obtain ⟨x,hx⟩:∃ x,x=(⟨p.toArray⟩:ByteArray):=⟨_,rfl⟩
   rw [← hx] at hcell hsz
   have hpd:x.data.toList=p:=by rw [hx]
   have HX:=Lib.hid hx
   clear hx hbl hp
   by_cases hkp:keepP p=false
   ·rw [if_pos hkp] at hcl
    have HCLB:=Lib.hid (HEK.out.trans hcl)
    clear hcl hsz
    unfold keepP at hkp
    simp only [Bool.not_eq_false',Bool.or_eq_true,beq_iff_eq] at hkp
    rcases hkp with rfl | rfl <;> (
     have hxl:=bytes_ext hpd
     subst hxl
     clear hpd
     go_wp2_with fail
     go_roundw
     case rel=>exact ⟨k+1,lst,by go_num,by omega,O.out,by omega,HCLB.out,HBK.out,ROW.out,NBK.out,hgs⟩
     case measure=>simp [intOf]; omega)
   ·rw [if_neg hkp] at hcl
    have hne:p≠[]∧p≠[46]:=by
     unfold keepP at hkp
     simp at hkp
     exact hkp
    have t0':=empty_lit (s:=x) (by rw [hpd]; exact hne.1)
    have t1':=list_lit (s:=x) (l:=[46]) (by rw [hpd]; exact hne.2)
    clear hkp hne
    by_cases hdd:p=[46,46]
    ·rw [if_pos hdd] at hcl
     have t2':(x.toList == [46,46])=true:=by rw [Lib.toList_data,hpd,hdd]; rfl
     have HCLB:=Lib.hid (HEK.out.trans hcl)
     clear hcl hsz hpd hdd
     rcases O.out.form with ⟨hv,hl0⟩ | ⟨g,cap,hv,hg1,hg2,hcap,hcm⟩
     ·subst hv hl0
      have hE:E=101:=HCLB.out
      subst hE
      go_wp2_with fail
      go_ret2
      exact ⟨HBK.out,_,rfl⟩
     ·subst hv
      by_cases hz:lst.length=0
      ·have hE:E=101:=by rw [HCLB.out,if_pos hz]
       subst hE
       have t5:((lst.length:Int) == 0)=true:=by rw [hz]; rfl
       go_wp2_with fail
       go_ret2
       exact ⟨HBK.out,_,rfl⟩
      ·have hE:E=climb (lst.length - 1) (P.drop (k+1)):=by rw [HCLB.out,if_neg hz]
       have HE2:=Lib.hid hE
       have t5:((lst.length:Int) == 0)=false:=by rw [beq_eq_false_iff_ne]; omega
       have OT:=Lib.hid (Own.take_ O.out (k:=lst.length - 1) (by omega))
       have NB2:Hid ((Value.slice (some ⟨g,0,none⟩) (lst.length - 1) cap).ownBlock≠some G):=Lib.hid NBK.out
       have tn:((lst.length:Int) - 1).toNat=lst.length - 1:=by omega
       have tl:(lst.take (lst.length - 1)).length=lst.length - 1:=by rw [List.length_take]; omega
       have TL:=Lib.hid tl
       clear hE tl
       go_wp2_with fail
       go_roundw
       case rel=>exact ⟨k+1,lst.take (lst.length - 1),by go_num,by omega,OT.out,by rw [TL.out]; omega,by rw [TL.out]; exact HE2.out,HBK.out,ROW.out,NB2.out,hgs⟩
       case measure=>simp [intOf]; omega
    ·rw [if_neg hdd] at hcl
     have t2':=list_lit (s:=x) (l:=[46,46]) (by rw [hpd]; exact hdd)
     have HCLB:=Lib.hid (HEK.out.trans hcl)
     clear hcl hpd hdd
     go_wp2_with (at_builtin; go_loud (refine wpList_append_one (v:=u10) flat_str rfl (.tmp 49) (.tmp 51) _ rfl elem_strS rfl O.out (es:=[.string x]) (b:=x) rfl ⟨rfl,hsz⟩ (by omega) (by unfold maxLen; omega) HBK.out.size ?_))
     intro v' w3 hown2 hg2 hsz2 hat2
     have O2:=Lib.hid hown2
     have HB3:=Lib.hid (HBK.out.grown hg2 HBK.out.size (fun n hn=>(O.out.lt n hn).1))
     have ROW3:=Lib.hid (ROW.out.keep (fun b hb=>by subst hb; exact hg2.block _ hgs (fun e=>NBK.out e.symm)))
     have NB3:Hid (v'.ownBlock≠some G):=Lib.hid (fun h=>by
      rcases hat2 with e | e
      ·exact NBK.out (e.symm.trans h)
      ·rw [e] at h; injection h with h; omega)
     have hgs3:G<w3.heap.size:=by omega
     clear hown2 hg2 hsz2 hat2
     go_wp2_with fail
     go_roundw
     case rel=>exact ⟨k+1,lst++[x],by go_num,by omega,O2.out,by simp; omega,by rw [List.length_append]; exact HCLB.out,HB3.out,ROW3.out,NB3.out,hgs3⟩
     case measure=>simp [intOf]; omega
  ·have hkn:k=P.length:=by omega
   have hE:E=0:=by rw [HEK.out,List.drop_eq_nil_of_le (by omega)]; rfl
   subst hE
   subst hkn
   go_wp2_with fail
   rw [Exit.noGoto_ret]
   go_ret2
   exact ⟨HBK.out,_,rfl⟩
end Go.Proofs.YtfhfcipelgogjaaGreatDoor
namespace Go.Proofs.YtfhfcipelgogjaaGreatDoor
open Go.RowKit
attribute [local go_sem] cell?_over frozen?_over lt_over le_over
def hardE (l:List UInt8) (mn md st:Int):Int:=if routeE l mn md≠0 then routeE l mn md else if (partsOf l).drop st.toNat=[] then 97 else 0
def HardEnd (l:List UInt8) (mn md st:Int) (w:World) (e:Ending) (w':World):Prop:=
 Below w.heap.size w w'∧((hardE l mn md st≠0∧e=.returned (.tuple #[.slice none 0 0,.int .i64 (hardE l mn md st)]))∨(hardE l mn md st=0∧∃ v,e=.returned (.tuple #[v,.int .i64 0])∧TextsN w w' v (textsL ((partsOf l).drop st.toNat))))
theorem parts_size {l:List UInt8} (h:l.length≤100000000):(partsOf l).length≤1000000000:=by
 have:=parts_len l
 omega
theorem targetHard (s:ByteArray) (mn md st:Int) (w:World) (m:Int) (hs:s.size≤100000000) (hm:w.cell? ⟨0,0,none⟩=some (.int .i64 m)) :
  Calls Tryz.prog 164 #[.string s,.int .i64 mn,.int .i64 md,.int .i64 st] w (HardEnd s.data.toList mn md st w):=by
 have hsl:s.data.toList.length=s.size:=Lib.size_eq s |>.symm
 have PS:=Lib.hid (parts_size (l:=s.data.toList) (by omega))
 have HS:=Lib.hid (routeSplit s mn md w m hs hm)
 obtain ⟨E,hE⟩:∃ E,E=hardE s.data.toList mn md st:=⟨_,rfl⟩
 unfold HardEnd
 rw [← hE]
 unfold hardE at hE
 obtain ⟨P,hP⟩:∃ P,P=partsOf s.data.toList:=⟨_,rfl⟩
 obtain ⟨R,hR⟩:∃ R,R=routeE s.data.toList mn md:=⟨_,rfl⟩
 unfold RouteEnd at HS
 rw [← hP] at PS HS hE ⊢
 rw [← hR] at HS hE
 obtain ⟨D,hD⟩:∃ D,D=P.drop st.toNat:=⟨_,rfl⟩
 rw [← hD] at hE ⊢
 have HE:=Lib.hid hE; have HD:=Lib.hid hD
 clear hE hP hR hsl hD hm
 go_enter Tryz.func164,Tryz.ntmps164
 go_wp2_with fail
 refine HS.out.mono ?_
 rintro e w1 ⟨hb,hm⟩
 have HB:=Lib.hid hb
 clear hb HS
 rcases hm with ⟨hne,rfl⟩ | ⟨hz,A,c,hc,rfl,hrow⟩
 ·have tR:(R != 0)=true:=by rw [bne_iff_ne]; exact hne
  have hE:=HE.out
  rw [if_pos hne] at hE
  subst hE
  have NE:=Lib.hid hne
  clear hne HE
  go_wp2_with fail
  go_ret2
  exact ⟨HB.out,.inl ⟨NE.out,rfl⟩⟩
 ·subst hz
  have hE:=HE.out
  rw [if_neg (fun h=>h rfl)] at hE
  have HST:=Lib.hid (routeStrip (c:=c) st w1 hrow PS.out hc)
  have HE2:=Lib.hid hE
  clear hE HE hc hrow
  go_wp2_with fail
  refine HST.out.mono ?_
  rintro e w2 ⟨hb2,hm⟩
  have HB2:=Lib.hid (below_old HB.out hb2); have hsz0:=HB.out.size
  clear hb2 HST
  rcases hm with ⟨h1,h2,rfl⟩ | ⟨_,v,rfl,hv⟩
  ·have hd:D=[]:=by rw [HD.out]; exact List.drop_eq_nil_of_le (by simp at h2; omega)
   have hE:=HE2.out
   rw [if_pos hd] at hE
   subst hE
   clear hd h1 h2 HE2
   go_wp2_with fail
   go_ret2
   first | exact ⟨HB2.out,.inl ⟨by decide,rfl⟩⟩ | exact ⟨HB2.out,rfl⟩
  ·rw [← List.map_drop,← HD.out] at hv
   have hv:=hv.from_ hsz0
   have hE:=HE2.out
   obtain ⟨A2,c2,hc2,rfl,hrow2⟩:=hv
   rw [List.length_map] at hc2 hrow2
   rw [List.length_map]
   have HC2:=Lib.hid hc2; have HR2:=Lib.hid hrow2
   by_cases hDn:D=[]
   ·rw [if_pos hDn] at hE
    subst hE
    have t6:((D.length:Int) == 0)=true:=by rw [hDn]; rfl
    clear hDn HE2 hc2 hrow2
    go_wp2_with fail
    go_ret2
    first | exact ⟨HB2.out,.inl ⟨by decide,rfl⟩⟩ | exact ⟨HB2.out,rfl⟩
   ·rw [if_neg hDn] at hE
    subst hE
    have t6:((D.length:Int) == 0)=false:=by
     rw [beq_eq_false_iff_ne]
     intro h
     exact hDn (List.eq_nil_of_length_eq_zero (by omega))
    have t7:¬ D.length=0:=fun h=>hDn (List.eq_nil_of_length_eq_zero h)
    clear hDn HE2 hc2 hrow2
    go_wp2_with fail
    go_ret2
    have TV:TextsN w w2 (.slice A2 D.length c2) (textsL D):=⟨A2,c2,by rw [List.length_map]; exact HC2.out,by rw [List.length_map],by rw [List.length_map]; exact HR2.out⟩
    first | exact ⟨HB2.out,.inr ⟨rfl,_,rfl,TV⟩⟩ | exact ⟨HB2.out,_,rfl,TV⟩
end Go.Proofs.YtfhfcipelgogjaaGreatDoor
namespace Go.Proofs.YtfhfcipelgogjaaGreatDoor
open Go.RowKit
attribute [local go_sem] cell?_over frozen?_over lt_over le_over
abbrev bv (x:Int):BitVec 64:=BitVec.ofInt 64 x
def settleB (x u:BitVec 64) (keep:Bool):BitVec 64:=(if keep then x &&& 4095#64 else (x &&& 4095#64) &&& ~~~3072#64) &&& ~~~(u &&& 511#64)
def settleV (mode umask:Int) (keep:Bool):Int:=((settleB (bv mode) (bv umask) keep).toNat:Int)
theorem bv_nat (v:BitVec 64):bv ((v.toNat:Nat):Int)=v:=by
 apply BitVec.eq_of_toNat_eq
 rw [BitVec.toNat_ofInt]
 have:=v.isLt
 omega
theorem wrap_bv (v:BitVec 64) (h:v.toNat<9223372036854775808):IntKind.i64.wrap (v.toNat:Int)=v.toNat:=by
 rw [IntKind.wrap_i64]; omega
theorem bv_and_lt (x:BitVec 64) (m:BitVec 64):(x &&& m).toNat≤m.toNat:=by
 rw [BitVec.toNat_and]; exact Nat.and_le_right
theorem bits_and_lit (x m:Int) (hm:(bv m).toNat<9223372036854775808):bits .and .i64 x m=((bv x &&& bv m).toNat:Int):=by
 show IntKind.i64.wrap (BitVec.ofInt 64 x &&& BitVec.ofInt 64 m).toNat=_
 exact wrap_bv _ (Nat.lt_of_le_of_lt (bv_and_lt _ _) hm)
theorem bits_andNot_nat (v:BitVec 64) (m:Int) (hv:v.toNat<9223372036854775808):bits .andNot .i64 (v.toNat:Int) m=((v &&& ~~~(bv m)).toNat:Int):=by
 show IntKind.i64.wrap (BitVec.ofInt 64 (v.toNat:Int) &&& ~~~(BitVec.ofInt 64 m)).toNat=_
 rw [show BitVec.ofInt 64 (v.toNat:Int)=v from bv_nat v]
 refine wrap_bv _ (Nat.lt_of_le_of_lt ?_ hv)
 rw [BitVec.toNat_and]; exact Nat.and_le_left
theorem settle_lt (x u:BitVec 64) (keep:Bool):(settleB x u keep).toNat<4096:=by
 have h1:∀ a b:BitVec 64,(a &&& b).toNat≤a.toNat:=fun a b=>by rw [BitVec.toNat_and]; exact Nat.and_le_left
 have h2:=bv_and_lt x 4095#64
 have h3:(4095#64).toNat=4095:=rfl
 unfold settleB
 cases keep
 ·have h4:=h1 (x &&& 4095#64) (~~~3072#64)
  have h5:=h1 ((x &&& 4095#64) &&& ~~~3072#64) (~~~(u &&& 511#64))
  simp only [Bool.false_eq_true,if_false]
  omega
 ·have h5:=h1 (x &&& 4095#64) (~~~(u &&& 511#64))
  simp only [if_true]
  omega
theorem permsSettle (mode umask:Int) (keep:Bool) (w:World) :
  Calls Tryz.prog 165 #[.int .i64 mode,.int .i64 umask,.bool keep] w fun e w'=>e=.returned (.int .i64 (settleV mode umask keep))∧w'=w:=by
 have e1:=bits_and_lit mode 4095 (by decide)
 have e2:=bits_and_lit umask 511 (by decide)
 have l1:(bv mode &&& bv 4095).toNat<9223372036854775808:=Nat.lt_of_le_of_lt (bv_and_lt _ _) (by decide)
 have e3:=bits_andNot_nat (bv mode &&& bv 4095) 3072 l1
 have l2:((bv mode &&& bv 4095) &&& ~~~(bv 3072)).toNat<9223372036854775808:=Nat.lt_of_le_of_lt (by rw [BitVec.toNat_and (bv mode &&& bv 4095)]; exact Nat.and_le_left) l1
 have e4:=bits_andNot_nat (bv mode &&& bv 4095) ((bv umask &&& bv 511).toNat:Int) l1
 have e5:=bits_andNot_nat ((bv mode &&& bv 4095) &&& ~~~(bv 3072)) ((bv umask &&& bv 511).toNat:Int) l2
 rw [bv_nat] at e4 e5
 obtain ⟨R,hR⟩:∃ R,R=settleV mode umask keep:=⟨_,rfl⟩
 rw [← hR]
 unfold settleV settleB at hR
 have b1:bv 4095=4095#64:=rfl
 have b2:bv 511=511#64:=rfl
 have b3:bv 3072=3072#64:=rfl
 rw [b1,b2] at e4
 rw [b1,b2,b3] at e5
 rw [b1] at e1
 rw [b2] at e2
 rw [b1,b3] at e3
 obtain ⟨a,ha⟩:∃ a:Int,a=((bv mode &&& 4095#64).toNat:Int):=⟨_,rfl⟩
 obtain ⟨u,hu⟩:∃ a:Int,a=((bv umask &&& 511#64).toNat:Int):=⟨_,rfl⟩
 obtain ⟨d,hd⟩:∃ a:Int,a=(((bv mode &&& 4095#64) &&& ~~~3072#64).toNat:Int):=⟨_,rfl⟩
 rw [← ha] at e1 e3 e4
 rw [← hu] at e2 e4 e5
 rw [← hd] at e3 e5
 clear l1 l2 ha hu hd b1 b2 b3
 cases keep with
 | true =>
  simp only [if_true] at hR
  rw [← hR] at e4
  clear hR e3 e5
  go_enter Tryz.func165,Tryz.ntmps165
  go_wp2_with fail
  go_ret
  exact ⟨rfl,rfl⟩
 | false =>
  simp only [Bool.false_eq_true,if_false] at hR
  rw [← hR] at e5
  clear hR e4
  go_enter Tryz.func165,Tryz.ntmps165
  go_wp2_with fail
  go_ret
  exact ⟨rfl,rfl⟩
end Go.Proofs.YtfhfcipelgogjaaGreatDoor
