/- Nodes of a graph, one by one: whether a node is sound. No condition. -/
import Derived.Test.YtfhfcipelgogjaaGreatDoorDataAll
import Derived.Test.YtfhfcipelgogjaaGreatDoorLayIx
import Derived.Test.YtfhfcipelgogjaaGreatDoorBaseAt
import Derived.Test.YtfhfcipelgogjaaGreatDoorRouteAll
import Derived.Shelf.Small.Strs
set_option linter.unusedVariables false
set_option linter.unusedSimpArgs false
set_option maxHeartbeats 1000000
set_option maxRecDepth 100000
namespace Go.Proofs.YtfhfcipelgogjaaGreatDoor
open Go.RowKit
attribute [local go_sem] cell?_over frozen?_over lt_over le_over
def withinB (v lo hi:Int):Bool:=decide (lo≤v) && decide (v≤hi)
theorem graphWithin (v lo hi:Int) (w:World):Calls Tryz.prog 134 #[.int .i64 v,.int .i64 lo,.int .i64 hi] w fun e w'=>e=.returned (.bool (withinB v lo hi))∧w'=w:=by
 obtain ⟨E,hE⟩:∃ E,E=withinB v lo hi:=⟨_,rfl⟩
 rw [← hE]
 unfold withinB at hE
 by_cases h1:lo≤v
 ·have t1:decide (v≥lo)=true:=by simpa using h1
  rw [decide_eq_true h1,Bool.true_and] at hE
  have HE:=Lib.hid hE
  clear h1 hE
  go_enter Tryz.func134,Tryz.ntmps134
  go_wp2_with fail
  go_ret
  exact ⟨by rw [HE.out]; rfl,rfl⟩
 ·have t1:decide (v≥lo)=false:=by simpa using h1
  rw [decide_eq_false h1,Bool.false_and] at hE
  subst hE
  clear h1
  go_enter Tryz.func134,Tryz.ntmps134
  go_wp2_with fail
  go_ret
  exact ⟨rfl,rfl⟩
def textB (kind:Int) (t:ByteArray):Bool:=if kind=3 then decide (0<t.size∧t.size≤4096∧(0:UInt8)∉t.data.toList) else decide (t.size=0)
def NodeAt (w:World) (b off:Nat) (es:List Value) (d:NodeD):Prop:=(∀ j,j<10→w.cell? ⟨b,off+j,none⟩=es[j]?)∧NodeD.rd w (Old w) es d∧b<w.heap.size
theorem NodeAt.cells {w:World} {b off:Nat} {es:List Value} {d:NodeD} (h:NodeAt w b off es d):∃ (A1:Option Addr) (n1 c1:Nat) (A2:Option Addr) (n2 c2:Nat),es=[.int .i64 d.id,.int .i64 d.kind,.int .i64 d.mode,.int .i64 d.uid,.int .i64 d.gid,.int .i64 d.mtime.sec,.int .i64 d.mtime.nano,.slice A1 n1 c1,.string d.target,.slice A2 n2 c2]∧n1=d.data.length∧n2=d.ents.length∧n1≤c1∧n2≤c2∧c1≤maxLen∧c2≤maxLen∧Row Shape.byte w (Old w) A1 n1 d.data∧Row Shape.EntD w (Old w) A2 n2 d.ents:=by
 obtain ⟨_,hr,_⟩:=h
 obtain ⟨A1,n1,c1,A2,n2,c2,e,_,_,_,_,_,_,_,a1,a2,r1,_,a3,a4,r2⟩:=hr
 exact ⟨A1,n1,c1,A2,n2,c2,e,r1.1.symm,r2.1.symm,a1,a3,a2,a4,r1,r2⟩
theorem NodeAt.below {w w':World} {b off:Nat} {es:List Value} {d:NodeD} (h:NodeAt w b off es d) (hb:Below w.heap.size w w'):NodeAt w' b off es d:=
 ⟨fun j hj=>(hb.cell (p:=⟨b,off+j,none⟩) h.2.2).trans (h.1 j hj),Shape.NodeD.more (Shape.NodeD.keep h.2.1 (Keeps.old hb)) fun _ hn=>Old.below hb hn,Nat.lt_of_lt_of_le h.2.2 hb.size⟩
theorem size_list (s:ByteArray):s.data.toList.length=s.size:=Lib.size_eq s |>.symm
theorem isEmpty_size (s:ByteArray):s.toList.isEmpty=decide (s.size=0):=by
 rw [Lib.toList_data,← size_list]
 cases s.data.toList with
 | nil=>rfl
 | cons a l=>simp
theorem graphText {w:World} {b off:Nat} {es:List Value} {d:NodeD} (h:NodeAt w b off es d):Calls Tryz.prog 135 #[.pointer (some ⟨b,off,none⟩)] w fun e w'=>e=.returned (.bool (textB d.kind d.target))∧Below w.heap.size w w':=by
 have k1:=h.1 1 (by decide); have k8:=h.1 8 (by decide)
 have lb:=h.2.2
 obtain ⟨A1,n1,c1,A2,n2,c2,rfl,-⟩:=h.cells
 simp only [List.getElem?_cons_succ,List.getElem?_cons_zero] at k1 k8
 clear h
 obtain ⟨E,hE⟩:∃ E,E=textB d.kind d.target:=⟨_,rfl⟩
 rw [← hE]
 unfold textB at hE
 by_cases h3:d.kind=3
 ·rw [if_pos h3] at hE
  have t1:(d.kind != 3)=false:=by rw [h3]; rfl
  have HIX:=Lib.hid (fun w=>Any.strings_IndexByte Tryz.lays137 d.target 0 w)
  by_cases h0:d.target.size=0
  ·have t2:d.target.toList.isEmpty=true:=by rw [isEmpty_size]; simpa using h0
   have e1:E=false:=by rw [hE,decide_eq_false]; omega
   subst e1
   clear hE h0 h3
   go_enter Tryz.func135,Tryz.ntmps135
   go_wp2_with fail
   go_ret
   exact ⟨rfl,Below.refl _ _⟩
  ·have t2:d.target.toList.isEmpty=false:=by rw [isEmpty_size]; simpa using h0
   by_cases h4:d.target.size≤4096
   ·have t3:decide ((d.target.size:Int)≤4096)=true:=by first | (simp; done) | (simp; omega)
    have e0:((0:Int)).toNat.toUInt8=(0:UInt8):=rfl
    rcases index_cases d.target.data.toList 0 with ⟨hi,hn⟩ | ⟨k,hk,hi,_,heq⟩
    ·have e1:E=true:=by rw [hE,decide_eq_true]; exact ⟨by omega,h4,hn⟩
     subst e1
     rw [e0,hi] at HIX
     clear hE h0 h3 h4 hn hi e0
     go_enter Tryz.func135,Tryz.ntmps135
     go_wp2_with fail
     refine (HIX.out _).mono ?_
     rintro e w' ⟨rfl,hw⟩
     rw [hw]; clear hw
     go_wp2_with fail
     go_ret
     exact ⟨rfl,Below.refl _ _⟩
    ·have hm:(0:UInt8)∈d.target.data.toList:=by rw [heq]; simp
     have e1:E=false:=by rw [hE,decide_eq_false]; exact fun h=>h.2.2 hm
     subst e1
     rw [e0,hi] at HIX
     clear hE h0 h3 h4 hi e0 hm heq
     go_enter Tryz.func135,Tryz.ntmps135
     go_wp2_with fail
     refine (HIX.out _).mono ?_
     rintro e w' ⟨rfl,hw⟩
     rw [hw]; clear hw
     go_wp2_with fail
     go_ret
     exact ⟨by first | rfl | (simp; done),Below.refl _ _⟩
   ·have t3:decide ((d.target.size:Int)≤4096)=false:=by first | (simp; done) | (simp; omega)
    have e1:E=false:=by rw [hE,decide_eq_false]; omega
    subst e1
    clear hE h0 h3 h4
    go_enter Tryz.func135,Tryz.ntmps135
    go_wp2_with fail
    go_ret
    exact ⟨rfl,Below.refl _ _⟩
 ·rw [if_neg h3,← isEmpty_size] at hE
  have t1:(d.kind != 3)=true:=by rw [bne_iff_ne]; exact h3
  have HE:=Lib.hid hE
  clear h3 hE
  go_enter Tryz.func135,Tryz.ntmps135
  go_wp2_with fail
  go_ret
  exact ⟨by rw [HE.out]; rfl,Below.refl _ _⟩
def soundB (d:NodeD):Bool:=withinB d.kind 1 3 && withinB d.mode 0 4095 && withinB d.uid 0 2147483647 && withinB d.gid 0 2147483647 && !(decide (d.kind≠1∧0<d.data.length) || decide (d.kind≠2∧0<d.ents.length)) && stampOk d.mtime.sec d.mtime.nano && textB d.kind d.target
theorem graphSound {w:World} {b off:Nat} {es:List Value} {d:NodeD} (h:NodeAt w b off es d):Calls Tryz.prog 88 #[.pointer (some ⟨b,off,none⟩)] w fun e w'=>e=.returned (.bool (soundB d))∧Below w.heap.size w w':=by
 have HN:=Lib.hid h
 have k1:=h.1 1 (by decide); have k2:=h.1 2 (by decide); have k3:=h.1 3 (by decide); have k4:=h.1 4 (by decide); have k5:=h.1 5 (by decide); have k6:=h.1 6 (by decide); have k7:=h.1 7 (by decide); have k9:=h.1 9 (by decide)
 have lb:=h.2.2
 obtain ⟨A1,n1,c1,A2,n2,c2,rfl,hn1,hn2,-⟩:=h.cells
 simp only [List.getElem?_cons_succ,List.getElem?_cons_zero] at k1 k2 k3 k4 k5 k6 k7 k9
 clear h
 obtain ⟨E,hE⟩:∃ E,E=soundB d:=⟨_,rfl⟩
 rw [← hE]
 unfold soundB at hE
 rw [← hn1,← hn2] at hE
 have HV:=Lib.hid (fun w=>stampValid d.mtime.sec d.mtime.nano w)
 obtain ⟨x6,h6⟩:∃ x,x=stampOk d.mtime.sec d.mtime.nano:=⟨_,rfl⟩
 obtain ⟨x7,h7⟩:∃ x,x=textB d.kind d.target:=⟨_,rfl⟩
 rw [← h6] at HV hE
 rw [← h7] at hE
 have H7:=Lib.hid h7
 have C1:=Lib.hid (fun w=>graphWithin d.kind 1 3 w)
 obtain ⟨x1,h1⟩:∃ x,x=withinB d.kind 1 3:=⟨_,rfl⟩
 rw [← h1] at C1 hE
 have C2:=Lib.hid (fun w=>graphWithin d.mode 0 4095 w)
 obtain ⟨x2,h2⟩:∃ x,x=withinB d.mode 0 4095:=⟨_,rfl⟩
 rw [← h2] at C2 hE
 have C3:=Lib.hid (fun w=>graphWithin d.uid 0 2147483647 w)
 obtain ⟨x3,h3⟩:∃ x,x=withinB d.uid 0 2147483647:=⟨_,rfl⟩
 rw [← h3] at C3 hE
 have C4:=Lib.hid (fun w=>graphWithin d.gid 0 2147483647 w)
 obtain ⟨x4,h4⟩:∃ x,x=withinB d.gid 0 2147483647:=⟨_,rfl⟩
 rw [← h4] at C4 hE
 clear h1 h2 h3 h4 h6 h7 hn1 hn2
 cases x1 with
 | false =>
  simp only [Bool.false_and,Bool.and_false] at hE
  subst hE
  go_enter Tryz.func88,Tryz.ntmps88
  go_wp2_with fail
  refine (C1.out _).mono ?_
  rintro e w' ⟨rfl,hw⟩
  rw [hw]; clear hw
  go_wp2_with fail
  go_ret
  exact ⟨rfl,Below.refl _ _⟩
 | true =>
 cases x2 with
 | false =>
  simp only [Bool.false_and,Bool.and_false] at hE
  subst hE
  go_enter Tryz.func88,Tryz.ntmps88
  go_wp2_with fail
  refine (C1.out _).mono ?_
  rintro e w' ⟨rfl,hw⟩
  rw [hw]; clear hw
  go_wp2_with fail
  refine (C2.out _).mono ?_
  rintro e w' ⟨rfl,hw⟩
  rw [hw]; clear hw
  go_wp2_with fail
  go_ret
  exact ⟨rfl,Below.refl _ _⟩
 | true =>
 cases x3 with
 | false =>
  simp only [Bool.false_and,Bool.and_false] at hE
  subst hE
  go_enter Tryz.func88,Tryz.ntmps88
  go_wp2_with fail
  refine (C1.out _).mono ?_
  rintro e w' ⟨rfl,hw⟩
  rw [hw]; clear hw
  go_wp2_with fail
  refine (C2.out _).mono ?_
  rintro e w' ⟨rfl,hw⟩
  rw [hw]; clear hw
  go_wp2_with fail
  refine (C3.out _).mono ?_
  rintro e w' ⟨rfl,hw⟩
  rw [hw]; clear hw
  go_wp2_with fail
  go_ret
  exact ⟨rfl,Below.refl _ _⟩
 | true =>
 cases x4 with
 | false =>
  simp only [Bool.false_and,Bool.and_false] at hE
  subst hE
  go_enter Tryz.func88,Tryz.ntmps88
  go_wp2_with fail
  refine (C1.out _).mono ?_
  rintro e w' ⟨rfl,hw⟩
  rw [hw]; clear hw
  go_wp2_with fail
  refine (C2.out _).mono ?_
  rintro e w' ⟨rfl,hw⟩
  rw [hw]; clear hw
  go_wp2_with fail
  refine (C3.out _).mono ?_
  rintro e w' ⟨rfl,hw⟩
  rw [hw]; clear hw
  go_wp2_with fail
  refine (C4.out _).mono ?_
  rintro e w' ⟨rfl,hw⟩
  rw [hw]; clear hw
  go_wp2_with fail
  go_ret
  exact ⟨rfl,Below.refl _ _⟩
 | true =>
 simp only [Bool.true_and] at hE
 by_cases a1:d.kind=1
 ·have t1:(d.kind != 1)=false:=by rw [a1]; rfl
  have t2:(d.kind != 2)=true:=by rw [a1]; rfl
  by_cases a2:n2=0
  ·have p0:decide (d.kind≠1∧0<n1)=false:=by first | (simp; done) | (simp; omega)
   have q0:decide (d.kind≠2∧0<n2)=false:=by first | (simp; done) | (simp; omega)
   have u2:decide (0<n2)=false:=by first | (simp; done) | (simp; omega)
   have PQ:(!(decide (d.kind≠1∧0<n1) || decide (d.kind≠2∧0<n2)))=true:=by rw [p0,q0]; rfl
   have e0:E=(x6 && x7):=by rw [hE,PQ]; simp
   clear hE PQ p0 q0 a1 a2
   cases x6 with
   | false =>
    simp only [Bool.false_and] at e0
    subst e0
    go_enter Tryz.func88,Tryz.ntmps88
    go_wp2_with fail
    refine (C1.out _).mono ?_
    rintro e w' ⟨rfl,hw⟩
    rw [hw]; clear hw
    go_wp2_with fail
    refine (C2.out _).mono ?_
    rintro e w' ⟨rfl,hw⟩
    rw [hw]; clear hw
    go_wp2_with fail
    refine (C3.out _).mono ?_
    rintro e w' ⟨rfl,hw⟩
    rw [hw]; clear hw
    go_wp2_with fail
    refine (C4.out _).mono ?_
    rintro e w' ⟨rfl,hw⟩
    rw [hw]; clear hw
    go_wp2_with fail
    refine (HV.out _).mono ?_
    rintro e w1 ⟨rfl,hb1⟩
    have B1:=Lib.hid hb1
    clear hb1
    go_wp2_with fail
    go_ret
    exact ⟨rfl,B1.out⟩
   | true =>
    simp only [Bool.true_and] at e0
    subst e0
    go_enter Tryz.func88,Tryz.ntmps88
    go_wp2_with fail
    refine (C1.out _).mono ?_
    rintro e w' ⟨rfl,hw⟩
    rw [hw]; clear hw
    go_wp2_with fail
    refine (C2.out _).mono ?_
    rintro e w' ⟨rfl,hw⟩
    rw [hw]; clear hw
    go_wp2_with fail
    refine (C3.out _).mono ?_
    rintro e w' ⟨rfl,hw⟩
    rw [hw]; clear hw
    go_wp2_with fail
    refine (C4.out _).mono ?_
    rintro e w' ⟨rfl,hw⟩
    rw [hw]; clear hw
    go_wp2_with fail
    refine (HV.out _).mono ?_
    rintro e w1 ⟨rfl,hb1⟩
    have B1:=Lib.hid hb1
    clear hb1
    go_wp2_with fail
    refine (graphText (HN.out.below B1.out)).mono ?_
    rintro e w2 ⟨rfl,hb2⟩
    have B2:=Lib.hid (below_old B1.out hb2)
    clear hb2
    go_wp2_with fail
    go_ret
    exact ⟨by rw [← H7.out]; rfl,B2.out⟩
  ·have u2:decide (0<n2)=true:=by first | (simp; done) | (simp; omega)
   have e0:E=false:=by rw [hE]; have:(!(decide (d.kind≠1∧0<n1) || decide (d.kind≠2∧0<n2)))=false:=by { first | (simp; done) | (simp; omega) }; rw [this]; rfl
   subst e0
   clear hE a1 a2
   go_enter Tryz.func88,Tryz.ntmps88
   go_wp2_with fail
   refine (C1.out _).mono ?_
   rintro e w' ⟨rfl,hw⟩
   rw [hw]; clear hw
   go_wp2_with fail
   refine (C2.out _).mono ?_
   rintro e w' ⟨rfl,hw⟩
   rw [hw]; clear hw
   go_wp2_with fail
   refine (C3.out _).mono ?_
   rintro e w' ⟨rfl,hw⟩
   rw [hw]; clear hw
   go_wp2_with fail
   refine (C4.out _).mono ?_
   rintro e w' ⟨rfl,hw⟩
   rw [hw]; clear hw
   go_wp2_with fail
   go_ret
   exact ⟨rfl,Below.refl _ _⟩
 by_cases a2:d.kind=2
 ·have t1:(d.kind != 1)=true:=by rw [a2]; rfl
  have t2:(d.kind != 2)=false:=by rw [a2]; rfl
  by_cases a3:n1=0
  ·have p0:decide (d.kind≠1∧0<n1)=false:=by first | (simp; done) | (simp; omega)
   have q0:decide (d.kind≠2∧0<n2)=false:=by first | (simp; done) | (simp; omega)
   have u1:decide (0<n1)=false:=by first | (simp; done) | (simp; omega)
   have PQ:(!(decide (d.kind≠1∧0<n1) || decide (d.kind≠2∧0<n2)))=true:=by rw [p0,q0]; rfl
   have e0:E=(x6 && x7):=by rw [hE,PQ]; simp
   clear hE PQ p0 q0 a1 a2 a3
   cases x6 with
   | false =>
    simp only [Bool.false_and] at e0
    subst e0
    go_enter Tryz.func88,Tryz.ntmps88
    go_wp2_with fail
    refine (C1.out _).mono ?_
    rintro e w' ⟨rfl,hw⟩
    rw [hw]; clear hw
    go_wp2_with fail
    refine (C2.out _).mono ?_
    rintro e w' ⟨rfl,hw⟩
    rw [hw]; clear hw
    go_wp2_with fail
    refine (C3.out _).mono ?_
    rintro e w' ⟨rfl,hw⟩
    rw [hw]; clear hw
    go_wp2_with fail
    refine (C4.out _).mono ?_
    rintro e w' ⟨rfl,hw⟩
    rw [hw]; clear hw
    go_wp2_with fail
    refine (HV.out _).mono ?_
    rintro e w1 ⟨rfl,hb1⟩
    have B1:=Lib.hid hb1
    clear hb1
    go_wp2_with fail
    go_ret
    exact ⟨rfl,B1.out⟩
   | true =>
    simp only [Bool.true_and] at e0
    subst e0
    go_enter Tryz.func88,Tryz.ntmps88
    go_wp2_with fail
    refine (C1.out _).mono ?_
    rintro e w' ⟨rfl,hw⟩
    rw [hw]; clear hw
    go_wp2_with fail
    refine (C2.out _).mono ?_
    rintro e w' ⟨rfl,hw⟩
    rw [hw]; clear hw
    go_wp2_with fail
    refine (C3.out _).mono ?_
    rintro e w' ⟨rfl,hw⟩
    rw [hw]; clear hw
    go_wp2_with fail
    refine (C4.out _).mono ?_
    rintro e w' ⟨rfl,hw⟩
    rw [hw]; clear hw
    go_wp2_with fail
    refine (HV.out _).mono ?_
    rintro e w1 ⟨rfl,hb1⟩
    have B1:=Lib.hid hb1
    clear hb1
    go_wp2_with fail
    refine (graphText (HN.out.below B1.out)).mono ?_
    rintro e w2 ⟨rfl,hb2⟩
    have B2:=Lib.hid (below_old B1.out hb2)
    clear hb2
    go_wp2_with fail
    go_ret
    exact ⟨by rw [← H7.out]; rfl,B2.out⟩
  ·have u1:decide (0<n1)=true:=by first | (simp; done) | (simp; omega)
   have e0:E=false:=by rw [hE]; have:(!(decide (d.kind≠1∧0<n1) || decide (d.kind≠2∧0<n2)))=false:=by { first | (simp; done) | (simp; omega) }; rw [this]; rfl
   subst e0
   clear hE a1 a2 a3
   go_enter Tryz.func88,Tryz.ntmps88
   go_wp2_with fail
   refine (C1.out _).mono ?_
   rintro e w' ⟨rfl,hw⟩
   rw [hw]; clear hw
   go_wp2_with fail
   refine (C2.out _).mono ?_
   rintro e w' ⟨rfl,hw⟩
   rw [hw]; clear hw
   go_wp2_with fail
   refine (C3.out _).mono ?_
   rintro e w' ⟨rfl,hw⟩
   rw [hw]; clear hw
   go_wp2_with fail
   refine (C4.out _).mono ?_
   rintro e w' ⟨rfl,hw⟩
   rw [hw]; clear hw
   go_wp2_with fail
   go_ret
   exact ⟨rfl,Below.refl _ _⟩
 have t1:(d.kind != 1)=true:=by rw [bne_iff_ne]; exact a1
 have t2:(d.kind != 2)=true:=by rw [bne_iff_ne]; exact a2
 by_cases a3:n1=0
 ·have u1:decide (0<n1)=false:=by first | (simp; done) | (simp; omega)
  by_cases a4:n2=0
  ·have p0:decide (d.kind≠1∧0<n1)=false:=by first | (simp; done) | (simp; omega)
   have q0:decide (d.kind≠2∧0<n2)=false:=by first | (simp; done) | (simp; omega)
   have u2:decide (0<n2)=false:=by first | (simp; done) | (simp; omega)
   have PQ:(!(decide (d.kind≠1∧0<n1) || decide (d.kind≠2∧0<n2)))=true:=by rw [p0,q0]; rfl
   have e0:E=(x6 && x7):=by rw [hE,PQ]; simp
   clear hE PQ p0 q0 a1 a2 a3 a4
   cases x6 with
   | false =>
    simp only [Bool.false_and] at e0
    subst e0
    go_enter Tryz.func88,Tryz.ntmps88
    go_wp2_with fail
    refine (C1.out _).mono ?_
    rintro e w' ⟨rfl,hw⟩
    rw [hw]; clear hw
    go_wp2_with fail
    refine (C2.out _).mono ?_
    rintro e w' ⟨rfl,hw⟩
    rw [hw]; clear hw
    go_wp2_with fail
    refine (C3.out _).mono ?_
    rintro e w' ⟨rfl,hw⟩
    rw [hw]; clear hw
    go_wp2_with fail
    refine (C4.out _).mono ?_
    rintro e w' ⟨rfl,hw⟩
    rw [hw]; clear hw
    go_wp2_with fail
    refine (HV.out _).mono ?_
    rintro e w1 ⟨rfl,hb1⟩
    have B1:=Lib.hid hb1
    clear hb1
    go_wp2_with fail
    go_ret
    exact ⟨rfl,B1.out⟩
   | true =>
    simp only [Bool.true_and] at e0
    subst e0
    go_enter Tryz.func88,Tryz.ntmps88
    go_wp2_with fail
    refine (C1.out _).mono ?_
    rintro e w' ⟨rfl,hw⟩
    rw [hw]; clear hw
    go_wp2_with fail
    refine (C2.out _).mono ?_
    rintro e w' ⟨rfl,hw⟩
    rw [hw]; clear hw
    go_wp2_with fail
    refine (C3.out _).mono ?_
    rintro e w' ⟨rfl,hw⟩
    rw [hw]; clear hw
    go_wp2_with fail
    refine (C4.out _).mono ?_
    rintro e w' ⟨rfl,hw⟩
    rw [hw]; clear hw
    go_wp2_with fail
    refine (HV.out _).mono ?_
    rintro e w1 ⟨rfl,hb1⟩
    have B1:=Lib.hid hb1
    clear hb1
    go_wp2_with fail
    refine (graphText (HN.out.below B1.out)).mono ?_
    rintro e w2 ⟨rfl,hb2⟩
    have B2:=Lib.hid (below_old B1.out hb2)
    clear hb2
    go_wp2_with fail
    go_ret
    exact ⟨by rw [← H7.out]; rfl,B2.out⟩
  ·have u2:decide (0<n2)=true:=by first | (simp; done) | (simp; omega)
   have e0:E=false:=by rw [hE]; have:(!(decide (d.kind≠1∧0<n1) || decide (d.kind≠2∧0<n2)))=false:=by { first | (simp; done) | (simp; omega) }; rw [this]; rfl
   subst e0
   clear hE a1 a2 a3 a4
   go_enter Tryz.func88,Tryz.ntmps88
   go_wp2_with fail
   refine (C1.out _).mono ?_
   rintro e w' ⟨rfl,hw⟩
   rw [hw]; clear hw
   go_wp2_with fail
   refine (C2.out _).mono ?_
   rintro e w' ⟨rfl,hw⟩
   rw [hw]; clear hw
   go_wp2_with fail
   refine (C3.out _).mono ?_
   rintro e w' ⟨rfl,hw⟩
   rw [hw]; clear hw
   go_wp2_with fail
   refine (C4.out _).mono ?_
   rintro e w' ⟨rfl,hw⟩
   rw [hw]; clear hw
   go_wp2_with fail
   go_ret
   exact ⟨rfl,Below.refl _ _⟩
 ·have u1:decide (0<n1)=true:=by first | (simp; done) | (simp; omega)
  have e0:E=false:=by rw [hE]; have:(!(decide (d.kind≠1∧0<n1) || decide (d.kind≠2∧0<n2)))=false:=by { first | (simp; done) | (simp; omega) }; rw [this]; rfl
  subst e0
  clear hE a1 a2 a3
  go_enter Tryz.func88,Tryz.ntmps88
  go_wp2_with fail
  refine (C1.out _).mono ?_
  rintro e w' ⟨rfl,hw⟩
  rw [hw]; clear hw
  go_wp2_with fail
  refine (C2.out _).mono ?_
  rintro e w' ⟨rfl,hw⟩
  rw [hw]; clear hw
  go_wp2_with fail
  refine (C3.out _).mono ?_
  rintro e w' ⟨rfl,hw⟩
  rw [hw]; clear hw
  go_wp2_with fail
  refine (C4.out _).mono ?_
  rintro e w' ⟨rfl,hw⟩
  rw [hw]; clear hw
  go_wp2_with fail
  go_ret
  exact ⟨rfl,Below.refl _ _⟩
end Go.Proofs.YtfhfcipelgogjaaGreatDoor
