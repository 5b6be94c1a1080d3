/- Entries and policies copied and compared. No condition but room. Entries copied. No condition but room. What a law of the forecast is given, and what a forecast says, in memory. No condition but room. The bounds of what the laws of forecast are given. Plain. -/
import Derived.Test.YtfhfcipelgogjaaGreatDoorPlanAll
import Derived.Test.YtfhfcipelgogjaaGreatDoorSameAll
import Derived.Test.YtfhfcipelgogjaaGreatDoorFModAll
import Derived.Test.YtfhfcipelgogjaaGreatDoorTellAll
import Derived.Test.YtfhfcipelgogjaaGreatDoorDataAll
set_option linter.unusedVariables false
set_option linter.unusedSimpArgs false
set_option linter.unusedSectionVars false
set_option maxHeartbeats 1000000
set_option maxRecDepth 100000
namespace Go.Proofs.YtfhfcipelgogjaaGreatDoor
open Go.RowKit
attribute [local go_sem] cell?_over frozen?_over lt_over le_over
theorem copyTexts {A : Option Addr} {n c : Nat} {l : List ByteArray} (w : World) (h : Row Shape.str w (Old w) A n l) (hn : n ≤ 1000000000000) :
    Calls Tryz.prog 43 #[.slice A n c] w fun e w' => ∃ v δ, e = .returned v ∧ w' = over w δ ∧ Own Shape.str 9 w' w.heap.size (fun _ => False) v l := by
  have hs := (Row.src (h.keep (Keeps.old_alloc w (.cells #[] 9)))).flat (M' := fun _ => False) flat_str
  have hl := Nat.le_of_eq h.1
  go_enter Tryz.func43, Tryz.ntmps43
  go_wp2_with (first
    | (at_builtin
       refine wpList_append_list (v := .slice (some ⟨w.heap.size, 0, none⟩) 0 0) rfl (.tmp 5) (.tmp 6) _ rfl elem_strS rfl (Own.made Shape.str _ w _ (Nat.le_refl _)) rfl hs (fun _ h => h.elim) ?_ ?_ ?_ ?_
       · simp; omega
       · simp [maxLen]; omega
       · simp
       intro v' w1 hown hg hat))
  go_ret
  have hb : Below w.heap.size w w1 := ((Below.refl _ _).alloc (Nat.le_refl _) _).grown hg (by simp) (by simp [Value.ownBlock])
  have e := over_of_below hb
  rw [e] at hown ⊢
  exact ⟨v', _, rfl, rfl, by simpa using hown⟩
theorem copyT {A:Option Addr} {n c:Nat} {l:List ByteArray} (w:World) (h:Row Shape.str w (Old w) A n l) (hn:n≤1000000000) :
  Calls Tryz.prog 43 #[.slice A n c] w fun e w'=>∃ v,e=.returned v∧Own Shape.str 9 w' w.heap.size (fun _=>False) v l∧Below w.heap.size w w':=
 (copyTexts w h (by omega)).mono fun _ _ ⟨v,_,h1,h2,h3⟩=>⟨v,h1,h3,by rw [h2]; exact below_over _ _⟩
theorem whole_ent:Whole Tryz.prog 66 11:=⟨by kernel_rfl,by kernel_rfl⟩
theorem whole_cfg:Whole Tryz.prog 42 13:=⟨by kernel_rfl,by kernel_rfl⟩
def CopyCfgEnd (d:ConfigD) (w:World) (en:Ending) (w':World):Prop:=∃ B1 m1 d1 B2 m2 d2,m1≤d1∧m2≤d2∧en=.returned (.agg (cfgC d B1 m1 d1 B2 m2 d2))∧Row Shape.str w' (New w w') B1 m1 d.include_∧Row Shape.str w' (New w w') B2 m2 d.exclude∧Below w.heap.size w w'
theorem copyConfig {d:ConfigD} {A1:Option Addr} {n1 c1:Nat} {A2:Option Addr} {n2 c2:Nat} (w:World) (h1:Row Shape.str w (Old w) A1 n1 d.include_) (h2:Row Shape.str w (Old w) A2 n2 d.exclude) (hn1:n1≤1000000000) (hn2:n2≤1000000000) :
  Calls Tryz.prog 20 #[.agg (cfgC d A1 n1 c1 A2 n2 c2)] w (CopyCfgEnd d w):=by
 unfold cfgC
 have H2:=Lib.hid h2
 clear h2
 go_enter Tryz.func20,Tryz.ntmps20
 go_wp2_with fail
 refine (copyT (c:=c1) _ (h1.below ?_) hn1).mono ?_
 ·go_grown
 rintro en u ⟨v,rfl,hown,hu⟩
 obtain ⟨b1,b2,hbw,hsz⟩:=blks2 hu
 clear hu
 obtain ⟨A',m,c',rfl,hmc,_,hrow'⟩:=hown.rd_from (B:=w.heap.size+2) (by simp) (fun _ h=>h.elim)
 have HR:=Lib.hid hrow'
 have j10:=b1.cell 11; have jf10:=b1.frozen 11; have j11:=b1.cell 12
 simp only [List.getElem?_toArray,List.getElem?_cons_succ,List.getElem?_cons_zero] at j10 j11
 have HM:=Lib.hid hmc; have HBW:=Lib.hid hbw; have HSZ:=Lib.hid hsz
 have C1:Hid (Blk (u.setCell ⟨w.heap.size,11,none⟩ (.slice A' m c')) w.heap.size 42 #[.int .i64 d.maxEntries,.int .i64 d.maxBytes,.int .i64 d.maxDepth,.int .i64 d.maxName,.int .i64 d.maxPax,.int .i64 d.strip,.int .i64 d.links,.int .i64 d.replace,.int .i64 d.umask,.bool d.keepSetid,.bool d.keepIds,.slice A' m c',.slice A2 n2 c2]):=Lib.hid ((b1.set_ 11 (.slice A' m c')).to rfl)
 have C2:=Lib.hid (b2.far (p:=⟨w.heap.size,11,none⟩) (show w.heap.size+1≠w.heap.size by omega) (.slice A' m c'))
 have HBU:=Lib.hid (HBW.out.setCell (p:=⟨w.heap.size,11,none⟩) (Nat.le_refl _) (.slice A' m c'))
 have KU:Hid (Turned w.heap.size u (u.setCell ⟨w.heap.size,11,none⟩ (.slice A' m c'))):=Lib.hid (turned_cell _ _ _ _)
 have lt1:=b1.lt
 clear hown hrow' hmc hbw hsz b1 b2 h1
 go_wp2_with fail
 clear j10 jf10 j11 lt1
 generalize u.setCell ⟨w.heap.size,11,none⟩ (.slice A' m c')=u1 at C1 C2 HBU KU ⊢
 refine (copyT (c:=c2) _ (H2.out.below HBU.out) hn2).mono ?_
 rintro en u2 ⟨v2,rfl,hown2,hu2⟩
 obtain ⟨A'',m2,c'',rfl,hmc2,_,hrow2⟩:=hown2.rd_from (B:=u1.heap.size) (Nat.le_refl _) (fun _ h=>h.elim)
 have HR2:=Lib.hid hrow2
 have b1:=C1.out.below hu2 C1.out.lt; have b2:=C2.out.below hu2 C2.out.lt
 have j10:=b1.cell 12; have jf10:=b1.frozen 12
 simp only [List.getElem?_toArray,List.getElem?_cons_succ,List.getElem?_cons_zero] at j10
 have B1:=Lib.hid (b1.set_ 12 (.slice A'' m2 c'')); have B2:=Lib.hid (b2.far (p:=⟨w.heap.size,12,none⟩) (show w.heap.size+1≠w.heap.size by omega) (.slice A'' m2 c''))
 have HB2:=Lib.hid (below_old HBU.out hu2)
 have lt1:=b1.lt
 have HU2:=Lib.hid hu2; have HM2:=Lib.hid hmc2
 clear hown2 hrow2 hmc2 hu2 b1 b2 C1 C2
 go_wp2_with (first
  | ((with_reducible refine at_load (ty:=42) (x:=.tmp 1) ?_ ?_); exact rfl; refine wpList_load_blk rfl 42 (.tmp 1) rfl _ rfl B1.out whole_cfg ?_)
  | ((with_reducible refine at_store (ty:=42) (x:=.tmp 2) (y:=.tmp 11) ?_ ?_); exact rfl; refine wpList_store_blk rfl 42 (.tmp 2) (.tmp 11) rfl _ rfl B2.out rfl (by kernel_rfl) rfl rfl ?_; intro w99 b99 g99))
 have hs:=g99.size
 have hsz:=HSZ.out
 have hs1:=KU.out.size
 have hs2:=HU2.out.size
 have hs':u2.heap.size≤w99.heap.size:=by simpa [World.setCell] using hs
 refine ret_blk rfl rfl b99 whole_cfg rfl ⟨A',m,c',A'',m2,c'',HM.out,HM2.out,rfl,?_,?_,?_⟩
 ·refine (HR.out.keep (fun b hb=>?_)).more ?_
  ·have hb1:=hb.1
   have hb2:=hb.2
   exact ((Keeps.trans (Keeps.set u2 ⟨w.heap.size,12,none⟩ (.slice A'' m2 c'') (M:=fun b=>w.heap.size+2≤b∧b<u.heap.size) (by rintro n ⟨h1,h2⟩; simp; omega)) (Keeps.grown g99 (by rintro n ⟨h1,h2⟩; simp [World.setCell]; omega))) b ⟨hb1,hb2⟩).trans ((HU2.out.block b (by omega)).trans (KU.out.block b (by omega)))
  ·rintro n ⟨h1,h2⟩; exact ⟨by omega,by omega⟩
 ·refine (HR2.out.keep ((Keeps.set u2 ⟨w.heap.size,12,none⟩ (.slice A'' m2 c'') ?_).trans (Keeps.grown g99 ?_))).more ?_
  ·rintro n ⟨h1,h2⟩; simp; omega
  ·rintro n ⟨h1,h2⟩; simp [World.setCell]; omega
  ·rintro n ⟨h1,h2⟩; exact ⟨by omega,by omega⟩
 ·exact Below.trans (HB2.out.setCell (p:=⟨w.heap.size,12,none⟩) (Nat.le_refl _) (.slice A'' m2 c'')) ((Below.refl _ _).grown g99 (by simp; omega) (by simp))
end Go.Proofs.YtfhfcipelgogjaaGreatDoor
namespace Go.Proofs.YtfhfcipelgogjaaGreatDoor
open Go.RowKit
attribute [local go_sem] cell?_over frozen?_over lt_over le_over
theorem elem_EntryD:Elem Tryz.prog 39 66 Shape.EntryD 136:=⟨Tryz.underlying39,by kernel_rfl⟩
theorem copyEntryM {e : EntryD} {A : Option Addr} {n cd : Nat} (w : World) (h : Row Shape.byte w (Old w) A n e.data) (hn : n ≤ 1000000000) :
    Calls Tryz.prog 41 #[.agg (entC e A n cd)] w fun en w' => ∃ A' n' c', n' ≤ c' ∧ c' ≤ maxLen ∧ en = .returned (.agg (entC e A' n' c')) ∧ Row Shape.byte w' (New w w') A' n' e.data ∧ Below w.heap.size w w' := by
  unfold entC
  go_enter Tryz.func41, Tryz.ntmps41
  go_wp2_with fail
  refine (copyB (c := cd) _ (h.below ?_) hn).mono ?_
  · go_grown
  rintro en u ⟨v, rfl, hown, hu⟩
  obtain ⟨b1, b2, hbw, hsz⟩ := blks2 hu
  clear hu
  obtain ⟨A', m, c', rfl, hmc, hmx, hrow'⟩ := hown.rd_from (B := w.heap.size + 2) (by simp) (fun _ h => h.elim)
  have HR := Lib.hid hrow'
  have j10 := b1.cell 10; have jf10 := b1.frozen 10
  simp only [List.getElem?_toArray, List.getElem?_cons_succ, List.getElem?_cons_zero] at j10
  have HM := Lib.hid hmc; have HX := Lib.hid hmx; have HBW := Lib.hid hbw; have HSZ := Lib.hid hsz
  have B1 := Lib.hid (b1.set_ 10 (.slice A' m c')); have B2 := Lib.hid (b2.far (p := ⟨w.heap.size, 10, none⟩) (show w.heap.size + 1 ≠ w.heap.size by omega) (.slice A' m c'))
  have lt1 := b1.lt
  clear hown hrow' hmc hmx hbw hsz b1 b2
  go_wp2_with (first
    | ((with_reducible refine at_load (ty := 66) (x := .tmp 1) ?_ ?_); exact rfl; refine wpList_load_blk rfl 66 (.tmp 1) rfl _ rfl B1.out whole_ent ?_)
    | ((with_reducible refine at_store (ty := 66) (x := .tmp 2) (y := .tmp 7) ?_ ?_); exact rfl; refine wpList_store_blk rfl 66 (.tmp 2) (.tmp 7) rfl _ rfl B2.out rfl (by kernel_rfl) rfl rfl ?_; intro w99 b99 g99))
  have hs := g99.size
  have hsz := HSZ.out
  refine ret_blk rfl rfl b99 whole_ent rfl ⟨A', m, c', HM.out, HX.out, rfl, ?_, ?_⟩
  · refine (HR.out.keep ((Keeps.set u ⟨w.heap.size, 10, none⟩ (.slice A' m c') ?_).trans (Keeps.grown g99 ?_))).more ?_
    · rintro n ⟨h1, h2⟩; simp; omega
    · rintro n ⟨h1, h2⟩; simp [World.setCell]; omega
    · rintro n ⟨h1, h2⟩; exact ⟨by omega, Nat.lt_of_lt_of_le h2 (by simpa [World.setCell] using hs)⟩
  · exact Below.trans (HBW.out.setCell (p := ⟨w.heap.size, 10, none⟩) (Nat.le_refl _) (.slice A' m c')) ((Below.refl _ _).grown g99 (by simp; omega) (by simp))
theorem copyEntries {A : Option Addr} {n c : Nat} {l : List EntryD} (w : World) (h : Row Shape.EntryD w (Old w) A n l) (hs : ∀ e ∈ l, e.data.length ≤ 1000000000) (hn : n ≤ 1000000000000) :
    Calls Tryz.prog 18 #[.slice A n c] w fun e w' => ∃ v M, e = .returned v ∧ Below w.heap.size w w' ∧ Own Shape.EntryD 66 w' w.heap.size M v l ∧ ∀ n, M n → w.heap.size ≤ n := by
  have HL := Lib.hid h.1
  go_enter Tryz.func18, Tryz.ntmps18
  go_wp2_with fail
  go_loopw [3, 4] (fun v i wr => ∃ (k : Nat) (M : Nat → Prop), k ≤ n ∧ i = .int .i64 k ∧ Below w.heap.size w wr ∧ Own Shape.EntryD 66 wr w.heap.size M v (l.take k) ∧ ∀ n, M n → w.heap.size ≤ n) (fun _ i _ => n - (intOf i).toNat)
  case atStart => exact ⟨0, fun _ => False, Nat.zero_le _, rfl, (Below.refl _ _).alloc (Nat.le_refl _) _, Own.made Shape.EntryD _ w _ (Nat.le_refl _), fun _ h => h.elim⟩
  case round =>
    obtain ⟨k, M, hk, rfl, hbel, hown, hM⟩ := hrel
    by_cases hlt : k < n
    · obtain ⟨b, off, es, hkl, rfl, hb, hc, hc0, hr⟩ := h.elem (Keeps.old hbel) hlt
      have hsm := hs _ (List.getElem_mem hkl)
      have hr2 : EntryD.rd wr (Old wr) es l[k] := Shape.EntryD.more hr fun _ hn => Old.below hbel hn
      have R := Lib.hid hr2; clear hr2
      obtain ⟨Ae, ne, ce, rfl, hne, hce, hrow⟩ := entC_of hr
      have HRW : Hid (Row Shape.byte wr (Old wr) Ae ne l[k].data) := Lib.hid (hrow.more fun _ hn => Old.below hbel hn)
      have hne9 : ne ≤ 1000000000 := by rw [← hrow.1]; exact hsm
      have e11 : Shape.EntryD.size = 11 := rfl
      simp only [e11, entC] at hc hc0
      clear e11 hrow
      have hb2 := Nat.lt_of_lt_of_le hb hbel.size
      have hks : (k : Int) < n := by omega
      have hszw := hbel.size
      have O := Lib.hid hown; clear hown
      have HM := Lib.hid hM; clear hM
      have HB := Lib.hid hbel; clear hbel
      have CE := Lib.hid (copyEntryM (cd := ce) wr HRW.out hne9)
      unfold entC at CE
      go_wp2_with fail
      refine CE.out.mono ?_
      rintro e u ⟨A', n', c', hn', hx', rfl, hrd, hbu⟩
      have hszu := hbu.size
      have htk := List.length_take_le k l
      have hO2 : Hid (Own Shape.EntryD 66 u w.heap.size M u3 (l.take k)) := Lib.hid (O.out.kept (row := none) ⟨hbu.os, hbu.tape, hbu.output, hbu.size, fun n hn _ => hbu.block n hn⟩ (by cases hv : u3.ownBlock <;> simp) (fun _ _ => by simp))
      have R2 : Hid (EntryD.rd u (New wr u) (entC l[k] A' n' c').toList l[k]) := Lib.hid (by
        obtain ⟨_, _, _, q0, q1, q2, q3, q4, q5, q6, q7, q8, q9, q10, -⟩ := R.out
        exact ⟨A', n', c', rfl, q1, q2, q3, q4, q5, q6, q7, q8, q9, q10, hn', hx', hrd⟩)
      unfold entC at R2
      clear hrd CE
      have hlt3 := O.out.lt
      have HL3 := Lib.hid hlt3; clear hlt3
      go_wp2_with (first
        | (at_builtin
           refine wpList_append_list (v := u3) rfl (.tmp 12) (.tmp 18) _ rfl elem_EntryD rfl (hO2.out.alloc _) rfl (Src.single (s := Shape.EntryD) _ (fun _ h => h.2) R2.out) ?_ ?_ ?_ ?_ ?_
           · intro n hn
             refine ⟨by have := hn.2; simp; omega, fun e => ?_⟩
             have := (HL3.out n e.symm).2
             have := hn.1
             omega
           · simp only [List.length_cons, List.length_nil]; omega
           · simp only [List.length_cons, List.length_nil, maxLen]; omega
           · have := HB.out.size; simp; omega
           intro v' w1 hown' hg hat))
      go_roundw
      case rel =>
        have e : l.take (k + 1) = l.take k ++ [l[k]] := List.take_succ_eq_append_getElem hkl
        refine ⟨k + 1, _, by omega, by go_num, ?_, by rw [e]; exact hown', ?_⟩
        · refine (HB.out.trans (hbu.mono hszw)).alloc (by have := hbu.size; omega) _ |>.grown hg (by have := hbu.size; simp; omega) (fun m hm => (HL3.out m hm).1)
        · rintro n (hn | hn)
          · exact HM.out n hn
          · have := hn.1; omega
      case measure => simp [intOf]; omega
    · go_wp2
      go_ret
      refine ⟨_, M, rfl, hbel, ?_, hM⟩
      rw [← List.take_of_length_le (l := l) (i := k) (by rw [HL.out]; omega)]
      exact hown
end Go.Proofs.YtfhfcipelgogjaaGreatDoor
namespace Go.Proofs.YtfhfcipelgogjaaGreatDoor
open Go.RowKit
attribute [local go_sem] cell?_over frozen?_over lt_over le_over
def gvC (A:Option Addr) (n cn:Nat) (Ae:Option Addr) (ne ce:Nat) (c:ConfigD) (A1:Option Addr) (n1 c1:Nat) (A2:Option Addr) (n2 c2:Nat) (now:TimeD):Array Value:=#[.slice A n cn,.slice Ae ne ce,.int .i64 c.maxEntries,.int .i64 c.maxBytes,.int .i64 c.maxDepth,.int .i64 c.maxName,.int .i64 c.maxPax,.int .i64 c.strip,.int .i64 c.links,.int .i64 c.replace,.int .i64 c.umask,.bool c.keepSetid,.bool c.keepIds,.slice A1 n1 c1,.slice A2 n2 c2,.int .i64 now.sec,.int .i64 now.nano]
def fcC (R:FcD) (x:(Option Addr×Nat)×(Option Addr×Nat)):Array Value:=#[.slice x.1.1 R.lines.length x.1.2,.slice x.2.1 R.done.length x.2.2,.int .i64 R.code,.int .i64 R.index]
structure FcAt (R:FcD) (n:Nat) (x:(Option Addr×Nat)×(Option Addr×Nat)) (W:World):Prop where
 c1:R.lines.length≤x.1.2∧x.1.2≤maxLen
 c2:R.done.length≤x.2.2∧x.2.2≤maxLen
 lines:Row Shape.LineD W (fun b=>n≤b∧b<W.heap.size) x.1.1 R.lines.length R.lines
 done:Row Shape.DoneD W (fun b=>n≤b∧b<W.heap.size) x.2.1 R.done.length R.done
def madeFc (R:FcD) (n:Nat):Made:=⟨(Option Addr×Nat)×(Option Addr×Nat),((none,0),(none,0)),fun x=>.agg (fcC R x),fun x W=>FcAt R n x W⟩
theorem FcAt.below {R:FcD} {n:Nat} {x:(Option Addr×Nat)×(Option Addr×Nat)} {W W':World} (h:FcAt R n x W) (hb:Below W.heap.size W W'):FcAt R n x W':=
 ⟨h.c1,h.c2,(h.lines.keep fun b hb'=>hb.block b hb'.2).more fun b hb'=>⟨hb'.1,Nat.lt_of_lt_of_le hb'.2 hb.size⟩,(h.done.keep fun b hb'=>hb.block b hb'.2).more fun b hb'=>⟨hb'.1,Nat.lt_of_lt_of_le hb'.2 hb.size⟩⟩
theorem fc_stays (R:FcD) (n:Nat):∀ x W W',Gr W W'→(madeFc R n).Fact x W→(madeFc R n).Fact x W':=fun x W W' h k=>FcAt.below k h
theorem fc_of {R:FcD} {n:Nat} {w w':World} {e:Ending} (h:TellEnd R w e w') (hn:n≤w.heap.size):∃ x,e=.returned ((madeFc R n).enc x)∧(madeFc R n).Fact x w':=by
 obtain ⟨hb,lv,dv,M,rfl,hown,hM,hdone⟩:=h
 obtain ⟨A9,n9,c9,rfl,h91,h92,hr9⟩:=hown.rd_from (B:=n) hn (fun k hk=>Nat.le_trans hn (hM k hk))
 obtain ⟨A8,n8,c8,rfl,h81,h82,hr8⟩:=hdone.rd_from (B:=n) hn (fun _ h=>h.elim)
 have e9:=hr9.1
 have e8:=hr8.1
 subst e9 e8
 exact ⟨((A9,c9),(A8,c8)),rfl,⟨h91,h92⟩,⟨h81,h82⟩,hr9,hr8⟩
theorem lines_of {w w':World} {n:Nat} {e:Ending} {ls:List LineD} (h:∃ v δ M,e=.returned v∧w'=over w δ∧Own Shape.LineD 60 w' w.heap.size M v ls∧∀ n,M n→w.heap.size≤n) (hn:n≤w.heap.size):∃ x,e=.returned ((Made.row Shape.LineD ls n).enc x)∧Gr w w'∧(Made.row Shape.LineD ls n).Fact x w':=by
 obtain ⟨v,δ,M,rfl,hw,hown,hM⟩:=h
 obtain ⟨A9,n9,c9,rfl,h91,h92,hr9⟩:=hown.rd_from (B:=n) hn (fun k hk=>Nat.le_trans hn (hM k hk))
 have e9:=hr9.1
 subst e9
 exact ⟨(A9,c9),rfl,by rw [hw]; exact below_over _ _,h91,hr9⟩
theorem entries_of {w w':World} {n:Nat} {e:Ending} {es:List EntryD} (h:∃ v M,e=.returned v∧Below w.heap.size w w'∧Own Shape.EntryD 66 w' w.heap.size M v es∧∀ n,M n→w.heap.size≤n) (hn:n≤w.heap.size):∃ x,e=.returned ((Made.row Shape.EntryD es n).enc x)∧Gr w w'∧(Made.row Shape.EntryD es n).Fact x w':=by
 obtain ⟨v,M,rfl,hw,hown,hM⟩:=h
 obtain ⟨A9,n9,c9,rfl,h91,h92,hr9⟩:=hown.rd_from (B:=n) hn (fun k hk=>Nat.le_trans hn (hM k hk))
 have e9:=hr9.1
 subst e9
 exact ⟨(A9,c9),rfl,hw,h91,hr9⟩
theorem row_off {α:Type} {s:Shape α} {W:World} {M:Nat→Prop} {A:Option Addr} {n g:Nat} {l:List α} {t:TypeId} {cs:Array Value} (h:Row s W M A n l) (hg:Blk W g t cs) (hne:∀ (es:List Value) (a:α),s.rd W M es a→(∃ v:Value,es[0]?=some v∧∀ i:Nat,cs[i]?≠some v)∧s.rd W (fun b=>M b∧b≠g) es a):Row s W (fun b=>M b∧b≠g) A n l:=by
 refine ⟨h.1,fun h0=>?_⟩
 obtain ⟨b,off,e,hb,hr⟩:=h.2 h0
 refine ⟨b,off,e,⟨hb,?_⟩,fun i hi=>?_⟩
 ·rintro rfl
  obtain ⟨es,hc,hrd⟩:=hr 0 (by rw [h.1]; exact h0)
  obtain ⟨⟨v,hv,hn⟩,-⟩:=hne _ _ hrd
  have:=hc 0 s.pos
  rw [hg.cell] at this
  exact hn _ (this.trans hv)
 ·obtain ⟨es,hc,hrd⟩:=hr i hi
  exact ⟨es,hc,(hne _ _ hrd).2⟩
def fc0:Array Value:=#[.slice none 0 0,.slice none 0 0,.int .i64 0,.int .i64 0]
theorem fc0_str (i:Nat) (x:ByteArray):fc0[i]?≠some (.string x):=by
 intro e
 unfold fc0 at e
 rcases i with _ | _ | _ | _ | i <;> simp at e
theorem fc0_u8 (i:Nat) (x:Int):fc0[i]?≠some (.int .u8 x):=by
 intro e
 unfold fc0 at e
 rcases i with _ | _ | _ | _ | i <;> simp at e
theorem bytes_off {W:World} {M:Nat→Prop} {A:Option Addr} {n g:Nat} {l:List UInt8} {t:TypeId} (h:Row Shape.byte W M A n l) (hg:Blk W g t fc0):Row Shape.byte W (fun b=>M b∧b≠g) A n l:=
 row_off h hg fun es a hr=>by
  have hr:es=[.int .u8 a.toNat]:=hr
  subst hr
  exact ⟨⟨_,rfl,fun i=>fc0_u8 i _⟩,rfl⟩
theorem lines_off {W:World} {M:Nat→Prop} {A:Option Addr} {n g:Nat} {l:List LineD} {t:TypeId} (h:Row Shape.LineD W M A n l) (hg:Blk W g t fc0):Row Shape.LineD W (fun b=>M b∧b≠g) A n l:=
 row_off h hg fun es a hr=>by
  obtain ⟨A1,n1,c1,rfl,q1,q2,q3,q4,q5,q6,q7,q8,q9,q10,q11⟩:=hr
  exact ⟨⟨_,rfl,fun i=>fc0_str i _⟩,A1,n1,c1,rfl,q1,q2,q3,q4,q5,q6,q7,q8,q9,bytes_off q10 hg,q11⟩
theorem done_off {W:World} {M:Nat→Prop} {A:Option Addr} {n g:Nat} {l:List DoneD} {t:TypeId} (h:Row Shape.DoneD W M A n l) (hg:Blk W g t fc0):Row Shape.DoneD W (fun b=>M b∧b≠g) A n l:=
 row_off h hg fun es a hr=>by
  have hr:es=[.string a.name,.int .i64 a.out,.int .i64 a.code]:=hr
  subst hr
  exact ⟨⟨_,rfl,fun i=>fc0_str i _⟩,rfl⟩
theorem FcAt.store {R:FcD} {n g:Nat} {x:(Option Addr×Nat)×(Option Addr×Nat)} {W W':World} {t:TypeId} (h:FcAt R n x W) (hg:Blk W g t fc0) (hb:W.grownBy W' (some g)):FcAt R n x W':=by
 have hk:Keeps (fun b=>(n≤b∧b<W.heap.size)∧b≠g) W W':=fun b hb'=>hb.block b hb'.1.2 (fun e=>hb'.2 (by injection e))
 exact ⟨h.c1,h.c2,((lines_off h.lines hg).keep hk).more fun b q=>⟨q.1.1,Nat.lt_of_lt_of_le q.1.2 hb.size⟩,((done_off h.done hg).keep hk).more fun b q=>⟨q.1.1,Nat.lt_of_lt_of_le q.1.2 hb.size⟩⟩
structure GvIn (ls:List LineD) (es:List EntryD) (n ne n1 n2:Nat):Prop where
 lines:SmallL ls
 small:SmallP ls
 ents:∀ e∈es,SmallE e
 hn:n≤1048576
 hne:ne≤1000000
 hn1:n1≤100000000
 hn2:n2≤100000000
def madeCfg (c:ConfigD) (n:Nat):Made:=⟨(Option Addr×Nat)×(Option Addr×Nat),((none,0),(none,0)),fun x=>.agg (cfgC c x.1.1 c.include_.length x.1.2 x.2.1 c.exclude.length x.2.2),fun x W=>Row Shape.str W (fun b=>n≤b∧b<W.heap.size) x.1.1 c.include_.length c.include_∧Row Shape.str W (fun b=>n≤b∧b<W.heap.size) x.2.1 c.exclude.length c.exclude⟩
theorem cfg_stays (c:ConfigD) (n:Nat):∀ x W W',Gr W W'→(madeCfg c n).Fact x W→(madeCfg c n).Fact x W':=fun x W W' h k =>
 ⟨(k.1.keep fun b hb=>h.block b hb.2).more fun b hb=>⟨hb.1,Nat.lt_of_lt_of_le hb.2 h.size⟩,(k.2.keep fun b hb=>h.block b hb.2).more fun b hb=>⟨hb.1,Nat.lt_of_lt_of_le hb.2 h.size⟩⟩
theorem cfg_of {c:ConfigD} {w w':World} {n:Nat} {e:Ending} (h:CopyCfgEnd c w e w') (hn:n≤w.heap.size):∃ x,e=.returned ((madeCfg c n).enc x)∧Gr w w'∧(madeCfg c n).Fact x w':=by
 obtain ⟨B1,m1,d1,B2,m2,d2,_,_,rfl,r1,r2,hb⟩:=h
 have e1:=r1.1
 have e2:=r2.1
 subst e1 e2
 exact ⟨((B1,d1),(B2,d2)),rfl,hb,r1.more fun b q=>⟨Nat.le_trans hn q.1,q.2⟩,r2.more fun b q=>⟨Nat.le_trans hn q.1,q.2⟩⟩
end Go.Proofs.YtfhfcipelgogjaaGreatDoor
namespace Go.Proofs.YtfhfcipelgogjaaGreatDoor
open Go.RowKit
theorem line_bulk (d:LineD):d.data.length+d.path.size+d.target.size+d.peer.size+1≤Shape.LineD.bulk d:=by
 have h1:=len_bulk Shape.byte d.data
 have s1:Shape.str.bulk d.path=d.path.size+1:=rfl
 have s2:Shape.str.bulk d.target=d.target.size+1:=rfl
 have s3:Shape.str.bulk d.peer=d.peer.size+1:=rfl
 have s4:(Shape.slice Shape.byte).bulk d.data=bulkAll Shape.byte.bulk d.data+1:=rfl
 simp only [Shape.LineD]
 omega
theorem ent_bulk (e:EntryD):e.data.length+e.name.size+e.link.size+2≤Shape.EntryD.bulk e:=by
 have h1:=len_bulk Shape.byte e.data
 have s1:Shape.str.bulk e.name=e.name.size+1:=rfl
 have s2:Shape.str.bulk e.link=e.link.size+1:=rfl
 have s4:(Shape.slice Shape.byte).bulk e.data=bulkAll Shape.byte.bulk e.data+1:=rfl
 simp only [Shape.EntryD]
 omega
theorem ents_two:∀ (l:List EntryD),2*l.length≤bulkAll Shape.EntryD.bulk l
 | []=>Nat.le_refl _
 | e :: l=>by
  have h1:=ents_two l
  have h2:=ent_bulk e
  show 2*(l.length+1)≤Shape.EntryD.bulk e+bulkAll Shape.EntryD.bulk l
  omega
theorem gv_in {d:GivenD} {W:World} {A Ae A1 A2:Option Addr} {n ne n1 n2 x:Nat} (hL:Row Shape.LineD W (Old W) A n d.lines) (hE:Row Shape.EntryD W (Old W) Ae ne d.entries) (hI:Row Shape.str W (Old W) A1 n1 d.cfg.include_) (hX:Row Shape.str W (Old W) A2 n2 d.cfg.exclude)
  (hb:Shape.GivenD.bulk d≤x) (hx:x≤1048576):GvIn d.lines d.entries n ne n1 n2:=by
 have l0:=len_bulk Shape.LineD d.lines
 have l1:=ents_two d.entries
 have l2:=len_bulk Shape.str d.cfg.include_
 have l3:=len_bulk Shape.str d.cfg.exclude
 have a0:=hL.1; have a1:=hE.1; have a2:=hI.1; have a3:=hX.1
 have s0:(Shape.slice Shape.LineD).bulk d.lines=bulkAll Shape.LineD.bulk d.lines+1:=rfl
 have s1:(Shape.slice Shape.EntryD).bulk d.entries=bulkAll Shape.EntryD.bulk d.entries+1:=rfl
 have s2:(Shape.slice Shape.str).bulk d.cfg.include_=bulkAll Shape.str.bulk d.cfg.include_+1:=rfl
 have s3:(Shape.slice Shape.str).bulk d.cfg.exclude=bulkAll Shape.str.bulk d.cfg.exclude+1:=rfl
 have t2:(Shape.slice Shape.str).bulk d.cfg.include_≤Shape.ConfigD.bulk d.cfg:=by simp only [Shape.ConfigD]; omega
 have t3:(Shape.slice Shape.str).bulk d.cfg.exclude≤Shape.ConfigD.bulk d.cfg:=by simp only [Shape.ConfigD]; omega
 have hb':(Shape.slice Shape.LineD).bulk d.lines+(Shape.slice Shape.EntryD).bulk d.entries+Shape.ConfigD.bulk d.cfg+Shape.TimeD.bulk d.now+1≤x:=hb
 have q:∀ y∈d.lines,y.data.length+y.path.size≤1048576:=fun y hy=>by
  have h1:=mem_bulk Shape.LineD.bulk hy
  have h2:=line_bulk y
  omega
 have p:∀ e∈d.entries,e.data.length+e.name.size+e.link.size≤1048576:=fun e he=>by
  have h1:=mem_bulk Shape.EntryD.bulk he
  have h2:=ent_bulk e
  omega
 refine ⟨fun y hy=>?_,fun y hy=>⟨?_,?_⟩,fun e he=>⟨?_,?_,?_⟩,by omega,by omega,by omega,by omega⟩
 ·have:=q y hy; omega
 ·have:=q y hy; omega
 ·have:=q y hy; omega
 ·have:=p e he; omega
 ·have:=p e he; omega
 ·have:=p e he; omega
end Go.Proofs.YtfhfcipelgogjaaGreatDoor
