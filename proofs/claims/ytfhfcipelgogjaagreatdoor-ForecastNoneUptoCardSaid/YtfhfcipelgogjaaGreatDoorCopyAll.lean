/- Entries and policies copied and compared. No condition but room. Entries copied. No condition but room. -/
import Derived.Test.YtfhfcipelgogjaaGreatDoorPlanAll
import Derived.Test.YtfhfcipelgogjaaGreatDoorSameAll
import Derived.Test.YtfhfcipelgogjaaGreatDoorFModAll
set_option linter.unusedVariables false
set_option linter.unusedSimpArgs false
set_option linter.unusedSectionVars false
set_option maxHeartbeats 1000000
set_option maxRecDepth 100000
namespace Go.Proofs.YtfhfcipelgogjaaGreatDoor
open Go.RowKit
attribute [local go_sem] cell?_over frozen?_over lt_over le_over
theorem copyTexts {A : Option Addr} {n c : Nat} {l : List ByteArray} (w : World) (h : Row Shape.str w (Old w) A n l) (hn : n ≤ 1000000000000) :
    Calls Tryz.prog 43 #[.slice A n c] w fun e w' => ∃ v δ, e = .returned v ∧ w' = over w δ ∧ Own Shape.str 9 w' w.heap.size (fun _ => False) v l := by
  have hs := (Row.src (h.keep (Keeps.old_alloc w (.cells #[] 9)))).flat (M' := fun _ => False) flat_str
  have hl := Nat.le_of_eq h.1
  go_enter Tryz.func43, Tryz.ntmps43
  go_wp2_with (first
    | (at_builtin
       refine wpList_append_list (v := .slice (some ⟨w.heap.size, 0, none⟩) 0 0) rfl (.tmp 5) (.tmp 6) _ rfl elem_strS rfl (Own.made Shape.str _ w _ (Nat.le_refl _)) rfl hs (fun _ h => h.elim) ?_ ?_ ?_ ?_
       · simp; omega
       · simp [maxLen]; omega
       · simp
       intro v' w1 hown hg hat))
  go_ret
  have hb : Below w.heap.size w w1 := ((Below.refl _ _).alloc (Nat.le_refl _) _).grown hg (by simp) (by simp [Value.ownBlock])
  have e := over_of_below hb
  rw [e] at hown ⊢
  exact ⟨v', _, rfl, rfl, by simpa using hown⟩
theorem copyT {A:Option Addr} {n c:Nat} {l:List ByteArray} (w:World) (h:Row Shape.str w (Old w) A n l) (hn:n≤1000000000) :
  Calls Tryz.prog 43 #[.slice A n c] w fun e w'=>∃ v,e=.returned v∧Own Shape.str 9 w' w.heap.size (fun _=>False) v l∧Below w.heap.size w w':=
 (copyTexts w h (by omega)).mono fun _ _ ⟨v,_,h1,h2,h3⟩=>⟨v,h1,h3,by rw [h2]; exact below_over _ _⟩
theorem whole_ent:Whole Tryz.prog 66 11:=⟨by kernel_rfl,by kernel_rfl⟩
theorem whole_cfg:Whole Tryz.prog 42 13:=⟨by kernel_rfl,by kernel_rfl⟩
def CopyCfgEnd (d:ConfigD) (w:World) (en:Ending) (w':World):Prop:=∃ B1 m1 d1 B2 m2 d2,m1≤d1∧m2≤d2∧en=.returned (.agg (cfgC d B1 m1 d1 B2 m2 d2))∧Row Shape.str w' (New w w') B1 m1 d.include_∧Row Shape.str w' (New w w') B2 m2 d.exclude∧Below w.heap.size w w'
theorem copyConfig {d:ConfigD} {A1:Option Addr} {n1 c1:Nat} {A2:Option Addr} {n2 c2:Nat} (w:World) (h1:Row Shape.str w (Old w) A1 n1 d.include_) (h2:Row Shape.str w (Old w) A2 n2 d.exclude) (hn1:n1≤1000000000) (hn2:n2≤1000000000) :
  Calls Tryz.prog 20 #[.agg (cfgC d A1 n1 c1 A2 n2 c2)] w (CopyCfgEnd d w):=by
 unfold cfgC
 have H2:=Lib.hid h2
 clear h2
 go_enter Tryz.func20,Tryz.ntmps20
 go_wp2_with fail
 refine (copyT (c:=c1) _ (h1.below ?_) hn1).mono ?_
 ·go_grown
 rintro en u ⟨v,rfl,hown,hu⟩
 obtain ⟨b1,b2,hbw,hsz⟩:=blks2 hu
 clear hu
 obtain ⟨A',m,c',rfl,hmc,_,hrow'⟩:=hown.rd_from (B:=w.heap.size+2) (by simp) (fun _ h=>h.elim)
 have HR:=Lib.hid hrow'
 have j10:=b1.cell 11; have jf10:=b1.frozen 11; have j11:=b1.cell 12
 simp only [List.getElem?_toArray,List.getElem?_cons_succ,List.getElem?_cons_zero] at j10 j11
 have HM:=Lib.hid hmc; have HBW:=Lib.hid hbw; have HSZ:=Lib.hid hsz
 have C1:Hid (Blk (u.setCell ⟨w.heap.size,11,none⟩ (.slice A' m c')) w.heap.size 42 #[.int .i64 d.maxEntries,.int .i64 d.maxBytes,.int .i64 d.maxDepth,.int .i64 d.maxName,.int .i64 d.maxPax,.int .i64 d.strip,.int .i64 d.links,.int .i64 d.replace,.int .i64 d.umask,.bool d.keepSetid,.bool d.keepIds,.slice A' m c',.slice A2 n2 c2]):=Lib.hid ((b1.set_ 11 (.slice A' m c')).to rfl)
 have C2:=Lib.hid (b2.far (p:=⟨w.heap.size,11,none⟩) (show w.heap.size+1≠w.heap.size by omega) (.slice A' m c'))
 have HBU:=Lib.hid (HBW.out.setCell (p:=⟨w.heap.size,11,none⟩) (Nat.le_refl _) (.slice A' m c'))
 have KU:Hid (Turned w.heap.size u (u.setCell ⟨w.heap.size,11,none⟩ (.slice A' m c'))):=Lib.hid (turned_cell _ _ _ _)
 have lt1:=b1.lt
 clear hown hrow' hmc hbw hsz b1 b2 h1
 go_wp2_with fail
 clear j10 jf10 j11 lt1
 generalize u.setCell ⟨w.heap.size,11,none⟩ (.slice A' m c')=u1 at C1 C2 HBU KU ⊢
 refine (copyT (c:=c2) _ (H2.out.below HBU.out) hn2).mono ?_
 rintro en u2 ⟨v2,rfl,hown2,hu2⟩
 obtain ⟨A'',m2,c'',rfl,hmc2,_,hrow2⟩:=hown2.rd_from (B:=u1.heap.size) (Nat.le_refl _) (fun _ h=>h.elim)
 have HR2:=Lib.hid hrow2
 have b1:=C1.out.below hu2 C1.out.lt; have b2:=C2.out.below hu2 C2.out.lt
 have j10:=b1.cell 12; have jf10:=b1.frozen 12
 simp only [List.getElem?_toArray,List.getElem?_cons_succ,List.getElem?_cons_zero] at j10
 have B1:=Lib.hid (b1.set_ 12 (.slice A'' m2 c'')); have B2:=Lib.hid (b2.far (p:=⟨w.heap.size,12,none⟩) (show w.heap.size+1≠w.heap.size by omega) (.slice A'' m2 c''))
 have HB2:=Lib.hid (below_old HBU.out hu2)
 have lt1:=b1.lt
 have HU2:=Lib.hid hu2; have HM2:=Lib.hid hmc2
 clear hown2 hrow2 hmc2 hu2 b1 b2 C1 C2
 go_wp2_with (first
  | ((with_reducible refine at_load (ty:=42) (x:=.tmp 1) ?_ ?_); exact rfl; refine wpList_load_blk rfl 42 (.tmp 1) rfl _ rfl B1.out whole_cfg ?_)
  | ((with_reducible refine at_store (ty:=42) (x:=.tmp 2) (y:=.tmp 11) ?_ ?_); exact rfl; refine wpList_store_blk rfl 42 (.tmp 2) (.tmp 11) rfl _ rfl B2.out rfl (by kernel_rfl) rfl rfl ?_; intro w99 b99 g99))
 have hs:=g99.size
 have hsz:=HSZ.out
 have hs1:=KU.out.size
 have hs2:=HU2.out.size
 have hs':u2.heap.size≤w99.heap.size:=by simpa [World.setCell] using hs
 refine ret_blk rfl rfl b99 whole_cfg rfl ⟨A',m,c',A'',m2,c'',HM.out,HM2.out,rfl,?_,?_,?_⟩
 ·refine (HR.out.keep (fun b hb=>?_)).more ?_
  ·have hb1:=hb.1
   have hb2:=hb.2
   exact ((Keeps.trans (Keeps.set u2 ⟨w.heap.size,12,none⟩ (.slice A'' m2 c'') (M:=fun b=>w.heap.size+2≤b∧b<u.heap.size) (by rintro n ⟨h1,h2⟩; simp; omega)) (Keeps.grown g99 (by rintro n ⟨h1,h2⟩; simp [World.setCell]; omega))) b ⟨hb1,hb2⟩).trans ((HU2.out.block b (by omega)).trans (KU.out.block b (by omega)))
  ·rintro n ⟨h1,h2⟩; exact ⟨by omega,by omega⟩
 ·refine (HR2.out.keep ((Keeps.set u2 ⟨w.heap.size,12,none⟩ (.slice A'' m2 c'') ?_).trans (Keeps.grown g99 ?_))).more ?_
  ·rintro n ⟨h1,h2⟩; simp; omega
  ·rintro n ⟨h1,h2⟩; simp [World.setCell]; omega
  ·rintro n ⟨h1,h2⟩; exact ⟨by omega,by omega⟩
 ·exact Below.trans (HB2.out.setCell (p:=⟨w.heap.size,12,none⟩) (Nat.le_refl _) (.slice A'' m2 c'')) ((Below.refl _ _).grown g99 (by simp; omega) (by simp))
end Go.Proofs.YtfhfcipelgogjaaGreatDoor
namespace Go.Proofs.YtfhfcipelgogjaaGreatDoor
open Go.RowKit
attribute [local go_sem] cell?_over frozen?_over lt_over le_over
theorem elem_EntryD:Elem Tryz.prog 39 66 Shape.EntryD 136:=⟨Tryz.underlying39,by kernel_rfl⟩
theorem copyEntryM {e : EntryD} {A : Option Addr} {n cd : Nat} (w : World) (h : Row Shape.byte w (Old w) A n e.data) (hn : n ≤ 1000000000) :
    Calls Tryz.prog 41 #[.agg (entC e A n cd)] w fun en w' => ∃ A' n' c', n' ≤ c' ∧ c' ≤ maxLen ∧ en = .returned (.agg (entC e A' n' c')) ∧ Row Shape.byte w' (New w w') A' n' e.data ∧ Below w.heap.size w w' := by
  unfold entC
  go_enter Tryz.func41, Tryz.ntmps41
  go_wp2_with fail
  refine (copyB (c := cd) _ (h.below ?_) hn).mono ?_
  · go_grown
  rintro en u ⟨v, rfl, hown, hu⟩
  obtain ⟨b1, b2, hbw, hsz⟩ := blks2 hu
  clear hu
  obtain ⟨A', m, c', rfl, hmc, hmx, hrow'⟩ := hown.rd_from (B := w.heap.size + 2) (by simp) (fun _ h => h.elim)
  have HR := Lib.hid hrow'
  have j10 := b1.cell 10; have jf10 := b1.frozen 10
  simp only [List.getElem?_toArray, List.getElem?_cons_succ, List.getElem?_cons_zero] at j10
  have HM := Lib.hid hmc; have HX := Lib.hid hmx; have HBW := Lib.hid hbw; have HSZ := Lib.hid hsz
  have B1 := Lib.hid (b1.set_ 10 (.slice A' m c')); have B2 := Lib.hid (b2.far (p := ⟨w.heap.size, 10, none⟩) (show w.heap.size + 1 ≠ w.heap.size by omega) (.slice A' m c'))
  have lt1 := b1.lt
  clear hown hrow' hmc hmx hbw hsz b1 b2
  go_wp2_with (first
    | ((with_reducible refine at_load (ty := 66) (x := .tmp 1) ?_ ?_); exact rfl; refine wpList_load_blk rfl 66 (.tmp 1) rfl _ rfl B1.out whole_ent ?_)
    | ((with_reducible refine at_store (ty := 66) (x := .tmp 2) (y := .tmp 7) ?_ ?_); exact rfl; refine wpList_store_blk rfl 66 (.tmp 2) (.tmp 7) rfl _ rfl B2.out rfl (by kernel_rfl) rfl rfl ?_; intro w99 b99 g99))
  have hs := g99.size
  have hsz := HSZ.out
  refine ret_blk rfl rfl b99 whole_ent rfl ⟨A', m, c', HM.out, HX.out, rfl, ?_, ?_⟩
  · refine (HR.out.keep ((Keeps.set u ⟨w.heap.size, 10, none⟩ (.slice A' m c') ?_).trans (Keeps.grown g99 ?_))).more ?_
    · rintro n ⟨h1, h2⟩; simp; omega
    · rintro n ⟨h1, h2⟩; simp [World.setCell]; omega
    · rintro n ⟨h1, h2⟩; exact ⟨by omega, Nat.lt_of_lt_of_le h2 (by simpa [World.setCell] using hs)⟩
  · exact Below.trans (HBW.out.setCell (p := ⟨w.heap.size, 10, none⟩) (Nat.le_refl _) (.slice A' m c')) ((Below.refl _ _).grown g99 (by simp; omega) (by simp))
theorem copyEntries {A : Option Addr} {n c : Nat} {l : List EntryD} (w : World) (h : Row Shape.EntryD w (Old w) A n l) (hs : ∀ e ∈ l, e.data.length ≤ 1000000000) (hn : n ≤ 1000000000000) :
    Calls Tryz.prog 18 #[.slice A n c] w fun e w' => ∃ v M, e = .returned v ∧ Below w.heap.size w w' ∧ Own Shape.EntryD 66 w' w.heap.size M v l ∧ ∀ n, M n → w.heap.size ≤ n := by
  have HL := Lib.hid h.1
  go_enter Tryz.func18, Tryz.ntmps18
  go_wp2_with fail
  go_loopw [3, 4] (fun v i wr => ∃ (k : Nat) (M : Nat → Prop), k ≤ n ∧ i = .int .i64 k ∧ Below w.heap.size w wr ∧ Own Shape.EntryD 66 wr w.heap.size M v (l.take k) ∧ ∀ n, M n → w.heap.size ≤ n) (fun _ i _ => n - (intOf i).toNat)
  case atStart => exact ⟨0, fun _ => False, Nat.zero_le _, rfl, (Below.refl _ _).alloc (Nat.le_refl _) _, Own.made Shape.EntryD _ w _ (Nat.le_refl _), fun _ h => h.elim⟩
  case round =>
    obtain ⟨k, M, hk, rfl, hbel, hown, hM⟩ := hrel
    by_cases hlt : k < n
    · obtain ⟨b, off, es, hkl, rfl, hb, hc, hc0, hr⟩ := h.elem (Keeps.old hbel) hlt
      have hsm := hs _ (List.getElem_mem hkl)
      have hr2 : EntryD.rd wr (Old wr) es l[k] := Shape.EntryD.more hr fun _ hn => Old.below hbel hn
      have R := Lib.hid hr2; clear hr2
      obtain ⟨Ae, ne, ce, rfl, hne, hce, hrow⟩ := entC_of hr
      have HRW : Hid (Row Shape.byte wr (Old wr) Ae ne l[k].data) := Lib.hid (hrow.more fun _ hn => Old.below hbel hn)
      have hne9 : ne ≤ 1000000000 := by rw [← hrow.1]; exact hsm
      have e11 : Shape.EntryD.size = 11 := rfl
      simp only [e11, entC] at hc hc0
      clear e11 hrow
      have hb2 := Nat.lt_of_lt_of_le hb hbel.size
      have hks : (k : Int) < n := by omega
      have hszw := hbel.size
      have O := Lib.hid hown; clear hown
      have HM := Lib.hid hM; clear hM
      have HB := Lib.hid hbel; clear hbel
      have CE := Lib.hid (copyEntryM (cd := ce) wr HRW.out hne9)
      unfold entC at CE
      go_wp2_with fail
      refine CE.out.mono ?_
      rintro e u ⟨A', n', c', hn', hx', rfl, hrd, hbu⟩
      have hszu := hbu.size
      have htk := List.length_take_le k l
      have hO2 : Hid (Own Shape.EntryD 66 u w.heap.size M u3 (l.take k)) := Lib.hid (O.out.kept (row := none) ⟨hbu.os, hbu.tape, hbu.output, hbu.size, fun n hn _ => hbu.block n hn⟩ (by cases hv : u3.ownBlock <;> simp) (fun _ _ => by simp))
      have R2 : Hid (EntryD.rd u (New wr u) (entC l[k] A' n' c').toList l[k]) := Lib.hid (by
        obtain ⟨_, _, _, q0, q1, q2, q3, q4, q5, q6, q7, q8, q9, q10, -⟩ := R.out
        exact ⟨A', n', c', rfl, q1, q2, q3, q4, q5, q6, q7, q8, q9, q10, hn', hx', hrd⟩)
      unfold entC at R2
      clear hrd CE
      have hlt3 := O.out.lt
      have HL3 := Lib.hid hlt3; clear hlt3
      go_wp2_with (first
        | (at_builtin
           refine wpList_append_list (v := u3) rfl (.tmp 12) (.tmp 18) _ rfl elem_EntryD rfl (hO2.out.alloc _) rfl (Src.single (s := Shape.EntryD) _ (fun _ h => h.2) R2.out) ?_ ?_ ?_ ?_ ?_
           · intro n hn
             refine ⟨by have := hn.2; simp; omega, fun e => ?_⟩
             have := (HL3.out n e.symm).2
             have := hn.1
             omega
           · simp only [List.length_cons, List.length_nil]; omega
           · simp only [List.length_cons, List.length_nil, maxLen]; omega
           · have := HB.out.size; simp; omega
           intro v' w1 hown' hg hat))
      go_roundw
      case rel =>
        have e : l.take (k + 1) = l.take k ++ [l[k]] := List.take_succ_eq_append_getElem hkl
        refine ⟨k + 1, _, by omega, by go_num, ?_, by rw [e]; exact hown', ?_⟩
        · refine (HB.out.trans (hbu.mono hszw)).alloc (by have := hbu.size; omega) _ |>.grown hg (by have := hbu.size; simp; omega) (fun m hm => (HL3.out m hm).1)
        · rintro n (hn | hn)
          · exact HM.out n hn
          · have := hn.1; omega
      case measure => simp [intOf]; omega
    · go_wp2
      go_ret
      refine ⟨_, M, rfl, hbel, ?_, hM⟩
      rw [← List.take_of_length_le (l := l) (i := k) (by rw [HL.out]; omega)]
      exact hown
end Go.Proofs.YtfhfcipelgogjaaGreatDoor
