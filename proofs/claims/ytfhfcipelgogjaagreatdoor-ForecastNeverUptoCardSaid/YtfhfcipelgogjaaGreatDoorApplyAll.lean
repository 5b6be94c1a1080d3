/- (*forecast.fold).apply. A hard link's From is not empty. (*forecast.fold).apply of a hard link. A region that draws its order, whose operations may stand behind guards, and may write, as long as a relation between worlds is kept by all of them and what each one has made stays under it: one walk of the text's order serves every order. No condition. -/
import Derived.Test.YtfhfcipelgogjaaGreatDoorFoldAll
import Derived.LaidEqlPtr
import Derived.Test.YtfhfcipelgogjaaGreatDoorRegAll
set_option linter.unusedSectionVars false
set_option linter.unusedVariables false
set_option linter.unusedSimpArgs false
set_option maxHeartbeats 8000000
set_option maxRecDepth 100000
namespace Go.Proofs.YtfhfcipelgogjaaGreatDoor
open Go.RowKit
attribute [local go_sem] cell?_over frozen?_over lt_over le_over
def ApplyEnd (X:FoldS×Int×Int) (vd:Value) (B f r mo:Nat) (now:TimeD) (hs:List Hn) (ths:List ThD) (w:World) (e:Ending) (w':World):Prop:=
 ∃ hs2,FoldAt w' B f r mo now (hs++hs2) X.1.ths X.1.off∧(∀ h∈hs2,w.heap.size≤h.a∧w.heap.size≤h.m∧(h.dv=.slice none 0 0∨h.dv=vd))∧Cng (fun k=>inTree hs ths k∨k=mo) w w'∧e=.returned (.tuple #[.int .i64 X.2.1,.int .i64 X.2.2])
structure ApplyIn (w:World) (hs:List Hn) (ths:List ThD) (j:JobD) (Ap:Option Addr) (np cp:Nat) (Af:Option Addr) (nf cf:Nat) (vd:Value):Prop where
 parts:Row Shape.str w (fun k=>k<w.heap.size∧¬ inTree hs ths k) Ap np j.parts
 cparts:np≤cp∧np≤140737488355328
 from_:Row Shape.str w (fun k=>k<w.heap.size∧¬ inTree hs ths k) Af nf j.from_
 cfrom:nf≤cf∧nf≤140737488355328
 data:DatV w vd j.data
 hard:j.kind=4→0<nf
theorem row_take {α:Type} {s:Shape α} {w:World} {M:Nat→Prop} {A:Option Addr} {n:Nat} {l:List α} (h:Row s w M A n l) {k:Nat} (hk:k≤n):Row s w M A k (l.take k):=by
 refine ⟨by rw [List.length_take,h.1]; omega,fun h0=>?_⟩
 obtain ⟨b,off,e,hb,hi⟩:=h.2 (by omega)
 refine ⟨b,off,e,hb,fun i hil=>?_⟩
 have hil':i<l.length:=by rw [List.length_take] at hil; omega
 obtain ⟨es,hc,hr⟩:=hi i hil'
 exact ⟨es,hc,by rw [List.getElem_take]; exact hr⟩
theorem ApplyIn.keep {w w':World} {hs:List Hn} {ths:List ThD} {Ap:Option Addr} {n:Nat} {l:List ByteArray} (h:Row Shape.str w (fun k=>k<w.heap.size∧¬ inTree hs ths k) Ap n l) (hc:Cng (inTree hs ths) w w'):Row Shape.str w' (fun k=>k<w.heap.size∧¬ inTree hs ths k) Ap n l:=
 h.keep fun k hk=>hc.block k hk.1 hk.2
theorem apply_err {R:FoldS×Int×Int} {B f r mo:Nat} {now:TimeD} {hs hs2:List Hn} {ths ths2:List ThD} {off:List (Nat×JobD)} {w w':World} {o e:Int} (h:R=(⟨ths2,off⟩,o,e)) (hF:FoldAt w' B f r mo now (hs++hs2) ths2 off) {vd:Value} (hn:∀ h∈hs2,w.heap.size≤h.a∧w.heap.size≤h.m∧(h.dv=.slice none 0 0∨h.dv=vd)) (hc:Cng (inTree hs ths) w w') :
  ApplyEnd R vd B f r mo now hs ths w (.returned (.tuple #[.int .i64 o,.int .i64 e])) w':=by
 subst h; exact ⟨hs2,hF,hn,hc.mono fun k hk=>.inl hk,rfl⟩
theorem foldApply0 {B f r mo : Nat} {now : TimeD} {hs : List Hn} {ths : List ThD} {off : List (Nat × JobD)} {j : JobD} {Ap : Option Addr} {cp : Nat} {Af : Option Addr} {nf cf : Nat} {vd : Value} (w : World) (hF : FoldAt w B f r mo now hs ths off) (hI : ApplyIn w hs ths j Ap 0 cp Af nf cf vd) :
    Calls Tryz.prog 111 #[.pointer (some ⟨f, 0, none⟩), .agg (jobC j (.slice Ap 0 cp) (.slice Af nf cf) vd)] w (ApplyEnd (applyF now r j ths off) vd B f r mo now hs ths w) := by
  obtain ⟨R, hR⟩ : ∃ x, x = applyF now r j ths off := ⟨_, rfl⟩
  rw [← hR]
  obtain ⟨Ad, cd, hcd, rfl, hrd⟩ := hI.data
  have HF := Lib.hid hF; have HI := Lib.hid hI; have HR := Lib.hid hR
  have lf := hF.blk.lt; have f0 := hF.blk.cell 0; have f3 := hF.blk.cell 3
  unfold foldC at f0 f3
  simp only [List.getElem?_toArray, List.getElem?_cons_succ, List.getElem?_cons_zero] at f0 f3
  clear hF hR hrd
  unfold jobC
  clear hI
  go_enter Tryz.func111, Tryz.ntmps111
  go_wp2_with fail
  obtain ⟨w1, hw1⟩ : ∃ x, x = w.alloc (.cells (jobC j (.slice Ap 0 cp) (.slice Af nf cf) (.slice Ad j.data.length cd)) 207) := ⟨_, rfl⟩
  unfold jobC at hw1
  rw [← hw1]
  have hbw : Below w.heap.size w w1.drew := by rw [hw1]; exact (below_alloc' _ _).drew
  have bj : Blk w1.drew w.heap.size 207 (jobC j (.slice Ap 0 cp) (.slice Af nf cf) (.slice Ad j.data.length cd)) := by rw [hw1]; exact (Blk.new w _ _).drew
  clear hw1
  refine wp_region_tail_at (fun u => Blk u w.heap.size 207 (jobC j (.slice Ap 0 cp) (.slice Af nf cf) (.slice Ad j.data.length cd)) ∧ Below w.heap.size w u) ⟨bj, hbw⟩ 9 (by kernel_rfl) (by kernel_rfl) ?_
  clear bj hbw
  rintro u ⟨bj, hbu⟩
  have HFu := Lib.hid (HF.out.below hbu)
  have HBU := Lib.hid hbu
  have lu := HFu.out.blk.lt; have u0 := HFu.out.blk.cell 0; have u3 := HFu.out.blk.cell 3
  unfold foldC at u0 u3
  simp only [List.getElem?_toArray, List.getElem?_cons_succ, List.getElem?_cons_zero] at u0 u3
  have j0 := bj.cell 0; have j1 := bj.cell 1; have j2 := bj.cell 2; have j3 := bj.cell 3; have j4 := bj.cell 4; have j5 := bj.cell 5; have j6 := bj.cell 6; have j7 := bj.cell 7; have j8 := bj.cell 8; have j9 := bj.cell 9; have j10 := bj.cell 10; have j11 := bj.cell 11; have j12 := bj.cell 12
  have lj := bj.lt
  unfold jobC at j0 j1 j2 j3 j4 j5 j6 j7 j8 j9 j10 j11 j12
  simp only [List.getElem?_toArray, List.getElem?_cons_succ, List.getElem?_cons_zero] at j0 j1 j2 j3 j4 j5 j6 j7 j8 j9 j10 j11 j12
  clear hbu bj
  simp only [List.take_succ_cons, List.take_zero, List.drop_succ_cons, List.drop_zero]
  repeat still_step
  refine wpStill_nil ?_
  obtain ⟨kv, hmk, hkv, hlt⟩ := HFu.out.off
  have hj0 : j.parts = [] := List.length_eq_zero_iff.1 HI.out.parts.1
  have hend : R = (⟨ths, putKv off r j⟩, 1, 0) := by rw [HR.out]; unfold applyF; rw [if_pos hj0]
  have HEN := Lib.hid hend
  clear hend
  refine wpList_mapUpdate_kvP rfl (.tmp 22) (.tmp 26) (.tmp 27) _ rfl und_off hmk (adr hs r) (HFu.out.var HFu.out.root) (HFu.out.keys hkv) ⟨j, ⟨Ap, 0, cp⟩, ⟨Af, nf, cf⟩, ⟨Ad, j.data.length, cd⟩⟩ rfl rfl rfl (fun w5 hm5 ho5 => ?_)
  have HF5 := Lib.hid (HFu.out.later HFu.out.root hkv hm5 ho5)
  have HC5 : Hid (Cng (fun k => inTree hs ths k ∨ k = mo) w w5) := Lib.hid ((Cng.of_below HBU.out).trans ⟨ho5.os, ho5.tape, ho5.output, Nat.le_of_eq ho5.size.symm, fun n _ hn => ho5.block n (fun e => hn (.inr e))⟩)
  clear hmk hkv hlt hm5 ho5
  go_wp2_with fail
  go_ret2
  rw [HEN.out]
  exact ⟨[], by rw [List.append_nil]; exact HF5.out, (fun h hh => by cases hh), HC5.out, rfl⟩
theorem foldApply {B f r mo : Nat} {now : TimeD} {hs : List Hn} {ths : List ThD} {off : List (Nat × JobD)} {j : JobD} {Ap : Option Addr} {np cp : Nat} {Af : Option Addr} {nf cf : Nat} {vd : Value} (w : World) (hF : FoldAt w B f r mo now hs ths off) (hI : ApplyIn w hs ths j Ap np cp Af nf cf vd) (h4 : j.kind ≠ 4) :
    Calls Tryz.prog 111 #[.pointer (some ⟨f, 0, none⟩), .agg (jobC j (.slice Ap np cp) (.slice Af nf cf) vd)] w (ApplyEnd (applyF now r j ths off) vd B f r mo now hs ths w) := by
  by_cases hn0 : np = 0
  · subst hn0
    exact foldApply0 w hF hI
  obtain ⟨R, hR⟩ : ∃ x, x = applyF now r j ths off := ⟨_, rfl⟩
  rw [← hR]
  obtain ⟨Ad, cd, hcd, rfl, hrd⟩ := hI.data
  have hb4 : (j.kind == 4) = false := by simpa using h4
  have HF := Lib.hid hF; have HI := Lib.hid hI; have HR := Lib.hid hR
  have lf := hF.blk.lt; have f0 := hF.blk.cell 0; have f3 := hF.blk.cell 3
  unfold foldC at f0 f3
  simp only [List.getElem?_toArray, List.getElem?_cons_succ, List.getElem?_cons_zero] at f0 f3
  clear hF hR hrd
  · obtain ⟨m, rfl⟩ : ∃ m, np = m + 1 := ⟨np - 1, by omega⟩
    have hcp := hI.cparts
    have hmc : m ≤ cp := by omega
    have hmc2 : (m : Int) ≤ cp := by omega
    clear hI
    unfold jobC
    go_enter Tryz.func111, Tryz.ntmps111
    go_wp2_with fail
    obtain ⟨w1, hw1⟩ : ∃ x, x = w.alloc (.cells (jobC j (.slice Ap (m + 1) cp) (.slice Af nf cf) (.slice Ad j.data.length cd)) 207) := ⟨_, rfl⟩
    unfold jobC at hw1
    rw [← hw1]
    have hbw : Below w.heap.size w w1 := by rw [hw1]; exact below_alloc' _ _
    have bj : Blk w1 w.heap.size 207 (jobC j (.slice Ap (m + 1) cp) (.slice Af nf cf) (.slice Ad j.data.length cd)) := by rw [hw1]; exact Blk.new w _ _
    clear hw1
    have j1 := bj.cell 1; have j10 := bj.cell 10
    have lj := bj.lt
    unfold jobC at j1 j10
    simp only [List.getElem?_toArray, List.getElem?_cons_succ, List.getElem?_cons_zero] at j1 j10
    have HBW := Lib.hid hbw; have HBJ := Lib.hid bj
    clear hbw bj
    refine wp_region_grow_t [] 7 _ rfl (by kernel_rfl) [] rfl (by kernel_rfl) stays_nil ?_
    simp only [List.take_succ_cons, List.take_zero, List.drop_succ_cons, List.drop_zero]
    repeat (first
      | (refine g_w rfl ?_ (fun W => ?_) ?_; rotate_left; (focus (go_simp; (try with_reducible rfl); done)); simp only [Act.put, List.setIfInBounds_toArray, List.set_cons_zero, List.set_cons_succ])
      | (refine g_d rfl (by kernel_rfl) ?_ (fun δ => ?_) ?_; rotate_left; (focus (go_simp; (try with_reducible rfl); done)); simp only [Act.put, List.setIfInBounds_toArray, List.set_cons_zero, List.set_cons_succ]))
    refine g_end fun δ _ => ?_
    obtain ⟨u, hu⟩ : ∃ x, x = over w1 δ := ⟨_, rfl⟩
    rw [← hu]
    have hbu : Below w1.heap.size w1 u := by rw [hu]; exact below_over w1 δ
    have HB2 := Lib.hid (HBW.out.trans (hbu.mono (HBW.out.size)))
    have HJ2 := Lib.hid (HBJ.out.below hbu HBJ.out.lt)
    have HF2 := Lib.hid (HF.out.below HB2.out)
    clear hbu hu j1 j10 lj
    have HP2 := Lib.hid (ApplyIn.keep HI.out.parts (Cng.of_below HB2.out))
    refine endT_call ?_ ?_ (fun W => ?_) ?_
    rotate_left 2
    · go_simp; (constructor <;> with_reducible rfl)
    refine (foldWay (ps := j.parts.take m) j.dirMode u HF2.out.blk HF2.out.tree HF2.out.root HF2.out.rkind (row_take HP2.out (Nat.le_succ m)) (by omega) (fun k hk => ⟨Nat.lt_of_lt_of_le hk.1 HB2.out.size, hk.2⟩) HF2.out.base).mono ?_
    rintro e w3 ⟨hs2, hT3, hG3, hE⟩
    obtain ⟨b, hb⟩ : ∃ x, x = wayF now j.dirMode (j.parts.take m) ths r := ⟨_, rfl⟩
    rw [← hb] at hT3 hG3 hE
    have HF3 := Lib.hid (HF2.out.walk hG3 hT3)
    have HG3 := Lib.hid hG3; have HB := Lib.hid hb
    have HJ3 := Lib.hid (show Blk w3 w.heap.size 207 _ from (hG3.cng.block _ HJ2.out.lt (HF2.out.tree.not_blk HJ2.out (by decide))).trans HJ2.out)
    have HC3 := Lib.hid ((Cng.of_below (M := inTree hs ths) HB2.out).trans hG3.cng)
    have HN3 := Lib.hid (show ∀ h ∈ hs2, w.heap.size ≤ h.a ∧ w.heap.size ≤ h.m ∧ (h.dv = .slice none 0 0 ∨ h.dv = .slice Ad j.data.length cd) from fun h hh => by have := hG3.new h hh; have := HB2.out.size; exact ⟨by omega, by omega, .inl (hG3.vnew h hh)⟩)
    have HP3 := Lib.hid (ApplyIn.keep HI.out.parts HC3.out)
    have HOW := Lib.hid (fun (d : Nat) (k : Hn) (hk : (hs ++ hs2)[d]? = some k) (h2 : (thD b.1 d).kind = 2) (n : Nat) (hn : n < w.heap.size) (ho : n = k.a ∨ n = k.m) => hG3.own HF.out.tree.len hk h2 (Nat.lt_of_lt_of_le hn HB2.out.size) ho)
    clear hT3 hG3 hb
    have hpl : j.parts.length - 1 = m := by rw [HI.out.parts.1]; rfl
    have hpn : j.parts ≠ [] := fun h => by have := HI.out.parts.1; rw [h] at this; cases this
    have hRR : R = if b.2.1 ≠ 0 then (⟨b.1, off⟩, 0, b.2.1) else if letsB (thD b.1 b.2.2) 192 = false then (⟨b.1, off⟩, 0, 175) else overF now j b.1 off b.2.2 (lastP j.parts) 0 := by
      rw [HR.out]
      unfold applyF
      rw [if_neg hpn, if_neg h4, hpl, ← HB.out]
    have HRR := Lib.hid hRR
    clear hRR hpl hpn HJ2 HF2 HB2 HP2
    rcases hE with ⟨h0, rfl, hd, hkd⟩ | ⟨h0, rfl⟩
    · refine ⟨_, rfl, ?_⟩
      simp only [Act.put, List.setIfInBounds_toArray, List.set_cons_zero, List.set_cons_succ]
      repeat (refine g_tail ?_ ?_ ?_; rotate_left; (focus (go_simp; (try with_reducible rfl); done)); simp only [Act.put, List.setIfInBounds_toArray, List.set_cons_zero, List.set_cons_succ])
      refine g_tail_end ?_
      obtain ⟨dh, hdh⟩ := HF3.out.tree.hand (thD_at hd)
      have BD := HF3.out.tree.blk _ _ dh (thD_at hd) hdh
      have MD := HF3.out.tree.map _ _ dh (thD_at hd) hdh hkd
      rw [adr_at hdh]
      have hmo : mapOf (thD b.1 b.2.2) dh = some dh.m := if_pos hkd
      rw [hmo] at BD
      obtain ⟨d, hde⟩ : ∃ x, x = b.2.2 := ⟨_, rfl⟩
      rw [← hde] at BD MD hdh hd hkd hmo
      obtain ⟨D, hDe⟩ : ∃ x, x = thD b.1 d := ⟨_, rfl⟩
      rw [← hDe] at BD MD hkd hmo
      have HBD := Lib.hid BD; have HMD := Lib.hid MD; have HDH := Lib.hid hdh; have HDE := Lib.hid hde; have HDD := Lib.hid hDe; have HKD := Lib.hid hkd; have HMO := Lib.hid hmo; have H0 := Lib.hid h0; have HDL := Lib.hid hd
      have HOWN : Hid (∀ n, n < w.heap.size → (n = dh.a ∨ n = dh.m) → inTree hs ths n) := Lib.hid (HOW.out d dh hdh (hDe ▸ hkd))
      clear BD MD hdh hde hDe hkd hmo h0 hd
      go_wp2_with fail
      refine (thingLets w3 HBD.out rfl).mono ?_
      rintro e w4 ⟨rfl, rfl⟩
      have hlb : (Go.bits .and .i64 D.mode 192 == 192) = letsB D 192 := rfl
      rw [hlb]
      clear hlb
      have hRR : R = if letsB D 192 = false then (⟨b.1, off⟩, 0, 175) else overF now j b.1 off d (lastP j.parts) 0 := by
        rw [HRR.out, if_neg (fun h => h H0.out), ← HDE.out, ← HDD.out]
      cases hv : letsB D 192 with
      | false =>
        have hend : R = (⟨b.1, off⟩, 0, 175) := by rw [hRR, if_pos hv]
        have HEND := Lib.hid hend
        clear hend hRR hv
        go_wp2_with fail
        go_ret2
        exact apply_err HEND.out HF3.out HN3.out HC3.out
      | true =>
        have hend : R = overF now j b.1 off d (lastP j.parts) 0 := by rw [hRR, if_neg (by rw [hv]; decide)]
        have HEND := Lib.hid hend
        clear hend hRR hv HRR
        obtain ⟨bp, op, p, hA, hMp, hcp', hdrop⟩ := text_at HP3.out (Nat.lt_succ_self m)
        subst hA
        have lbp : bp < w4.heap.size := Nat.lt_of_lt_of_le hMp.1 HC3.out.size
        have hlast : lastP j.parts = p := by
          have h1 : j.parts[m]? = some p := by
            have := congrArg (fun l => l[0]?) hdrop
            simpa using this
          unfold lastP
          rw [show j.parts.length - 1 = m by rw [HI.out.parts.1]; rfl, List.getD_eq_getElem?_getD, h1]; rfl
        rw [hlast] at HEND
        clear hlast hMp hdrop
        have j0 := HJ3.out.cell 0; have j1 := HJ3.out.cell 1; have j2 := HJ3.out.cell 2; have j3 := HJ3.out.cell 3; have j4 := HJ3.out.cell 4; have j5 := HJ3.out.cell 5; have j6 := HJ3.out.cell 6; have j7 := HJ3.out.cell 7; have j8 := HJ3.out.cell 8; have j9 := HJ3.out.cell 9; have j10 := HJ3.out.cell 10; have j11 := HJ3.out.cell 11; have j12 := HJ3.out.cell 12
        have lj := HJ3.out.lt
        unfold jobC at j0 j1 j2 j3 j4 j5 j6 j7 j8 j9 j10 j11 j12
        simp only [List.getElem?_toArray, List.getElem?_cons_succ, List.getElem?_cons_zero] at j0 j1 j2 j3 j4 j5 j6 j7 j8 j9 j10 j11 j12
        have x10 := HBD.out.cell 10; have lD := HBD.out.lt
        unfold thCells at x10
        simp only [List.getElem?_toArray, List.getElem?_cons_succ, List.getElem?_cons_zero] at x10
        cases hg : getKv D.ins p with
        | none =>
          have hga : getKv (insA (hs ++ hs2) D.ins) p = none := by rw [insA_get, hg]; rfl
          have hend : R = (⟨putT now (b.1 ++ [freshD now j]) d p b.1.length, if j.kind = 2 then putKv off b.1.length j else off⟩, 1, 0) := by
            rw [HEND.out]; unfold overF; rw [← HDD.out, hg]; show placeF now j b.1 off d p 0 = _; unfold placeF; rw [if_neg h4]
          have HGA := Lib.hid hga; have HEN := Lib.hid hend
          clear hga hend hg HEND
          go_wp2_with (refine wpList_lookup_kv0 rfl (.tmp 105) (.tmp 106) _ rfl (K := kN) (cv := cPt) und_in HMD.out p (z := .pointer none) (Tryz.zeroValue143 _) rfl rfl ?_
                       rw [HGA.out]
                       dsimp only [Option.map, Option.getD])
          have hdat4 : DatV w4 (.slice Ad j.data.length cd) j.data := HI.out.data.cng HC3.out (fun k hk => HF.out.nobyte hk)
          have HD4 := Lib.hid hdat4
          clear hdat4 x10 lD j0 j1 j2 j3 j4 j5 j6 j7 j8 j9 j10 j11 j12 lj hcp'
          refine (foldFresh (j := j) (vp := .slice (some ⟨bp, op, none⟩) (m + 1) cp) (vf := .slice Af nf cf) (vd := .slice Ad j.data.length cd) w4 HF3.out.blk ⟨_, _, _, rfl⟩ ⟨_, _, _, rfl⟩ ⟨_, _, _, rfl⟩).mono ?_
          rintro e w5 ⟨fh, rfl, ha5, hm5, hb5, bt5, mt5, hv5⟩
          have hd5 : DatV w5 fh.dv (freshD now j).data := by
            rcases hv5 with ⟨e1, e2⟩ | ⟨e1, e2⟩
            · rw [e1, e2]; exact HD4.out.cng (M := fun _ => False) (Cng.of_below hb5) (fun _ h => h.elim)
            · rw [e1, e2]; exact DatV.nil _
          have HF5 := Lib.hid (HF3.out.push hb5 bt5 mt5 (freshD_ins now j) (freshD_kind now j) ha5 hm5 hd5)
          have HC5 := Lib.hid (HC3.out.trans (Cng.of_below (M := inTree hs ths) hb5))
          have BD5 := Lib.hid (HBD.out.below hb5 HBD.out.lt)
          have MD5 := Lib.hid (HMD.out.of_block (hb5.block _ HMD.out.lt))
          have HJ5 := Lib.hid (HJ3.out.below hb5 HJ3.out.lt)
          have HN5 : Hid (∀ h ∈ hs2 ++ [fh], w.heap.size ≤ h.a ∧ w.heap.size ≤ h.m ∧ (h.dv = .slice none 0 0 ∨ h.dv = .slice Ad j.data.length cd)) := Lib.hid (fun h hh => by
            rcases List.mem_append.1 hh with hh | hh
            · exact HN3.out h hh
            · rw [List.mem_singleton.1 hh]; have := HC3.out.size; exact ⟨by omega, by omega, hv5.elim (fun h => .inr h.1) (fun h => .inl h.2)⟩)
          have hdl : d < (b.1 ++ [freshD now j]).length := by rw [List.length_append]; have := HDL.out; omega
          have hDd : thD (b.1 ++ [freshD now j]) d = D := by rw [thD_app HDL.out]; exact HDD.out.symm
          have hdh5 : ((hs ++ hs2) ++ [fh])[d]? = some dh := by rw [List.getElem?_append_left (List.getElem?_eq_some_iff.1 HDH.out).1]; exact HDH.out
          have hat : adr ((hs ++ hs2) ++ [fh]) b.1.length = fh.a := by
            refine adr_at ?_
            rw [List.getElem?_append_right (by rw [HF3.out.tree.len]; exact Nat.le_refl _), HF3.out.tree.len, Nat.sub_self]; rfl
          have HDL5 := Lib.hid hdl; have HDD5 := Lib.hid hDd; have HDH5 := Lib.hid hdh5; have HAT := Lib.hid hat
          clear ha5 hm5 hb5 bt5 mt5 hv5 hd5 hdl hDd hdh5 hat
          go_wp2_with fail
          refine (thingPut (x := fh.a) w5 HF5.out.blk BD5.out MD5.out rfl rfl rfl rfl).mono ?_
          rintro e w6 ⟨rfl, hc6, b6, m6⟩
          have HF6 := Lib.hid (HF5.out.put (name := p) (x := b.1.length) HDL5.out (by rw [HDD5.out]; exact HKD.out) HDH5.out (by rw [List.length_append]; exact Nat.lt_succ_self _) hc6 (by rw [HDD5.out, HMO.out]; exact b6) (by rw [HDD5.out, HAT.out, insA_app (fun q hq => by rw [HF3.out.tree.len]; rw [HDD.out] at hq; exact (HF3.out.tree.ok d _ (thD_at HDL.out)).2.2 q hq)]; exact m6))
          have HC6 := Lib.hid (HC5.out.then_ hc6 (fun n hn ho => HOWN.out n hn ho))
          have HJ6 := Lib.hid (show Blk w6 w.heap.size 207 _ from (hc6.block _ HJ5.out.lt (fun ho => HF5.out.tree.not_blk HJ5.out (by decide) ⟨d, _, dh, thD_at HDL5.out, HDH5.out, ho.imp id fun e => ⟨by rw [HDD5.out]; exact HKD.out, e⟩⟩)).trans HJ5.out)
          clear hc6 b6 m6
          have j0 := HJ6.out.cell 0; have lj := HJ6.out.lt
          unfold jobC at j0
          simp only [List.getElem?_toArray, List.getElem?_cons_succ, List.getElem?_cons_zero] at j0
          by_cases hj2 : j.kind = 2
          · have hjb : (j.kind == 2) = true := by simpa using hj2
            have hend : R = (⟨putT now (b.1 ++ [freshD now j]) d p b.1.length, putKv off b.1.length j⟩, 1, 0) := by rw [HEN.out, if_pos hj2]
            have HEND := Lib.hid hend
            clear hend hj2
            go_wp2_with fail
            refine wp_region_tail_at (fun u => Blk u w.heap.size 207 (jobC j (.slice (some ⟨bp, op, none⟩) (m + 1) cp) (.slice Af nf cf) (.slice Ad j.data.length cd)) ∧ Below w6.heap.size w6 u) ⟨HJ6.out.drew, (Below.refl _ _).drew⟩ 6 (by kernel_rfl) (by kernel_rfl) ?_
            rintro u7 ⟨bj7, hbu7⟩
            have HF7 := Lib.hid (HF6.out.below hbu7)
            have HC7 := Lib.hid (HC6.out.trans (Cng.of_below (M := inTree hs ths) hbu7))
            clear hbu7 lj j0
            have lu := HF7.out.blk.lt; have u3 := HF7.out.blk.cell 3
            unfold foldC at u3
            simp only [List.getElem?_toArray, List.getElem?_cons_succ, List.getElem?_cons_zero] at u3
            have j0 := bj7.cell 0; have j1 := bj7.cell 1; have j2 := bj7.cell 2; have j3 := bj7.cell 3; have j4 := bj7.cell 4; have j5 := bj7.cell 5; have j6 := bj7.cell 6; have j7 := bj7.cell 7; have j8 := bj7.cell 8; have j9 := bj7.cell 9; have j10 := bj7.cell 10; have j11 := bj7.cell 11; have j12 := bj7.cell 12
            have lj := bj7.lt
            unfold jobC at j0 j1 j2 j3 j4 j5 j6 j7 j8 j9 j10 j11 j12
            simp only [List.getElem?_toArray, List.getElem?_cons_succ, List.getElem?_cons_zero] at j0 j1 j2 j3 j4 j5 j6 j7 j8 j9 j10 j11 j12
            clear bj7
            simp only [List.take_succ_cons, List.take_zero, List.drop_succ_cons, List.drop_zero]
            repeat still_step
            refine wpStill_nil ?_
            obtain ⟨kv, hmk, hkv, hlt⟩ := HF7.out.off
            have hnl : b.1.length < (putT now (b.1 ++ [freshD now j]) d p b.1.length).length := by unfold putT; rw [List.length_set, List.length_append]; exact Nat.lt_succ_self _
            refine wpList_mapUpdate_kvP rfl (.tmp 171) (.tmp 172) (.tmp 173) _ rfl und_off hmk (adr ((hs ++ hs2) ++ [fh]) b.1.length) (HF7.out.var hnl) (HF7.out.keys hkv) ⟨j, ⟨some ⟨bp, op, none⟩, m + 1, cp⟩, ⟨Af, nf, cf⟩, ⟨Ad, j.data.length, cd⟩⟩ rfl (by rw [HAT.out]; rfl) rfl (fun w8 hm8 ho8 => ?_)
            have HF8 := Lib.hid (HF7.out.later hnl hkv hm8 ho8)
            have HC8 : Hid (Cng (fun k => inTree hs ths k ∨ k = mo) w w8) := Lib.hid ((HC7.out.mono (fun k hk => .inl hk)).trans ⟨ho8.os, ho8.tape, ho8.output, Nat.le_of_eq ho8.size.symm, fun n _ hn => ho8.block n (fun e => hn (.inr e))⟩)
            clear hmk hkv hlt hm8 ho8 hnl
            go_wp2_with fail
            go_ret2
            rw [HEND.out]
            exact ⟨hs2 ++ [fh], by rw [← List.append_assoc]; exact HF8.out, HN5.out, HC8.out, rfl⟩
          · have hjb : (j.kind == 2) = false := by simpa using hj2
            have hend : R = (⟨putT now (b.1 ++ [freshD now j]) d p b.1.length, off⟩, 1, 0) := by rw [HEN.out, if_neg hj2]
            have HEND := Lib.hid hend
            clear hend hj2
            go_wp2_with fail
            go_ret2
            exact apply_err HEND.out (by rw [← List.append_assoc]; exact HF6.out) HN5.out HC6.out
        | some old =>
          have hol : old < b.1.length := (HF3.out.tree.ok d _ (thD_at HDL.out)).2.2 _ (by rw [← HDD.out]; exact get_mem hg)
          obtain ⟨oh, hoh⟩ := HF3.out.tree.hand (thD_at hol)
          have BX := HF3.out.tree.blk old _ oh (thD_at hol) hoh
          have o1 := BX.cell 1; have lX := BX.lt
          unfold thCells at o1
          simp only [List.getElem?_toArray, List.getElem?_cons_succ, List.getElem?_cons_zero] at o1
          have hga : getKv (insA (hs ++ hs2) D.ins) p = some oh.a := by rw [insA_get, hg]; exact congrArg some (adr_at hoh)
          have hRo : R = if (thD b.1 old).kind = 2 ∧ j.kind = 2 then (⟨b.1, putKv off old j⟩, 1, 0)
              else if (thD b.1 old).kind = 2 then (⟨b.1, off⟩, 0, 172)
              else if j.replace = 1 then (⟨b.1, off⟩, 0, 171)
              else if j.replace = 2 then (⟨b.1, off⟩, 4, 0)
              else placeF now j (dropT now b.1 d p) off d p 0 := by
            rw [HEND.out]; unfold overF; rw [← HDD.out, hg]
            show (if j.kind = 4 ∧ old = 0 then _ else _) = _
            rw [if_neg (fun h => h4 h.1)]
          have HGA := Lib.hid hga; have HRo := Lib.hid hRo; have HOH := Lib.hid hoh; have HBX := Lib.hid BX
          obtain ⟨kx, hkx⟩ : ∃ y, y = (thD b.1 old).kind := ⟨_, rfl⟩
          rw [← hkx] at o1
          have HKX := Lib.hid hkx
          clear hga hRo hoh BX hg HEND hkx
          by_cases hk2 : kx = 2
          · subst hk2
            by_cases hj2 : j.kind = 2
            · have hend : R = (⟨b.1, putKv off old j⟩, 1, 0) := by rw [HRo.out, if_pos ⟨HKX.out.symm, hj2⟩]
              have HEN := Lib.hid hend
              have hjb : (j.kind == 2) = true := by simpa using hj2
              clear hend hj2
              go_wp2_with (refine wpList_lookup_kv0 rfl (.tmp 105) (.tmp 106) _ rfl (K := kN) (cv := cPt) und_in HMD.out p (z := .pointer none) (Tryz.zeroValue143 _) rfl rfl ?_
                           rw [HGA.out]
                           dsimp only [Option.map, Option.getD, cPt])
              refine wp_region_tail_at (fun u => Blk u w.heap.size 207 (jobC j (.slice (some ⟨bp, op, none⟩) (m + 1) cp) (.slice Af nf cf) (.slice Ad j.data.length cd)) ∧ Below w4.heap.size w4 u) ⟨HJ3.out.drew, (Below.refl _ _).drew⟩ 6 (by kernel_rfl) (by kernel_rfl) ?_
              rintro u7 ⟨bj7, hbu7⟩
              have HF7 := Lib.hid (HF3.out.below hbu7)
              have HC7 := Lib.hid (HC3.out.trans (Cng.of_below (M := inTree hs ths) hbu7))
              clear hbu7 lj j0 j1 j2 j3 j4 j5 j6 j7 j8 j9 j10 j11 j12 hcp' x10 lD lX o1 lbp
              have lu := HF7.out.blk.lt; have u3 := HF7.out.blk.cell 3
              unfold foldC at u3
              simp only [List.getElem?_toArray, List.getElem?_cons_succ, List.getElem?_cons_zero] at u3
              have j0 := bj7.cell 0; have j1 := bj7.cell 1; have j2 := bj7.cell 2; have j3 := bj7.cell 3; have j4 := bj7.cell 4; have j5 := bj7.cell 5; have j6 := bj7.cell 6; have j7 := bj7.cell 7; have j8 := bj7.cell 8; have j9 := bj7.cell 9; have j10 := bj7.cell 10; have j11 := bj7.cell 11; have j12 := bj7.cell 12
              have lj := bj7.lt
              unfold jobC at j0 j1 j2 j3 j4 j5 j6 j7 j8 j9 j10 j11 j12
              simp only [List.getElem?_toArray, List.getElem?_cons_succ, List.getElem?_cons_zero] at j0 j1 j2 j3 j4 j5 j6 j7 j8 j9 j10 j11 j12
              clear bj7
              simp only [List.take_succ_cons, List.take_zero, List.drop_succ_cons, List.drop_zero]
              repeat still_step
              refine wpStill_nil ?_
              obtain ⟨kv, hmk, hkv, hlt⟩ := HF7.out.off
              refine wpList_mapUpdate_kvP rfl (.tmp 137) (.tmp 138) (.tmp 139) _ rfl und_off hmk (adr (hs ++ hs2) old) (HF7.out.var hol) (HF7.out.keys hkv) ⟨j, ⟨some ⟨bp, op, none⟩, m + 1, cp⟩, ⟨Af, nf, cf⟩, ⟨Ad, j.data.length, cd⟩⟩ rfl (by rw [adr_at HOH.out]; rfl) rfl (fun w8 hm8 ho8 => ?_)
              have HF8 := Lib.hid (HF7.out.later hol hkv hm8 ho8)
              have HC8 : Hid (Cng (fun k => inTree hs ths k ∨ k = mo) w w8) := Lib.hid ((HC7.out.mono (fun k hk => .inl hk)).trans ⟨ho8.os, ho8.tape, ho8.output, Nat.le_of_eq ho8.size.symm, fun n _ hn => ho8.block n (fun e => hn (.inr e))⟩)
              clear hmk hkv hlt hm8 ho8
              go_wp2_with fail
              go_ret2
              rw [HEN.out]
              exact ⟨hs2, HF8.out, HN3.out, HC8.out, rfl⟩
            · have hend : R = (⟨b.1, off⟩, 0, 172) := by rw [HRo.out, if_neg (fun h => hj2 h.2), if_pos HKX.out.symm]
              have HEN := Lib.hid hend
              have hjb : (j.kind == 2) = false := by simpa using hj2
              clear hend
              go_wp2_with (refine wpList_lookup_kv0 rfl (.tmp 105) (.tmp 106) _ rfl (K := kN) (cv := cPt) und_in HMD.out p (z := .pointer none) (Tryz.zeroValue143 _) rfl rfl ?_
                           rw [HGA.out]
                           dsimp only [Option.map, Option.getD, cPt])
              go_ret2
              exact apply_err HEN.out HF3.out HN3.out HC3.out
          · have hkb : (kx == 2) = false := by simpa using hk2
            have hRk : R = if j.replace = 1 then (⟨b.1, off⟩, 0, 171) else if j.replace = 2 then (⟨b.1, off⟩, 4, 0) else placeF now j (dropT now b.1 d p) off d p 0 := by
              rw [HRo.out, if_neg (fun h => hk2 (HKX.out.trans h.1)), if_neg (fun h => hk2 (HKX.out.trans h))]
            have HRK := Lib.hid hRk
            clear hRk
            by_cases hr1 : j.replace = 1
            · have hrb : (j.replace == 1) = true := by simpa using hr1
              have hend : R = (⟨b.1, off⟩, 0, 171) := by rw [HRK.out, if_pos hr1]
              have HEN := Lib.hid hend
              clear hend hr1
              go_wp2_with (refine wpList_lookup_kv0 rfl (.tmp 105) (.tmp 106) _ rfl (K := kN) (cv := cPt) und_in HMD.out p (z := .pointer none) (Tryz.zeroValue143 _) rfl rfl ?_
                           rw [HGA.out]
                           dsimp only [Option.map, Option.getD, cPt])
              go_ret2
              exact apply_err HEN.out HF3.out HN3.out HC3.out
            · have hrb : (j.replace == 1) = false := by simpa using hr1
              by_cases hr2 : j.replace = 2
              · have hrb2 : (j.replace == 2) = true := by simpa using hr2
                have hend : R = (⟨b.1, off⟩, 4, 0) := by rw [HRK.out, if_neg hr1, if_pos hr2]
                have HEN := Lib.hid hend
                clear hend hr2 hr1
                go_wp2_with (refine wpList_lookup_kv0 rfl (.tmp 105) (.tmp 106) _ rfl (K := kN) (cv := cPt) und_in HMD.out p (z := .pointer none) (Tryz.zeroValue143 _) rfl rfl ?_
                             rw [HGA.out]
                             dsimp only [Option.map, Option.getD, cPt])
                go_ret2
                exact apply_err HEN.out HF3.out HN3.out HC3.out
              · have hrb2 : (j.replace == 2) = false := by simpa using hr2
                have hend : R = placeF now j (dropT now b.1 d p) off d p 0 := by rw [HRK.out, if_neg hr1, if_neg hr2]
                have HEN := Lib.hid hend
                clear hend hr2 hr1
                go_wp2_with (refine wpList_lookup_kv0 rfl (.tmp 105) (.tmp 106) _ rfl (K := kN) (cv := cPt) und_in HMD.out p (z := .pointer none) (Tryz.zeroValue143 _) rfl rfl ?_
                             rw [HGA.out]
                             dsimp only [Option.map, Option.getD, cPt])
                refine (thingDrop w4 HF3.out.blk HBD.out HMD.out rfl rfl rfl rfl).mono ?_
                rintro e wd ⟨rfl, hc5, b5, m5⟩
                have HFd0 := HF3.out.drop (name := p) HDL.out (by rw [← HDD.out]; exact HKD.out) HDH.out hc5 (by rw [← HDD.out, HMO.out]; exact b5) (by rw [← HDD.out]; exact m5)
                have HCd := Lib.hid (HC3.out.then_ hc5 (fun n hn ho => HOWN.out n hn ho))
                have HJd := Lib.hid (show Blk wd w.heap.size 207 _ from (hc5.block _ HJ3.out.lt (fun ho => HF3.out.tree.not_blk HJ3.out (by decide) ⟨d, _, dh, thD_at HDL.out, HDH.out, ho.imp id fun e => ⟨by rw [← HDD.out]; exact HKD.out, e⟩⟩)).trans HJ3.out)
                obtain ⟨bd, hbd⟩ : ∃ x, x = dropT now b.1 d p := ⟨_, rfl⟩
                obtain ⟨D2, hD2⟩ : ∃ x, x = ({ D with ins := delKv D.ins p, mtime := now } : ThD) := ⟨_, rfl⟩
                have hD2e : D2 = thD bd d := by rw [hbd, hD2, HDD.out]; unfold dropT; rw [thD_set HDL.out, if_pos rfl]
                have HDLd : Hid (d < bd.length) := Lib.hid (by rw [hbd]; unfold dropT; rw [List.length_set]; exact HDL.out)
                have HKDd : Hid (D2.kind = 2) := Lib.hid (by rw [hD2]; exact HKD.out)
                have HMOd : Hid (mapOf D2 dh = some dh.m) := Lib.hid (if_pos HKDd.out)
                have HBDd : Hid (Blk wd dh.a 203 (thCells D2 dh.dv (some dh.m))) := Lib.hid (by rw [hD2]; exact b5)
                have HMDd : Hid (IsMap kN cPt wd dh.m (insA (hs ++ hs2) D2.ins)) := Lib.hid (by rw [hD2]; rw [insA_del] at m5; exact m5)
                have HENd : Hid (R = (⟨putT now (bd ++ [freshD now j]) d p bd.length, if j.kind = 2 then putKv off bd.length j else off⟩, 1, 0)) := Lib.hid (by rw [HEN.out, ← hbd]; unfold placeF; rw [if_neg h4])
                rw [← hbd] at HFd0
                have HFd := Lib.hid HFd0; have HDDd := Lib.hid hD2e
                clear HFd0 hD2e hbd hD2 hc5 b5 m5 j0 j1 j2 j3 j4 j5 j6 j7 j8 j9 j10 j11 j12 lj x10 lD o1 lX hcp' lbp
                have j0 := HJd.out.cell 0; have j1 := HJd.out.cell 1; have j2 := HJd.out.cell 2; have j3 := HJd.out.cell 3; have j4 := HJd.out.cell 4; have j5 := HJd.out.cell 5; have j6 := HJd.out.cell 6; have j7 := HJd.out.cell 7; have j8 := HJd.out.cell 8; have j9 := HJd.out.cell 9; have j10 := HJd.out.cell 10; have j11 := HJd.out.cell 11; have j12 := HJd.out.cell 12
                have lj := HJd.out.lt
                unfold jobC at j0 j1 j2 j3 j4 j5 j6 j7 j8 j9 j10 j11 j12
                simp only [List.getElem?_toArray, List.getElem?_cons_succ, List.getElem?_cons_zero] at j0 j1 j2 j3 j4 j5 j6 j7 j8 j9 j10 j11 j12
                go_wp2_with fail
                have hdat4 : DatV wd (.slice Ad j.data.length cd) j.data := HI.out.data.cng HCd.out (fun k hk => HF.out.nobyte hk)
                have HD4 := Lib.hid hdat4
                clear hdat4 j0 j1 j2 j3 j4 j5 j6 j7 j8 j9 j10 j11 j12 lj
                refine (foldFresh (j := j) (vp := .slice (some ⟨bp, op, none⟩) (m + 1) cp) (vf := .slice Af nf cf) (vd := .slice Ad j.data.length cd) wd HFd.out.blk ⟨_, _, _, rfl⟩ ⟨_, _, _, rfl⟩ ⟨_, _, _, rfl⟩).mono ?_
                rintro e w5 ⟨fh, rfl, ha5, hm5, hb5, bt5, mt5, hv5⟩
                have hd5 : DatV w5 fh.dv (freshD now j).data := by
                  rcases hv5 with ⟨e1, e2⟩ | ⟨e1, e2⟩
                  · rw [e1, e2]; exact HD4.out.cng (M := fun _ => False) (Cng.of_below hb5) (fun _ h => h.elim)
                  · rw [e1, e2]; exact DatV.nil _
                have HF5 := Lib.hid (HFd.out.push hb5 bt5 mt5 (freshD_ins now j) (freshD_kind now j) ha5 hm5 hd5)
                have HC5 := Lib.hid (HCd.out.trans (Cng.of_below (M := inTree hs ths) hb5))
                have BD5 := Lib.hid (HBDd.out.below hb5 HBDd.out.lt)
                have MD5 := Lib.hid (HMDd.out.of_block (hb5.block _ HMDd.out.lt))
                have HJ5 := Lib.hid (HJd.out.below hb5 HJd.out.lt)
                have HN5 : Hid (∀ h ∈ hs2 ++ [fh], w.heap.size ≤ h.a ∧ w.heap.size ≤ h.m ∧ (h.dv = .slice none 0 0 ∨ h.dv = .slice Ad j.data.length cd)) := Lib.hid (fun h hh => by
                  rcases List.mem_append.1 hh with hh | hh
                  · exact HN3.out h hh
                  · rw [List.mem_singleton.1 hh]; have := HCd.out.size; exact ⟨by omega, by omega, hv5.elim (fun h => .inr h.1) (fun h => .inl h.2)⟩)
                have hdl : d < (bd ++ [freshD now j]).length := by rw [List.length_append]; have := HDLd.out; omega
                have hDd : thD (bd ++ [freshD now j]) d = D2 := by rw [thD_app HDLd.out]; exact HDDd.out.symm
                have hdh5 : ((hs ++ hs2) ++ [fh])[d]? = some dh := by rw [List.getElem?_append_left (List.getElem?_eq_some_iff.1 HDH.out).1]; exact HDH.out
                have hat : adr ((hs ++ hs2) ++ [fh]) bd.length = fh.a := by
                  refine adr_at ?_
                  rw [List.getElem?_append_right (by rw [HFd.out.tree.len]; exact Nat.le_refl _), HFd.out.tree.len, Nat.sub_self]; rfl
                have HDL5 := Lib.hid hdl; have HDD5 := Lib.hid hDd; have HDH5 := Lib.hid hdh5; have HAT := Lib.hid hat
                clear ha5 hm5 hb5 bt5 mt5 hv5 hd5 hdl hDd hdh5 hat
                go_wp2_with fail
                refine (thingPut (x := fh.a) w5 HF5.out.blk BD5.out MD5.out rfl rfl rfl rfl).mono ?_
                rintro e w6 ⟨rfl, hc6, b6, m6⟩
                have HF6 := Lib.hid (HF5.out.put (name := p) (x := bd.length) HDL5.out (by rw [HDD5.out]; exact HKDd.out) HDH5.out (by rw [List.length_append]; exact Nat.lt_succ_self _) hc6 (by rw [HDD5.out, HMOd.out]; exact b6) (by rw [HDD5.out, HAT.out, insA_app (fun q hq => by rw [HFd.out.tree.len]; rw [HDDd.out] at hq; exact (HFd.out.tree.ok d _ (thD_at HDLd.out)).2.2 q hq)]; exact m6))
                have HC6 := Lib.hid (HC5.out.then_ hc6 (fun n hn ho => HOWN.out n hn ho))
                have HJ6 := Lib.hid (show Blk w6 w.heap.size 207 _ from (hc6.block _ HJ5.out.lt (fun ho => HF5.out.tree.not_blk HJ5.out (by decide) ⟨d, _, dh, thD_at HDL5.out, HDH5.out, ho.imp id fun e => ⟨by rw [HDD5.out]; exact HKDd.out, e⟩⟩)).trans HJ5.out)
                clear hc6 b6 m6
                have j0 := HJ6.out.cell 0; have lj := HJ6.out.lt
                unfold jobC at j0
                simp only [List.getElem?_toArray, List.getElem?_cons_succ, List.getElem?_cons_zero] at j0
                by_cases hj2 : j.kind = 2
                · have hjb : (j.kind == 2) = true := by simpa using hj2
                  have hend : R = (⟨putT now (bd ++ [freshD now j]) d p bd.length, putKv off bd.length j⟩, 1, 0) := by rw [HENd.out, if_pos hj2]
                  have HEND := Lib.hid hend
                  clear hend hj2
                  go_wp2_with fail
                  refine wp_region_tail_at (fun u => Blk u w.heap.size 207 (jobC j (.slice (some ⟨bp, op, none⟩) (m + 1) cp) (.slice Af nf cf) (.slice Ad j.data.length cd)) ∧ Below w6.heap.size w6 u) ⟨HJ6.out.drew, (Below.refl _ _).drew⟩ 6 (by kernel_rfl) (by kernel_rfl) ?_
                  rintro u7 ⟨bj7, hbu7⟩
                  have HF7 := Lib.hid (HF6.out.below hbu7)
                  have HC7 := Lib.hid (HC6.out.trans (Cng.of_below (M := inTree hs ths) hbu7))
                  clear hbu7 lj j0
                  have lu := HF7.out.blk.lt; have u3 := HF7.out.blk.cell 3
                  unfold foldC at u3
                  simp only [List.getElem?_toArray, List.getElem?_cons_succ, List.getElem?_cons_zero] at u3
                  have j0 := bj7.cell 0; have j1 := bj7.cell 1; have j2 := bj7.cell 2; have j3 := bj7.cell 3; have j4 := bj7.cell 4; have j5 := bj7.cell 5; have j6 := bj7.cell 6; have j7 := bj7.cell 7; have j8 := bj7.cell 8; have j9 := bj7.cell 9; have j10 := bj7.cell 10; have j11 := bj7.cell 11; have j12 := bj7.cell 12
                  have lj := bj7.lt
                  unfold jobC at j0 j1 j2 j3 j4 j5 j6 j7 j8 j9 j10 j11 j12
                  simp only [List.getElem?_toArray, List.getElem?_cons_succ, List.getElem?_cons_zero] at j0 j1 j2 j3 j4 j5 j6 j7 j8 j9 j10 j11 j12
                  clear bj7
                  simp only [List.take_succ_cons, List.take_zero, List.drop_succ_cons, List.drop_zero]
                  repeat still_step
                  refine wpStill_nil ?_
                  obtain ⟨kv, hmk, hkv, hlt⟩ := HF7.out.off
                  have hnl : bd.length < (putT now (bd ++ [freshD now j]) d p bd.length).length := by unfold putT; rw [List.length_set, List.length_append]; exact Nat.lt_succ_self _
                  refine wpList_mapUpdate_kvP rfl (.tmp 171) (.tmp 172) (.tmp 173) _ rfl und_off hmk (adr ((hs ++ hs2) ++ [fh]) bd.length) (HF7.out.var hnl) (HF7.out.keys hkv) ⟨j, ⟨some ⟨bp, op, none⟩, m + 1, cp⟩, ⟨Af, nf, cf⟩, ⟨Ad, j.data.length, cd⟩⟩ rfl (by rw [HAT.out]; rfl) rfl (fun w8 hm8 ho8 => ?_)
                  have HF8 := Lib.hid (HF7.out.later hnl hkv hm8 ho8)
                  have HC8 : Hid (Cng (fun k => inTree hs ths k ∨ k = mo) w w8) := Lib.hid ((HC7.out.mono (fun k hk => .inl hk)).trans ⟨ho8.os, ho8.tape, ho8.output, Nat.le_of_eq ho8.size.symm, fun n _ hn => ho8.block n (fun e => hn (.inr e))⟩)
                  clear hmk hkv hlt hm8 ho8 hnl
                  go_wp2_with fail
                  go_ret2
                  rw [HEND.out]
                  exact ⟨hs2 ++ [fh], by rw [← List.append_assoc]; exact HF8.out, HN5.out, HC8.out, rfl⟩
                · have hjb : (j.kind == 2) = false := by simpa using hj2
                  have hend : R = (⟨putT now (bd ++ [freshD now j]) d p bd.length, off⟩, 1, 0) := by rw [HENd.out, if_neg hj2]
                  have HEND := Lib.hid hend
                  clear hend hj2
                  go_wp2_with fail
                  go_ret2
                  exact apply_err HEND.out (by rw [← List.append_assoc]; exact HF6.out) HN5.out HC6.out
    · refine ⟨_, rfl, ?_⟩
      have hb0 : (b.2.1 != 0) = true := by simpa using h0
      have hend : R = (⟨b.1, off⟩, 0, b.2.1) := by rw [HRR.out, if_pos h0]
      have HEND := Lib.hid hend
      obtain ⟨er, her⟩ : ∃ x, x = b.2.1 := ⟨_, rfl⟩
      rw [← her] at HEND hb0 ⊢
      clear hend h0 her
      simp only [Act.put, List.setIfInBounds_toArray, List.set_cons_zero, List.set_cons_succ]
      repeat (refine g_tail ?_ ?_ ?_; rotate_left; (focus (go_simp; (try with_reducible rfl); done)); simp only [Act.put, List.setIfInBounds_toArray, List.set_cons_zero, List.set_cons_succ])
      refine g_tail_end ?_
      go_wp2_with fail
      go_ret2
      exact apply_err HEND.out HF3.out HN3.out HC3.out
end Go.Proofs.YtfhfcipelgogjaaGreatDoor
namespace Go.Proofs.YtfhfcipelgogjaaGreatDoor
open Go.RowKit
attribute [local go_sem] cell?_over frozen?_over lt_over le_over
theorem wayF_neg {now:TimeD} {mode:Int} (hm:mode<0):∀ (ps:List ByteArray) (ths:List ThD) (d:Nat),(wayF now mode ps ths d).1=ths
 | [],ths,d=>rfl
 | p :: ps,ths,d=>by
  unfold wayF
  split
  ·split
   ·first | rfl | rw [if_pos hm]
   ·split
    ·rfl
    ·split
     ·rfl
     ·exact wayF_neg hm ps ths _
  ·rfl
theorem last_at {m:Nat} {l:List ByteArray} {p:ByteArray} (hl:l.length=m+1) (hd:l.drop m=p :: l.drop (m+1)):lastP l=p:=by
 have h1:l[m]?=some p:=by
  have:=congrArg (fun l=>l[0]?) hd
  simpa using this
 unfold lastP
 rw [show l.length - 1=m by rw [hl]; rfl,List.getD_eq_getElem?_getD,h1]; rfl
theorem foldApplyH {B f r mo:Nat} {now:TimeD} {hs:List Hn} {ths:List ThD} {off:List (Nat×JobD)} {j:JobD} {Ap:Option Addr} {m cp:Nat} {Af:Option Addr} {q cf:Nat} {vd:Value} (w:World) (hF:FoldAt w B f r mo now hs ths off) (hI:ApplyIn w hs ths j Ap (m+1) cp Af (q+1) cf vd) (h4:j.kind=4) :
  Calls Tryz.prog 111 #[.pointer (some ⟨f,0,none⟩),.agg (jobC j (.slice Ap (m+1) cp) (.slice Af (q+1) cf) vd)] w (ApplyEnd (applyF now r j ths off) vd B f r mo now hs ths w):=by
 obtain ⟨R,hR⟩:∃ x,x=applyF now r j ths off:=⟨_,rfl⟩
 rw [← hR]
 obtain ⟨Ad,cd,hcd,rfl,hrd⟩:=hI.data
 have hb4:(j.kind == 4)=true:=by simpa using h4
 have hb2:(j.kind == 2)=false:=by rw [h4]; rfl
 have HF:=Lib.hid hF; have HI:=Lib.hid hI; have HR:=Lib.hid hR; have H4:=Lib.hid h4
 have lf:=hF.blk.lt; have f0:=hF.blk.cell 0; have f3:=hF.blk.cell 3
 unfold foldC at f0 f3
 simp only [List.getElem?_toArray,List.getElem?_cons_succ,List.getElem?_cons_zero] at f0 f3
 have hcp:=hI.cparts
 have hcf:=hI.cfrom
 have hmc:m≤cp:=by omega
 have hmc2:(m:Int)≤cp:=by omega
 have hqc:q≤cf:=by omega
 have hqc2:(q:Int)≤cf:=by omega
 clear hF hR hrd hI h4
 unfold jobC
 go_enter Tryz.func111,Tryz.ntmps111
 go_wp2_with fail
 obtain ⟨w1,hw1⟩:∃ x,x=w.alloc (.cells (jobC j (.slice Ap (m+1) cp) (.slice Af (q+1) cf) (.slice Ad j.data.length cd)) 207):=⟨_,rfl⟩
 unfold jobC at hw1
 rw [← hw1]
 have hbw:Below w.heap.size w w1:=by rw [hw1]; exact below_alloc' _ _
 have bj:Blk w1 w.heap.size 207 (jobC j (.slice Ap (m+1) cp) (.slice Af (q+1) cf) (.slice Ad j.data.length cd)):=by rw [hw1]; exact Blk.new w _ _
 clear hw1
 have HBW:=Lib.hid hbw; have HBJ:=Lib.hid bj
 have HF1:=Lib.hid (HF.out.below hbw)
 have HQ1:=Lib.hid (ApplyIn.keep HI.out.from_ (Cng.of_below hbw))
 clear hbw bj
 refine (foldWay (ps:=j.from_.take q) (-1) w1 HF1.out.blk HF1.out.tree HF1.out.root HF1.out.rkind (row_take HQ1.out (Nat.le_succ q)) (by omega) (fun k hk=>⟨Nat.lt_of_lt_of_le hk.1 HBW.out.size,hk.2⟩) HF1.out.base).mono ?_
 rintro e w2 ⟨hsa,hT2,hG2,hE2⟩
 obtain ⟨a,ha⟩:∃ x,x=wayF now (-1) (j.from_.take q) ths r:=⟨_,rfl⟩
 have ha1:a.1=ths:=by rw [ha]; exact wayF_neg (by decide) _ _ _
 rw [← ha] at hT2 hG2 hE2
 rw [ha1] at hT2 hG2
 have hnil:hsa=[]:=by
  have h1:=hT2.len; have h2:=HF1.out.tree.len
  rw [List.length_append] at h1
  exact List.length_eq_zero_iff.1 (by omega)
 subst hnil
 have hF2:=HF1.out.walk hG2 hT2
 rw [List.append_nil] at hF2
 have HF2:=Lib.hid hF2; have HA:=Lib.hid ha; have HA1:=Lib.hid ha1
 have HJ2:=Lib.hid (show Blk w2 w.heap.size 207 _ from (hG2.cng.block _ HBJ.out.lt (HF1.out.tree.not_blk HBJ.out (by decide))).trans HBJ.out)
 have HC2:=Lib.hid ((Cng.of_below (M:=inTree hs ths) HBW.out).trans hG2.cng)
 have hfl:j.from_.length - 1=q:=by rw [HI.out.from_.1]; rfl
 have hpl:j.parts.length - 1=m:=by rw [HI.out.parts.1]; rfl
 have hpn:j.parts≠[]:=fun h=>by have:=HI.out.parts.1; rw [h] at this; cases this
 clear hF2 hT2 hG2 ha ha1
 rcases hE2 with ⟨h0,rfl,hfr,hfk⟩ | ⟨h0,rfl⟩
 ·rw [HA1.out] at hfr hfk
  rw [List.append_nil]
  obtain ⟨fr,hfe⟩:∃ x,x=a.2.2:=⟨_,rfl⟩
  rw [← hfe] at hfr hfk
  rw [← hfe]
  have HFE:=Lib.hid hfe; have HFR:=Lib.hid hfr; have HFK:=Lib.hid hfk; have H0:=Lib.hid h0
  clear hfe hfr hfk h0
  have j0:=HJ2.out.cell 0; have j1:=HJ2.out.cell 1; have j2:=HJ2.out.cell 2; have j10:=HJ2.out.cell 10
  have lj:=HJ2.out.lt
  unfold jobC at j0 j1 j2 j10
  simp only [List.getElem?_toArray,List.getElem?_cons_succ,List.getElem?_cons_zero] at j0 j1 j2 j10
  go_wp2_with fail
  refine wp_region_grow_t [] 7 _ rfl (by kernel_rfl) [] rfl (by kernel_rfl) stays_nil ?_
  simp only [List.take_succ_cons,List.take_zero,List.drop_succ_cons,List.drop_zero]
  repeat (first
   | (refine g_w rfl ?_ (fun W=>?_) ?_; rotate_left; (focus (go_simp; (try with_reducible rfl); done)); simp only [Act.put,List.setIfInBounds_toArray,List.set_cons_zero,List.set_cons_succ])
   | (refine g_d rfl (by kernel_rfl) ?_ (fun δ=>?_) ?_; rotate_left; (focus (go_simp; (try with_reducible rfl); done)); simp only [Act.put,List.setIfInBounds_toArray,List.set_cons_zero,List.set_cons_succ]))
  refine g_end fun δ _=>?_
  obtain ⟨u,hu⟩:∃ x,x=over w2 δ:=⟨_,rfl⟩
  rw [← hu]
  have hbu:Below w2.heap.size w2 u:=by rw [hu]; exact below_over w2 δ
  have HCu:=Lib.hid (HC2.out.trans (Cng.of_below (M:=inTree hs ths) hbu))
  have HJu:=Lib.hid (HJ2.out.below hbu HJ2.out.lt)
  have HFu:=Lib.hid (HF2.out.below hbu)
  clear hbu hu j0 j1 j2 j10 lj
  have HPu:=Lib.hid (ApplyIn.keep HI.out.parts HCu.out)
  refine endT_call ?_ ?_ (fun W=>?_) ?_
  rotate_left 2
  ·go_simp; (constructor <;> with_reducible rfl)
  refine (foldWay (ps:=j.parts.take m) j.dirMode u HFu.out.blk HFu.out.tree HFu.out.root HFu.out.rkind (row_take HPu.out (Nat.le_succ m)) (by omega) (fun k hk=>⟨Nat.lt_of_lt_of_le hk.1 HCu.out.size,hk.2⟩) HFu.out.base).mono ?_
  rintro e w3 ⟨hs2,hT3,hG3,hE⟩
  obtain ⟨b,hb⟩:∃ x,x=wayF now j.dirMode (j.parts.take m) ths r:=⟨_,rfl⟩
  rw [← hb] at hT3 hG3 hE
  have HF3:=Lib.hid (HFu.out.walk hG3 hT3)
  have HB:=Lib.hid hb
  have HJ3:=Lib.hid (show Blk w3 w.heap.size 207 _ from (hG3.cng.block _ HJu.out.lt (HFu.out.tree.not_blk HJu.out (by decide))).trans HJu.out)
  have HC3:=Lib.hid (HCu.out.trans hG3.cng)
  have HN3:=Lib.hid (show ∀ h∈hs2,w.heap.size≤h.a∧w.heap.size≤h.m∧(h.dv=.slice none 0 0∨h.dv=.slice Ad j.data.length cd) from fun h hh=>by have:=hG3.new h hh; have:=HCu.out.size; exact ⟨by omega,by omega,.inl (hG3.vnew h hh)⟩)
  have HP3:=Lib.hid (ApplyIn.keep HI.out.parts HC3.out)
  have HQ3:=Lib.hid (ApplyIn.keep HI.out.from_ HC3.out)
  have HOW:=Lib.hid (fun (d:Nat) (k:Hn) (hk:(hs++hs2)[d]?=some k) (h2:(thD b.1 d).kind=2) (n:Nat) (hn:n<w.heap.size) (ho:n=k.a∨n=k.m)=>hG3.own HF.out.tree.len hk h2 (Nat.lt_of_lt_of_le hn HCu.out.size) ho)
  have hfr3:fr<b.1.length:=Nat.lt_of_lt_of_le HFR.out hG3.len
  have hfk3:(thD b.1 fr).kind=2:=(hG3.kinds fr HFR.out).trans HFK.out
  have hfa:adr hs fr=adr (hs++hs2) fr:=(adr_app (by rw [HF.out.tree.len]; exact HFR.out)).symm
  have HFA:=Lib.hid hfa; have HFR3:=Lib.hid hfr3; have HFK3:=Lib.hid hfk3
  clear hT3 hG3 hb hfa hfr3 hfk3
  have hRR:R=if b.2.1≠0 then (⟨b.1,off⟩,0,b.2.1) else if letsB (thD b.1 fr) 64=false∨letsB (thD b.1 b.2.2) 192=false then (⟨b.1,off⟩,0,175)
    else match getKv (thD b.1 fr).ins (lastP j.from_) with
     | none=>(⟨b.1,off⟩,0,170)
     | some src=>if (thD b.1 src).kind=2 then (⟨b.1,off⟩,0,172) else overF now j b.1 off b.2.2 (lastP j.parts) src:=by
   rw [HR.out]
   unfold applyF
   rw [if_neg hpn,if_pos H4.out,hfl,hpl,← HA.out]
   show (if a.2.1≠0 then _ else _)=_
   rw [if_neg (fun h=>h H0.out),HA1.out,← HB.out,← HFE.out]
   rfl
  have HRR:=Lib.hid hRR
  clear hRR hpl hpn hfl HJ2 HF2 HC2 HPu HFu HJu HCu HBW HBJ HF1 HQ1
  rcases hE with ⟨h0,rfl,hd,hkd⟩ | ⟨h0,rfl⟩
  ·refine ⟨_,rfl,?_⟩
   simp only [Act.put,List.setIfInBounds_toArray,List.set_cons_zero,List.set_cons_succ]
   repeat (refine g_tail ?_ ?_ ?_; rotate_left; (focus (go_simp; (try with_reducible rfl); done)); simp only [Act.put,List.setIfInBounds_toArray,List.set_cons_zero,List.set_cons_succ])
   refine g_tail_end ?_
   obtain ⟨dh,hdh⟩:=HF3.out.tree.hand (thD_at hd)
   have BD:=HF3.out.tree.blk _ _ dh (thD_at hd) hdh
   have MD:=HF3.out.tree.map _ _ dh (thD_at hd) hdh hkd
   rw [adr_at hdh]
   have hmo:mapOf (thD b.1 b.2.2) dh=some dh.m:=if_pos hkd
   rw [hmo] at BD
   obtain ⟨d,hde⟩:∃ x,x=b.2.2:=⟨_,rfl⟩
   rw [← hde] at BD MD hdh hd hkd hmo
   obtain ⟨D,hDe⟩:∃ x,x=thD b.1 d:=⟨_,rfl⟩
   rw [← hDe] at BD MD hkd hmo
   have HBD:=Lib.hid BD; have HMD:=Lib.hid MD; have HDH:=Lib.hid hdh; have HDE:=Lib.hid hde; have HDD:=Lib.hid hDe; have HKD:=Lib.hid hkd; have HMO:=Lib.hid hmo; have HB0:=Lib.hid h0; have HDL:=Lib.hid hd
   have HOWN:Hid (∀ n,n<w.heap.size→(n=dh.a∨n=dh.m)→inTree hs ths n):=Lib.hid (HOW.out d dh hdh (hDe ▸ hkd))
   clear BD MD hdh hde hDe hkd hmo h0 hd
   obtain ⟨fq,hfq⟩:=HF3.out.tree.hand (thD_at HFR3.out)
   have BF:=HF3.out.tree.blk _ _ fq (thD_at HFR3.out) hfq
   have MF:=HF3.out.tree.map _ _ fq (thD_at HFR3.out) hfq HFK3.out
   have hmf:mapOf (thD b.1 fr) fq=some fq.m:=if_pos HFK3.out
   rw [hmf] at BF
   have hfa:adr hs fr=fq.a:=HFA.out.trans (adr_at hfq)
   rw [hfa]
   obtain ⟨E,hEe⟩:∃ x,x=thD b.1 fr:=⟨_,rfl⟩
   rw [← hEe] at BF MF
   have HBF:=Lib.hid BF; have HMF:=Lib.hid MF; have HFQ:=Lib.hid hfq; have HEE:=Lib.hid hEe
   clear BF MF hfq hmf hfa hEe
   have hR1:R=if letsB E 64=false∨letsB D 192=false then (⟨b.1,off⟩,0,175)
     else match getKv E.ins (lastP j.from_) with
      | none=>(⟨b.1,off⟩,0,170)
      | some src=>if (thD b.1 src).kind=2 then (⟨b.1,off⟩,0,172) else overF now j b.1 off d (lastP j.parts) src:=by
    rw [HRR.out,if_neg (fun h=>h HB0.out),← HDE.out,← HDD.out,← HEE.out]
   have HR1:=Lib.hid hR1
   clear hR1 HRR
   go_wp2_with fail
   refine (thingLets w3 HBF.out rfl).mono ?_
   rintro e w4 ⟨rfl,rfl⟩
   have hlb:(Go.bits .and .i64 E.mode 64 == 64)=letsB E 64:=rfl
   rw [hlb]
   clear hlb
   cases hv:letsB E 64 with
   | false =>
    have hend:R=(⟨b.1,off⟩,0,175):=by rw [HR1.out,if_pos (.inl hv)]
    have HEND:=Lib.hid hend
    clear hend hv
    go_wp2_with fail
    go_ret2
    exact apply_err HEND.out HF3.out HN3.out HC3.out
   | true =>
    have HV:=Lib.hid hv
    clear hv
    go_wp2_with fail
    refine (thingLets w4 HBD.out rfl).mono ?_
    rintro e w5 ⟨rfl,rfl⟩
    have hlb:(Go.bits .and .i64 D.mode 192 == 192)=letsB D 192:=rfl
    rw [hlb]
    clear hlb
    cases hv2:letsB D 192 with
    | false =>
     have hend:R=(⟨b.1,off⟩,0,175):=by rw [HR1.out,if_pos (.inr hv2)]
     have HEND:=Lib.hid hend
     clear hend hv2
     go_wp2_with fail
     go_ret2
     exact apply_err HEND.out HF3.out HN3.out HC3.out
    | true =>
     obtain ⟨bq,oq,pf,hAq,hMq,hcq',hdq⟩:=text_at HQ3.out (Nat.lt_succ_self q)
     subst hAq
     obtain ⟨bp,op,p,hA,hMp,hcp',hdp⟩:=text_at HP3.out (Nat.lt_succ_self m)
     subst hA
     have lbq:bq<w5.heap.size:=Nat.lt_of_lt_of_le hMq.1 HC3.out.size
     have lbp:bp<w5.heap.size:=Nat.lt_of_lt_of_le hMp.1 HC3.out.size
     have hR2:R=match getKv E.ins pf with
       | none=>(⟨b.1,off⟩,0,170)
       | some src=>if (thD b.1 src).kind=2 then (⟨b.1,off⟩,0,172) else overF now j b.1 off d p src:=by
      rw [HR1.out,if_neg (by rw [HV.out,hv2]; rintro (h | h) <;> cases h),last_at HI.out.from_.1 hdq,last_at HI.out.parts.1 hdp]
     have HR2:=Lib.hid hR2
     clear hR2 HR1 hv2 hMq hMp hdq hdp
     have j0:=HJ3.out.cell 0; have j1:=HJ3.out.cell 1; have j2:=HJ3.out.cell 2; have j11:=HJ3.out.cell 11
     have lj:=HJ3.out.lt
     unfold jobC at j0 j1 j2 j11
     simp only [List.getElem?_toArray,List.getElem?_cons_succ,List.getElem?_cons_zero] at j0 j1 j2 j11
     have x10:=HBD.out.cell 10; have lD:=HBD.out.lt
     unfold thCells at x10
     simp only [List.getElem?_toArray,List.getElem?_cons_succ,List.getElem?_cons_zero] at x10
     cases hg:getKv E.ins pf with
     | none =>
      have hga:getKv (insA (hs++hs2) E.ins) pf=none:=by rw [insA_get,hg]; rfl
      have hend:R=(⟨b.1,off⟩,0,170):=by rw [HR2.out,hg]
      have HGA:=Lib.hid hga; have HEND:=Lib.hid hend
      clear hga hend hg
      go_wp2_with fail
      refine (thingSource (kd:=fun _=>0) w5 HBF.out HMF.out rfl (fun x hx=>by rw [HGA.out] at hx; cases hx)).mono ?_
      rintro e w6 ⟨rfl,rfl⟩
      rw [HGA.out]
      dsimp only
      go_wp2_with fail
      go_ret2
      exact apply_err HEND.out HF3.out HN3.out HC3.out
     | some src =>
      have hsl:src<b.1.length:=(HF3.out.tree.ok fr _ (thD_at HFR3.out)).2.2 _ (by rw [← HEE.out]; exact get_mem hg)
      obtain ⟨sh,hsh⟩:=HF3.out.tree.hand (thD_at hsl)
      have BS:=HF3.out.tree.blk src _ sh (thD_at hsl) hsh
      have hga:getKv (insA (hs++hs2) E.ins) pf=some sh.a:=by rw [insA_get,hg]; exact congrArg some (adr_at hsh)
      have hR3:R=if (thD b.1 src).kind=2 then (⟨b.1,off⟩,0,172) else overF now j b.1 off d p src:=by rw [HR2.out,hg]
      have HGA:=Lib.hid hga; have HR3:=Lib.hid hR3; have HSH:=Lib.hid hsh; have HBS:=Lib.hid BS; have HSL:=Lib.hid hsl
      clear hga hR3 hsh BS hg hsl HR2
      go_wp2_with fail
      refine (thingSource (kd:=fun _=>(thD b.1 src).kind) w5 HBF.out HMF.out rfl (fun x hx=>by rw [HGA.out] at hx; injection hx with hx; subst hx; exact ⟨_,HBS.out,rfl⟩)).mono ?_
      rintro e w6 ⟨rfl,rfl⟩
      rw [HGA.out]
      dsimp only
      by_cases hk2:(thD b.1 src).kind=2
      ·rw [if_pos hk2]
       have hend:R=(⟨b.1,off⟩,0,172):=by rw [HR3.out,if_pos hk2]
       have HEND:=Lib.hid hend
       clear hend hk2
       go_wp2_with fail
       go_ret2
       exact apply_err HEND.out HF3.out HN3.out HC3.out
      ·rw [if_neg hk2]
       have hend:R=overF now j b.1 off d p src:=by rw [HR3.out,if_neg hk2]
       have HEND:=Lib.hid hend
       clear hend hk2 HR3
       obtain ⟨ji,hji,hjs⟩:∃ ji,Tryz.prog.info? 203=some ji∧ji.size≠0:=by
        have:=whole_thing.info
        rw [Option.map_eq_some_iff] at this
        obtain ⟨x,h1,h2⟩:=this
        exact ⟨x,h1,by omega⟩
       cases hg:getKv D.ins p with
       | none =>
        have hgp:getKv (insA (hs++hs2) D.ins) p=none:=by rw [insA_get,hg]; rfl
        have hend:R=(⟨putT now b.1 d p src,off⟩,1,0):=by
         rw [HEND.out]; unfold overF; rw [← HDD.out,hg]; show placeF now j b.1 off d p src=_; unfold placeF; rw [if_pos H4.out]
        have HGP:=Lib.hid hgp; have HEN:=Lib.hid hend
        clear hgp hend hg HEND hji hjs
        go_wp2_with (refine wpList_lookup_kv0 rfl (.tmp 105) (.tmp 106) _ rfl (K:=kN) (cv:=cPt) und_in HMD.out p (z:=.pointer none) (Tryz.zeroValue143 _) rfl rfl ?_; rw [HGP.out]; dsimp only [Option.map,Option.getD,cPt])
        refine (thingPut (x:=sh.a) w6 HF3.out.blk HBD.out HMD.out rfl rfl rfl rfl).mono ?_
        rintro e w7 ⟨rfl,hc7,b7,m7⟩
        have HF7:=Lib.hid (HF3.out.put (name:=p) (x:=src) HDL.out (by rw [← HDD.out]; exact HKD.out) HDH.out HSL.out hc7 (by rw [← HDD.out,HMO.out]; exact b7) (by rw [← HDD.out,adr_at HSH.out]; exact m7))
        have HC7:=Lib.hid (HC3.out.then_ hc7 (fun n hn ho=>HOWN.out n hn ho))
        have HJ7:=Lib.hid (show Blk w7 w.heap.size 207 _ from (hc7.block _ HJ3.out.lt (fun ho=>HF3.out.tree.not_blk HJ3.out (by decide) ⟨d,_,dh,thD_at HDL.out,HDH.out,ho.imp id fun e=>⟨by rw [← HDD.out]; exact HKD.out,e⟩⟩)).trans HJ3.out)
        clear hc7 b7 m7 j0 j1 j2 j11 lj x10 lD lbp lbq hcp' hcq'
        have j0:=HJ7.out.cell 0; have lj:=HJ7.out.lt
        unfold jobC at j0
        simp only [List.getElem?_toArray,List.getElem?_cons_succ,List.getElem?_cons_zero] at j0
        go_wp2_with fail
        go_ret2
        exact apply_err HEN.out HF7.out HN3.out HC7.out
       | some old =>
        have hol:old<b.1.length:=(HF3.out.tree.ok d _ (thD_at HDL.out)).2.2 _ (by rw [← HDD.out]; exact get_mem hg)
        obtain ⟨oh,hoh⟩:=HF3.out.tree.hand (thD_at hol)
        have BX:=HF3.out.tree.blk old _ oh (thD_at hol) hoh
        have o1:=BX.cell 1; have lX:=BX.lt
        unfold thCells at o1
        simp only [List.getElem?_toArray,List.getElem?_cons_succ,List.getElem?_cons_zero] at o1
        have hgp:getKv (insA (hs++hs2) D.ins) p=some oh.a:=by rw [insA_get,hg]; exact congrArg some (adr_at hoh)
        have hRo:R=if old=src then (⟨b.1,off⟩,1,0)
          else if (thD b.1 old).kind=2 then (⟨b.1,off⟩,0,172)
          else if j.replace=1 then (⟨b.1,off⟩,0,171)
          else if j.replace=2 then (⟨b.1,off⟩,4,0)
          else (⟨putT now (dropT now b.1 d p) d p src,off⟩,1,0):=by
         rw [HEND.out]; unfold overF; rw [← HDD.out,hg]
         show (if j.kind=4∧old=src then _ else _)=_
         by_cases hos:old=src
         ·rw [if_pos ⟨H4.out,hos⟩,if_pos hos]
         ·rw [if_neg (fun h=>hos h.2),if_neg hos,if_neg (fun h=>by have:=H4.out.symm.trans h.2; omega)]
          unfold placeF
          rw [if_pos H4.out]
        have HGP:=Lib.hid hgp; have HRo:=Lib.hid hRo; have HOH:=Lib.hid hoh; have HBX:=Lib.hid BX
        obtain ⟨kx,hkx⟩:∃ y,y=(thD b.1 old).kind:=⟨_,rfl⟩
        rw [← hkx] at o1
        have HKX:=Lib.hid hkx
        clear hgp hRo hoh BX hg HEND hkx
        by_cases hos:old=src
        ·subst hos
         obtain rfl:oh=sh:=by have:=HOH.out; rw [HSH.out] at this; injection this with this; exact this.symm
         have heq:=run_eql_ptr_same (P:=Tryz.prog) w6 (⟨oh.a,0,none⟩:Addr) Tryz.underlying143 hji
         have hend:R=(⟨b.1,off⟩,1,0):=by rw [HRo.out,if_pos rfl]
         have HEN:=Lib.hid hend
         clear hend hji hjs
         go_wp2_with (refine wpList_lookup_kv0 rfl (.tmp 105) (.tmp 106) _ rfl (K:=kN) (cv:=cPt) und_in HMD.out p (z:=.pointer none) (Tryz.zeroValue143 _) rfl rfl ?_; rw [HGP.out]; dsimp only [Option.map,Option.getD,cPt])
         go_ret2
         exact apply_err HEN.out HF3.out HN3.out HC3.out
        ·have hna:(⟨oh.a,0,none⟩:Addr)≠⟨sh.a,0,none⟩:=fun e=>hos (HF3.out.tree.ainj old src _ _ HOH.out HSH.out (by injection e))
         have heq:=run_eql_ptr_other (P:=Tryz.prog) w6 Tryz.underlying143 hji hjs hna HBX.out HBS.out
         have hR4:R=if kx=2 then (⟨b.1,off⟩,0,172) else if j.replace=1 then (⟨b.1,off⟩,0,171) else if j.replace=2 then (⟨b.1,off⟩,4,0) else (⟨putT now (dropT now b.1 d p) d p src,off⟩,1,0):=by
          rw [HRo.out,if_neg hos,← HKX.out]
         have HR4:=Lib.hid hR4
         clear hR4 hna hji hjs hos HRo
         by_cases hk2:kx=2
         ·have hend:R=(⟨b.1,off⟩,0,172):=by rw [HR4.out,if_pos hk2]
          have HEN:=Lib.hid hend
          subst hk2
          clear hend
          go_wp2_with (refine wpList_lookup_kv0 rfl (.tmp 105) (.tmp 106) _ rfl (K:=kN) (cv:=cPt) und_in HMD.out p (z:=.pointer none) (Tryz.zeroValue143 _) rfl rfl ?_; rw [HGP.out]; dsimp only [Option.map,Option.getD,cPt])
          go_ret2
          exact apply_err HEN.out HF3.out HN3.out HC3.out
         ·have hkb:(kx == 2)=false:=by simpa using hk2
          by_cases hr1:j.replace=1
          ·have hrb:(j.replace == 1)=true:=by simpa using hr1
           have hend:R=(⟨b.1,off⟩,0,171):=by rw [HR4.out,if_neg hk2,if_pos hr1]
           have HEN:=Lib.hid hend
           clear hend hr1
           go_wp2_with (refine wpList_lookup_kv0 rfl (.tmp 105) (.tmp 106) _ rfl (K:=kN) (cv:=cPt) und_in HMD.out p (z:=.pointer none) (Tryz.zeroValue143 _) rfl rfl ?_; rw [HGP.out]; dsimp only [Option.map,Option.getD,cPt])
           go_ret2
           exact apply_err HEN.out HF3.out HN3.out HC3.out
          ·have hrb:(j.replace == 1)=false:=by simpa using hr1
           by_cases hr2:j.replace=2
           ·have hrb2:(j.replace == 2)=true:=by simpa using hr2
            have hend:R=(⟨b.1,off⟩,4,0):=by rw [HR4.out,if_neg hk2,if_neg hr1,if_pos hr2]
            have HEN:=Lib.hid hend
            clear hend hr1 hr2
            go_wp2_with (refine wpList_lookup_kv0 rfl (.tmp 105) (.tmp 106) _ rfl (K:=kN) (cv:=cPt) und_in HMD.out p (z:=.pointer none) (Tryz.zeroValue143 _) rfl rfl ?_; rw [HGP.out]; dsimp only [Option.map,Option.getD,cPt])
            go_ret2
            exact apply_err HEN.out HF3.out HN3.out HC3.out
           ·have hrb2:(j.replace == 2)=false:=by simpa using hr2
            have hend:R=(⟨putT now (dropT now b.1 d p) d p src,off⟩,1,0):=by rw [HR4.out,if_neg hk2,if_neg hr1,if_neg hr2]
            have HEN:=Lib.hid hend
            clear hend hr1 hr2
            go_wp2_with (refine wpList_lookup_kv0 rfl (.tmp 105) (.tmp 106) _ rfl (K:=kN) (cv:=cPt) und_in HMD.out p (z:=.pointer none) (Tryz.zeroValue143 _) rfl rfl ?_; rw [HGP.out]; dsimp only [Option.map,Option.getD,cPt])
            refine (thingDrop w6 HF3.out.blk HBD.out HMD.out rfl rfl rfl rfl).mono ?_
            rintro e wd ⟨rfl,hc5,b5,m5⟩
            have HFd0:=HF3.out.drop (name:=p) HDL.out (by rw [← HDD.out]; exact HKD.out) HDH.out hc5 (by rw [← HDD.out,HMO.out]; exact b5) (by rw [← HDD.out]; exact m5)
            have HCd:=Lib.hid (HC3.out.then_ hc5 (fun n hn ho=>HOWN.out n hn ho))
            have HJd:=Lib.hid (show Blk wd w.heap.size 207 _ from (hc5.block _ HJ3.out.lt (fun ho=>HF3.out.tree.not_blk HJ3.out (by decide) ⟨d,_,dh,thD_at HDL.out,HDH.out,ho.imp id fun e=>⟨by rw [← HDD.out]; exact HKD.out,e⟩⟩)).trans HJ3.out)
            obtain ⟨bd,hbd⟩:∃ x,x=dropT now b.1 d p:=⟨_,rfl⟩
            obtain ⟨D2,hD2⟩:∃ x,x=({ D with ins:=delKv D.ins p,mtime:=now }:ThD):=⟨_,rfl⟩
            have hD2e:D2=thD bd d:=by rw [hbd,hD2,HDD.out]; unfold dropT; rw [thD_set HDL.out,if_pos rfl]
            have hbl:bd.length=b.1.length:=by rw [hbd]; unfold dropT; rw [List.length_set]
            have HDLd:Hid (d<bd.length):=Lib.hid (by rw [hbl]; exact HDL.out)
            have HSLd:Hid (src<bd.length):=Lib.hid (by rw [hbl]; exact HSL.out)
            have HKDd:Hid (D2.kind=2):=Lib.hid (by rw [hD2]; exact HKD.out)
            have HMOd:Hid (mapOf D2 dh=some dh.m):=Lib.hid (if_pos HKDd.out)
            have HBDd:Hid (Blk wd dh.a 203 (thCells D2 dh.dv (some dh.m))):=Lib.hid (by rw [hD2]; exact b5)
            have HMDd:Hid (IsMap kN cPt wd dh.m (insA (hs++hs2) D2.ins)):=Lib.hid (by rw [hD2]; rw [insA_del] at m5; exact m5)
            have HENd:Hid (R=(⟨putT now bd d p src,off⟩,1,0)):=Lib.hid (by rw [HEN.out,← hbd])
            rw [← hbd] at HFd0
            have HFd:=Lib.hid HFd0; have HDDd:=Lib.hid hD2e
            clear HFd0 hD2e hbd hD2 hbl hc5 b5 m5 j0 j1 j2 j11 lj x10 lD o1 lX hcp' hcq' lbp lbq heq HEN
            go_wp2_with fail
            refine (thingPut (x:=sh.a) wd HFd.out.blk HBDd.out HMDd.out rfl rfl rfl rfl).mono ?_
            rintro e w7 ⟨rfl,hc7,b7,m7⟩
            have HF7:=Lib.hid (HFd.out.put (name:=p) (x:=src) HDLd.out (by rw [← HDDd.out]; exact HKDd.out) HDH.out HSLd.out hc7 (by rw [← HDDd.out,HMOd.out]; exact b7) (by rw [← HDDd.out,adr_at HSH.out]; exact m7))
            have HC7:=Lib.hid (HCd.out.then_ hc7 (fun n hn ho=>HOWN.out n hn ho))
            have HJ7:=Lib.hid (show Blk w7 w.heap.size 207 _ from (hc7.block _ HJd.out.lt (fun ho=>HFd.out.tree.not_blk HJd.out (by decide) ⟨d,_,dh,thD_at HDLd.out,HDH.out,ho.imp id fun e=>⟨by rw [← HDDd.out]; exact HKDd.out,e⟩⟩)).trans HJd.out)
            clear hc7 b7 m7
            have j0:=HJ7.out.cell 0; have lj:=HJ7.out.lt
            unfold jobC at j0
            simp only [List.getElem?_toArray,List.getElem?_cons_succ,List.getElem?_cons_zero] at j0
            go_wp2_with fail
            go_ret2
            exact apply_err HENd.out HF7.out HN3.out HC7.out
  ·refine ⟨_,rfl,?_⟩
   have hb0:(b.2.1 != 0)=true:=by simpa using h0
   have hend:R=(⟨b.1,off⟩,0,b.2.1):=by rw [HRR.out,if_pos h0]
   have HEND:=Lib.hid hend
   obtain ⟨er,her⟩:∃ x,x=b.2.1:=⟨_,rfl⟩
   rw [← her] at HEND hb0 ⊢
   clear hend h0 her
   simp only [Act.put,List.setIfInBounds_toArray,List.set_cons_zero,List.set_cons_succ]
   repeat (refine g_tail ?_ ?_ ?_; rotate_left; (focus (go_simp; (try with_reducible rfl); done)); simp only [Act.put,List.setIfInBounds_toArray,List.set_cons_zero,List.set_cons_succ])
   refine g_tail_end ?_
   go_wp2_with fail
   go_ret2
   exact apply_err HEND.out HF3.out HN3.out HC3.out
 ·have hb0:(a.2.1 != 0)=true:=by simpa using h0
  have hend:R=(⟨ths,off⟩,0,a.2.1):=by
   rw [HR.out]
   unfold applyF
   rw [if_neg hpn,if_pos H4.out,hfl,← HA.out]
   show (if a.2.1≠0 then _ else _)=_
   rw [if_pos h0,HA1.out]
  have HEND:=Lib.hid hend
  obtain ⟨er,her⟩:∃ x,x=a.2.1:=⟨_,rfl⟩
  rw [← her] at HEND hb0 ⊢
  clear hend h0 her hfl hpl hpn
  go_wp2_with fail
  go_ret2
  exact apply_err (hs2:=[]) HEND.out (by rw [List.append_nil]; exact HF2.out) (fun h hh=>by cases hh) HC2.out
theorem foldApplyAll {B f r mo:Nat} {now:TimeD} {hs:List Hn} {ths:List ThD} {off:List (Nat×JobD)} {j:JobD} {Ap:Option Addr} {np cp:Nat} {Af:Option Addr} {nf cf:Nat} {vd:Value} (w:World) (hF:FoldAt w B f r mo now hs ths off) (hI:ApplyIn w hs ths j Ap np cp Af nf cf vd) :
  Calls Tryz.prog 111 #[.pointer (some ⟨f,0,none⟩),.agg (jobC j (.slice Ap np cp) (.slice Af nf cf) vd)] w (ApplyEnd (applyF now r j ths off) vd B f r mo now hs ths w):=by
 by_cases h4:j.kind=4
 ·by_cases hn0:np=0
  ·subst hn0
   exact foldApply0 w hF hI
  ·have hq:=hI.hard h4
   obtain ⟨m,rfl⟩:∃ m,np=m+1:=⟨np - 1,by omega⟩
   obtain ⟨q,rfl⟩:∃ q,nf=q+1:=⟨nf - 1,by omega⟩
   exact foldApplyH w hF hI h4
 ·exact foldApply w hF hI h4
end Go.Proofs.YtfhfcipelgogjaaGreatDoor
namespace Go.Proofs.YtfhfcipelgogjaaGreatDoor
open Go.RowKit
def noSkip:Result Next→Result Next
 | .ok .skip W=>.ok (.value undef) W
 | r=>r
def gop (P:Program) (ops:Array Oper) (a:Act) (o:Oper) (W:World):Result Next:=if Region.wanted o (yielded ops a.tmps)=true then noSkip ((execOp a.eval o).run P W) else .ok (.value undef) W
theorem wpOp_gop {P:Program} {ops:Array Oper} {Q:Exit→Act→World→Prop} {i:Nat} {o:Oper} {K:Act→World→Prop} {a:Act} {W:World} (ho:ops[i]?=some o) (h:o.upon P a K Q (gop P ops a o W)):wpOp P ops Q i K a W:=by
 unfold wpOp
 simp only [ho]
 unfold gop at h
 split at h
 ·next hw =>
  rw [if_pos hw]
  refine .inl ?_
  unfold Oper.wp
  generalize (execOp a.eval o).run P W=r at h ⊢
  cases r with
  | ok n W'=>cases n <;> exact h
  | halt x W'=>exact h
 ·next hw=>rw [if_neg hw]; exact h
theorem gop_put {P:Program} {ops:Array Oper} {W:World} (o:Oper) (hs:∀ cs b,o.op≠.select cs b) (a:Act) (d:Option Tmp) (v:Value) (h:∀ e,d=some e→e∉o.looksAt ops):gop P ops (a.put d v) o W=gop P ops a o W:=by
 unfold gop
 rw [wanted_put o a d v h,execOp_put o hs a d v h]
def wpH (P:Program) (md:Region.Mode) (ops:Array Oper) (R:World→World→Prop) (w0:World) (rets:List (Nat×Made)) (E:Act→World→Prop):List (Nat×Oper)→(Nat→World→Prop)→Act→Prop
 | [],F,a=>∀ W,R w0 W→(∀ j,F j W)→E a W
 | (k,o) :: rest,F,a=>match rets.lookup k with
  | none=>∃ v,(∀ W,R w0 W→(∀ j,befB md ops ops.size j k=true→F j W)→gop P ops a o W=.ok (.value v) W)∧wpH P md ops R w0 rets E rest F (a.put o.dst v)
  | some m=>(∀ W,R w0 W→(∀ j,befB md ops ops.size j k=true→F j W)→m.upon P R W (gop P ops a o W))∧∀ x,wpH P md ops R w0 rets E rest (upd F k (m.Fact x)) (a.put o.dst (m.enc x))
section
variable {P:Program} {md:Region.Mode} {ops:Array Oper} {R:World→World→Prop} {w0:World} {rets:List (Nat×Made)} {E:Act→World→Prop}
theorem wpH_nil {F:Nat→World→Prop} {a:Act}:wpH P md ops R w0 rets E [] F a=∀ W,R w0 W→(∀ j,F j W)→E a W:=by unfold wpH; rfl
theorem wpH_d {k:Nat} {o:Oper} {rest:List (Nat×Oper)} {F:Nat→World→Prop} {a:Act} (h:rets.lookup k=none):wpH P md ops R w0 rets E ((k,o) :: rest) F a =
  ∃ v,(∀ W,R w0 W→(∀ j,befB md ops ops.size j k=true→F j W)→gop P ops a o W=.ok (.value v) W)∧wpH P md ops R w0 rets E rest F (a.put o.dst v):=by
 conv=>lhs; unfold wpH
 rw [h]
theorem wpH_n {k:Nat} {o:Oper} {rest:List (Nat×Oper)} {F:Nat→World→Prop} {a:Act} {m:Made} (h:rets.lookup k=some m):wpH P md ops R w0 rets E ((k,o) :: rest) F a =
  ((∀ W,R w0 W→(∀ j,befB md ops ops.size j k=true→F j W)→m.upon P R W (gop P ops a o W))∧∀ x,wpH P md ops R w0 rets E rest (upd F k (m.Fact x)) (a.put o.dst (m.enc x))):=by
 conv=>lhs; unfold wpH
 rw [h]
theorem hoistH_n {j:Nat} {oj:Oper} {m:Made} (hm:rets.lookup j=some m) (hsj:∀ cs b,oj.op≠.select cs b) {l2:List (Nat×Oper)}:∀ (l1:List (Nat×Oper)) (F:Nat→World→Prop) (a:Act),
  (∀ p∈l1,Far md ops p.1 j p.2 oj∧∀ cs b,p.2.op≠.select cs b)→wpH P md ops R w0 rets E (l1++(j,oj) :: l2) F a →
  (∀ W,R w0 W→(∀ k,befB md ops ops.size k j=true→F k W)→m.upon P R W (gop P ops a oj W))∧∀ x,wpH P md ops R w0 rets E (l1++l2) (upd F j (m.Fact x)) (a.put oj.dst (m.enc x))
 | [],F,a,_,h=>by rw [List.nil_append,wpH_n hm] at h; exact h
 | (i,oi) :: l1,F,a,hf,h=>by
  obtain ⟨hF,hsi⟩:=hf (i,oi) (by simp)
  simp only at hF hsi
  have hf':=fun p (hp:p∈l1)=>hf p (List.mem_cons_of_mem _ hp)
  rw [List.cons_append] at h
  cases hi:rets.lookup i with
  | none =>
   rw [wpH_d hi] at h
   obtain ⟨v,hv,hT⟩:=h
   obtain ⟨g1,g2⟩:=hoistH_n hm hsj l1 F _ hf' hT
   simp only [gop_put oj hsj a oi.dst v hF.h1] at g1
   refine ⟨g1,fun x=>?_⟩
   rw [List.cons_append,wpH_d hi]
   refine ⟨v,fun W q1 q2=>?_,?_⟩
   ·rw [gop_put oi hsi a oj.dst _ hF.h3]
    exact hv W q1 (dep_un hF.b2 q2)
   ·rw [← Act.put_comm a v _ hF.h2]; exact g2 x
  | some mi =>
   rw [wpH_n hi] at h
   obtain ⟨hv,hT⟩:=h
   have g:=fun y=>hoistH_n hm hsj l1 _ _ hf' (hT y)
   refine ⟨fun W q1 q2=>?_,fun x=>?_⟩
   ·have:=(g mi.x0).1 W q1 (dep_upd hF.b1 q2)
    rwa [gop_put oj hsj a oi.dst _ hF.h1] at this
   ·rw [List.cons_append,wpH_n hi]
    refine ⟨fun W q1 q2=>?_,fun y=>?_⟩
    ·rw [gop_put oi hsi a oj.dst _ hF.h3]
     exact hv W q1 (dep_un hF.b2 q2)
    ·rw [← Act.put_comm a _ _ hF.h2,upd_comm (Ne.symm hF.ne)]; exact (g y).2 x
theorem hoistH_d {j:Nat} {oj:Oper} (hm:rets.lookup j=none) (hsj:∀ cs b,oj.op≠.select cs b) {l2:List (Nat×Oper)} {W:World} (hW:R w0 W):∀ (l1:List (Nat×Oper)) (F:Nat→World→Prop) (a:Act),
  (∀ p∈l1,Far md ops p.1 j p.2 oj∧∀ cs b,p.2.op≠.select cs b)→(∀ k,befB md ops ops.size k j=true→F k W)→wpH P md ops R w0 rets E (l1++(j,oj) :: l2) F a →
  ∃ v,gop P ops a oj W=.ok (.value v) W∧wpH P md ops R w0 rets E (l1++l2) F (a.put oj.dst v)
 | [],F,a,_,hd,h=>by
  rw [List.nil_append,wpH_d hm] at h
  obtain ⟨v,hv,hT⟩:=h
  exact ⟨v,hv W hW hd,hT⟩
 | (i,oi) :: l1,F,a,hf,hd,h=>by
  obtain ⟨hF,hsi⟩:=hf (i,oi) (by simp)
  simp only at hF hsi
  have hf':=fun p (hp:p∈l1)=>hf p (List.mem_cons_of_mem _ hp)
  rw [List.cons_append] at h
  cases hi:rets.lookup i with
  | none =>
   rw [wpH_d hi] at h
   obtain ⟨v,hv,hT⟩:=h
   obtain ⟨u,g1,g2⟩:=hoistH_d hm hsj hW l1 F _ hf' hd hT
   rw [gop_put oj hsj a oi.dst v hF.h1] at g1
   refine ⟨u,g1,?_⟩
   rw [List.cons_append,wpH_d hi]
   refine ⟨v,fun W q1 q2=>?_,?_⟩
   ·rw [gop_put oi hsi a oj.dst _ hF.h3]
    exact hv W q1 q2
   ·rw [← Act.put_comm a v _ hF.h2]; exact g2
  | some mi =>
   rw [wpH_n hi] at h
   obtain ⟨hv,hT⟩:=h
   have g:=fun y=>hoistH_d hm hsj hW l1 _ _ hf' (dep_upd hF.b1 hd) (hT y)
   obtain ⟨u,g1,g2⟩:=g mi.x0
   rw [gop_put oj hsj a oi.dst _ hF.h1] at g1
   refine ⟨u,g1,?_⟩
   rw [List.cons_append,wpH_n hi]
   refine ⟨fun W q1 q2=>?_,fun y=>?_⟩
   ·rw [gop_put oi hsi a oj.dst _ hF.h3]
    exact hv W q1 q2
   ·obtain ⟨u',k1,k2⟩:=g y
    rw [gop_put oj hsj a oi.dst _ hF.h1,g1] at k1
    have:u=u':=by injection k1 with k1; injection k1
    rw [← Act.put_comm a _ _ hF.h2,this]; exact k2
end
structure RegFormH (md:Region.Mode) (ops:Array Oper):Prop where
 sel:Region.noSelect ops=true
 back:∀ (k:Nat) (o:Oper),ops[k]?=some o→∀ e∈o.after,Region.binds md e=true→e.on<k
 apart:∀ (i j:Nat) (oi oj:Oper),ops[i]?=some oi→ops[j]?=some oj→i<j→befB md ops ops.size i j=true∨oi.apart ops oj=true
def formH (md:Region.Mode) (ops:Array Oper):Bool:=
 Region.noSelect ops && (List.range ops.size).all fun j=>match ops[j]? with
  | none=>true
  | some oj=>(oj.after.all fun e=>!Region.binds md e || decide (e.on<j)) && (List.range j).all fun i=>match ops[i]? with
   | none=>true
   | some oi=>oi.apart ops oj || befB md ops ops.size i j
theorem formH_of {md:Region.Mode} {ops:Array Oper} (h:formH md ops=true):RegFormH md ops:=by
 unfold formH at h
 rw [Bool.and_eq_true,List.all_eq_true] at h
 obtain ⟨h0,h⟩:=h
 have hh:∀ j oj,ops[j]?=some oj→(oj.after.all fun e=>!Region.binds md e || decide (e.on<j))=true∧((List.range j).all fun i=>match ops[i]? with
   | none=>true
   | some oi=>oi.apart ops oj || befB md ops ops.size i j)=true:=fun j oj ho=>by
  have:=h j (List.mem_range.2 (Array.getElem?_eq_some_iff.1 ho).1)
  simp only [ho,Bool.and_eq_true] at this
  exact ⟨this.1,this.2⟩
 refine ⟨h0,fun k o ho e he hb=>?_,fun i j oi oj hi hj hij=>?_⟩
 ·have:=Array.all_eq_true_iff_forall_mem.1 (hh k o ho).1 e he
  simpa [hb] using this
 ·have:=List.all_eq_true.1 (hh j oj hj).2 i (List.mem_range.2 hij)
  simp only [hi,Bool.or_eq_true] at this
  exact this.symm
section
variable {P:Program} {md:Region.Mode} {ops:Array Oper}
theorem bef_ltH (hF:RegFormH md ops):∀ (f k i:Nat),befB md ops f k i=true→k<i
 | 0,_,_,h=>by simp [befB] at h
 | f+1,k,i,h=>by
  unfold befB at h
  cases ho:ops[i]? with
  | none=>simp [ho] at h
  | some o =>
   simp only [ho] at h
   obtain ⟨e,he,hb⟩:=Array.any_eq_true'.1 h
   simp only [Bool.and_eq_true,Bool.or_eq_true,beq_iff_eq] at hb
   have hlt:=hF.back i o ho e he hb.1
   rcases hb.2 with h1 | h1
   ·omega
   ·have:=bef_ltH hF f k e.on h1; omega
theorem closed_setH (hF:RegFormH md ops) {listed:Array Bool} (hs:listed.size=ops.size) (hc:Closed md ops listed) {i:Nat} {o:Oper} (ho:ops[i]?=some o) (hd:∀ e∈o.after,Region.binds md e=true→listed.getD e.on false=true):Closed md ops (listed.setIfInBounds i true):=by
 intro k ok hk hl e he hb
 by_cases hki:k=i
 ·subst hki
  rw [ho] at hk
  obtain rfl:o=ok:=by injection hk
  exact getD_set_true (hd e he hb)
 ·rw [getD_set_ne false (Ne.symm hki)] at hl
  exact getD_set_true (hc k ok hk hl e he hb)
theorem ready_someH (hF:RegFormH md ops) {listed:Array Bool} (hs:listed.size=ops.size):∀ (n k:Nat) (o:Oper),k<n→ops[k]?=some o→listed.getD k true=false→Region.ready md ops listed≠[]
 | 0,_,_,h,_,_=>absurd h (Nat.not_lt_zero _)
 | n+1,k,o,hn,ho,hl=>by
  by_cases hall:∀ e∈o.after,Region.binds md e=true→listed.getD e.on false=true
  ·intro h0
   have:k∈Region.ready md ops listed:=mem_ready.2 ⟨hl,o,ho,hall⟩
   rw [h0] at this; cases this
  ·have:∃ e∈o.after,Region.binds md e=true∧listed.getD e.on false=false:=by
    refine Classical.byContradiction fun hno=>hall fun e he hb=>?_
    cases hc:listed.getD e.on false with
    | true=>rfl
    | false=>exact absurd ⟨e,he,hb,hc⟩ hno
   obtain ⟨e,he,hb,hf⟩:=this
   have hlt:=hF.back k o ho e he hb
   have hks:k<ops.size:=(Array.getElem?_eq_some_iff.1 ho).1
   have hes:e.on<ops.size:=by omega
   refine ready_someH hF hs n e.on ops[e.on] (by omega) (Array.getElem?_eq_getElem hes) ?_
   rw [getD_ft (by omega)]; exact hf
theorem far_ofH (hF:RegFormH md ops) {listed:Array Bool} (hc:Closed md ops listed) {t:Option Nat} {l1 l2:List (Nat×Oper)} {i:Nat} {o:Oper} (hs:listed.size=ops.size) (h:Rest ops listed t (l1++(i,o) :: l2)) (hd:∀ e∈o.after,Region.binds md e=true→listed.getD e.on false=true) :
  ∀ p∈l1,Far md ops p.1 i p.2 o∧∀ cs b,p.2.op≠.select cs b:=by
 rintro ⟨k,ok⟩ hp
 obtain ⟨hpw,hm⟩:=h
 have hki:k<i:=(List.pairwise_append.1 hpw).2.2 _ hp (i,o) (by simp)
 obtain ⟨hk1,hk2,_⟩:=(hm k ok).1 (by simp [hp])
 obtain ⟨hi1,_,_⟩:=(hm i o).1 (by simp)
 have hks:k<listed.size:=by rw [hs]; exact (Array.getElem?_eq_some_iff.1 hk1).1
 have b1:befB md ops ops.size k i=false:=by
  cases hb:befB md ops ops.size k i with
  | false=>rfl
  | true =>
   have:=bef_listed hc _ k i o hi1 hd hb
   rw [getD_ft hks,this] at hk2; cases hk2
 have b2:befB md ops ops.size i k=false:=by
  cases hb:befB md ops ops.size i k with
  | false=>rfl
  | true=>have:=bef_ltH hF _ _ _ hb; omega
 have hap:=(hF.apart k i ok o hk1 hi1 hki).resolve_left (by rw [b1]; exact Bool.false_ne_true)
 obtain ⟨a1,a2,a3⟩:=Oper.apart_spec hap
 exact ⟨⟨by omega,b1,b2,a1,a2,a3⟩,fun cs b=>Region.noSelect_spec hF.sel k ok cs b hk1⟩
theorem any_of_wpH {Q:Exit→Act→World→Prop} {R:World→World→Prop} {w0:World} {rets:List (Nat×Made)} (hF:RegFormH md ops) (hrr:∀ w,R w w) (hrt:∀ a b c,R a b→R b c→R a c) (hst:Stays R rets):∀ (fuel:Nat) (l:List (Nat×Oper)) (listed:Array Bool) (F:Nat→World→Prop) (a:Act) (W:World),
  l.length≤fuel→listed.size=ops.size→Closed md ops listed→Rest ops listed none l→wpH P md ops R w0 rets (fun a W=>Q .normal a W) l F a→R w0 W→(∀ j,F j W)→(∀ j W W',R W W'→F j W→F j W')→wpAny P md ops Q fuel listed a W:=by
 intro fuel
 induction fuel with
 | zero =>
  intro l listed F a W hl hs hc hR h hW hf hfs
  obtain rfl:l=[]:=List.eq_nil_of_length_eq_zero (by omega)
  have hnone:Region.ready md ops listed=[]:=by
   rw [List.eq_nil_iff_forall_not_mem]
   intro k hk
   obtain ⟨h0,o,ho,_⟩:=mem_ready.1 hk
   have:=(hR.2 k o).2 ⟨ho,h0,fun _ hu=>nomatch hu⟩
   cases this
  rw [wpH_nil] at h
  exact ⟨hnone,h W hW hf⟩
 | succ fuel ih =>
  intro l listed F a W hl hs hc hR h hW hf hfs
  refine ⟨fun h0=>?_,fun i hi=>?_⟩
  ·cases l with
   | nil=>rw [wpH_nil] at h; exact h W hW hf
   | cons p l =>
    obtain ⟨k,o⟩:=p
    obtain ⟨g1,g2,_⟩:=(hR.2 k o).1 (by simp)
    exact absurd h0 (ready_someH hF hs (k+1) k o (by omega) g1 g2)
  ·obtain ⟨h0,o,ho,hd⟩:=mem_ready.1 hi
   obtain ⟨l1,l2,rfl⟩:=List.append_of_mem ((hR.2 i o).2 ⟨ho,h0,fun _ hu=>nomatch hu⟩)
   have hfar:=far_ofH hF hc hs hR hd
   have hsel:∀ cs b,o.op≠.select cs b:=fun cs b=>Region.noSelect_spec hF.sel i o cs b ho
   have hR':=hR.set hs
   have hs':(listed.setIfInBounds i true).size=ops.size:=by simpa using hs
   have hc':=closed_setH hF hs hc ho hd
   have hl':(l1++l2).length≤fuel:=by simp at hl ⊢; omega
   cases hm:rets.lookup i with
   | none =>
    obtain ⟨v,g1,g2⟩:=hoistH_d hm hsel hW l1 F a hfar (fun k _=>hf k) h
    refine wpOp_gop ho ?_
    rw [g1]
    exact ih _ _ F _ W hl' hs' hc' hR' g2 hW hf hfs
   | some m =>
    obtain ⟨g1,g2⟩:=hoistH_n hm hsel l1 F a hfar h
    have g3:=g1 W hW fun k _=>hf k
    have fin:∀ x W',R W W'→m.Fact x W'→wpAny P md ops Q fuel (listed.setIfInBounds i true) (a.put o.dst (m.enc x)) W':=fun x W' q1 q2=>by
     refine ih _ _ (upd F i (m.Fact x)) _ W' hl' hs' hc' hR' (g2 x) (hrt _ _ _ hW q1) (fun j=>?_) (fun j W1 W2 r1 r2=>?_)
     ·by_cases hj:j=i
      ·subst hj; rw [upd_at]; exact q2
      ·rw [upd_ne hj]; exact hfs j W W' q1 (hf j)
     ·by_cases hj:j=i
      ·subst hj; rw [upd_at] at r2 ⊢; exact hst _ m hm x W1 W2 r1 r2
      ·rw [upd_ne hj] at r2 ⊢; exact hfs j W1 W2 r1 r2
    refine wpOp_gop ho ?_
    generalize gop P ops a o W=r at g3 ⊢
    cases r with
    | ok n W' =>
     cases n <;> simp only [Made.upon] at g3 <;> simp only [Oper.upon]
     case value v=>obtain ⟨x,rfl,q1,q2⟩:=g3; exact fin x W' q1 q2
     case enter f args=>exact g3.mono fun e W'' ⟨x,he,q1,q2⟩=>by subst he; exact fin x W'' q1 q2
    | halt x W'=>simp only [Made.upon] at g3
end
section
variable {P:Program} {id:Nat} {Q:Exit→Act→World→Prop} {a:Act} {w:World} {l:List Oper} {rets:List (Nat×Made)} {R:World→World→Prop}
theorem wp_region_H (R:World→World→Prop) (rets:List (Nat×Made)) (hm:P.follows .mixedOrders=true) (hB:formH .any l.toArray=true) (hrr:∀ w,R w w) (hrt:∀ a b c,R a b→R b c→R a c) (hdr:R w { w with drawn:=w.drawn+1 }) (hst:Stays R rets)
  (h:wpH P .any l.toArray R w rets (fun a W=>Q .normal a W) (number 0 l) (fun _ _=>True) a):(Code.region id l.toArray true).wp P Q a w:=
 wp_region_any hm (any_of_wpH (formH_of hB) hrr hrt hst _ _ _ _ _ _ (by simp [number_len]) (by simp) (closed_start _) (rest_number l) h hdr (fun _=>trivial) (fun _ _ _ _ _=>trivial))
end
section
variable {P:Program} {md:Region.Mode} {ops:Array Oper} {R:World→World→Prop} {w:World} {rets:List (Nat×Made)} {E:Act→World→Prop} {k:Nat} {o:Oper} {l:List Oper} {F:Nat→World→Prop} {a:Act}
theorem gop_yes {W:World} (hg:Region.wanted o (yielded ops a.tmps)=true) {v:Value} {W':World} (h:(execOp a.eval o).run P W=.ok (.value v) W'):gop P ops a o W=.ok (.value v) W':=by
 unfold gop; rw [if_pos hg,h]; rfl
theorem h_end (h:∀ W,R w W→(∀ j,F j W)→E a W):wpH P md ops R w rets E (number k []) F a:=by
 unfold number
 rw [wpH_nil]
 exact h
theorem h_w (hm:rets.lookup k=none) (hg:Region.wanted o (yielded ops a.tmps)=true) (v:Value) (hv:∀ W,(execOp a.eval o).run P W=.ok (.value v) W) (h:wpH P md ops R w rets E (number (k+1) l) F (a.put o.dst v)):wpH P md ops R w rets E (number k (o :: l)) F a:=by
 rw [number_cons,wpH_d hm]
 exact ⟨v,fun W _ _=>gop_yes hg (hv W),h⟩
theorem h_d (hm:rets.lookup k=none) (hg:Region.wanted o (yielded ops a.tmps)=true) (v:Value) (hv:∀ W,R w W→(∀ j,befB md ops ops.size j k=true→F j W)→(execOp a.eval o).run P W=.ok (.value v) W) (h:wpH P md ops R w rets E (number (k+1) l) F (a.put o.dst v)):wpH P md ops R w rets E (number k (o :: l)) F a:=by
 rw [number_cons,wpH_d hm]
 exact ⟨v,fun W q1 q2=>gop_yes hg (hv W q1 q2),h⟩
end
theorem grownBy_transH {a b c:World} {row:Option Nat} (h:a.grownBy b row) (k:b.grownBy c row):a.grownBy c row:=
 ⟨k.os.trans h.os,k.tape.trans h.tape,k.output.trans h.output,Nat.le_trans h.size k.size,fun n hn hr=>(k.block n (Nat.lt_of_lt_of_le hn h.size) hr).trans (h.block n hn hr)⟩
theorem staysH_nil {R:World→World→Prop}:Stays R []:=fun k m h=>by cases h
end Go.Proofs.YtfhfcipelgogjaaGreatDoor
