/- (*forecast.lister).add: the lines of what lies under a thing. No condition but room. -/
import Derived.Test.YtfhfcipelgogjaaGreatDoorFListAll
import Derived.Test.YtfhfcipelgogjaaGreatDoorPlanAll
import Derived.Deep.DeepCutAuto
import Derived.Deep.CutRange
import Derived.Deep.CutBlock
set_option linter.unusedSectionVars false
set_option linter.unusedVariables false
set_option linter.unusedSimpArgs false
set_option maxHeartbeats 4000000
set_option maxRecDepth 100000
namespace Go.Proofs.YtfhfcipelgogjaaGreatDoor
open Go.RowKit
attribute [local go_sem] cell?_over frozen?_over lt_over le_over
def StopA (p:Prop):Prop:=p
theorem StopA.mk {p : Prop} (h : StopA p) : p := h
theorem foldAdd {bl bf B B0 : Nat} {hs : List Hn} {ths : List ThD} (hS : OkTs ths) (hbl : B0 ≤ bl) (hbf : B0 ≤ bf) (hlf : bl ≠ bf) : ∀ (fuel : Nat) (st : TSt) (i : Nat) (ps : List ByteArray) (pv : Value) (w : World), LtAt bl bf B hs st w → TreeB B0 hs ths w → B ≤ w.heap.size → i < ths.length → SV w pv ps →
    (∀ p ∈ ps, 0 < p.size) → totL (ps.map (·.data.toList)) ≤ 100000000 → st.bytes ≤ 4194304 → 4194305 ≤ fuel + st.bytes →
    Calls Tryz.prog 78 #[.pointer (some ⟨bl, 0, none⟩), .pointer (some ⟨adr hs i, 0, none⟩), pv] w (FAddEnd bl bf B B0 hs (addT ths fuel st i ps) w) := by
  intro fuel
  induction fuel with
  | zero => intro st i ps pv w _ _ _ _ _ _ _ h1 h2; omega
  | succ fuel ih =>
    intro st i ps pv w hl hT hBw hi hsv hne htot hb1 hfu
    obtain ⟨R, hR⟩ : ∃ R, R = addT ths (fuel + 1) st i ps := ⟨_, rfl⟩
    rw [← hR]
    have HR := Lib.hid hR; have HL := Lib.hid hl; have HT := Lib.hid hT; have HS := Lib.hid hS
    have IH := Lib.hid ih
    obtain ⟨base, ho⟩ := hsv
    have HSV : Hid (SV w pv ps) := Lib.hid ⟨base, ho⟩
    obtain ⟨A, n, c, rfl, hnc, hcm, hrow⟩ := ho.rd_old
    have hn : n = ps.length := hrow.1.symm
    have HROW := Lib.hid hrow
    obtain ⟨P, hP⟩ : ∃ x, x = pathT ps := ⟨_, rfl⟩
    have HP := Lib.hid hP
    have HPS := Lib.hid (path_size ps hne)
    have HJ : Hid (Calls Tryz.prog 112 #[.slice A n c] w fun e w' => e = .returned (.string ⟨(joinP (ps.map (·.data.toList))).toArray⟩) ∧ Below w.heap.size w w') := Lib.hid (routeJoin w (by rw [textsL_data]; exact HROW.out) hnc (by omega))
    obtain ⟨js, hjs⟩ : ∃ x, x = (⟨(joinP (ps.map (·.data.toList))).toArray⟩ : ByteArray) := ⟨_, rfl⟩
    rw [← hjs] at HJ
    have HPJ : Hid (P = if n = 0 then ⟨#[46]⟩ else js) := Lib.hid (by
      rw [hP, hjs, hn]; unfold pathT
      by_cases h : ps = []
      · rw [if_pos h, h]; rfl
      · rw [if_neg h, if_neg (fun e => h (List.eq_nil_of_length_eq_zero e))])
    have HN := Lib.hid hn
    clear ih hR hl hT hS ho hrow hn hP hjs
    go_enter Tryz.func78, Tryz.ntmps78
    go_wp2_with fail
    refine HJ.out.mono ?_
    rintro e w1 ⟨rfl, hb⟩
    have HB1 := Lib.hid hb
    clear hb
    go_upto_if 15 with (fail)
    go_cut [7] (fun v7 wx => v7 = .string P ∧ w1 = wx)
    case first =>
      by_cases h0 : n = 0
      · have hb : ((n : Int) == 0) = true := by simpa using h0
        have hPe : Hid (P = ⟨#[46]⟩) := Lib.hid (by rw [HPJ.out, if_pos h0])
        clear h0
        go_wp2_with fail
        go_meet
        case rel => exact ⟨by rw [hPe.out], rfl⟩
      · have hb : ((n : Int) == 0) = false := by simpa using h0
        have hPe : Hid (P = js) := Lib.hid (by rw [HPJ.out, if_neg h0])
        clear h0
        go_wp2_with fail
        go_meet
        case rel => exact ⟨by rw [hPe.out], rfl⟩
    case rest =>
      obtain ⟨rfl, rfl⟩ := hcut
      have hB0w : B0 ≤ w.heap.size := by have := HL.out.ltl; omega
      have HB1' : Hid (Below B0 w w1) := Lib.hid (HB1.out.mono hB0w)
      have KS1 : Hid (KeepS w w1) := Lib.hid (KeepS.of_below HB1.out)
      have HL1 : Hid (LtAt bl bf B hs st w1) := Lib.hid (HL.out.below HB1.out)
      have HT1 := Lib.hid (HT.out.below HB1'.out)
      have hBw1 : B ≤ w1.heap.size := Nat.le_trans hBw HB1.out.size
      obtain ⟨v, M, bL, own, hM⟩ := HL1.out.own
      have x0 := bL.cell 0; have x1 := bL.cell 1; have x2 := bL.cell 2; have f2 := bL.frozen 2; have lbl := bL.lt
      simp only [List.getElem?_toArray, List.getElem?_cons_succ, List.getElem?_cons_zero] at x0 x1 x2
      obtain ⟨nb, hnb⟩ : ∃ x, x = st.bytes + P.size := ⟨_, rfl⟩
      have hps : P.size ≤ 100000001 := by rw [HP.out]; have := path_le ps; omega
      have hwr : IntKind.i64.wrap ((st.bytes : Int) + P.size) = nb := by rw [IntKind.wrap_i64]; omega
      have HNB := Lib.hid hnb; have BL := Lib.hid bL; have OWN := Lib.hid own; have HM := Lib.hid hM
      clear hnb bL own hM
      obtain ⟨w2, hw2⟩ : ∃ x, x = w1.setCell ⟨bl, 2, none⟩ (.int .i64 nb) := ⟨_, rfl⟩
      go_upto_if 29 with (fail)
      rw [← hw2]
      have G2 : Hid (w1.grownBy w2 (some bl)) := Lib.hid (by rw [hw2]; exact grown_setA _ _ _ _)
      have B2 : Hid (Below B0 w w2) := Lib.hid (HB1'.out.trans (by rw [hw2]; exact below_set _ _ _ _ hbl))
      have BL2 : Hid (Blk w2 bl 152 #[v, .map (some bf), .int .i64 nb]) := Lib.hid (by rw [hw2]; exact BL.out.set_ 2 _)
      have SZ2 : Hid (w2.heap.size = w1.heap.size) := Lib.hid (by rw [hw2]; simp)
      have KS2 : Hid (KeepS w w2) := Lib.hid (KS1.out.trans (KeepS.of_grown G2.out (fun k e => by injection e with e; subst e; exact not_str_of_blk BL.out (by decide))))
      have hbB := HL.out.ltl; have hfB := HL.out.ltf
      have OWN2 : Hid (Own Shape.LineD 60 w2 B M v st.out) := Lib.hid (OWN.out.kept G2.out (by cases hv : v.ownBlock with | none => exact .inl rfl | some k => right; intro e; injection e with e; have := (OWN.out.lt k hv).1; omega) (fun n hn e => by injection e with e; have := HM.out n hn; omega))
      have MF2 : Hid (IsMapP kP cW w2 bf (firstA hs st.first)) := Lib.hid (HL1.out.first.of_block (G2.out.block bf HL1.out.first.lt (fun e => hlf (by injection e with e; exact e.symm))))
      have HT2 := Lib.hid (HT.out.below B2.out)
      clear hw2 x0 x1 x2 f2 lbl
      by_cases hov : 4194304 < nb
      · have hov' : (4194304 : Int) < nb := by omega
        have hend : R = (⟨st.out, st.first, nb⟩, false) := by rw [HR.out]; unfold addT; rw [← HP.out, ← HNB.out, if_pos hov]
        have HEND := Lib.hid hend
        clear hov hend
        go_wp2_with fail
        go_ret
        rw [HEND.out]
        exact ⟨B2.out, KS2.out, lt_of HL.out BL2.out OWN2.out HM.out MF2.out (by have := HL.out.len; have := HNB.out; show _ ≤ nb; omega) HL.out.paths, rfl⟩
      · have hov' : ¬ (4194304 : Int) < nb := by omega
        have hend : R = addNs (thD ths i) (addT ths fuel) ps (namesT (thD ths i)) (putT1 st i (thD ths i) P) := by rw [HR.out]; unfold addT; rw [← HP.out, ← HNB.out, if_neg hov]
        have HEND := Lib.hid hend
        have NBL : Hid (nb ≤ 4194304) := Lib.hid (by omega)
        obtain ⟨T, hTe⟩ : ∃ x, x = thD ths i := ⟨_, rfl⟩
        rw [← hTe] at HEND
        obtain ⟨Bt, ht2⟩ := HT2.out.base
        obtain ⟨dh, hdh⟩ := ht2.hand (thD_at hi)
        have BD := ht2.blk i _ dh (thD_at hi) hdh
        obtain ⟨Ad, cd, hdv, hdc, hdr⟩ := HT2.out.dat i _ dh (thD_at hi) hdh
        rw [adr_at hdh]
        rw [hdv, ← hTe] at BD
        rw [← hTe] at hdr
        have OKT := Lib.hid (HS.out.at_ hi)
        rw [← hTe] at OKT
        have HBD := Lib.hid BD; have HTE := Lib.hid hTe; have HDH := Lib.hid hdh; have HDR := Lib.hid hdr
        obtain ⟨nd, hnd⟩ : ∃ x, x = T.data.length := ⟨_, rfl⟩
        rw [← hTe, ← hnd] at hdc
        rw [← hnd] at BD
        have HND := Lib.hid hnd; have HDC := Lib.hid hdc
        have d0 := BD.cell 0; have d1 := BD.cell 1; have d2 := BD.cell 2; have d3 := BD.cell 3; have d4 := BD.cell 4; have d5 := BD.cell 5; have d6 := BD.cell 6; have d7 := BD.cell 7; have d8 := BD.cell 8; have d9 := BD.cell 9
        have ldh := BD.lt
        unfold thCells at d0 d1 d2 d3 d4 d5 d6 d7 d8 d9
        simp only [List.getElem?_toArray, List.getElem?_cons_succ, List.getElem?_cons_zero] at d0 d1 d2 d3 d4 d5 d6 d7 d8 d9
        clear hov hend ht2 BD hdv hdr hTe hdh hnd hdc
        go_upto_region 8 with (fail)
        obtain ⟨w3, hw3⟩ : ∃ x, x = w2.alloc (.cells #[.string ⟨#[]⟩, .int .i64 T.kind, .int .i64 T.mode, .int .i64 T.uid, .int .i64 T.gid, .int .i64 T.mtime.sec, .int .i64 T.mtime.nano, .slice Ad nd cd, .string T.target, .string ⟨#[]⟩] 60) := ⟨_, rfl⟩
        obtain ⟨Lb, hLb⟩ : ∃ x, x = w2.heap.size := ⟨_, rfl⟩
        rw [← hw3, ← hLb]
        have B3 : Hid (Below w2.heap.size w2 w3) := Lib.hid (by rw [hw3]; exact below_alloc' _ _)
        have LB3 : Hid (Blk w3 Lb 60 #[.string ⟨#[]⟩, .int .i64 T.kind, .int .i64 T.mode, .int .i64 T.uid, .int .i64 T.gid, .int .i64 T.mtime.sec, .int .i64 T.mtime.nano, .slice Ad nd cd, .string T.target, .string ⟨#[]⟩]) := Lib.hid (by rw [hw3]; exact Blk.new' hLb)
        have SZ3 : Hid (w3.heap.size = Lb + 1) := Lib.hid (by rw [hw3, hLb]; simp)
        have HLB := Lib.hid hLb
        have BL3 := Lib.hid (BL2.out.below B3.out BL2.out.lt)
        have MF3 : Hid (IsMapP kP cW w3 bf (firstA hs st.first)) := Lib.hid (MF2.out.of_block (B3.out.block _ MF2.out.lt))
        obtain ⟨peer, hpeer⟩ : ∃ x, x = peerT st i := ⟨_, rfl⟩
        have HPE := Lib.hid hpeer
        have HT3 := Lib.hid (HT2.out.below (B3.out.mono (Nat.le_trans hB0w (by have := HB1.out.size; have := SZ2.out; omega))))
        have KLK : ∀ u : World, (∀ k, k < w3.heap.size → k ≠ Lb → u.heap[k]? = w3.heap[k]?) → (Instr.lookup 150 (.map (some bf)) (.pointer (some ⟨dh.a, 0, none⟩)) false).run Tryz.prog u = .ok (.agg #[.string peer]) u := fun u hu => by
          have hbLb : bf ≠ Lb := by have := HLB.out; have := MF2.out.lt; omega
          have hmu : IsMapP kP cW u bf (firstA hs st.first) := MF3.out.of_block (hu bf MF3.out.lt hbLb)
          have hvar : ∀ d, d < hs.length → IsVar (adr hs d) u := fun d hd => by
            have h2 := HT2.out.var hd
            obtain ⟨cs, t, h2⟩ := h2
            have hlt : adr hs d < w2.heap.size := (Array.getElem?_eq_some_iff.1 h2).1
            exact ⟨cs, t, (hu _ (by have := B3.out.size; omega) (by have := HLB.out; omega)).trans ((B3.out.block _ hlt).trans h2)⟩
          have hil : i < hs.length := by rw [HT.out.len]; exact hi
          have hda : adr hs i = dh.a := adr_at HDH.out
          have hz : (zeroValue 216).run Tryz.prog u = .ok (.agg #[.string ⟨#[]⟩]) u := by kernel_rfl
          have := run_lookup_kv0P und_firstT hmu (adr hs i) (hvar i hil) (fun p hp => by obtain ⟨q, hq, rfl⟩ := List.mem_map.1 hp; exact hvar _ (HL.out.paths q hq).2) hz
          rw [(firstA_get (fun p hp => (HL.out.paths p hp).2) HT.out.inj hil).1, hda] at this
          refine this.trans ?_
          rw [HPE.out]; unfold peerT
          cases getKv st.first i <;> rfl
        clear hw3 hLb hpeer d0 d1 d2 d3 d4 d5 d6 d7 d8 d9 ldh
        have x1 := BL3.out.cell 1; have lbl := BL3.out.lt
        simp only [List.getElem?_toArray, List.getElem?_cons_succ, List.getElem?_cons_zero] at x1
        have y0 := LB3.out.cell 0; have y8 := LB3.out.cell 9; have z0 := LB3.out.frozen 0; have z8 := LB3.out.frozen 9; have ly := LB3.out.lt
        simp only [List.getElem?_toArray, List.getElem?_cons_succ, List.getElem?_cons_zero] at y0 y8
        have hlk : (Instr.lookup 150 (.map (some bf)) (.pointer (some ⟨dh.a, 0, none⟩)) false).run Tryz.prog w3 = .ok (.agg #[.string peer]) w3 := KLK w3 (fun _ _ _ => rfl)
        have hfd : ∀ u : World, (Instr.field 216 (.agg #[.string peer]) 0).run Tryz.prog u = .ok (.string peer) u := fun u => by first | rfl | kernel_rfl
        have hbL : bl ≠ Lb := by have := HLB.out; have := BL2.out.lt; omega
        go_cut [] (fun wx => Blk wx Lb 60 #[.string P, .int .i64 T.kind, .int .i64 T.mode, .int .i64 T.uid, .int .i64 T.gid, .int .i64 T.mtime.sec, .int .i64 T.mtime.nano, .slice Ad nd cd, .string T.target, .string peer] ∧ Cng (fun k => k = Lb) w3 wx ∧ wx.heap.size = w3.heap.size)
        case first =>
          -- SLOW
          go_region_held3 (fun w' => w'.cell? ⟨bl, 1, none⟩ = some (.map (some bf)) ∧ (Instr.lookup 150 (.map (some bf)) (.pointer (some ⟨dh.a, 0, none⟩)) false).run Tryz.prog w' = .ok (.agg #[.string peer]) w') (first | assumption | exact KLK _ (fun _ _ _ => rfl) | exact KLK _ (fun k _ h2 => Below.heap_setCell _ _ _ k h2) | exact KLK _ (fun k _ h2 => (Below.heap_setCell _ _ _ k h2).trans (Below.heap_setCell _ _ _ k h2)) | (refine ⟨?_, ?_⟩ <;> first | assumption | exact KLK _ (fun _ _ _ => rfl) | exact KLK _ (fun k _ h2 => Below.heap_setCell _ _ _ k h2) | exact KLK _ (fun k _ h2 => (Below.heap_setCell _ _ _ k h2).trans (Below.heap_setCell _ _ _ k h2)) | go_simp) | go_simp) (fail)
          all_goals go_wp2_with fail
          all_goals go_meet
          all_goals case rel => exact ⟨(((LB3.out.set_ 0 _).set_ 9 _).drew).to rfl, (((Cng.refl (fun k => k = Lb) w3).set (b := Lb) rfl _).set (b := Lb) rfl _).drew, by simp⟩
          -- END
        case rest =>
          obtain ⟨w4, hw4e⟩ : ∃ x, x = wc := ⟨_, rfl⟩
          subst hw4e
          obtain ⟨hLB4, hC4, hSZ4⟩ := hcut
          have hg4 : w3.grownBy w4 (some Lb) := ⟨hC4.os, hC4.tape, hC4.output, hC4.size, fun n hn hne => hC4.block n hn (fun e => hne (by rw [e]))⟩
          have hLw : w.heap.size ≤ Lb := by have := HB1.out.size; have := SZ2.out; have := HLB.out; omega
          have hB0L : B0 ≤ Lb := by omega
          have hLB : B ≤ Lb := by omega
          have LB4 := Lib.hid hLB4
          have B4 : Hid (Below B0 w w4) := Lib.hid (B2.out.trans ((B3.out.mono (by have := HLB.out; omega)).trans (hC4.below (by have := SZ3.out; omega) (fun k hk => by subst hk; exact hB0L))))
          have KS4 : Hid (KeepS w w4) := Lib.hid (KS2.out.trans ((KeepS.of_below B3.out).trans (KeepS.of_grown hg4 (fun k e => by injection e with e; subst e; exact not_str_of_blk LB3.out (by decide)))))
          have BL4 : Hid (Blk w4 bl 152 #[v, .map (some bf), .int .i64 nb]) := Lib.hid (BL3.out.grown hg4 (fun e => hbL (by injection e)))
          have MF4 : Hid (IsMapP kP cW w4 bf (firstA hs st.first)) := Lib.hid (MF3.out.of_block (hg4.block bf MF3.out.lt (fun e => by injection e with e; have := HLB.out; have := MF2.out.lt; omega)))
          have OWN4 : Hid (Own Shape.LineD 60 w4 B M v st.out) := Lib.hid ((OWN2.out.kept (grownBy_below' (r := none) B3.out) (by cases hv : v.ownBlock <;> simp) (fun _ _ => by simp)).kept hg4 (by cases hv : v.ownBlock with | none => exact .inl rfl | some k => right; intro e; injection e with e; have := (OWN2.out.lt k hv).2; have := HLB.out; omega) (fun n hn e => by injection e with e; have := HLB.out; obtain ⟨_, _, _, h3⟩ := OWN2.out; have := (h3 n hn).1; omega))
          have HT4 := Lib.hid (HT.out.below B4.out)
          have SZ4 : Hid (w4.heap.size = Lb + 1) := Lib.hid (by rw [hSZ4, SZ3.out])
          have BD4 : Hid (Blk w4 dh.a 203 (thCells T (.slice Ad nd cd) (mapOf T dh))) := Lib.hid (by
            obtain ⟨Bt, ht4⟩ := HT4.out.base
            have h1 := ht4.blk i _ dh (thD_at hi) HDH.out
            rw [← HTE.out] at h1
            have h2 := HBD.out
            rw [← HND.out] at h2
            have h3 : w2.heap[dh.a]? = w4.heap[dh.a]? := (hg4.block dh.a (by have := h2.lt; have := B3.out.size; omega) (fun e => by injection e with e; have := h2.lt; have := HLB.out; omega)).trans (B3.out.block _ h2.lt) |>.symm
            exact h3.symm.trans h2)
          have HDR4 : Hid (Row Shape.byte w4 (Old w4) Ad nd T.data) := Lib.hid (by
            have h1 := HDR.out
            rw [← HND.out] at h1
            have hB2 : B0 ≤ w2.heap.size := by have := HLB.out; omega
            have h2 : Below B0 w2 w4 := (B3.out.mono hB2).trans (hC4.below (by have := SZ3.out; omega) (fun k hk => by subst hk; exact hB0L))
            exact (h1.keep h2.block).more fun k hk => by show k < w4.heap.size; have := SZ4.out; omega)
          have CL := Lib.hid (cloneB (c := cd) w4 HDR4.out (by have := OKT.out.data; have := HND.out; omega))
          have d7 := BD4.out.cell 7; have ldh := BD4.out.lt
          have y7 := LB4.out.cell 7; have z7 := LB4.out.frozen 7; have ly := LB4.out.lt
          unfold thCells at d7
          simp only [List.getElem?_toArray, List.getElem?_cons_succ, List.getElem?_cons_zero] at d7 y7
          clear hLB4 hC4 hSZ4 hg4 KLK hlk hfd x1 lbl z0 y0 z8 y8
          go_wp2_with fail
          refine CL.out.mono ?_
          rintro e w5 ⟨v5, rfl, hown5, hb5⟩
          obtain ⟨A5, n5, c5, rfl, hnc5, hcm5, hrow5⟩ := hown5.rd_new (w := w4) (Nat.le_refl _) (fun _ h => h.elim)
          have hn5 := hrow5.1
          have R5 := Lib.hid hrow5; have HB5 := Lib.hid hb5; have HN5 := Lib.hid hn5
          have LB5 := Lib.hid (LB4.out.below hb5 LB4.out.lt)
          have y7 := LB5.out.cell 7; have z7 := LB5.out.frozen 7; have ly := LB5.out.lt; have y8 := LB5.out.cell 9
          simp only [List.getElem?_toArray, List.getElem?_cons_succ, List.getElem?_cons_zero] at y7 y8
          clear hown5 hb5 hrow5 hn5 CL d7 ldh
          go_upto_if 53 with (fail)
          obtain ⟨w6, hw6⟩ : ∃ x, x = w5.setCell ⟨Lb, 7, none⟩ (.slice A5 n5 c5) := ⟨_, rfl⟩
          rw [← hw6]
          have LB6 : Hid (Blk w6 Lb 60 #[.string P, .int .i64 T.kind, .int .i64 T.mode, .int .i64 T.uid, .int .i64 T.gid, .int .i64 T.mtime.sec, .int .i64 T.mtime.nano, .slice A5 n5 c5, .string T.target, .string peer]) := Lib.hid (by rw [hw6]; exact (LB5.out.set_ 7 _).to rfl)
          have C6 : Hid (Cng (fun k => k = Lb) w4 w6) := Lib.hid (by rw [hw6]; exact Cng.set (M := fun k => k = Lb) (Cng.of_below HB5.out) (b := Lb) rfl _)
          have HW6 := Lib.hid hw6
          have hbL' : bf ≠ Lb := by have := HLB.out; have := MF2.out.lt; omega
          have MF6 : Hid (IsMapP kP cW w6 bf (firstA hs st.first)) := Lib.hid (MF4.out.of_block (C6.out.block bf MF4.out.lt hbL'))
          have BL6 : Hid (Blk w6 bl 152 #[v, .map (some bf), .int .i64 nb]) := Lib.hid ((C6.out.block bl BL4.out.lt hbL).trans BL4.out)
          have hil : i < hs.length := by rw [HT.out.len]; exact hi
          have hda : adr hs i = dh.a := adr_at HDH.out
          obtain ⟨ln, hln⟩ : ∃ x, x = lineT P T peer := ⟨_, rfl⟩
          obtain ⟨fs, hfs⟩ : ∃ x, x = (putT1 st i T P).first := ⟨_, rfl⟩
          have HLN := Lib.hid hln; have HFS := Lib.hid hfs
          clear hw6 y7 z7 ly y8 hln hfs
          go_cut [] (fun wx => ∃ (An : Option Addr) (nn cn : Nat), Blk wx Lb 60 #[.string P, .int .i64 T.kind, .int .i64 T.mode, .int .i64 T.uid, .int .i64 T.gid, .int .i64 T.mtime.sec, .int .i64 T.mtime.nano, .slice An nn cn, .string ln.target, .string peer] ∧ nn ≤ cn ∧ cn ≤ maxLen ∧ Row Shape.byte wx (New w4 wx) An nn ln.data ∧ IsMapP kP cW wx bf (firstA hs fs) ∧ Cng (fun k => k = Lb ∨ k = bf) w6 wx)
          case first =>
            -- SLOW
            have y7 := LB6.out.cell 7; have z7 := LB6.out.frozen 7; have ly := LB6.out.lt; have y8 := LB6.out.cell 8; have z8 := LB6.out.frozen 8
            simp only [List.getElem?_toArray, List.getElem?_cons_succ, List.getElem?_cons_zero] at y7 y8
            cases hz : peer.toList.isEmpty with
            | true =>
              have hp0 : peer.size = 0 := by rw [isEmpty_size] at hz; simpa using hz
              have hvar : ∀ d, d < hs.length → IsVar (adr hs d) w6 := fun d hd => by
                obtain ⟨cs, t, h2⟩ := HT4.out.var hd
                have hlt : adr hs d < w4.heap.size := (Array.getElem?_eq_some_iff.1 h2).1
                have hne : adr hs d ≠ Lb := by
                  obtain ⟨Bt, t4⟩ := HT4.out.base
                  have e1 : hs[d]? = some hs[d] := List.getElem?_eq_getElem hd
                  intro e
                  have := HT.out.lt (adr hs d) ⟨d, thD ths d, hs[d], thD_at (by rw [← HT.out.len]; exact hd), e1, .inl (adr_at e1)⟩
                  omega
                exact ⟨cs, t, (C6.out.block _ hlt hne).trans h2⟩
              have hva : IsVar dh.a w6 := by rw [← hda]; exact hvar i hil
              have hks : ∀ p ∈ firstA hs st.first, IsVar p.1 w6 := fun p hp => by obtain ⟨q, hq, rfl⟩ := List.mem_map.1 hp; exact hvar _ (HL.out.paths q hq).2
              have x1 := BL6.out.cell 1; have lbl := BL6.out.lt
              simp only [List.getElem?_toArray, List.getElem?_cons_succ, List.getElem?_cons_zero] at x1
              have HP0 := Lib.hid hp0; have HDA := Lib.hid hda; have HVA := Lib.hid hva; have HKS := Lib.hid hks
              clear hp0 hvar hda hva hks hz
              go_wp2_with (refine wpList_mapUpdate_kvP rfl (.tmp 59) (.tmp 60) (.tmp 62) _ rfl und_firstT (cv := cW) MF6.out dh.a HVA.out HKS.out P rfl rfl rfl (fun w7 hm7 ho7 => StopA.mk ?_))
              unfold StopA
              have HM7 := Lib.hid hm7; have HO7 := Lib.hid ho7
              clear hm7 ho7
              go_wp2_with fail
              go_meet
              case rel =>
                have e1 : ln.target = T.target ∧ ln.data = T.data := by rw [HLN.out]; unfold lineT; rw [if_pos HP0.out]; exact ⟨rfl, rfl⟩
                have e2 : fs = putKv st.first i P := by rw [HFS.out]; unfold putT1; rw [← HPE.out]; exact if_pos HP0.out
                refine ⟨A5, n5, c5, by rw [e1.1]; exact (HO7.out.block Lb (fun e => hbL' e.symm)).trans LB6.out, hnc5, hcm5, ?_, ?_, ⟨HO7.out.os, HO7.out.tape, HO7.out.output, Nat.le_of_eq HO7.out.size.symm, fun n _ hn => HO7.out.block n (fun e => hn (.inr e))⟩⟩
                · rw [e1.2]
                  have hs7 := HO7.out.size
                  have hs6 : w6.heap.size = w5.heap.size := by rw [HW6.out]; simp
                  refine (R5.out.keep fun k hk => ?_).more fun k hk => ⟨hk.1, by have := hk.2; omega⟩
                  have h1 := hk.1; have h2 := hk.2
                  have hkL : k ≠ Lb := by have := SZ4.out; omega
                  have hkf : k ≠ bf := by have := MF4.out.lt; omega
                  refine (HO7.out.block k hkf).trans ?_
                  rw [HW6.out]
                  exact Below.heap_setCell _ _ _ k hkL
                · have h := HM7.out
                  rw [← HDA.out, firstA_put (fun p hp => (HL.out.paths p hp).2) HT.out.inj hil] at h
                  rw [e2]; exact h
            | false =>
              have hp0 : ¬ peer.size = 0 := by rw [isEmpty_size] at hz; simpa using hz
              have HP0 := Lib.hid hp0
              clear hp0 hda hz
              go_wp2_with fail
              go_meet
              case rel =>
                have e1 : ln.target = ⟨#[]⟩ ∧ ln.data = [] := by rw [HLN.out]; unfold lineT; rw [if_neg HP0.out]; exact ⟨rfl, rfl⟩
                have e2 : fs = st.first := by rw [HFS.out]; unfold putT1; rw [← HPE.out]; exact if_neg HP0.out
                refine ⟨none, 0, 0, by rw [e1.1]; exact ((LB6.out.set_ 7 _).set_ 8 _).to rfl, Nat.le_refl _, by simp [maxLen], by rw [e1.2]; exact Row.nil, by rw [e2]; exact (MF6.out.far hbL' _).far hbL' _, Cng.set (M := fun k => k = Lb ∨ k = bf) (Cng.set (Cng.refl _ _) (b := Lb) (.inl rfl) _) (b := Lb) (.inl rfl) _⟩
            -- END
          case rest =>
            obtain ⟨w7, hw7e⟩ : ∃ x, x = wc := ⟨_, rfl⟩
            subst hw7e
            obtain ⟨An, nn, cn, hLB7, hnn, hcn, hR7, hM7, hC7⟩ := hcut
            have hsz6 : w6.heap.size = w5.heap.size := by rw [HW6.out]; simp
            have hsz5 := HB5.out.size
            have LB7 := Lib.hid hLB7; have R7 := Lib.hid hR7; have MF7 := Lib.hid hM7
            have C47 : Hid (Cng (fun k => k = Lb ∨ k = bf) w4 w7) := Lib.hid ((C6.out.mono fun k hk => .inl hk).trans hC7)
            have hsz7 := C47.out.size
            have hB0w4 : B0 ≤ w4.heap.size := by have := SZ4.out; omega
            have B7 : Hid (Below B0 w w7) := Lib.hid (B4.out.trans (C47.out.below hB0w4 (fun k hk => by rcases hk with rfl | rfl <;> assumption)))
            have KS7 : Hid (KeepS w w7) := Lib.hid (KS4.out.trans fun k cs fr e => by
              refine (C47.out.block k (Array.getElem?_eq_some_iff.1 e).1 ?_).trans e
              rintro (hk | hk)
              · rw [hk] at e; exact not_str_of_blk LB4.out (by decide) cs fr e
              · rw [hk] at e; exact not_str_of_map MF4.out cs fr e)
            have BL7 : Hid (Blk w7 bl 152 #[v, .map (some bf), .int .i64 nb]) := Lib.hid ((C47.out.block bl BL4.out.lt (fun h => h.elim hbL hlf)).trans BL4.out)
            have OB : Hid (∀ k, v.ownBlock = some k → k < Lb) := Lib.hid fun k hk => by have := (OWN2.out.lt k hk).2; have := HLB.out; omega
            have OWN7 : Hid (Own Shape.LineD 60 w7 B M v st.out) := Lib.hid (OWN4.out.cng C47.out fun k hk => ⟨fun e => by
              have h1 := OB.out k e.symm; have h2 := (OWN2.out.lt k e.symm).1
              rcases hk with hk | hk <;> omega, fun hm => by
              have h1 := HM.out k hm
              rcases hk with hk | hk
              · obtain ⟨_, _, _, h3⟩ := OWN2.out; have := (h3 k hm).1; have := HLB.out; omega
              · omega⟩)
            obtain ⟨Av, nv, cv, rfl, hncv, hcmv, hrv⟩ := OWN7.out.rd
            have hln5 : ln.path = P ∧ ln.kind = T.kind ∧ ln.mode = T.mode ∧ ln.uid = T.uid ∧ ln.gid = T.gid ∧ ln.mtime = T.mtime ∧ ln.peer = peer ∧ ln.target.size ≤ T.target.size := by
              rw [HLN.out]; unfold lineT
              split
              · exact ⟨rfl, rfl, rfl, rfl, rfl, rfl, rfl, Nat.le_refl _⟩
              · exact ⟨rfl, rfl, rfl, rfl, rfl, rfl, rfl, Nat.zero_le _⟩
            obtain ⟨p1, p2, p3, p4, p5, p6, p7, p8⟩ := hln5
            have HKD : Hid (T.kind = 1 ∨ T.kind = 2 ∨ T.kind = 3) := Lib.hid (by obtain ⟨Bt, t4⟩ := HT4.out.base; have := (t4.ok i _ (thD_at hi)).1; rwa [← HTE.out] at this)
            have HPS2 : Hid (peer.size ≤ 4194304) := Lib.hid (by rw [HPE.out]; exact peerT_size HL.out i)
            have RD : Hid (LineD.rd w7 (New w4 w7) [.string P, .int .i64 T.kind, .int .i64 T.mode, .int .i64 T.uid, .int .i64 T.gid, .int .i64 T.mtime.sec, .int .i64 T.mtime.nano, .slice An nn cn, .string ln.target, .string peer] ln) := Lib.hid (by
              have ok := OKT.out
              have i64k : I64 T.kind := by rcases HKD.out with h | h | h <;> rw [h] <;> exact ⟨by decide, by decide⟩
              refine ⟨An, nn, cn, by rw [p1, p2, p3, p4, p5, p6, p7], ?_, by rw [p2]; exact i64k, by rw [p3]; exact ok.mode, by rw [p4]; exact ok.uid, by rw [p5]; exact ok.gid, by rw [p6]; exact ok.sec, by rw [p6]; exact ok.nano, hnn, hcn, R7.out, ?_, ?_⟩
              · rw [p1]; simp only [maxLen]; omega
              · refine Nat.le_trans p8 ?_; have := ok.target; simp only [maxLen]; omega
              · rw [p7]; have := HPS2.out; simp only [maxLen]; omega)
            have EP : Hid (putT1 st i T P = ⟨st.out ++ [ln], fs, nb⟩) := Lib.hid (by
              have e1 : (putT1 st i T P).out = st.out ++ [ln] := by rw [HLN.out, HPE.out]; rfl
              have e2 : (putT1 st i T P).bytes = nb := by rw [HNB.out]; rfl
              rw [HFS.out, ← e1, ← e2])
            have EB : Hid (∀ q ∈ fs, q.2.size ≤ 4194304 ∧ q.1 < hs.length) := Lib.hid (by
              rw [HFS.out]
              intro q hq
              unfold putT1 at hq
              simp only at hq
              split at hq
              · unfold putKv at hq
                have hPs : P.size ≤ 4194304 := by have := HNB.out; have := NBL.out; omega
                split at hq
                · obtain ⟨x, hx, rfl⟩ := List.mem_map.1 hq
                  split
                  · exact ⟨hPs, hil⟩
                  · exact HL.out.paths x hx
                · rcases List.mem_append.1 hq with h | h
                  · exact HL.out.paths q h
                  · rw [List.mem_singleton.1 h]; exact ⟨hPs, hil⟩
              · exact HL.out.paths q hq)
            clear hLB7 hnn hcn hR7 hM7 hC7 hrv p1 p2 p3 p4 p5 p6 p7 p8
            go_upto_region 13 with (fail)
            go_cut [] (fun wx => Below B0 w wx ∧ KeepS w wx ∧ LtAt bl bf B hs (putT1 st i T P) wx)
            case first =>
              -- SLOW
              have y1 := BL7.out.cell 0; have lbd := BL7.out.lt; have lgd := LB7.out.lt
              have t0 := LB7.out.cell 0; have t1 := LB7.out.cell 1; have t2 := LB7.out.cell 2; have t3 := LB7.out.cell 3; have t4 := LB7.out.cell 4; have t5 := LB7.out.cell 5; have t6 := LB7.out.cell 6; have t7 := LB7.out.cell 7; have t8 := LB7.out.cell 8; have t9 := LB7.out.cell 9
              simp only [List.getElem?_toArray, List.getElem?_cons_succ, List.getElem?_cons_zero] at y1 t0 t1 t2 t3 t4 t5 t6 t7 t8 t9
              refine wp_region_grow_tt [(6, madeOne 60 #[.string P, .int .i64 T.kind, .int .i64 T.mode, .int .i64 T.uid, .int .i64 T.gid, .int .i64 T.mtime.sec, .int .i64 T.mtime.nano, .slice An nn cn, .string ln.target, .string peer] w7.heap.size)] 7 10 _ _ rfl rfl (by kernel_rfl) [6] rfl (by kernel_rfl) (stays_cons (madeOne_stays _ _ _) stays_nil) ?_
              simp only [List.take_succ_cons, List.take_zero, List.drop_succ_cons, List.drop_zero]
              repeat (first
                | (refine g_w rfl ?_ (fun W => ?_) ?_; rotate_left; (focus (go_simp; (try with_reducible rfl); done)); simp only [Act.put, List.setIfInBounds_toArray, List.set_cons_zero, List.set_cons_succ])
                | (refine g_d rfl (by kernel_rfl) ?_ (fun δ => ?_) ?_; rotate_left; (focus (go_simp; (try with_reducible rfl); done)); simp only [Act.put, List.setIfInBounds_toArray, List.set_cons_zero, List.set_cons_succ]))
              refine g_new rfl (fun δ hF => ⟨(over w7 δ).heap.size, (over w7 δ).alloc (.cells #[.string P, .int .i64 T.kind, .int .i64 T.mode, .int .i64 T.uid, .int .i64 T.gid, .int .i64 T.mtime.sec, .int .i64 T.mtime.nano, .slice An nn cn, .string ln.target, .string peer] 60), ?_, below_alloc' _ _, Blk.new _ _ _, size_over_le _ _⟩) (fun gN => ?_)
              · clear hF
                go_simp; rfl
              simp only [Act.put, List.setIfInBounds_toArray, List.set_cons_zero, List.set_cons_succ]
              refine g_end fun δ hF => ?_
              have h6 : (madeOne 60 #[.string P, .int .i64 T.kind, .int .i64 T.mode, .int .i64 T.uid, .int .i64 T.gid, .int .i64 T.mtime.sec, .int .i64 T.mtime.nano, .slice An nn cn, .string ln.target, .string peer] w7.heap.size).Fact gN (over w7 δ) := hF 6
              clear hF
              have RD2 : LineD.rd (over w7 δ) (New w4 w7) [.string P, .int .i64 T.kind, .int .i64 T.mode, .int .i64 T.uid, .int .i64 T.gid, .int .i64 T.mtime.sec, .int .i64 T.mtime.nano, .slice An nn cn, .string ln.target, .string peer] ln := Shape.LineD.keep RD.out fun k hk => over_heap_lt hk.2
              refine endTT_append (v := .slice Av nv cv) elem_LineD (.tmp 67) (.tmp 69) rfl rfl (OWN7.out.over_ δ) rfl (src_blkT (s := Shape.LineD) h6.1 RD2) (fun m hm => ⟨lt_over hm.2, fun e => by have := OB.out m e.symm; have := hm.1; have := SZ4.out; omega⟩) (by have := HL.out.len; simp; omega) (by have := HL.out.len; simp [maxLen]; omega) (by have := size_over_le w7 δ; have := SZ4.out; omega) (fun v' w8 hown8 hg8 hat8 => ?_)
              obtain ⟨A8, n8, c8, rfl, h81, h82, -⟩ := hown8.rd
              have O8 := Lib.hid hown8; have G8 := Lib.hid hg8
              have BL8 := Lib.hid ((BL7.out.over_ δ).grown hg8 (fun e => by have := (OWN2.out.lt bl e.symm).1; omega))
              have z1 := BL8.out.cell 0; have fz1 := BL8.out.frozen 0; have lz := BL8.out.lt
              simp only [List.getElem?_toArray, List.getElem?_cons_succ, List.getElem?_cons_zero] at z1
              have HWD : Hid (Below w7.heap.size w7 (over w7 δ)) := Lib.hid (below_over w7 δ)
              clear hown8 hg8 hat8 h6 RD2 y1 t0 t1 t2 t3 t4 t5 t6 t7 t8 t9
              simp only [Act.put, List.setIfInBounds_toArray, List.set_cons_zero, List.set_cons_succ]
              repeat (refine g_mid (by kernel_rfl) ?_ ?_ ?_; rotate_left; (focus (go_simp; (try with_reducible rfl); done)); simp only [Act.put, List.setIfInBounds_toArray, List.set_cons_zero, List.set_cons_succ])
              refine g_mid_end ?_
              refine endT_of undef (w8.setCell ⟨bl, 0, none⟩ (.slice A8 n8 c8)) (.inr ⟨?_, rfl⟩) ?_
              · go_simp
              simp only [Act.put, List.setIfInBounds_toArray, List.set_cons_zero, List.set_cons_succ]
              refine g_tail_end ?_
              go_wp2_with fail
              go_meet
              case rel =>
                rw [EP.out]
                exact lt_append HL.out hbl hlf B7.out hB0w MF7.out HWD.out KS7.out OWN7.out O8.out (fun n hn => hn.elim (HM.out n) (fun h => by have := h.1; have := SZ4.out; omega)) G8.out BL8.out (by have := HL.out.len; have := HNB.out; have := HPS.out.1; rw [← HP.out] at this; omega) EB.out
              -- END
            case rest =>
              obtain ⟨w9, hw9e⟩ : ∃ x, x = wc := ⟨_, rfl⟩
              subst hw9e
              obtain ⟨hB9, hK9, hL9⟩ := hcut
              have HB9 := Lib.hid hB9; have HK9 := Lib.hid hK9; have HL9 := Lib.hid hL9
              have HT9 := Lib.hid (HT.out.below hB9)
              obtain ⟨Bt9, ht9⟩ := HT9.out.base
              have BD9 := ht9.blk i _ dh (thD_at hi) HDH.out
              rw [← HTE.out] at BD9
              have d10 := BD9.cell 10; have ldh := BD9.lt
              unfold thCells at d10
              simp only [List.getElem?_toArray, List.getElem?_cons_succ, List.getElem?_cons_zero] at d10
              obtain ⟨mb, hmb⟩ : ∃ x, x = mapOf T dh := ⟨_, rfl⟩
              rw [← hmb] at d10
              have ok9 := ht9.ok i _ (thD_at hi)
              rw [← HTE.out] at ok9
              have MD9 : T.kind = 2 → IsMap kN cPt w9 dh.m (insA hs T.ins) := fun h2 => by
                have := ht9.map i _ dh (thD_at hi) HDH.out (by rw [← HTE.out]; exact h2)
                rwa [← HTE.out] at this
              have hm1 : ∀ m, mb = some m → IsMap kN cPt w9 m (insA hs T.ins) := fun m hm => by
                rw [hmb] at hm
                unfold mapOf at hm
                split at hm
                · next h2 => injection hm with hm; rw [← hm]; exact MD9 h2
                · cases hm
              have hm0 : mb = none → insA hs T.ins = [] := fun hm => by
                rw [hmb] at hm
                unfold mapOf at hm
                split at hm
                · cases hm
                · next h2 => rw [ok9.2.1 h2]; rfl
              have hok := OKT.out
              have SK := Lib.hid (sortedKeysO w9 hm1 hm0 (fun p hp => by
                unfold insA at hp
                obtain ⟨q, hq, rfl⟩ := List.mem_map.1 hp
                have := (hok.names q hq).2
                show q.1.size ≤ maxLen
                simp only [maxLen]; omega) (by unfold insA; rw [List.length_map]; exact hok.ins))
              rw [insA_names] at SK
              have HMB := Lib.hid hmb
              clear hB9 hK9 hL9 ht9 BD9 ok9 MD9 hm1 hm0 hok hmb
              go_wp2_with fail
              refine (mapsKeys mb w9).mono ?_
              rintro e w10 ⟨rfl, rfl⟩
              go_wp2_with fail
              refine SK.out.mono ?_
              rintro e w10 ⟨v10, rfl, hown10, hb10⟩
              have hNL : (sortLs (T.ins.map (·.1.data.toList))).map (fun x => (⟨x.toArray⟩ : ByteArray)) = namesT T := rfl
              rw [hNL] at hown10
              obtain ⟨NL, hNLe⟩ : ∃ x, x = namesT T := ⟨_, rfl⟩
              rw [← hNLe] at hown10
              rw [← hNLe] at HEND
              have HNL := Lib.hid hNLe
              have SVN : Hid (SV w10 v10 NL) := Lib.hid ⟨_, hown10⟩
              obtain ⟨A10, n10, c10, rfl, hnc10, hcm10, hrow10⟩ := hown10.rd_old
              have HN10 : Hid (n10 = NL.length) := Lib.hid hrow10.1.symm
              have hn10 : n10 < 9223372036854775807 := by have : maxLen = 9223372036854775807 := rfl; have h1 := hrow10.1; have : n10 ≤ 1000000000 := by
                                                                       rw [← h1, hNLe]
                                                                       have h2 := OKT.out.ins
                                                                       unfold namesT sortL
                                                                       rw [List.length_map, List.length_mergeSort, List.length_map]; exact h2
                                                          omega
              have HB10 := Lib.hid hb10
              clear hown10 hrow10 hNLe hNL SK d10 ldh
              go_wp2_with fail
              have L10 := Lib.hid (HL9.out.below HB10.out)
              have B10 := Lib.hid (HB9.out.trans (HB10.out.mono (by have := HB9.out.size; omega)))
              have K10 := Lib.hid (HK9.out.trans (KeepS.of_below HB10.out))
              have hst0 : nb ≤ (putT1 st i T P).bytes ∧ (putT1 st i T P).bytes ≤ 4194304 := by
                have e : (putT1 st i T P).bytes = st.bytes + P.size := rfl
                rw [e, ← HNB.out]; exact ⟨Nat.le_refl _, NBL.out⟩
              obtain ⟨st0, hst0e⟩ : ∃ x, x = putT1 st i T P := ⟨_, rfl⟩
              rw [← hst0e] at HEND L10 hst0
              clear hst0e
              go_loopw [80] (fun v80 wr => ∃ (q : Nat) (stq : TSt), q ≤ n10 ∧ v80 = .int .i64 q ∧ R = addNs T (addT ths fuel) ps (NL.drop q) stq ∧ LtAt bl bf B hs stq wr ∧ Below B0 w wr ∧ KeepS w wr ∧ KeepS w10 wr ∧ w10.heap.size ≤ wr.heap.size ∧ nb ≤ stq.bytes ∧ stq.bytes ≤ 4194304) (fun v80 _ => n10 - (intOf v80).toNat)
              case atStart => exact ⟨0, st0, Nat.zero_le _, rfl, HEND.out, L10.out, B10.out, K10.out, KeepS.refl _, Nat.le_refl _, hst0.1, hst0.2⟩
              case round =>
                obtain ⟨q, stq, hq, rfl, hRq, hlq, hbq, hkq, hkn, hszq, hnq, hmq⟩ := hrel
                have HRq := Lib.hid hRq; have HLq := Lib.hid hlq; have HBq := Lib.hid hbq; have HKq := Lib.hid hkq; have HKn := Lib.hid hkn
                clear hRq hlq hbq hkq hkn
                by_cases hlt : q < n10
                · have hqs : (q : Int) < n10 := by omega
                  obtain ⟨bsN, oN⟩ := SVN.out.keep HKn.out hszq
                  obtain ⟨A10', n10', c10', e10, _, _, hrowN⟩ := oN.rd_old
                  injection e10 with e10a e10b e10c
                  subst e10a e10b e10c
                  obtain ⟨bN, offN, nm, hAN, hMN, hcN, hdN⟩ := text_at hrowN hlt
                  subst hAN
                  have hnmem : nm ∈ namesT T := by
                    rw [← HNL.out]
                    exact List.mem_of_mem_drop (by rw [hdN]; exact List.mem_cons_self ..)
                  obtain ⟨j, hj⟩ := names_get hnmem
                  have hjm := kvMem hj
                  have hnsz := OKT.out.names _ hjm
                  have HTq := Lib.hid (HT.out.below HBq.out)
                  obtain ⟨Btq, htq⟩ := HTq.out.base
                  have okq := htq.ok i _ (thD_at hi)
                  rw [← HTE.out] at okq
                  have hjl : j < ths.length := okq.2.2 _ hjm
                  have hk2 : T.kind = 2 := by
                    by_cases h2 : T.kind = 2
                    · exact h2
                    · rw [okq.2.1 h2] at hjm; cases hjm
                  have MDq := htq.map i _ dh (thD_at hi) HDH.out (by rw [← HTE.out]; exact hk2)
                  rw [← HTE.out] at MDq
                  have BDq := htq.blk i _ dh (thD_at hi) HDH.out
                  rw [← HTE.out] at BDq
                  have hmo : mapOf T dh = some dh.m := if_pos hk2
                  rw [hmo] at BDq
                  have d10 := BDq.cell 10; have ldh := BDq.lt
                  unfold thCells at d10
                  simp only [List.getElem?_toArray, List.getElem?_cons_succ, List.getElem?_cons_zero] at d10
                  have HMDq := Lib.hid MDq; have HDN := Lib.hid hdN; have HJ := Lib.hid hj; have HNS := Lib.hid hnsz
                  have lbN : bN < wr.heap.size := hMN
                  obtain ⟨bsP, oP⟩ := HSV.out.keep HKq.out (by have := HB10.out.size; have := HB9.out.size; omega)
                  obtain ⟨Ap', np', cp', ep, _, _, hrowP⟩ := oP.rd_old
                  injection ep with epa epb epc
                  subst epa epb epc
                  have HROWP := Lib.hid hrowP
                  clear oN hrowN hnmem hj hjm hnsz okq hk2 MDq BDq hmo hdN hMN htq oP hrowP
                  go_wp2_with fail
                  have hzp : ∀ w, (zeroValue 143).run Tryz.prog w = .ok (.pointer none) w := fun w => Tryz.zeroValue143 w
                  have LK : ∀ δ, (Instr.lookup 201 (.map (some dh.m)) (.string nm) false).run Tryz.prog (over wr δ) = .ok (.pointer (some ⟨adr hs j, 0, none⟩)) (over wr δ) := fun δ => by
                    have := run_lookup_kv0 und_in (HMDq.out.over_ δ) nm (hzp (over wr δ))
                    rw [insA_get, HJ.out] at this
                    exact this
                  have hpl : ps.length ≤ 100000000 := by
                    have : ∀ l : List (List UInt8), l.length ≤ totL l := by
                      intro l
                      induction l with
                      | nil => simp
                      | cons p l ih => simp only [totL, List.length_cons]; omega
                    have := this (ps.map (·.data.toList))
                    rw [List.length_map] at this
                    omega
                  refine wp_region_grow_uu [(8, madeStrs ps wr.heap.size), (10, madeOne 9 #[.string nm] wr.heap.size)] 11 12 _ _ rfl rfl (by kernel_rfl) [8, 10] rfl (by kernel_rfl) (stays_cons (strs_stays _ _) (stays_cons (madeOne_stays _ _ _) stays_nil)) ?_
                  simp only [List.take_succ_cons, List.take_zero, List.drop_succ_cons, List.drop_zero]
                  repeat (first
                    | (refine g_w rfl ?_ (fun W => ?_) ?_; rotate_left; (focus (go_simp; (try with_reducible rfl); done)); simp only [Act.put, List.setIfInBounds_toArray, List.set_cons_zero, List.set_cons_succ])
                    | (refine g_d rfl (by kernel_rfl) ?_ (fun δ => ?_) ?_; rotate_left; (focus (go_simp; (try with_reducible rfl); done)); simp only [Act.put, List.setIfInBounds_toArray, List.set_cons_zero, List.set_cons_succ]))
                  refine g_call rfl ?_ ?_ (fun W => ?_) ?_ ?_
                  rotate_left 2
                  · go_simp; (constructor <;> with_reducible rfl)
                  · intro δ hF
                    clear hF
                    refine (cloneOwn (over wr δ) ((HROWP.out.below (below_over wr δ))) (by have := HN.out; omega)).mono ?_
                    rintro e W' ⟨v', rfl, ho', hb'⟩
                    exact ⟨v', rfl, hb', (over wr δ).heap.size, size_over_le _ _, hb'.size, ho'⟩
                  intro cl
                  simp only [enc_strs]
                  simp only [Act.put, List.setIfInBounds_toArray, List.set_cons_zero, List.set_cons_succ]
                  repeat (first
                    | (refine g_w rfl ?_ (fun W => ?_) ?_; rotate_left; (focus (go_simp; (try with_reducible rfl); done)); simp only [Act.put, List.setIfInBounds_toArray, List.set_cons_zero, List.set_cons_succ])
                    | (refine g_d rfl (by kernel_rfl) ?_ (fun δ => ?_) ?_; rotate_left; (focus (go_simp; (try with_reducible rfl); done)); simp only [Act.put, List.setIfInBounds_toArray, List.set_cons_zero, List.set_cons_succ]))
                  refine g_new rfl (fun δ hF => ⟨(over wr δ).heap.size, (over wr δ).alloc (.cells #[.string nm] 9), ?_, below_alloc' _ _, Blk.new _ _ _, size_over_le _ _⟩) (fun gN => ?_)
                  · clear hF
                    go_simp; rfl
                  simp only [Act.put, List.setIfInBounds_toArray, List.set_cons_zero, List.set_cons_succ]
                  refine g_end fun δ hF => ?_
                  have h8 : (madeStrs ps wr.heap.size).Fact cl (over wr δ) := hF 8
                  have h10 : (madeOne 9 #[.string nm] wr.heap.size).Fact gN (over wr δ) := hF 10
                  clear hF
                  obtain ⟨bsC, hbC1, hbC2, oC⟩ := h8
                  have srcN := (src_blkT (s := Shape.str) (M := fun _ => False) h10.1 (a := nm) ⟨rfl, by have := HNS.out.2; simp only [maxLen]; omega⟩)
                  refine endTU_append (v := cl) elem_strS (.tmp 92) (.tmp 94) rfl rfl oC rfl srcN (fun _ h => h.elim) (by simp; omega) (by simp [maxLen]; omega) hbC2 (fun v' w11 hown11 hg11 hat11 => ?_)
                  have HB11 : Hid (Below wr.heap.size wr w11) := Lib.hid (((below_over wr δ).grown hg11 (size_over_le _ _) (fun k hk => by have := (oC.lt k hk).1; omega)))
                  have SV11 : Hid (SV w11 v' (ps ++ [nm])) := Lib.hid ⟨bsC, by simpa using hown11⟩
                  clear hown11 hg11 hat11 h10 oC srcN LK
                  refine ⟨HB11.out, ?_⟩
                  simp only [Act.put, List.setIfInBounds_toArray, List.set_cons_zero, List.set_cons_succ]
                  repeat (refine g_mid (by kernel_rfl) ?_ ?_ ?_; rotate_left; (focus (go_simp; (try with_reducible rfl); done)); simp only [Act.put, List.setIfInBounds_toArray, List.set_cons_zero, List.set_cons_succ])
                  refine g_mid_end ?_
                  refine endT_call ?_ ?_ (fun W => ?_) ?_
                  rotate_left 2
                  · go_simp; (constructor <;> with_reducible rfl)
                  have hBr : B ≤ wr.heap.size := by have := HB10.out.size; have := HB9.out.size; omega
                  have htot2 : totL ((ps ++ [nm]).map (·.data.toList)) ≤ 100000000 := by
                    rw [List.map_append, tot_append]
                    have h1 := HPS.out.2
                    rw [← HP.out] at h1
                    have h2 := HNS.out.2
                    have h3 : totL ([nm].map (·.data.toList)) = nm.size + 1 := by
                      show nm.data.toList.length + 1 + 0 = _
                      rw [Array.length_toList]; rfl
                    have := NBL.out; have := HNB.out
                    omega
                  refine (IH.out stq j (ps ++ [nm]) v' w11 (HLq.out.below HB11.out) (HTq.out.below (HB11.out.mono (by have := HL.out.ltl; omega))) (Nat.le_trans hBr HB11.out.size) hjl SV11.out (fun p hp => by
                    rcases List.mem_append.1 hp with hp | hp
                    · exact hne p hp
                    · rw [List.mem_singleton.1 hp]; exact HNS.out.1) htot2 hmq (by have := HNB.out; have := HPS.out.1; rw [← HP.out] at this; omega)).mono ?_
                  rintro e w12 ⟨hb12, hk12, hl12, rfl⟩
                  have HB12 := Lib.hid (HBq.out.trans ((HB11.out.mono (by have := HL.out.ltl; omega)).trans hb12))
                  have HK12 := Lib.hid (HKq.out.trans ((KeepS.of_below HB11.out).trans hk12))
                  have HKN12 := Lib.hid (HKn.out.trans ((KeepS.of_below HB11.out).trans hk12))
                  have hsz12 : w10.heap.size ≤ w12.heap.size := by have := HB11.out.size; have := hb12.size; omega
                  have HL12 := Lib.hid hl12
                  refine ⟨_, rfl, ?_⟩
                  have BY := Lib.hid (addT_bytes (ths := ths) fuel stq j (ps ++ [nm]) hmq)
                  obtain ⟨r, hr⟩ : ∃ x, x = addT ths fuel stq j (ps ++ [nm]) := ⟨_, rfl⟩
                  rw [← hr] at HL12 BY ⊢
                  have HRR := Lib.hid hr
                  obtain ⟨ok, hok⟩ : ∃ x, x = r.2 := ⟨_, rfl⟩
                  rw [← hok] at BY ⊢
                  have HOK := Lib.hid hok
                  clear hr hok hb12 hk12 hl12 d10 ldh hcN lbN
                  simp only [Act.put, List.setIfInBounds_toArray, List.set_cons_zero, List.set_cons_succ]
                  repeat (refine g_tail ?_ ?_ ?_; rotate_left; (focus (go_simp; (try with_reducible rfl); done)); simp only [Act.put, List.setIfInBounds_toArray, List.set_cons_zero, List.set_cons_succ])
                  refine g_tail_end ?_
                  have STEP : Hid (R = if r.2 = true then addNs T (addT ths fuel) ps (NL.drop (q + 1)) r.1 else (r.1, false)) := Lib.hid (by
                    rw [HRq.out, HDN.out]
                    conv => lhs; unfold addNs
                    rw [HJ.out]
                    simp only
                    rw [← HRR.out])
                  cases ok with
                  | false =>
                    have HE3 : Hid (R = (r.1, false)) := Lib.hid (by rw [STEP.out, if_neg (by rw [← HOK.out]; decide)])
                    go_wp2_with fail
                    go_ret
                    rw [HE3.out]
                    exact ⟨HB12.out, HK12.out, HL12.out, rfl⟩
                  | true =>
                    have HE3 : Hid (R = addNs T (addT ths fuel) ps (NL.drop (q + 1)) r.1) := Lib.hid (by rw [STEP.out, if_pos HOK.out.symm])
                    go_wp2_with fail
                    go_roundw
                    case rel => exact ⟨q + 1, r.1, by omega, by go_num, HE3.out, HL12.out, HB12.out, HK12.out, HKN12.out, hsz12, Nat.le_trans hnq (BY.out rfl).1, (BY.out rfl).2⟩
                    case measure => simp [intOf]; omega
                · have hqs : ¬ (q : Int) < n10 := by omega
                  have hend : R = (stq, true) := by
                    rw [HRq.out, List.drop_eq_nil_of_le (by rw [← HN10.out]; omega)]; rfl
                  have HE2 := Lib.hid hend
                  clear hend
                  go_wp2_with fail
                  go_ret
                  rw [HE2.out]
                  exact ⟨HBq.out, HKq.out, HLq.out, rfl⟩
end Go.Proofs.YtfhfcipelgogjaaGreatDoor
