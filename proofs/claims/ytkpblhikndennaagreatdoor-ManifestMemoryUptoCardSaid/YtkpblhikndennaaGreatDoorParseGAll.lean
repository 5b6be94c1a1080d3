/- What manifest.parse answers, its data in a block of their own. No condition. manifest.parse at five words. No condition but room and what the library's variables hold. manifest.parse at seven words. No condition but room and what the library's variables hold. manifest.parse: what it answers at every text. No condition but room and what the library's variables hold. -/
import Derived.Test.YtkpblhikndennaaGreatDoorParseAll
import Derived.Test.YtkpblhikndennaaGreatDoorSlotAll
namespace Go.Proofs.YtkpblhikndennaaGreatDoor
open Go.RowKit
set_option linter.unusedVariables false
set_option linter.unusedSimpArgs false
/-- what a reader of a line answers; the data lie in a block of their own -/
def ParseEndG (o : Option LineD) (w w' : World) (e : Ending) : Prop :=
  match o with
  | some d => ∃ (cs : List Value) (s : Slot), e = .returned (.tuple #[.agg cs.toArray, .bool true]) ∧ Shape.LineG.rd w' (From w.heap.size w') cs (d, s)
  | none => ∃ cs : Array Value, e = .returned (.tuple #[.agg cs, .bool false]) ∧ cs.size = 10 ∧ cs.toList.all (·.oneCell') = true
theorem peG_none {w w' : World} {cs : Array Value} {o : Option LineD} (ho : o = none) (h1 : cs.size = 10) (h2 : cs.toList.all (·.oneCell') = true) : ParseEndG o w w' (.returned (.tuple #[.agg cs, .bool false])) := by
  subst ho; exact ⟨cs, rfl, h1, h2⟩
theorem peG_some {w w' : World} {cs : List Value} {o : Option LineD} {d : LineD} {s : Slot} (ho : o = some d) (h : Shape.LineG.rd w' (From w.heap.size w') cs (d, s)) : ParseEndG o w w' (.returned (.tuple #[.agg cs.toArray, .bool true])) := by
  subst ho; exact ⟨cs, s, rfl, h⟩
end Go.Proofs.YtkpblhikndennaaGreatDoor
namespace Go.Proofs.YtkpblhikndennaaGreatDoor
open Go.RowKit
set_option linter.unusedVariables false
set_option linter.unusedSimpArgs false
set_option maxHeartbeats 4000000 in
set_option maxRecDepth 100000 in
theorem parse5G (s : ByteArray) (w : World) (hs : s.size ≤ 16777216) (hm : MaxLenOk w) (hv : ErrRangeOk w) (hp : Pow10 w) {p u g t n : List UInt8} (hsp : splitW 32 s.data.toList = [p, u, g, t, n]) :
    Calls Tryz.prog 22 #[.string s] w fun e w' => ParseEndG (lineF restC s.data.toList) w w' e ∧ Below w.heap.size w w' := by
  have hl : lineF restC s.data.toList = (headF p u g t n).bind (checkF s.data.toList) := by unfold lineF; rw [hsp]
  obtain ⟨R, hR⟩ : ∃ R, R = lineF restC s.data.toList := ⟨_, rfl⟩
  rw [← hR]
  rw [hl] at hR
  have HR := Lib.hid hR
  have z : ∀ x' ∈ [p, u, g, t, n], x'.length ≤ s.size := fun x' hx => by
    have := splitW_small (b := 32) (l := s.data.toList) (w := x') (by rw [hsp]; exact hx)
    rwa [Array.length_toList] at this
  have zp := z p (by simp); have zu := z u (by simp); have zg := z g (by simp); have zt := z t (by simp); have zn := z n (by simp)
  have SC : Hid (∀ W, MaxLenOk W → Calls Tryz.prog 47 #[.string s, .string ⟨#[32]⟩] W fun e w' => e = .returned (.slice (some ⟨W.heap.size, 0, none⟩) 5 5) ∧
      w' = W.alloc (.cells #[.string ⟨p.toArray⟩, .string ⟨u.toArray⟩, .string ⟨g.toArray⟩, .string ⟨t.toArray⟩, .string ⟨n.toArray⟩] 9)) := Lib.hid fun W hM => by
    obtain ⟨m, hM⟩ := hM
    have := splitCalls s W m (by omega) hM
    rw [hsp] at this
    exact this
  have HM := Lib.hid hm; have HV := Lib.hid hv; have HP := Lib.hid hp
  clear hR hl hsp z hm hv hp
  go_enter Tryz.func22, Tryz.ntmps22
  go_wp2_with fail
  refine (SC.out _ (HM.out.keep (by go_grown))).mono ?_
  rintro e w1 ⟨rfl, rfl⟩
  go_wp2_with fail
  go_loopw [33] (fun i wr => ∃ (ii : Nat) (C : Array Value), i = .int .i64 ii ∧ Stg p u g t n ii C ∧ Blk wr w.heap.size 46 #[.string ⟨#[]⟩, .int .i64 0, .int .i64 0, .int .i64 0, .int .i64 0, .int .i64 0, .int .i64 0, .slice none 0 0, .string ⟨#[]⟩, .string ⟨#[]⟩] ∧ Blk wr (w.heap.size + 1) 46 C ∧ Blk wr (w.heap.size + 1 + 1) 9 #[.string ⟨p.toArray⟩, .string ⟨u.toArray⟩, .string ⟨g.toArray⟩, .string ⟨t.toArray⟩, .string ⟨n.toArray⟩] ∧ Blk wr (w.heap.size + 1 + 1 + 1) 103 #[.func (.func 48) #[] #[], .func (.func 49) #[] #[], .func (.func 50) #[] #[], .func (.func 51) #[] #[], .func (.func 52) #[] #[]] ∧ Below w.heap.size w wr) (fun i _ => 5 - (intOf i).toNat)
  case atStart =>
    obtain ⟨b1, b2, b3, b4, b5, -⟩ := blks4 (Below.refl _ _)
    exact ⟨0, _, rfl, .inl ⟨rfl, rfl⟩, b1, b2, b3, b4, b5⟩
  case round =>
    obtain ⟨ii, C, rfl, hst, bz, bl, bw, bf, hbel⟩ := hrel
    have BZ := Lib.hid bz; have BL := Lib.hid bl; have BW := Lib.hid bw; have BF := Lib.hid bf; have HB := Lib.hid hbel
    clear bz bl bw bf hbel
    have HVr := Lib.hid (HV.out.keep HB.out); have HMr := Lib.hid (HM.out.keep HB.out); have HPr := Lib.hid (HP.out.keep HB.out)
    rcases hst with ⟨rfl, rfl⟩ | ⟨rfl, k, m, hP, rfl⟩ | ⟨rfl, k, m, hP, hU, rfl⟩ | ⟨rfl, k, m, hP, hU, rfl⟩ | ⟨rfl, k, m, hP, hU, rfl⟩ | ⟨rfl, k, m, path, hH, hN, hP, rfl⟩
    · have q1 := BW.out.cell 0
      have q2 := BF.out.cell 0
      simp only [List.getElem?_toArray, List.getElem?_cons_succ, List.getElem?_cons_zero] at q1 q2
      go_wp2_with fail
      refine (permsField ⟨p.toArray⟩ _ _ (by simp [ByteArray.size]; omega) BL.out).mono ?_
      rintro e w2 ⟨k, m, rfl, hb2, hg, hx⟩
      change (∀ x, permP p = some x → x = (k, m)) at hx
      rw [show (ByteArray.mk p.toArray).data.toList = p from rfl]
      have BZ2 := Lib.hid (BZ.out.grown hg (by simp)); have BW2 := Lib.hid (BW.out.grown hg (by simp <;> omega)); have BF2 := Lib.hid (BF.out.grown hg (by simp <;> omega)); have BL2 := Lib.hid hb2
      have HB2 := Lib.hid (HB.out.grown hg HB.out.size (fun k hk => by injection hk; omega))
      clear hg hb2
      cases hp : permP p with
      | none =>
        have HX := Lib.hid hp
        clear hx hp
        simp only [Option.isSome_none]
        go_wp2_with (first | ((with_reducible refine at_load (ty := 46) (x := .tmp 4) ?_ ?_); exact rfl; refine wpList_load_blk rfl 46 (.tmp 4) rfl _ rfl BL2.out whole_LineD ?_) | ((with_reducible refine at_store (ty := 46) (x := .tmp 2) (y := .tmp 45) ?_ ?_); exact rfl; refine wpList_store_blk rfl 46 (.tmp 2) (.tmp 45) rfl _ rfl BZ2.out rfl (by kernel_rfl) rfl rfl ?_; intro w3 b3 g3))
        refine ret_blk_tmp rfl rfl b3 whole_LineD rfl rfl ⟨peG_none ?_ rfl rfl, HB2.out.grown g3 HB2.out.size (fun k hk => by injection hk; omega)⟩
        rw [HR.out, head_no1 HX.out]; rfl
      | some y =>
        have hy := hx y hp
        subst hy
        have HX := Lib.hid hp
        clear hx hp
        simp only [Option.isSome_some]
        go_wp2_with fail
        go_roundw
        case rel => exact ⟨1, _, by go_num, .inr (.inl ⟨rfl, k, m, HX.out, rfl⟩), BZ2.out, BL2.out, BW2.out, BF2.out, HB2.out⟩
        case measure => simp [intOf]
    · have q1 := BW.out.cell 1
      have q2 := BF.out.cell 1
      simp only [List.getElem?_toArray, List.getElem?_cons_succ, List.getElem?_cons_zero] at q1 q2
      have HH := Lib.hid hP; clear hP
      go_wp2_with fail
      refine (uidField ⟨u.toArray⟩ _ _ (by simp [ByteArray.size]; omega) HVr.out BL.out).mono ?_
      rintro e w2 ⟨rfl, hb2, hg⟩
      rw [show (ByteArray.mk u.toArray).data.toList = u from rfl] at hb2 ⊢
      have BZ2 := Lib.hid (BZ.out.grown hg (by simp)); have BW2 := Lib.hid (BW.out.grown hg (by simp <;> omega)); have BF2 := Lib.hid (BF.out.grown hg (by simp <;> omega)); have BL2 := Lib.hid hb2
      have HB2 := Lib.hid (HB.out.grown hg HB.out.size (fun k hk => by injection hk; omega))
      clear hg hb2
      by_cases hx : decErr u = 0
      · have HX := Lib.hid hx
        rw [decide_eq_true hx]
        clear hx
        go_wp2_with fail
        go_roundw
        case rel => exact ⟨2, _, by go_num, .inr (.inr (.inl ⟨rfl, k, m, HH.out, HX.out, rfl⟩)), BZ2.out, BL2.out, BW2.out, BF2.out, HB2.out⟩
        case measure => simp [intOf]
      · have HX := Lib.hid hx
        rw [decide_eq_false hx]
        clear hx
        go_wp2_with (first | ((with_reducible refine at_load (ty := 46) (x := .tmp 4) ?_ ?_); exact rfl; refine wpList_load_blk rfl 46 (.tmp 4) rfl _ rfl BL2.out whole_LineD ?_) | ((with_reducible refine at_store (ty := 46) (x := .tmp 2) (y := .tmp 45) ?_ ?_); exact rfl; refine wpList_store_blk rfl 46 (.tmp 2) (.tmp 45) rfl _ rfl BZ2.out rfl (by kernel_rfl) rfl rfl ?_; intro w3 b3 g3))
        refine ret_blk_tmp rfl rfl b3 whole_LineD rfl rfl ⟨peG_none ?_ rfl rfl, HB2.out.grown g3 HB2.out.size (fun k hk => by injection hk; omega)⟩
        rw [HR.out, head_no3 (fun h => HX.out h.1)]; rfl
    · have q1 := BW.out.cell 2
      have q2 := BF.out.cell 2
      simp only [List.getElem?_toArray, List.getElem?_cons_succ, List.getElem?_cons_zero] at q1 q2
      have HH := Lib.hid hP; clear hP
      have HU := Lib.hid hU; clear hU
      go_wp2_with fail
      refine (gidField ⟨g.toArray⟩ _ _ (by simp [ByteArray.size]; omega) HVr.out BL.out).mono ?_
      rintro e w2 ⟨rfl, hb2, hg⟩
      rw [show (ByteArray.mk g.toArray).data.toList = g from rfl] at hb2 ⊢
      have BZ2 := Lib.hid (BZ.out.grown hg (by simp)); have BW2 := Lib.hid (BW.out.grown hg (by simp <;> omega)); have BF2 := Lib.hid (BF.out.grown hg (by simp <;> omega)); have BL2 := Lib.hid hb2
      have HB2 := Lib.hid (HB.out.grown hg HB.out.size (fun k hk => by injection hk; omega))
      clear hg hb2
      by_cases hx : decErr g = 0
      · have HX := Lib.hid hx
        rw [decide_eq_true hx]
        clear hx
        go_wp2_with fail
        go_roundw
        case rel => exact ⟨3, _, by go_num, .inr (.inr (.inr (.inl ⟨rfl, k, m, HH.out, ⟨HU.out, HX.out⟩, rfl⟩))), BZ2.out, BL2.out, BW2.out, BF2.out, HB2.out⟩
        case measure => simp [intOf]
      · have HX := Lib.hid hx
        rw [decide_eq_false hx]
        clear hx
        go_wp2_with (first | ((with_reducible refine at_load (ty := 46) (x := .tmp 4) ?_ ?_); exact rfl; refine wpList_load_blk rfl 46 (.tmp 4) rfl _ rfl BL2.out whole_LineD ?_) | ((with_reducible refine at_store (ty := 46) (x := .tmp 2) (y := .tmp 45) ?_ ?_); exact rfl; refine wpList_store_blk rfl 46 (.tmp 2) (.tmp 45) rfl _ rfl BZ2.out rfl (by kernel_rfl) rfl rfl ?_; intro w3 b3 g3))
        refine ret_blk_tmp rfl rfl b3 whole_LineD rfl rfl ⟨peG_none ?_ rfl rfl, HB2.out.grown g3 HB2.out.size (fun k hk => by injection hk; omega)⟩
        rw [HR.out, head_no3 (fun h => HX.out h.2.1)]; rfl
    · have q1 := BW.out.cell 3
      have q2 := BF.out.cell 3
      simp only [List.getElem?_toArray, List.getElem?_cons_succ, List.getElem?_cons_zero] at q1 q2
      have HH := Lib.hid hP; clear hP
      have HU := Lib.hid hU; clear hU
      go_wp2_with fail
      refine (timeField ⟨t.toArray⟩ _ _ (by simp [ByteArray.size]; omega) HMr.out HVr.out BL.out).mono ?_
      rintro e w2 ⟨rfl, hb2, hg⟩
      rw [show (ByteArray.mk t.toArray).data.toList = t from rfl] at hb2 ⊢
      have BZ2 := Lib.hid (BZ.out.grown hg (by simp)); have BW2 := Lib.hid (BW.out.grown hg (by simp <;> omega)); have BF2 := Lib.hid (BF.out.grown hg (by simp <;> omega)); have BL2 := Lib.hid hb2
      have HB2 := Lib.hid (HB.out.grown hg HB.out.size (fun k hk => by injection hk; omega))
      clear hg hb2
      by_cases hx : stErr t = 0
      · have HX := Lib.hid hx
        rw [decide_eq_true hx]
        clear hx
        go_wp2_with fail
        go_roundw
        case rel => exact ⟨4, _, by go_num, .inr (.inr (.inr (.inr (.inl ⟨rfl, k, m, HH.out, ⟨HU.out.1, HU.out.2, HX.out⟩, rfl⟩)))), BZ2.out, BL2.out, BW2.out, BF2.out, HB2.out⟩
        case measure => simp [intOf]
      · have HX := Lib.hid hx
        rw [decide_eq_false hx]
        clear hx
        go_wp2_with (first | ((with_reducible refine at_load (ty := 46) (x := .tmp 4) ?_ ?_); exact rfl; refine wpList_load_blk rfl 46 (.tmp 4) rfl _ rfl BL2.out whole_LineD ?_) | ((with_reducible refine at_store (ty := 46) (x := .tmp 2) (y := .tmp 45) ?_ ?_); exact rfl; refine wpList_store_blk rfl 46 (.tmp 2) (.tmp 45) rfl _ rfl BZ2.out rfl (by kernel_rfl) rfl rfl ?_; intro w3 b3 g3))
        refine ret_blk_tmp rfl rfl b3 whole_LineD rfl rfl ⟨peG_none ?_ rfl rfl, HB2.out.grown g3 HB2.out.size (fun k hk => by injection hk; omega)⟩
        rw [HR.out, head_no3 (fun h => HX.out h.2.2)]; rfl
    · have q1 := BW.out.cell 4
      have q2 := BF.out.cell 4
      simp only [List.getElem?_toArray, List.getElem?_cons_succ, List.getElem?_cons_zero] at q1 q2
      have HH := Lib.hid hP; clear hP
      have HU := Lib.hid hU; clear hU
      go_wp2_with fail
      refine (pathField ⟨n.toArray⟩ _ _ (by simp [ByteArray.size]; omega) BL.out).mono ?_
      rintro e w2 ⟨path, rfl, hb2, hg, hx⟩
      change (∀ x, unesc n = some x → x = path) at hx
      rw [show (ByteArray.mk n.toArray).data.toList = n from rfl]
      have BZ2 := Lib.hid (BZ.out.grown hg (by simp)); have BW2 := Lib.hid (BW.out.grown hg (by simp <;> omega)); have BF2 := Lib.hid (BF.out.grown hg (by simp <;> omega)); have BL2 := Lib.hid hb2
      have HB2 := Lib.hid (HB.out.grown hg HB.out.size (fun k hk => by injection hk; omega))
      clear hg hb2
      cases hp : unesc n with
      | none =>
        have HX := Lib.hid hp
        clear hx hp
        simp only [Option.isSome_none]
        go_wp2_with (first | ((with_reducible refine at_load (ty := 46) (x := .tmp 4) ?_ ?_); exact rfl; refine wpList_load_blk rfl 46 (.tmp 4) rfl _ rfl BL2.out whole_LineD ?_) | ((with_reducible refine at_store (ty := 46) (x := .tmp 2) (y := .tmp 45) ?_ ?_); exact rfl; refine wpList_store_blk rfl 46 (.tmp 2) (.tmp 45) rfl _ rfl BZ2.out rfl (by kernel_rfl) rfl rfl ?_; intro w3 b3 g3))
        refine ret_blk_tmp rfl rfl b3 whole_LineD rfl rfl ⟨peG_none ?_ rfl rfl, HB2.out.grown g3 HB2.out.size (fun k hk => by injection hk; omega)⟩
        rw [HR.out, head_no2 HX.out]; rfl
      | some y =>
        have hy := hx y hp
        subst hy
        have HX := Lib.hid hp
        clear hx hp
        simp only [Option.isSome_some]
        go_wp2_with fail
        go_roundw
        case rel => exact ⟨5, _, by go_num, .inr (.inr (.inr (.inr (.inr ⟨rfl, k, m, _, head_yes HH.out HX.out HU.out, HX.out, HH.out, rfl⟩)))), BZ2.out, BL2.out, BW2.out, BF2.out, HB2.out⟩
        case measure => simp [intOf]
    · have HH := Lib.hid hP; have HHd := Lib.hid hH; have HN := Lib.hid hN
      have zpa := unesc_len hN
      clear hP hH hN
      have hw4 : ∃ w4, w4 = wr := ⟨_, rfl⟩
      obtain ⟨w4, hw4⟩ := hw4
      rw [← hw4] at BZ BL BW BF HB HVr HMr HPr ⊢
      clear hw4
      go_wp2_with ((with_reducible refine at_load (ty := 46) (x := .tmp 4) ?_ ?_); exact rfl; refine wpList_load_blk rfl 46 (.tmp 4) rfl _ rfl BL.out whole_LineD ?_)
      obtain ⟨d, hd⟩ : ∃ d, d = (⟨⟨path.toArray⟩, k, m, decV u, decV g, ⟨stS t, stN t⟩, [], ⟨#[]⟩, ⟨#[]⟩⟩ : LineD) := ⟨_, rfl⟩
      have RD : LineD.rd w4 (Up w.heap.size w4) [.string ⟨path.toArray⟩, .int .i64 k, .int .i64 m, .int .i64 (decV u), .int .i64 (decV g), .int .i64 (stS t), .int .i64 (stN t), .slice none 0 0, .string ⟨#[]⟩, .string ⟨#[]⟩] d := by
        rw [hd]
        exact rd_line (by simp [ByteArray.size, maxLen]; omega) (perm_I64 HH.out).1 (perm_I64 HH.out).2 (dec_I64 u) (dec_I64 g) (st_I64 t).1 (st_I64 t).2 (Nat.le_refl _) (by simp [maxLen]) Row.nil (by simp [maxLen, ByteArray.size]) (by simp [maxLen, ByteArray.size])
      have RG : Shape.LineG.rd w4 (Up w.heap.size w4) _ (d, slot0) := lineG_nil RD rfl (by rw [hd])
      have SM : SmallD d := by
        rw [hd]
        refine ⟨?_, ?_, ?_, ?_⟩ <;> (simp [ByteArray.size]; try omega)
      have hR2 : R = checkF s.data.toList d := by rw [HR.out, HHd.out]; show checkF _ _ = _; rw [hd]
      have HRD := Lib.hid RG; have HSM := Lib.hid SM; have HR2 := Lib.hid hR2
      have HRO := Lib.hid (Shape.LineD.more (M' := Old w4) RD fun n hn => hn.2)
      clear RD RG SM hR2 hd HR
      by_cases hok : rOk d = true
      · have HOK := Lib.hid hok
        clear hok
        refine (show_ok d _ HRO.out HPr.out HSM.out HOK.out).mono ?_
        rintro e w5 ⟨rfl, hb5⟩
        have BL5 := Lib.hid (BL.out.below hb5 BL.out.lt); have BZ5 := Lib.hid (BZ.out.below hb5 BZ.out.lt); have HB5 := Lib.hid (HB.out.trans (hb5.mono HB.out.size))
        have HRD5 := Lib.hid (Shape.LineG.more (M' := Up w.heap.size w5) (Shape.LineG.keep HRD.out (w' := w5) (fun n hn => hb5.block n hn.2)) fun n hn => ⟨hn.1, Nat.lt_of_lt_of_le hn.2 hb5.size⟩)
        clear hb5
        unfold strV
        by_cases hte : lineBody d = s.data.toList
        · have kt := str_eq_data hte
          have HTE := Lib.hid hte
          clear hte
          go_wp2_with (first | ((with_reducible refine at_load (ty := 46) (x := .tmp 4) ?_ ?_); exact rfl; refine wpList_load_blk rfl 46 (.tmp 4) rfl _ rfl BL5.out whole_LineD ?_) | ((with_reducible refine at_store (ty := 46) (x := .tmp 2) (y := .tmp 85) ?_ ?_); exact rfl; refine wpList_store_blk rfl 46 (.tmp 2) (.tmp 85) rfl _ rfl BZ5.out rfl (by kernel_rfl) rfl rfl ?_; intro w6 b6 g6))
          refine ret_blk_tmp rfl rfl b6 whole_LineD rfl rfl ⟨peG_some (s := slot0) (HR2.out.trans (check_yes HOK.out HTE.out)) ?_, HB5.out.grown g6 HB5.out.size (fun k hk => by injection hk; omega)⟩
          exact Shape.LineG.more (Shape.LineG.keep HRD5.out (w' := w6) (Keeps.grown g6 fun n hn => ⟨hn.2, by have := hn.1; intro e; injection e; omega⟩)) fun n hn => ⟨by have := hn.1; omega, Nat.lt_of_lt_of_le hn.2 g6.size⟩
        · have kt := str_ne_data hte
          have HTE := Lib.hid hte
          clear hte
          go_wp2_with (first | ((with_reducible refine at_load (ty := 46) (x := .tmp 4) ?_ ?_); exact rfl; refine wpList_load_blk rfl 46 (.tmp 4) rfl _ rfl BL5.out whole_LineD ?_) | ((with_reducible refine at_store (ty := 46) (x := .tmp 2) (y := .tmp 85) ?_ ?_); exact rfl; refine wpList_store_blk rfl 46 (.tmp 2) (.tmp 85) rfl _ rfl BZ5.out rfl (by kernel_rfl) rfl rfl ?_; intro w6 b6 g6))
          exact ret_blk_tmp rfl rfl b6 whole_LineD rfl rfl ⟨peG_none (HR2.out.trans (check_no2 HTE.out)) rfl rfl, HB5.out.grown g6 HB5.out.size (fun k hk => by injection hk; omega)⟩
      · rw [Bool.not_eq_true] at hok
        have HOK := Lib.hid hok
        clear hok
        refine (show_bad d _ HRO.out HPr.out HOK.out).mono ?_
        rintro e w5 ⟨rfl, hb5⟩
        have BL5 := Lib.hid (BL.out.below hb5 BL.out.lt); have BZ5 := Lib.hid (BZ.out.below hb5 BZ.out.lt); have HB5 := Lib.hid (HB.out.trans (hb5.mono HB.out.size))
        clear hb5
        go_wp2_with (first | ((with_reducible refine at_load (ty := 46) (x := .tmp 4) ?_ ?_); exact rfl; refine wpList_load_blk rfl 46 (.tmp 4) rfl _ rfl BL5.out whole_LineD ?_) | ((with_reducible refine at_store (ty := 46) (x := .tmp 2) (y := .tmp 85) ?_ ?_); exact rfl; refine wpList_store_blk rfl 46 (.tmp 2) (.tmp 85) rfl _ rfl BZ5.out rfl (by kernel_rfl) rfl rfl ?_; intro w6 b6 g6))
        exact ret_blk_tmp rfl rfl b6 whole_LineD rfl rfl ⟨peG_none (HR2.out.trans (check_no1 HOK.out)) rfl rfl, HB5.out.grown g6 HB5.out.size (fun k hk => by injection hk; omega)⟩
end Go.Proofs.YtkpblhikndennaaGreatDoor
namespace Go.Proofs.YtkpblhikndennaaGreatDoor
open Go.RowKit
set_option linter.unusedVariables false
set_option linter.unusedSimpArgs false
set_option maxHeartbeats 4000000 in
set_option maxRecDepth 100000 in
theorem parse7G (s : ByteArray) (w : World) (hs : s.size ≤ 16777216) (hm : MaxLenOk w) (hv : ErrRangeOk w) (hp : Pow10 w) {p u g t n mk x : List UInt8} (hsp : splitW 32 s.data.toList = [p, u, g, t, n, mk, x]) :
    Calls Tryz.prog 22 #[.string s] w fun e w' => ParseEndG (lineF restC s.data.toList) w w' e ∧ Below w.heap.size w w' := by
  have hl : lineF restC s.data.toList = (headF p u g t n).bind fun d => (restC d mk x).bind (checkF s.data.toList) := by unfold lineF; rw [hsp]
  obtain ⟨R, hR⟩ : ∃ R, R = lineF restC s.data.toList := ⟨_, rfl⟩
  rw [← hR]
  rw [hl] at hR
  have HR := Lib.hid hR
  have z : ∀ x' ∈ [p, u, g, t, n, mk, x], x'.length ≤ s.size := fun x' hx => by
    have := splitW_small (b := 32) (l := s.data.toList) (w := x') (by rw [hsp]; exact hx)
    rwa [Array.length_toList] at this
  have zp := z p (by simp); have zu := z u (by simp); have zg := z g (by simp); have zt := z t (by simp); have zn := z n (by simp); have zmk := z mk (by simp); have zx := z x (by simp)
  have SC : Hid (∀ W, MaxLenOk W → Calls Tryz.prog 47 #[.string s, .string ⟨#[32]⟩] W fun e w' => e = .returned (.slice (some ⟨W.heap.size, 0, none⟩) 7 7) ∧
      w' = W.alloc (.cells #[.string ⟨p.toArray⟩, .string ⟨u.toArray⟩, .string ⟨g.toArray⟩, .string ⟨t.toArray⟩, .string ⟨n.toArray⟩, .string ⟨mk.toArray⟩, .string ⟨x.toArray⟩] 9)) := Lib.hid fun W hM => by
    obtain ⟨m, hM⟩ := hM
    have := splitCalls s W m (by omega) hM
    rw [hsp] at this
    exact this
  have HM := Lib.hid hm; have HV := Lib.hid hv; have HP := Lib.hid hp
  clear hR hl hsp z hm hv hp
  go_enter Tryz.func22, Tryz.ntmps22
  go_wp2_with fail
  refine (SC.out _ (HM.out.keep (by go_grown))).mono ?_
  rintro e w1 ⟨rfl, rfl⟩
  go_wp2_with fail
  go_loopw [33] (fun i wr => ∃ (ii : Nat) (C : Array Value), i = .int .i64 ii ∧ Stg p u g t n ii C ∧ Blk wr w.heap.size 46 #[.string ⟨#[]⟩, .int .i64 0, .int .i64 0, .int .i64 0, .int .i64 0, .int .i64 0, .int .i64 0, .slice none 0 0, .string ⟨#[]⟩, .string ⟨#[]⟩] ∧ Blk wr (w.heap.size + 1) 46 C ∧ Blk wr (w.heap.size + 1 + 1) 9 #[.string ⟨p.toArray⟩, .string ⟨u.toArray⟩, .string ⟨g.toArray⟩, .string ⟨t.toArray⟩, .string ⟨n.toArray⟩, .string ⟨mk.toArray⟩, .string ⟨x.toArray⟩] ∧ Blk wr (w.heap.size + 1 + 1 + 1) 103 #[.func (.func 48) #[] #[], .func (.func 49) #[] #[], .func (.func 50) #[] #[], .func (.func 51) #[] #[], .func (.func 52) #[] #[]] ∧ Below w.heap.size w wr) (fun i _ => 5 - (intOf i).toNat)
  case atStart =>
    obtain ⟨b1, b2, b3, b4, b5, -⟩ := blks4 (Below.refl _ _)
    exact ⟨0, _, rfl, .inl ⟨rfl, rfl⟩, b1, b2, b3, b4, b5⟩
  case round =>
    obtain ⟨ii, C, rfl, hst, bz, bl, bw, bf, hbel⟩ := hrel
    have BZ := Lib.hid bz; have BL := Lib.hid bl; have BW := Lib.hid bw; have BF := Lib.hid bf; have HB := Lib.hid hbel
    clear bz bl bw bf hbel
    have HVr := Lib.hid (HV.out.keep HB.out); have HMr := Lib.hid (HM.out.keep HB.out); have HPr := Lib.hid (HP.out.keep HB.out)
    rcases hst with ⟨rfl, rfl⟩ | ⟨rfl, k, m, hP, rfl⟩ | ⟨rfl, k, m, hP, hU, rfl⟩ | ⟨rfl, k, m, hP, hU, rfl⟩ | ⟨rfl, k, m, hP, hU, rfl⟩ | ⟨rfl, k, m, path, hH, hN, hP, rfl⟩
    · have q1 := BW.out.cell 0
      have q2 := BF.out.cell 0
      simp only [List.getElem?_toArray, List.getElem?_cons_succ, List.getElem?_cons_zero] at q1 q2
      go_wp2_with fail
      refine (permsField ⟨p.toArray⟩ _ _ (by simp [ByteArray.size]; omega) BL.out).mono ?_
      rintro e w2 ⟨k, m, rfl, hb2, hg, hx⟩
      change (∀ x, permP p = some x → x = (k, m)) at hx
      rw [show (ByteArray.mk p.toArray).data.toList = p from rfl]
      have BZ2 := Lib.hid (BZ.out.grown hg (by simp)); have BW2 := Lib.hid (BW.out.grown hg (by simp <;> omega)); have BF2 := Lib.hid (BF.out.grown hg (by simp <;> omega)); have BL2 := Lib.hid hb2
      have HB2 := Lib.hid (HB.out.grown hg HB.out.size (fun k hk => by injection hk; omega))
      clear hg hb2
      cases hp : permP p with
      | none =>
        have HX := Lib.hid hp
        clear hx hp
        simp only [Option.isSome_none]
        go_wp2_with (first | ((with_reducible refine at_load (ty := 46) (x := .tmp 4) ?_ ?_); exact rfl; refine wpList_load_blk rfl 46 (.tmp 4) rfl _ rfl BL2.out whole_LineD ?_) | ((with_reducible refine at_store (ty := 46) (x := .tmp 2) (y := .tmp 45) ?_ ?_); exact rfl; refine wpList_store_blk rfl 46 (.tmp 2) (.tmp 45) rfl _ rfl BZ2.out rfl (by kernel_rfl) rfl rfl ?_; intro w3 b3 g3))
        refine ret_blk_tmp rfl rfl b3 whole_LineD rfl rfl ⟨peG_none ?_ rfl rfl, HB2.out.grown g3 HB2.out.size (fun k hk => by injection hk; omega)⟩
        rw [HR.out, head_no1 HX.out]; rfl
      | some y =>
        have hy := hx y hp
        subst hy
        have HX := Lib.hid hp
        clear hx hp
        simp only [Option.isSome_some]
        go_wp2_with fail
        go_roundw
        case rel => exact ⟨1, _, by go_num, .inr (.inl ⟨rfl, k, m, HX.out, rfl⟩), BZ2.out, BL2.out, BW2.out, BF2.out, HB2.out⟩
        case measure => simp [intOf]
    · have q1 := BW.out.cell 1
      have q2 := BF.out.cell 1
      simp only [List.getElem?_toArray, List.getElem?_cons_succ, List.getElem?_cons_zero] at q1 q2
      have HH := Lib.hid hP; clear hP
      go_wp2_with fail
      refine (uidField ⟨u.toArray⟩ _ _ (by simp [ByteArray.size]; omega) HVr.out BL.out).mono ?_
      rintro e w2 ⟨rfl, hb2, hg⟩
      rw [show (ByteArray.mk u.toArray).data.toList = u from rfl] at hb2 ⊢
      have BZ2 := Lib.hid (BZ.out.grown hg (by simp)); have BW2 := Lib.hid (BW.out.grown hg (by simp <;> omega)); have BF2 := Lib.hid (BF.out.grown hg (by simp <;> omega)); have BL2 := Lib.hid hb2
      have HB2 := Lib.hid (HB.out.grown hg HB.out.size (fun k hk => by injection hk; omega))
      clear hg hb2
      by_cases hx : decErr u = 0
      · have HX := Lib.hid hx
        rw [decide_eq_true hx]
        clear hx
        go_wp2_with fail
        go_roundw
        case rel => exact ⟨2, _, by go_num, .inr (.inr (.inl ⟨rfl, k, m, HH.out, HX.out, rfl⟩)), BZ2.out, BL2.out, BW2.out, BF2.out, HB2.out⟩
        case measure => simp [intOf]
      · have HX := Lib.hid hx
        rw [decide_eq_false hx]
        clear hx
        go_wp2_with (first | ((with_reducible refine at_load (ty := 46) (x := .tmp 4) ?_ ?_); exact rfl; refine wpList_load_blk rfl 46 (.tmp 4) rfl _ rfl BL2.out whole_LineD ?_) | ((with_reducible refine at_store (ty := 46) (x := .tmp 2) (y := .tmp 45) ?_ ?_); exact rfl; refine wpList_store_blk rfl 46 (.tmp 2) (.tmp 45) rfl _ rfl BZ2.out rfl (by kernel_rfl) rfl rfl ?_; intro w3 b3 g3))
        refine ret_blk_tmp rfl rfl b3 whole_LineD rfl rfl ⟨peG_none ?_ rfl rfl, HB2.out.grown g3 HB2.out.size (fun k hk => by injection hk; omega)⟩
        rw [HR.out, head_no3 (fun h => HX.out h.1)]; rfl
    · have q1 := BW.out.cell 2
      have q2 := BF.out.cell 2
      simp only [List.getElem?_toArray, List.getElem?_cons_succ, List.getElem?_cons_zero] at q1 q2
      have HH := Lib.hid hP; clear hP
      have HU := Lib.hid hU; clear hU
      go_wp2_with fail
      refine (gidField ⟨g.toArray⟩ _ _ (by simp [ByteArray.size]; omega) HVr.out BL.out).mono ?_
      rintro e w2 ⟨rfl, hb2, hg⟩
      rw [show (ByteArray.mk g.toArray).data.toList = g from rfl] at hb2 ⊢
      have BZ2 := Lib.hid (BZ.out.grown hg (by simp)); have BW2 := Lib.hid (BW.out.grown hg (by simp <;> omega)); have BF2 := Lib.hid (BF.out.grown hg (by simp <;> omega)); have BL2 := Lib.hid hb2
      have HB2 := Lib.hid (HB.out.grown hg HB.out.size (fun k hk => by injection hk; omega))
      clear hg hb2
      by_cases hx : decErr g = 0
      · have HX := Lib.hid hx
        rw [decide_eq_true hx]
        clear hx
        go_wp2_with fail
        go_roundw
        case rel => exact ⟨3, _, by go_num, .inr (.inr (.inr (.inl ⟨rfl, k, m, HH.out, ⟨HU.out, HX.out⟩, rfl⟩))), BZ2.out, BL2.out, BW2.out, BF2.out, HB2.out⟩
        case measure => simp [intOf]
      · have HX := Lib.hid hx
        rw [decide_eq_false hx]
        clear hx
        go_wp2_with (first | ((with_reducible refine at_load (ty := 46) (x := .tmp 4) ?_ ?_); exact rfl; refine wpList_load_blk rfl 46 (.tmp 4) rfl _ rfl BL2.out whole_LineD ?_) | ((with_reducible refine at_store (ty := 46) (x := .tmp 2) (y := .tmp 45) ?_ ?_); exact rfl; refine wpList_store_blk rfl 46 (.tmp 2) (.tmp 45) rfl _ rfl BZ2.out rfl (by kernel_rfl) rfl rfl ?_; intro w3 b3 g3))
        refine ret_blk_tmp rfl rfl b3 whole_LineD rfl rfl ⟨peG_none ?_ rfl rfl, HB2.out.grown g3 HB2.out.size (fun k hk => by injection hk; omega)⟩
        rw [HR.out, head_no3 (fun h => HX.out h.2.1)]; rfl
    · have q1 := BW.out.cell 3
      have q2 := BF.out.cell 3
      simp only [List.getElem?_toArray, List.getElem?_cons_succ, List.getElem?_cons_zero] at q1 q2
      have HH := Lib.hid hP; clear hP
      have HU := Lib.hid hU; clear hU
      go_wp2_with fail
      refine (timeField ⟨t.toArray⟩ _ _ (by simp [ByteArray.size]; omega) HMr.out HVr.out BL.out).mono ?_
      rintro e w2 ⟨rfl, hb2, hg⟩
      rw [show (ByteArray.mk t.toArray).data.toList = t from rfl] at hb2 ⊢
      have BZ2 := Lib.hid (BZ.out.grown hg (by simp)); have BW2 := Lib.hid (BW.out.grown hg (by simp <;> omega)); have BF2 := Lib.hid (BF.out.grown hg (by simp <;> omega)); have BL2 := Lib.hid hb2
      have HB2 := Lib.hid (HB.out.grown hg HB.out.size (fun k hk => by injection hk; omega))
      clear hg hb2
      by_cases hx : stErr t = 0
      · have HX := Lib.hid hx
        rw [decide_eq_true hx]
        clear hx
        go_wp2_with fail
        go_roundw
        case rel => exact ⟨4, _, by go_num, .inr (.inr (.inr (.inr (.inl ⟨rfl, k, m, HH.out, ⟨HU.out.1, HU.out.2, HX.out⟩, rfl⟩)))), BZ2.out, BL2.out, BW2.out, BF2.out, HB2.out⟩
        case measure => simp [intOf]
      · have HX := Lib.hid hx
        rw [decide_eq_false hx]
        clear hx
        go_wp2_with (first | ((with_reducible refine at_load (ty := 46) (x := .tmp 4) ?_ ?_); exact rfl; refine wpList_load_blk rfl 46 (.tmp 4) rfl _ rfl BL2.out whole_LineD ?_) | ((with_reducible refine at_store (ty := 46) (x := .tmp 2) (y := .tmp 45) ?_ ?_); exact rfl; refine wpList_store_blk rfl 46 (.tmp 2) (.tmp 45) rfl _ rfl BZ2.out rfl (by kernel_rfl) rfl rfl ?_; intro w3 b3 g3))
        refine ret_blk_tmp rfl rfl b3 whole_LineD rfl rfl ⟨peG_none ?_ rfl rfl, HB2.out.grown g3 HB2.out.size (fun k hk => by injection hk; omega)⟩
        rw [HR.out, head_no3 (fun h => HX.out h.2.2)]; rfl
    · have q1 := BW.out.cell 4
      have q2 := BF.out.cell 4
      simp only [List.getElem?_toArray, List.getElem?_cons_succ, List.getElem?_cons_zero] at q1 q2
      have HH := Lib.hid hP; clear hP
      have HU := Lib.hid hU; clear hU
      go_wp2_with fail
      refine (pathField ⟨n.toArray⟩ _ _ (by simp [ByteArray.size]; omega) BL.out).mono ?_
      rintro e w2 ⟨path, rfl, hb2, hg, hx⟩
      change (∀ x, unesc n = some x → x = path) at hx
      rw [show (ByteArray.mk n.toArray).data.toList = n from rfl]
      have BZ2 := Lib.hid (BZ.out.grown hg (by simp)); have BW2 := Lib.hid (BW.out.grown hg (by simp <;> omega)); have BF2 := Lib.hid (BF.out.grown hg (by simp <;> omega)); have BL2 := Lib.hid hb2
      have HB2 := Lib.hid (HB.out.grown hg HB.out.size (fun k hk => by injection hk; omega))
      clear hg hb2
      cases hp : unesc n with
      | none =>
        have HX := Lib.hid hp
        clear hx hp
        simp only [Option.isSome_none]
        go_wp2_with (first | ((with_reducible refine at_load (ty := 46) (x := .tmp 4) ?_ ?_); exact rfl; refine wpList_load_blk rfl 46 (.tmp 4) rfl _ rfl BL2.out whole_LineD ?_) | ((with_reducible refine at_store (ty := 46) (x := .tmp 2) (y := .tmp 45) ?_ ?_); exact rfl; refine wpList_store_blk rfl 46 (.tmp 2) (.tmp 45) rfl _ rfl BZ2.out rfl (by kernel_rfl) rfl rfl ?_; intro w3 b3 g3))
        refine ret_blk_tmp rfl rfl b3 whole_LineD rfl rfl ⟨peG_none ?_ rfl rfl, HB2.out.grown g3 HB2.out.size (fun k hk => by injection hk; omega)⟩
        rw [HR.out, head_no2 HX.out]; rfl
      | some y =>
        have hy := hx y hp
        subst hy
        have HX := Lib.hid hp
        clear hx hp
        simp only [Option.isSome_some]
        go_wp2_with fail
        go_roundw
        case rel => exact ⟨5, _, by go_num, .inr (.inr (.inr (.inr (.inr ⟨rfl, k, m, _, head_yes HH.out HX.out HU.out, HX.out, HH.out, rfl⟩)))), BZ2.out, BL2.out, BW2.out, BF2.out, HB2.out⟩
        case measure => simp [intOf]
    · have HH := Lib.hid hP; have HHd := Lib.hid hH; have HN := Lib.hid hN
      have zpa := unesc_len hN
      clear hP hH hN
      have q1 := BW.out.cell 6
      simp only [List.getElem?_toArray, List.getElem?_cons_succ, List.getElem?_cons_zero] at q1
      go_wp2_with fail
      refine (manUnescape ⟨x.toArray⟩ _ (by simp [ByteArray.size]; omega)).mono ?_
      rintro e w3 ⟨rfl, δ, hδ⟩
      have hb3 : Below wr.heap.size wr w3 := by rw [hδ]; exact below_over _ _
      clear hδ q1
      rw [show (ByteArray.mk x.toArray).data.toList = x from rfl]
      have BL3 := Lib.hid (BL.out.below hb3 BL.out.lt); have BZ3 := Lib.hid (BZ.out.below hb3 BZ.out.lt); have BW3 := Lib.hid (BW.out.below hb3 BW.out.lt)
      have HB3 := Lib.hid (HB.out.trans (hb3.mono HB.out.size)); have HP3 := Lib.hid (HPr.out.keep hb3)
      clear hb3
      cases hx : unesc x with
      | none =>
        have hR2 : R = none := by rw [HR.out, HHd.out]; show (restC _ mk x).bind _ = none; rw [restC_0 hx]; rfl
        have HR2 := Lib.hid hR2
        clear hx hR2
        unfold unescEnd strV
        go_wp2_with (first | ((with_reducible refine at_load (ty := 46) (x := .tmp 4) ?_ ?_); exact rfl; refine wpList_load_blk rfl 46 (.tmp 4) rfl _ rfl BL3.out whole_LineD ?_) | ((with_reducible refine at_store (ty := 46) (x := .tmp 2) (y := .tmp 63) ?_ ?_); exact rfl; refine wpList_store_blk rfl 46 (.tmp 2) (.tmp 63) rfl _ rfl BZ3.out rfl (by kernel_rfl) rfl rfl ?_; intro w5 b5 g5))
        exact ret_blk_tmp rfl rfl b5 whole_LineD rfl rfl ⟨peG_none HR2.out rfl rfl, HB3.out.grown g5 HB3.out.size (fun k hk => by injection hk; omega)⟩
      | some v =>
        have HX := Lib.hid hx
        have zv := unesc_len hx
        have q2 := BW3.out.cell 5
        simp only [List.getElem?_toArray, List.getElem?_cons_succ, List.getElem?_cons_zero] at q2
        clear hx
        unfold unescEnd strV
        by_cases h1 : mk = [61]
        · have t4 : (mk == [61]) = true := beq_iff_eq.2 h1
          have H1 := Lib.hid h1
          clear h1
          go_wp2_with (first | ((with_reducible refine at_store (ty := 9) (x := .tmp 70) (y := .tmp 69) ?_ ?_); exact rfl; refine wpList_store_run (v := .string ⟨v.toArray⟩) rfl 9 (.tmp 70) (.tmp 69) rfl rfl rfl BL3.out (store_str BL3.out (by simp)) ?_; intro w4 hb4 hg4) | ((with_reducible refine at_load (ty := 46) (x := .tmp 4) ?_ ?_); exact rfl; refine wpList_load_blk rfl 46 (.tmp 4) rfl _ rfl hb4 whole_LineD ?_))
          have BL4 := Lib.hid hb4; have BZ4 := Lib.hid (BZ3.out.grown hg4 (by simp)); have HB4 := Lib.hid (HB3.out.grown hg4 HB3.out.size (fun k hk => by injection hk; omega))
          have HP4 := Lib.hid (HP.out.keep HB4.out)
          clear hb4 hg4
          obtain ⟨d, hd⟩ : ∃ d, d = (⟨⟨path.toArray⟩, k, m, decV u, decV g, ⟨stS t, stN t⟩, [], ⟨#[]⟩, ⟨v.toArray⟩⟩ : LineD) := ⟨_, rfl⟩
          have RD : LineD.rd w4 (Up w.heap.size w4) [.string ⟨path.toArray⟩, .int .i64 k, .int .i64 m, .int .i64 (decV u), .int .i64 (decV g), .int .i64 (stS t), .int .i64 (stN t), .slice none 0 0, .string ⟨#[]⟩, .string ⟨v.toArray⟩] d := by
            rw [hd]
            exact rd_line (by simp [ByteArray.size, maxLen]; omega) (perm_I64 HH.out).1 (perm_I64 HH.out).2 (dec_I64 u) (dec_I64 g) (st_I64 t).1 (st_I64 t).2 (Nat.le_refl _) (by simp [maxLen]) Row.nil (by simp [maxLen, ByteArray.size]) (by simp [maxLen, ByteArray.size]; omega)
          have RG : Shape.LineG.rd w4 (Up w.heap.size w4) _ (d, slot0) := lineG_nil RD rfl (by rw [hd])
          have SM : SmallD d := by
            rw [hd]
            refine ⟨?_, ?_, ?_, ?_⟩ <;> (simp [ByteArray.size]; try omega)
          have hR2 : R = checkF s.data.toList d := by rw [HR.out, HHd.out]; show (restC _ mk x).bind _ = _; rw [restC_1 HX.out H1.out]; show checkF _ _ = _; rw [hd]
          have HRD := Lib.hid RG; have HSM := Lib.hid SM; have HR2 := Lib.hid hR2
          have HRO := Lib.hid (Shape.LineD.more (M' := Old w4) RD fun n hn => hn.2)
          clear RD RG SM hR2 hd HR
          by_cases hok : rOk d = true
          · have HOK := Lib.hid hok
            clear hok
            refine (show_ok d _ HRO.out HP4.out HSM.out HOK.out).mono ?_
            rintro e w5 ⟨rfl, hb5⟩
            have BL5 := Lib.hid (BL4.out.below hb5 BL4.out.lt); have BZ5 := Lib.hid (BZ4.out.below hb5 BZ4.out.lt); have HB5 := Lib.hid (HB4.out.trans (hb5.mono HB4.out.size))
            have HRD5 := Lib.hid (Shape.LineG.more (M' := Up w.heap.size w5) (Shape.LineG.keep HRD.out (w' := w5) (fun n hn => hb5.block n hn.2)) fun n hn => ⟨hn.1, Nat.lt_of_lt_of_le hn.2 hb5.size⟩)
            clear hb5
            unfold strV
            by_cases hte : lineBody d = s.data.toList
            · have kt := str_eq_data hte
              have HTE := Lib.hid hte
              clear hte
              go_wp2_with (first | ((with_reducible refine at_load (ty := 46) (x := .tmp 4) ?_ ?_); exact rfl; refine wpList_load_blk rfl 46 (.tmp 4) rfl _ rfl BL5.out whole_LineD ?_) | ((with_reducible refine at_store (ty := 46) (x := .tmp 2) (y := .tmp 85) ?_ ?_); exact rfl; refine wpList_store_blk rfl 46 (.tmp 2) (.tmp 85) rfl _ rfl BZ5.out rfl (by kernel_rfl) rfl rfl ?_; intro w6 b6 g6))
              refine ret_blk_tmp rfl rfl b6 whole_LineD rfl rfl ⟨peG_some (s := slot0) (HR2.out.trans (check_yes HOK.out HTE.out)) ?_, HB5.out.grown g6 HB5.out.size (fun k hk => by injection hk; omega)⟩
              exact Shape.LineG.more (Shape.LineG.keep HRD5.out (w' := w6) (Keeps.grown g6 fun n hn => ⟨hn.2, by have := hn.1; intro e; injection e; omega⟩)) fun n hn => ⟨by have := hn.1; omega, Nat.lt_of_lt_of_le hn.2 g6.size⟩
            · have kt := str_ne_data hte
              have HTE := Lib.hid hte
              clear hte
              go_wp2_with (first | ((with_reducible refine at_load (ty := 46) (x := .tmp 4) ?_ ?_); exact rfl; refine wpList_load_blk rfl 46 (.tmp 4) rfl _ rfl BL5.out whole_LineD ?_) | ((with_reducible refine at_store (ty := 46) (x := .tmp 2) (y := .tmp 85) ?_ ?_); exact rfl; refine wpList_store_blk rfl 46 (.tmp 2) (.tmp 85) rfl _ rfl BZ5.out rfl (by kernel_rfl) rfl rfl ?_; intro w6 b6 g6))
              exact ret_blk_tmp rfl rfl b6 whole_LineD rfl rfl ⟨peG_none (HR2.out.trans (check_no2 HTE.out)) rfl rfl, HB5.out.grown g6 HB5.out.size (fun k hk => by injection hk; omega)⟩
          · rw [Bool.not_eq_true] at hok
            have HOK := Lib.hid hok
            clear hok
            refine (show_bad d _ HRO.out HP4.out HOK.out).mono ?_
            rintro e w5 ⟨rfl, hb5⟩
            have BL5 := Lib.hid (BL4.out.below hb5 BL4.out.lt); have BZ5 := Lib.hid (BZ4.out.below hb5 BZ4.out.lt); have HB5 := Lib.hid (HB4.out.trans (hb5.mono HB4.out.size))
            clear hb5
            go_wp2_with (first | ((with_reducible refine at_load (ty := 46) (x := .tmp 4) ?_ ?_); exact rfl; refine wpList_load_blk rfl 46 (.tmp 4) rfl _ rfl BL5.out whole_LineD ?_) | ((with_reducible refine at_store (ty := 46) (x := .tmp 2) (y := .tmp 85) ?_ ?_); exact rfl; refine wpList_store_blk rfl 46 (.tmp 2) (.tmp 85) rfl _ rfl BZ5.out rfl (by kernel_rfl) rfl rfl ?_; intro w6 b6 g6))
            exact ret_blk_tmp rfl rfl b6 whole_LineD rfl rfl ⟨peG_none (HR2.out.trans (check_no1 HOK.out)) rfl rfl, HB5.out.grown g6 HB5.out.size (fun k hk => by injection hk; omega)⟩
        · by_cases h2 : mk = [58]
          · have t4 : (mk == [61]) = false := beq_eq_false_iff_ne.2 h1
            have t4 : (mk == [58]) = true := beq_iff_eq.2 h2
            have H1 := Lib.hid h1
            have H2 := Lib.hid h2
            clear h1 h2
            obtain ⟨c9, w9, hrun, hg9, hs9, hnc9, hc9, hrow9, hslot9⟩ := run_bytes_slot (P := Tryz.prog) 9 44 Tryz.underlying9 Tryz.underlying44 Tryz.underlying5 w3 v (by unfold maxLen; omega)
            have BL9 := Lib.hid (BL3.out.grown hg9 (by simp)); have BZ9 := Lib.hid (BZ3.out.grown hg9 (by simp)); have HB9 := Lib.hid (HB3.out.grown hg9 HB3.out.size (fun k hk => by cases hk))
            have HR9 := Lib.hid hrow9; have HS9 := Lib.hid hslot9
            have hlt3 := BL3.out.lt
            clear hg9 hrow9 hslot9
            go_wp2_with (first | ((with_reducible refine at_store (ty := 44) (x := .tmp 75) (y := .tmp 74) ?_ ?_); exact rfl; refine wpList_store_run (v := .slice (some ⟨w3.heap.size, 0, none⟩) v.length c9) rfl 44 (.tmp 75) (.tmp 74) rfl rfl rfl BL9.out (store_sl BL9.out (by simp)) ?_; intro w4 hb4 hg4) | ((with_reducible refine at_load (ty := 46) (x := .tmp 4) ?_ ?_); exact rfl; refine wpList_load_blk rfl 46 (.tmp 4) rfl _ rfl hb4 whole_LineD ?_))
            have HR4 := Lib.hid ((HR9.out.keep (Keeps.grown hg4 (fun n hn => ⟨by omega, by intro e; injection e; omega⟩))).more (M' := Up w.heap.size w4) (fun n hn => ⟨by omega, by have := hg4.size; omega⟩))
            have HS4 := Lib.hid (HS9.out.keep (w' := w4) fun g hg => by injection hg with hg; subst hg; exact hg4.block _ (by omega) (by intro e; injection e; omega))
            have hup4 : Up w.heap.size w4 w3.heap.size := ⟨by omega, by have := hg4.size; omega⟩
            clear hrun
            have BL4 := Lib.hid hb4; have BZ4 := Lib.hid (BZ9.out.grown hg4 (by simp)); have HB4 := Lib.hid (HB9.out.grown hg4 HB9.out.size (fun k hk => by injection hk; omega))
            have HP4 := Lib.hid (HP.out.keep HB4.out)
            clear hb4 hg4
            obtain ⟨d, hd⟩ : ∃ d, d = (⟨⟨path.toArray⟩, k, m, decV u, decV g, ⟨stS t, stN t⟩, v, ⟨#[]⟩, ⟨#[]⟩⟩ : LineD) := ⟨_, rfl⟩
            have RD : LineD.rd w4 (Up w.heap.size w4) [.string ⟨path.toArray⟩, .int .i64 k, .int .i64 m, .int .i64 (decV u), .int .i64 (decV g), .int .i64 (stS t), .int .i64 (stN t), .slice (some ⟨w3.heap.size, 0, none⟩) v.length c9, .string ⟨#[]⟩, .string ⟨#[]⟩] d := by
              rw [hd]
              exact rd_line (by simp [ByteArray.size, maxLen]; omega) (perm_I64 HH.out).1 (perm_I64 HH.out).2 (dec_I64 u) (dec_I64 g) (st_I64 t).1 (st_I64 t).2 hnc9 hc9 HR4.out (by simp [maxLen, ByteArray.size]) (by simp [maxLen, ByteArray.size])
            have RG : Shape.LineG.rd w4 (Up w.heap.size w4) _ (d, ⟨some w3.heap.size, v.length, c9⟩) := ⟨RD, rfl, by rw [hd]; exact HS4.out, fun g hg => by injection hg with hg; subst hg; exact hup4⟩
            have SM : SmallD d := by
              rw [hd]
              refine ⟨?_, ?_, ?_, ?_⟩ <;> (simp [ByteArray.size]; try omega)
            have hR2 : R = checkF s.data.toList d := by rw [HR.out, HHd.out]; show (restC _ mk x).bind _ = _; rw [restC_2 HX.out H1.out H2.out]; show checkF _ _ = _; rw [hd]
            have HRD := Lib.hid RG; have HSM := Lib.hid SM; have HR2 := Lib.hid hR2
            have HRO := Lib.hid (Shape.LineD.more (M' := Old w4) RD fun n hn => hn.2)
            clear RD RG SM hR2 hd HR
            by_cases hok : rOk d = true
            · have HOK := Lib.hid hok
              clear hok
              refine (show_ok d _ HRO.out HP4.out HSM.out HOK.out).mono ?_
              rintro e w5 ⟨rfl, hb5⟩
              have BL5 := Lib.hid (BL4.out.below hb5 BL4.out.lt); have BZ5 := Lib.hid (BZ4.out.below hb5 BZ4.out.lt); have HB5 := Lib.hid (HB4.out.trans (hb5.mono HB4.out.size))
              have HRD5 := Lib.hid (Shape.LineG.more (M' := Up w.heap.size w5) (Shape.LineG.keep HRD.out (w' := w5) (fun n hn => hb5.block n hn.2)) fun n hn => ⟨hn.1, Nat.lt_of_lt_of_le hn.2 hb5.size⟩)
              clear hb5
              unfold strV
              by_cases hte : lineBody d = s.data.toList
              · have kt := str_eq_data hte
                have HTE := Lib.hid hte
                clear hte
                go_wp2_with (first | ((with_reducible refine at_load (ty := 46) (x := .tmp 4) ?_ ?_); exact rfl; refine wpList_load_blk rfl 46 (.tmp 4) rfl _ rfl BL5.out whole_LineD ?_) | ((with_reducible refine at_store (ty := 46) (x := .tmp 2) (y := .tmp 85) ?_ ?_); exact rfl; refine wpList_store_blk rfl 46 (.tmp 2) (.tmp 85) rfl _ rfl BZ5.out rfl (by kernel_rfl) rfl rfl ?_; intro w6 b6 g6))
                refine ret_blk_tmp rfl rfl b6 whole_LineD rfl rfl ⟨peG_some (s := ⟨some w3.heap.size, v.length, c9⟩) (HR2.out.trans (check_yes HOK.out HTE.out)) ?_, HB5.out.grown g6 HB5.out.size (fun k hk => by injection hk; omega)⟩
                exact Shape.LineG.more (Shape.LineG.keep HRD5.out (w' := w6) (Keeps.grown g6 fun n hn => ⟨hn.2, by have := hn.1; intro e; injection e; omega⟩)) fun n hn => ⟨by have := hn.1; omega, Nat.lt_of_lt_of_le hn.2 g6.size⟩
              · have kt := str_ne_data hte
                have HTE := Lib.hid hte
                clear hte
                go_wp2_with (first | ((with_reducible refine at_load (ty := 46) (x := .tmp 4) ?_ ?_); exact rfl; refine wpList_load_blk rfl 46 (.tmp 4) rfl _ rfl BL5.out whole_LineD ?_) | ((with_reducible refine at_store (ty := 46) (x := .tmp 2) (y := .tmp 85) ?_ ?_); exact rfl; refine wpList_store_blk rfl 46 (.tmp 2) (.tmp 85) rfl _ rfl BZ5.out rfl (by kernel_rfl) rfl rfl ?_; intro w6 b6 g6))
                exact ret_blk_tmp rfl rfl b6 whole_LineD rfl rfl ⟨peG_none (HR2.out.trans (check_no2 HTE.out)) rfl rfl, HB5.out.grown g6 HB5.out.size (fun k hk => by injection hk; omega)⟩
            · rw [Bool.not_eq_true] at hok
              have HOK := Lib.hid hok
              clear hok
              refine (show_bad d _ HRO.out HP4.out HOK.out).mono ?_
              rintro e w5 ⟨rfl, hb5⟩
              have BL5 := Lib.hid (BL4.out.below hb5 BL4.out.lt); have BZ5 := Lib.hid (BZ4.out.below hb5 BZ4.out.lt); have HB5 := Lib.hid (HB4.out.trans (hb5.mono HB4.out.size))
              clear hb5
              go_wp2_with (first | ((with_reducible refine at_load (ty := 46) (x := .tmp 4) ?_ ?_); exact rfl; refine wpList_load_blk rfl 46 (.tmp 4) rfl _ rfl BL5.out whole_LineD ?_) | ((with_reducible refine at_store (ty := 46) (x := .tmp 2) (y := .tmp 85) ?_ ?_); exact rfl; refine wpList_store_blk rfl 46 (.tmp 2) (.tmp 85) rfl _ rfl BZ5.out rfl (by kernel_rfl) rfl rfl ?_; intro w6 b6 g6))
              exact ret_blk_tmp rfl rfl b6 whole_LineD rfl rfl ⟨peG_none (HR2.out.trans (check_no1 HOK.out)) rfl rfl, HB5.out.grown g6 HB5.out.size (fun k hk => by injection hk; omega)⟩
          · by_cases h3 : mk = [45, 62]
            · have t4 : (mk == [61]) = false := beq_eq_false_iff_ne.2 h1
              have t4 : (mk == [58]) = false := beq_eq_false_iff_ne.2 h2
              have t8 : (mk == [45, 62]) = true := beq_iff_eq.2 h3
              have H1 := Lib.hid h1
              have H2 := Lib.hid h2
              have H3 := Lib.hid h3
              clear h1 h2 h3
              go_wp2_with (first | ((with_reducible refine at_store (ty := 9) (x := .tmp 79) (y := .tmp 78) ?_ ?_); exact rfl; refine wpList_store_run (v := .string ⟨v.toArray⟩) rfl 9 (.tmp 79) (.tmp 78) rfl rfl rfl BL3.out (store_str BL3.out (by simp)) ?_; intro w4 hb4 hg4) | ((with_reducible refine at_load (ty := 46) (x := .tmp 4) ?_ ?_); exact rfl; refine wpList_load_blk rfl 46 (.tmp 4) rfl _ rfl hb4 whole_LineD ?_))
              have BL4 := Lib.hid hb4; have BZ4 := Lib.hid (BZ3.out.grown hg4 (by simp)); have HB4 := Lib.hid (HB3.out.grown hg4 HB3.out.size (fun k hk => by injection hk; omega))
              have HP4 := Lib.hid (HP.out.keep HB4.out)
              clear hb4 hg4
              obtain ⟨d, hd⟩ : ∃ d, d = (⟨⟨path.toArray⟩, k, m, decV u, decV g, ⟨stS t, stN t⟩, [], ⟨v.toArray⟩, ⟨#[]⟩⟩ : LineD) := ⟨_, rfl⟩
              have RD : LineD.rd w4 (Up w.heap.size w4) [.string ⟨path.toArray⟩, .int .i64 k, .int .i64 m, .int .i64 (decV u), .int .i64 (decV g), .int .i64 (stS t), .int .i64 (stN t), .slice none 0 0, .string ⟨v.toArray⟩, .string ⟨#[]⟩] d := by
                rw [hd]
                exact rd_line (by simp [ByteArray.size, maxLen]; omega) (perm_I64 HH.out).1 (perm_I64 HH.out).2 (dec_I64 u) (dec_I64 g) (st_I64 t).1 (st_I64 t).2 (Nat.le_refl _) (by simp [maxLen]) Row.nil (by simp [maxLen, ByteArray.size]; omega) (by simp [maxLen, ByteArray.size])
              have RG : Shape.LineG.rd w4 (Up w.heap.size w4) _ (d, slot0) := lineG_nil RD rfl (by rw [hd])
              have SM : SmallD d := by
                rw [hd]
                refine ⟨?_, ?_, ?_, ?_⟩ <;> (simp [ByteArray.size]; try omega)
              have hR2 : R = checkF s.data.toList d := by rw [HR.out, HHd.out]; show (restC _ mk x).bind _ = _; rw [restC_3 HX.out H1.out H2.out H3.out]; show checkF _ _ = _; rw [hd]
              have HRD := Lib.hid RG; have HSM := Lib.hid SM; have HR2 := Lib.hid hR2
              have HRO := Lib.hid (Shape.LineD.more (M' := Old w4) RD fun n hn => hn.2)
              clear RD RG SM hR2 hd HR
              by_cases hok : rOk d = true
              · have HOK := Lib.hid hok
                clear hok
                refine (show_ok d _ HRO.out HP4.out HSM.out HOK.out).mono ?_
                rintro e w5 ⟨rfl, hb5⟩
                have BL5 := Lib.hid (BL4.out.below hb5 BL4.out.lt); have BZ5 := Lib.hid (BZ4.out.below hb5 BZ4.out.lt); have HB5 := Lib.hid (HB4.out.trans (hb5.mono HB4.out.size))
                have HRD5 := Lib.hid (Shape.LineG.more (M' := Up w.heap.size w5) (Shape.LineG.keep HRD.out (w' := w5) (fun n hn => hb5.block n hn.2)) fun n hn => ⟨hn.1, Nat.lt_of_lt_of_le hn.2 hb5.size⟩)
                clear hb5
                unfold strV
                by_cases hte : lineBody d = s.data.toList
                · have kt := str_eq_data hte
                  have HTE := Lib.hid hte
                  clear hte
                  go_wp2_with (first | ((with_reducible refine at_load (ty := 46) (x := .tmp 4) ?_ ?_); exact rfl; refine wpList_load_blk rfl 46 (.tmp 4) rfl _ rfl BL5.out whole_LineD ?_) | ((with_reducible refine at_store (ty := 46) (x := .tmp 2) (y := .tmp 85) ?_ ?_); exact rfl; refine wpList_store_blk rfl 46 (.tmp 2) (.tmp 85) rfl _ rfl BZ5.out rfl (by kernel_rfl) rfl rfl ?_; intro w6 b6 g6))
                  refine ret_blk_tmp rfl rfl b6 whole_LineD rfl rfl ⟨peG_some (s := slot0) (HR2.out.trans (check_yes HOK.out HTE.out)) ?_, HB5.out.grown g6 HB5.out.size (fun k hk => by injection hk; omega)⟩
                  exact Shape.LineG.more (Shape.LineG.keep HRD5.out (w' := w6) (Keeps.grown g6 fun n hn => ⟨hn.2, by have := hn.1; intro e; injection e; omega⟩)) fun n hn => ⟨by have := hn.1; omega, Nat.lt_of_lt_of_le hn.2 g6.size⟩
                · have kt := str_ne_data hte
                  have HTE := Lib.hid hte
                  clear hte
                  go_wp2_with (first | ((with_reducible refine at_load (ty := 46) (x := .tmp 4) ?_ ?_); exact rfl; refine wpList_load_blk rfl 46 (.tmp 4) rfl _ rfl BL5.out whole_LineD ?_) | ((with_reducible refine at_store (ty := 46) (x := .tmp 2) (y := .tmp 85) ?_ ?_); exact rfl; refine wpList_store_blk rfl 46 (.tmp 2) (.tmp 85) rfl _ rfl BZ5.out rfl (by kernel_rfl) rfl rfl ?_; intro w6 b6 g6))
                  exact ret_blk_tmp rfl rfl b6 whole_LineD rfl rfl ⟨peG_none (HR2.out.trans (check_no2 HTE.out)) rfl rfl, HB5.out.grown g6 HB5.out.size (fun k hk => by injection hk; omega)⟩
              · rw [Bool.not_eq_true] at hok
                have HOK := Lib.hid hok
                clear hok
                refine (show_bad d _ HRO.out HP4.out HOK.out).mono ?_
                rintro e w5 ⟨rfl, hb5⟩
                have BL5 := Lib.hid (BL4.out.below hb5 BL4.out.lt); have BZ5 := Lib.hid (BZ4.out.below hb5 BZ4.out.lt); have HB5 := Lib.hid (HB4.out.trans (hb5.mono HB4.out.size))
                clear hb5
                go_wp2_with (first | ((with_reducible refine at_load (ty := 46) (x := .tmp 4) ?_ ?_); exact rfl; refine wpList_load_blk rfl 46 (.tmp 4) rfl _ rfl BL5.out whole_LineD ?_) | ((with_reducible refine at_store (ty := 46) (x := .tmp 2) (y := .tmp 85) ?_ ?_); exact rfl; refine wpList_store_blk rfl 46 (.tmp 2) (.tmp 85) rfl _ rfl BZ5.out rfl (by kernel_rfl) rfl rfl ?_; intro w6 b6 g6))
                exact ret_blk_tmp rfl rfl b6 whole_LineD rfl rfl ⟨peG_none (HR2.out.trans (check_no1 HOK.out)) rfl rfl, HB5.out.grown g6 HB5.out.size (fun k hk => by injection hk; omega)⟩
            · have t4 : (mk == [61]) = false := beq_eq_false_iff_ne.2 h1
              have t4 : (mk == [58]) = false := beq_eq_false_iff_ne.2 h2
              have t8 : (mk == [45, 62]) = false := beq_eq_false_iff_ne.2 h3
              have H1 := Lib.hid h1
              have H2 := Lib.hid h2
              have H3 := Lib.hid h3
              clear h1 h2 h3
              go_wp2_with ((with_reducible refine at_load (ty := 46) (x := .tmp 4) ?_ ?_); exact rfl; refine wpList_load_blk rfl 46 (.tmp 4) rfl _ rfl BL3.out whole_LineD ?_)
              obtain ⟨w4, hw4⟩ : ∃ w4, w4 = w3 := ⟨_, rfl⟩
              rw [← hw4] at BZ3 BL3 HB3 HP3 ⊢
              have BL4 := BL3; have BZ4 := BZ3; have HB4 := HB3; have HP4 := HP3
              clear hw4 BL3 BZ3 HB3 HP3
              obtain ⟨d, hd⟩ : ∃ d, d = (⟨⟨path.toArray⟩, k, m, decV u, decV g, ⟨stS t, stN t⟩, [], ⟨#[]⟩, ⟨#[]⟩⟩ : LineD) := ⟨_, rfl⟩
              have RD : LineD.rd w4 (Up w.heap.size w4) [.string ⟨path.toArray⟩, .int .i64 k, .int .i64 m, .int .i64 (decV u), .int .i64 (decV g), .int .i64 (stS t), .int .i64 (stN t), .slice none 0 0, .string ⟨#[]⟩, .string ⟨#[]⟩] d := by
                rw [hd]
                exact rd_line (by simp [ByteArray.size, maxLen]; omega) (perm_I64 HH.out).1 (perm_I64 HH.out).2 (dec_I64 u) (dec_I64 g) (st_I64 t).1 (st_I64 t).2 (Nat.le_refl _) (by simp [maxLen]) Row.nil (by simp [maxLen, ByteArray.size]) (by simp [maxLen, ByteArray.size])
              have RG : Shape.LineG.rd w4 (Up w.heap.size w4) _ (d, slot0) := lineG_nil RD rfl (by rw [hd])
              have SM : SmallD d := by
                rw [hd]
                refine ⟨?_, ?_, ?_, ?_⟩ <;> (simp [ByteArray.size]; try omega)
              have hR2 : R = checkF s.data.toList d := by rw [HR.out, HHd.out]; show (restC _ mk x).bind _ = _; rw [restC_4 HX.out H1.out H2.out H3.out]; show checkF _ _ = _; rw [hd]
              have HRD := Lib.hid RG; have HSM := Lib.hid SM; have HR2 := Lib.hid hR2
              have HRO := Lib.hid (Shape.LineD.more (M' := Old w4) RD fun n hn => hn.2)
              clear RD RG SM hR2 hd HR
              by_cases hok : rOk d = true
              · have HOK := Lib.hid hok
                clear hok
                refine (show_ok d _ HRO.out HP4.out HSM.out HOK.out).mono ?_
                rintro e w5 ⟨rfl, hb5⟩
                have BL5 := Lib.hid (BL4.out.below hb5 BL4.out.lt); have BZ5 := Lib.hid (BZ4.out.below hb5 BZ4.out.lt); have HB5 := Lib.hid (HB4.out.trans (hb5.mono HB4.out.size))
                have HRD5 := Lib.hid (Shape.LineG.more (M' := Up w.heap.size w5) (Shape.LineG.keep HRD.out (w' := w5) (fun n hn => hb5.block n hn.2)) fun n hn => ⟨hn.1, Nat.lt_of_lt_of_le hn.2 hb5.size⟩)
                clear hb5
                unfold strV
                by_cases hte : lineBody d = s.data.toList
                · have kt := str_eq_data hte
                  have HTE := Lib.hid hte
                  clear hte
                  go_wp2_with (first | ((with_reducible refine at_load (ty := 46) (x := .tmp 4) ?_ ?_); exact rfl; refine wpList_load_blk rfl 46 (.tmp 4) rfl _ rfl BL5.out whole_LineD ?_) | ((with_reducible refine at_store (ty := 46) (x := .tmp 2) (y := .tmp 85) ?_ ?_); exact rfl; refine wpList_store_blk rfl 46 (.tmp 2) (.tmp 85) rfl _ rfl BZ5.out rfl (by kernel_rfl) rfl rfl ?_; intro w6 b6 g6))
                  refine ret_blk_tmp rfl rfl b6 whole_LineD rfl rfl ⟨peG_some (s := slot0) (HR2.out.trans (check_yes HOK.out HTE.out)) ?_, HB5.out.grown g6 HB5.out.size (fun k hk => by injection hk; omega)⟩
                  exact Shape.LineG.more (Shape.LineG.keep HRD5.out (w' := w6) (Keeps.grown g6 fun n hn => ⟨hn.2, by have := hn.1; intro e; injection e; omega⟩)) fun n hn => ⟨by have := hn.1; omega, Nat.lt_of_lt_of_le hn.2 g6.size⟩
                · have kt := str_ne_data hte
                  have HTE := Lib.hid hte
                  clear hte
                  go_wp2_with (first | ((with_reducible refine at_load (ty := 46) (x := .tmp 4) ?_ ?_); exact rfl; refine wpList_load_blk rfl 46 (.tmp 4) rfl _ rfl BL5.out whole_LineD ?_) | ((with_reducible refine at_store (ty := 46) (x := .tmp 2) (y := .tmp 85) ?_ ?_); exact rfl; refine wpList_store_blk rfl 46 (.tmp 2) (.tmp 85) rfl _ rfl BZ5.out rfl (by kernel_rfl) rfl rfl ?_; intro w6 b6 g6))
                  exact ret_blk_tmp rfl rfl b6 whole_LineD rfl rfl ⟨peG_none (HR2.out.trans (check_no2 HTE.out)) rfl rfl, HB5.out.grown g6 HB5.out.size (fun k hk => by injection hk; omega)⟩
              · rw [Bool.not_eq_true] at hok
                have HOK := Lib.hid hok
                clear hok
                refine (show_bad d _ HRO.out HP4.out HOK.out).mono ?_
                rintro e w5 ⟨rfl, hb5⟩
                have BL5 := Lib.hid (BL4.out.below hb5 BL4.out.lt); have BZ5 := Lib.hid (BZ4.out.below hb5 BZ4.out.lt); have HB5 := Lib.hid (HB4.out.trans (hb5.mono HB4.out.size))
                clear hb5
                go_wp2_with (first | ((with_reducible refine at_load (ty := 46) (x := .tmp 4) ?_ ?_); exact rfl; refine wpList_load_blk rfl 46 (.tmp 4) rfl _ rfl BL5.out whole_LineD ?_) | ((with_reducible refine at_store (ty := 46) (x := .tmp 2) (y := .tmp 85) ?_ ?_); exact rfl; refine wpList_store_blk rfl 46 (.tmp 2) (.tmp 85) rfl _ rfl BZ5.out rfl (by kernel_rfl) rfl rfl ?_; intro w6 b6 g6))
                exact ret_blk_tmp rfl rfl b6 whole_LineD rfl rfl ⟨peG_none (HR2.out.trans (check_no1 HOK.out)) rfl rfl, HB5.out.grown g6 HB5.out.size (fun k hk => by injection hk; omega)⟩
end Go.Proofs.YtkpblhikndennaaGreatDoor
namespace Go.Proofs.YtkpblhikndennaaGreatDoor
open Go.RowKit
set_option linter.unusedVariables false
set_option linter.unusedSimpArgs false
set_option maxHeartbeats 1000000 in
set_option maxRecDepth 100000 in
theorem parse_otherG (s : ByteArray) (w : World) (hs : s.size ≤ 16777216) (hm : MaxLenOk w) (h5 : (splitW 32 s.data.toList).length ≠ 5) (h7 : (splitW 32 s.data.toList).length ≠ 7) :
    Calls Tryz.prog 22 #[.string s] w fun e w' => ParseEndG (lineF restC s.data.toList) w w' e ∧ Below w.heap.size w w' := by
  have HR := Lib.hid (lineF_other (rest := restC) h5 h7)
  obtain ⟨R, hR⟩ : ∃ R, R = lineF restC s.data.toList := ⟨_, rfl⟩
  rw [← hR] at HR ⊢
  have SC : Hid (∀ W, MaxLenOk W → Calls Tryz.prog 47 #[.string s, .string ⟨#[32]⟩] W fun e w' => e = .returned (.slice (some ⟨W.heap.size, 0, none⟩) (splitW 32 s.data.toList).length (splitW 32 s.data.toList).length) ∧
      ∃ c, w' = W.alloc (.cells c 9)) := Lib.hid fun W hM => by
    obtain ⟨m, hM⟩ := hM
    exact (splitCalls s W m (by omega) hM).mono fun e w' h => ⟨h.1, _, h.2⟩
  generalize (splitW 32 s.data.toList).length = L at *
  have k5 : ((L : Int) == 5) = false := by rw [beq_eq_false_iff_ne]; omega
  have k7 : ((L : Int) == 7) = false := by rw [beq_eq_false_iff_ne]; omega
  have n5 : ((L : Int) != 5) = true := by simp only [bne, k5, Bool.not_false]
  have n7 : ((L : Int) != 7) = true := by simp only [bne, k7, Bool.not_false]
  have HM := Lib.hid hm
  clear hR hm h5 h7
  go_enter Tryz.func22, Tryz.ntmps22
  go_wp2_with fail
  refine (SC.out _ (HM.out.keep (by go_grown))).mono ?_
  rintro e w1 ⟨rfl, cc, hw⟩
  have hb := below_of_alloc2 hw
  obtain ⟨b1, b2, b3⟩ := hb
  have B1 := Lib.hid b1; have B2 := Lib.hid b2; have HB := Lib.hid b3
  clear hw b1 b2 b3
  go_wp2_with (first
    | ((with_reducible refine at_load (ty := 46) (x := .tmp 4) ?_ ?_); exact rfl; refine wpList_load_blk rfl 46 (.tmp 4) rfl _ rfl (B2.out.alloc _) whole_LineD ?_)
    | ((with_reducible refine at_store (ty := 46) (x := .tmp 2) (y := .tmp 30) ?_ ?_); exact rfl; refine wpList_store_blk rfl 46 (.tmp 2) (.tmp 30) rfl _ rfl (B1.out.alloc _) rfl (by kernel_rfl) rfl rfl ?_; intro w3 b3 g3))
  refine ret_blk_tmp rfl rfl b3 whole_LineD rfl rfl ⟨peG_none HR.out rfl rfl, (HB.out.alloc HB.out.size _).grown g3 (by have := HB.out.size; simp; omega) (fun k hk => by injection hk; omega)⟩
theorem manParseG (s : ByteArray) (w : World) (hs : s.size ≤ 16777216) (hm : MaxLenOk w) (hv : ErrRangeOk w) (hp : Pow10 w) :
    Calls Tryz.prog 22 #[.string s] w fun e w' => ParseEndG (lineF restC s.data.toList) w w' e ∧ Below w.heap.size w w' := by
  by_cases h5 : (splitW 32 s.data.toList).length = 5
  · match hs5 : splitW 32 s.data.toList, h5 with
    | [p, u, g, t, n], _ => exact parse5G s w hs hm hv hp hs5
  · by_cases h7 : (splitW 32 s.data.toList).length = 7
    · match hs7 : splitW 32 s.data.toList, h7 with
      | [p, u, g, t, n, mk, x], _ => exact parse7G s w hs hm hv hp hs7
    · exact parse_otherG s w hs hm h5 h7
end Go.Proofs.YtkpblhikndennaaGreatDoor
