/- ref15.one and ref15.Read: what they answer at every text. No condition but room. -/
import Derived.Test.YtkpblhikndennaaGreatDoorOne5
import Derived.Test.YtkpblhikndennaaGreatDoorOne7
namespace Go.Proofs.YtkpblhikndennaaGreatDoor
open Go.RowKit
set_option linter.unusedVariables false
set_option linter.unusedSimpArgs false
set_option maxHeartbeats 1000000 in
set_option maxRecDepth 100000 in
theorem refOne_other (s : ByteArray) (w : World) (hs : s.size ≤ 16777216) (h5 : (splitW 32 s.data.toList).length ≠ 5) (h7 : (splitW 32 s.data.toList).length ≠ 7) :
    Calls Tryz.prog 23 #[.string s] w fun e w' => ParseEnd (lineF restR s.data.toList) w w' e ∧ Below w.heap.size w w' := by
  have HR := Lib.hid (lineF_other (rest := restR) h5 h7)
  obtain ⟨R, hR⟩ : ∃ R, R = lineF restR s.data.toList := ⟨_, rfl⟩
  rw [← hR] at HR ⊢
  have RW : Hid (∀ W, Calls Tryz.prog 54 #[.string s] W fun e w' => ∃ g0 cap, e = .returned (.slice (some ⟨g0, 0, none⟩) (splitW 32 s.data.toList).length cap) ∧ W.heap.size ≤ g0 ∧ WordsAt w' g0 (splitW 32 s.data.toList) ∧ Below W.heap.size W w') := Lib.hid fun W => refWordsAt s W (by omega)
  generalize (splitW 32 s.data.toList).length = L at *
  have n5 : ((L : Int) != 5) = true := by rw [bne_iff_ne]; omega
  have n7 : ((L : Int) != 7) = true := by rw [bne_iff_ne]; omega
  clear hR h5 h7
  go_enter Tryz.func23, Tryz.ntmps23
  go_wp2_with fail
  refine (RW.out _).mono ?_
  rintro e w1 ⟨g0, cap, rfl, hg0, hwd, hb1⟩
  obtain ⟨bz, hbel, hsz1⟩ := blks1 hb1
  have BZ1 := Lib.hid bz; have HB1 := Lib.hid hbel
  clear hb1 bz hbel hwd hg0
  go_wp2_with ((with_reducible refine at_store (ty := 46) (x := .tmp 2) (y := .tmp 29) ?_ ?_); exact rfl; refine wpList_store_blk rfl 46 (.tmp 2) (.tmp 29) rfl _ rfl BZ1.out rfl (by kernel_rfl) rfl rfl ?_; intro w3 b3 g3)
  refine ret_blk_tmp rfl rfl b3 whole_LineD rfl rfl ⟨pe_none HR.out rfl rfl, HB1.out.grown g3 (by have := HB1.out.size; omega) (fun k hk => by injection hk; omega)⟩
theorem refOne (s : ByteArray) (w : World) (hs : s.size ≤ 16777216) :
    Calls Tryz.prog 23 #[.string s] w fun e w' => ParseEnd (lineF restR s.data.toList) w w' e ∧ Below w.heap.size w w' := by
  by_cases h5 : (splitW 32 s.data.toList).length = 5
  · match hs5 : splitW 32 s.data.toList, h5 with
    | [p, u, g, t, n], _ => exact refOne5 s w hs hs5
  · by_cases h7 : (splitW 32 s.data.toList).length = 7
    · match hs7 : splitW 32 s.data.toList, h7 with
      | [p, u, g, t, n, mk, x], _ => exact refOne7 s w hs hs7
    · exact refOne_other s w hs h5 h7
set_option maxHeartbeats 2000000 in
set_option maxRecDepth 100000 in
theorem refRead (s : ByteArray) (w : World) (hs : s.size ≤ 1000000000) (hl : ∀ x ∈ splitW 10 s.data.toList, x.length ≤ 16777216) :
    Calls Tryz.prog 9 #[.string s] w fun e w' => ReadEnd (readW (lineF restR) s.data.toList) w w' e ∧ Below w.heap.size w w' := by
  have hz : s.data.toList.length = s.size := by rw [Array.length_toList]; rfl
  have HZ := Lib.hid hz
  obtain ⟨R, hR⟩ : ∃ R, R = readW (lineF restR) s.data.toList := ⟨_, rfl⟩
  rw [← hR]
  have HR := Lib.hid hR
  have HL := Lib.hid hl
  clear hz hR hl
  go_enter Tryz.func9, Tryz.ntmps9
  go_wp2_with fail
  go_loopw [4, 5, 6] (fun v f i wr => ∃ (fr ii : Nat) (acc : List LineD) (M : Nat → Prop), i = .int .i64 ii ∧ f = .int .i64 fr ∧ ii ≤ s.size ∧ fr ≤ ii ∧ acc.length ≤ ii ∧ R = (readW (lineF restR) (s.data.toList.drop fr)).map (acc ++ ·) ∧ 10 ∉ (s.data.toList.drop fr).take (ii - fr) ∧ Own Shape.LineD 46 wr w.heap.size M v acc ∧ (∀ n, M n → w.heap.size ≤ n) ∧ Below w.heap.size w wr ∧ ∀ x ∈ splitW 10 (s.data.toList.drop fr), x.length ≤ 16777216) (fun _ _ i _ => s.size - (intOf i).toNat)
  case atStart => exact ⟨0, 0, [], fun _ => False, rfl, rfl, by omega, Nat.le_refl _, Nat.le_refl _, by rw [List.drop_zero, HR.out]; exact readW_start _ _, by simp, Own.made Shape.LineD _ w _ (Nat.le_refl _), fun _ h => h.elim, below_alloc' _ _, by rw [List.drop_zero]; exact HL.out⟩
  case round =>
    obtain ⟨fr, ii, acc, M, rfl, rfl, hii, hfr, hal, hinv, hno, hown, hM, hbel, hwl⟩ := hrel
    have HI := Lib.hid hinv; have HN := Lib.hid hno; have O := Lib.hid hown; have HMM := Lib.hid hM; have HB := Lib.hid hbel; have HW := Lib.hid hwl
    clear hinv hno hown hM hbel hwl
    by_cases hlt : ii < s.size
    · by_cases hb : s[ii] = 10
      · have hy : ((s[ii].toNat : Int) != 10) = false := by rw [hb]; rfl
        have HBB := Lib.hid hb
        clear hb
        have hst := splitW_step (b := 10) (l := s.data.toList) (i := ii) (by rw [HZ.out]; exact hlt) HBB.out hfr HN.out
        have hxd : (s.extract fr ii).data.toList = (s.data.toList.drop fr).take (ii - fr) := Lib.extract_data _ _ _
        have hword : (s.extract fr ii).size ≤ 16777216 := by
          have := HW.out _ (by rw [hst]; exact List.mem_cons_self)
          rw [← hxd, Array.length_toList] at this
          exact this
        have HST := Lib.hid hst; have HXD := Lib.hid hxd
        have hcut : s.data.toList.drop fr = (s.data.toList.drop fr).take (ii - fr) ++ 10 :: s.data.toList.drop (ii + 1) := by
          conv => lhs; rw [← List.take_append_drop (ii - fr) (s.data.toList.drop fr)]
          rw [List.drop_drop, show fr + (ii - fr) = ii by omega, List.drop_eq_getElem_cons (l := s.data.toList) (i := ii) (by rw [HZ.out]; exact hlt)]
          have hbb := HBB.out
          congr 2
        have HGO := Lib.hid (readW_go (f := lineF restR) hcut HN.out (l := s.data.toList.drop fr) (acc := []) (readW_start _ _))
        clear hst hxd hcut
        have LT := Lib.hid O.out.lt
        go_wp2_with fail
        refine (refOne (s.extract fr ii) _ hword).mono ?_
        rintro e w2 ⟨hpe, hb2⟩
        rw [HXD.out] at hpe
        obtain ⟨cs, rfl, hc10, hcone, hcrd⟩ := pe_parts hpe
        have HB2 := Lib.hid (HB.out.trans (hb2.mono HB.out.size))
        have O2 := Lib.hid (O.out.kept (grownBy_of_below hb2) (by cases hv : u4.ownBlock <;> simp) (fun _ _ => by simp))
        have hsz2 := hb2.size
        obtain ⟨y0, y1, y2, y3, y4, y5, y6, y7, y8, y9, rfl⟩ := ten_cells hc10
        have CONE := Lib.hid hcone; have CRD := Lib.hid hcrd
        clear hb2 hpe hc10 hcone hcrd hword
        generalize hob : (lineF restR ((s.data.toList.drop fr).take (ii - fr))).isSome = ob
        have HOB := Lib.hid hob
        clear hob
        have A2 := Lib.hid (below_alloc' w2 (.cells #[.string ⟨#[]⟩, .int .i64 0, .int .i64 0, .int .i64 0, .int .i64 0, .int .i64 0, .int .i64 0, .slice none 0 0, .string ⟨#[]⟩, .string ⟨#[]⟩] 46))
        cases ob with
        | false =>
          go_wp2_with ((with_reducible refine at_store (ty := 46) (x := .tmp 7) (y := .tmp 26) ?_ ?_); exact rfl; refine wpList_store_blk rfl 46 (.tmp 7) (.tmp 26) rfl _ rfl (Blk.new w2 _ _) rfl (by kernel_rfl) rfl CONE.out ?_; intro w3 b3 g3)
          go_ret2
          refine ⟨re_none ?_, (HB2.out.trans (A2.out.mono HB2.out.size)).grown g3 (by have := HB2.out.size; simp; omega) (fun k hk => by injection hk; have := HB2.out.size; omega)⟩
          rw [HI.out, HGO.out.1 (Option.isSome_eq_false_iff.1 HOB.out |> Option.isNone_iff_eq_none.1)]
          rfl
        | true =>
          obtain ⟨d, hd⟩ := Option.isSome_iff_exists.1 HOB.out
          have RD := Lib.hid (CRD.out d hd)
          have HD := Lib.hid hd
          clear hd
          go_wp2_with (first
            | ((with_reducible refine at_store (ty := 46) (x := .tmp 7) (y := .tmp 26) ?_ ?_); exact rfl; refine wpList_store_blk rfl 46 (.tmp 7) (.tmp 26) rfl _ rfl (Blk.new w2 _ _) rfl (by kernel_rfl) rfl CONE.out ?_; intro w3 b3 g3; have O3 := Lib.hid (own_over_blk O2.out g3); have RD3 := Lib.hid (rd_over_blk RD.out g3))
            | ((with_reducible refine at_load (ty := 46) (x := .tmp 7) ?_ ?_); exact rfl; refine wpList_load_blk rfl 46 (.tmp 7) rfl _ rfl b3 whole_LineD ?_)
            | (at_builtin
               refine wpList_append_list (v := u4) rfl (.tmp 30) (.tmp 32) _ rfl elem_LineD rfl (O3.out.alloc _) rfl (Src.single (s := Shape.LineD) _ (M := From wr.heap.size w2) (fun n hn => by have := hn.2; have := g3.size; simp at this; omega) RD3.out) ?c0 ?c1 ?c2 ?c3 ?_))
          case c0 =>
            intro n hn
            refine ⟨by have := hn.2; have := g3.size; simp at this ⊢; omega, fun e => ?_⟩
            have := (LT.out n e.symm).2
            have := hn.1
            omega
          case c1 => simp only [List.length_cons, List.length_nil]; omega
          case c2 => simp only [List.length_cons, List.length_nil, maxLen]; omega
          case c3 => have := HB2.out.size; have := g3.size; simp at this ⊢; omega
          intro v' w4 hown4 hg4 hat4
          have O4 := Lib.hid hown4
          have HB3 := Lib.hid ((HB2.out.trans (A2.out.mono HB2.out.size)).grown g3 (by have := HB2.out.size; simp; omega) (fun k hk => by injection hk; have := HB2.out.size; omega))
          have HB4 := Lib.hid ((HB3.out.alloc HB3.out.size (.cells #[y0, y1, y2, y3, y4, y5, y6, y7, y8, y9] 46)).grown hg4 (by have := HB3.out.size; simp; omega) (fun m hm => (LT.out m hm).1))
          clear hown4 hg4 hat4
          go_wp2_with fail
          go_roundw
          case rel =>
            refine ⟨ii + 1, ii + 1, acc ++ [d], _, by go_num, by go_num, by omega, Nat.le_refl _, by simp; omega, ?_, by simp, O4.out, ?_, HB4.out, ?_⟩
            · rw [HI.out, HGO.out.2 d HD.out]
              cases readW (lineF restR) (s.data.toList.drop (ii + 1)) <;> simp
            · rintro n (hn | hn)
              · exact HMM.out n hn
              · have := hn.1; have := HB.out.size; omega
            · intro x hx
              exact HW.out x (by rw [HST.out]; exact List.mem_cons_of_mem _ hx)
          case measure => simp [intOf]; omega
      · have hy : ((s[ii].toNat : Int) != 10) = true := by
          rw [bne_iff_ne]
          intro e
          exact hb (UInt8.toNat_inj.1 (by have e32 : (10 : UInt8).toNat = 10 := rfl; omega))
        have HBB := Lib.hid hb
        clear hb
        go_wp2_with fail
        go_roundw
        case rel =>
          exact ⟨fr, ii + 1, acc, M, by go_num, rfl, by omega, by omega, by omega, HI.out, none_step (by rw [HZ.out]; exact hlt) HBB.out hfr HN.out, O.out, HMM.out, HB.out, HW.out⟩
        case measure => simp [intOf]; omega
    · have he : ii = s.size := by omega
      have hnt : 10 ∉ s.data.toList.drop fr := by
        have := HN.out
        rwa [List.take_of_length_le (by rw [List.length_drop, HZ.out]; omega)] at this
      have HNT := Lib.hid hnt
      clear hnt
      by_cases hf : fr = s.size
      · have f1 : ((fr : Int) != s.size) = false := by rw [hf]; simp
        have HF := Lib.hid hf
        clear hf he
        go_wp2_with fail
        go_ret2
        exact ⟨re_some (by rw [HI.out, List.drop_eq_nil_of_le (by rw [HZ.out, HF.out]; exact Nat.le_refl _), readW_nil]; simp) O.out HMM.out, HB.out⟩
      · have f1 : ((fr : Int) != s.size) = true := by rw [bne_iff_ne]; omega
        have HF := Lib.hid hf
        clear hf he
        go_wp2_with fail
        go_ret2
        refine ⟨re_none ?_, HB.out⟩
        rw [HI.out, readW_none HNT.out (fun e => ?_)]
        · rfl
        · have := congrArg List.length e
          rw [List.length_drop, HZ.out] at this
          simp at this
          have := HF.out
          omega
end Go.Proofs.YtkpblhikndennaaGreatDoor
