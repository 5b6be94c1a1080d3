/- ref15.one at five words. No condition but room. -/
import Derived.Test.YtkpblhikndennaaGreatDoorOne0All
import Derived.Test.YtkpblhikndennaaGreatDoorRegAll
namespace Go.Proofs.YtkpblhikndennaaGreatDoor
open Go.RowKit
set_option linter.unusedVariables false
set_option linter.unusedSimpArgs false
set_option maxHeartbeats 4000000 in
set_option maxRecDepth 100000 in
theorem refOne5 (s : ByteArray) (w : World) (hs : s.size ≤ 16777216) {p u g t n : List UInt8} (hsp : splitW 32 s.data.toList = [p, u, g, t, n]) :
    Calls Tryz.prog 23 #[.string s] w fun e w' => ParseEnd (lineF restR s.data.toList) w w' e ∧ Below w.heap.size w w' := by
  have hl : lineF restR s.data.toList = (headF p u g t n).bind (checkF s.data.toList) := by unfold lineF; rw [hsp]
  obtain ⟨R, hR⟩ : ∃ R, R = lineF restR s.data.toList := ⟨_, rfl⟩
  rw [← hR]
  rw [hl] at hR
  have HR := Lib.hid hR
  have z : ∀ x' ∈ [p, u, g, t, n], x'.length ≤ s.size := fun x' hx => by
    have := splitW_small (b := 32) (l := s.data.toList) (w := x') (by rw [hsp]; exact hx)
    rwa [Array.length_toList] at this
  have zp := z p (by simp); have zu := z u (by simp); have zg := z g (by simp); have zt := z t (by simp); have zn := z n (by simp)
  have RW : Hid (∀ W, Calls Tryz.prog 54 #[.string s] W fun e w' => ∃ g0 cap, e = .returned (.slice (some ⟨g0, 0, none⟩) 5 cap) ∧ W.heap.size ≤ g0 ∧ WordsAt w' g0 [p, u, g, t, n] ∧ Below W.heap.size W w') := Lib.hid fun W => by
    have := refWordsAt s W (by omega)
    rw [hsp] at this
    exact this
  clear hR hl hsp z
  go_enter Tryz.func23, Tryz.ntmps23
  go_wp2_with fail
  refine (RW.out _).mono ?_
  rintro e w1 ⟨g0, cap, rfl, hg0, hwd, hb1⟩
  obtain ⟨bz, hbel, hsz1⟩ := blks1 hb1
  have hg0' : w.heap.size + 1 ≤ g0 := by simpa using hg0
  have BZ1 := Lib.hid bz; have HB1 := Lib.hid hbel; have WD1 := Lib.hid hwd
  have hgl := WD1.out.1
  clear hb1 bz hbel hwd hg0
  go_wp2_with ((with_reducible refine at_store (ty := 46) (x := .tmp 5) (y := .tmp 30) ?_ ?_); exact rfl; refine wpList_store_blk rfl 46 (.tmp 5) (.tmp 30) rfl _ rfl (Blk.new w1 _ _) rfl (by kernel_rfl) rfl rfl ?_; intro w2 b2 g2; have BL2 := Lib.hid b2; have WD2 := Lib.hid (own_words WD1.out g2); have q0 := WD2.out.2 0 _ rfl)
  have BZ2 := Lib.hid ((BZ1.out.alloc (.cells #[.string ⟨#[]⟩, .int .i64 0, .int .i64 0, .int .i64 0, .int .i64 0, .int .i64 0, .int .i64 0, .slice none 0 0, .string ⟨#[]⟩, .string ⟨#[]⟩] 46)).grown g2 (by intro e; injection e; omega))
  have HB2 := Lib.hid ((HB1.out.alloc HB1.out.size (.cells #[.string ⟨#[]⟩, .int .i64 0, .int .i64 0, .int .i64 0, .int .i64 0, .int .i64 0, .int .i64 0, .slice none 0 0, .string ⟨#[]⟩, .string ⟨#[]⟩] 46)).grown g2 (by have := HB1.out.size; simp; omega) (fun k hk => by injection hk; have := HB1.out.size; omega))
  clear b2 g2 q0 BZ1 HB1 WD1
  refine (refPermParts p _ (by omega)).mono ?_
  rintro e w3 ⟨k, m, e1, rfl, hp1, hp2, hb⟩
  have BL3 := Lib.hid (BL2.out.below hb BL2.out.lt); have BZ3 := Lib.hid (BZ2.out.below hb BZ2.out.lt); have HB3 := Lib.hid (HB2.out.trans (hb.mono HB2.out.size)); have WD3 := Lib.hid (WD2.out.below hb)
  have P1 := Lib.hid hp1; have P2 := Lib.hid hp2
  have q1 := WD3.out.2 1 _ rfl
  clear hp1 hp2 hb BL2 BZ2 HB2 WD2
  go_wp2_with fail
  clear q1
  refine (refDecParts u _ (by omega)).mono ?_
  rintro e w3' ⟨rfl, hw⟩
  rw [hw]
  clear hw
  have q2 := WD3.out.2 2 _ rfl
  go_wp2_with fail
  clear q2
  refine (refDecParts g _ (by omega)).mono ?_
  rintro e w3'' ⟨rfl, hw⟩
  rw [hw]
  clear hw
  have q3 := WD3.out.2 3 _ rfl
  go_wp2_with fail
  clear q3
  refine (refStParts t _ (by omega)).mono ?_
  rintro e w4 ⟨rfl, hb⟩
  have BL4 := Lib.hid (BL3.out.below hb BL3.out.lt); have BZ4 := Lib.hid (BZ3.out.below hb BZ3.out.lt); have HB4 := Lib.hid (HB3.out.trans (hb.mono HB3.out.size)); have WD4 := Lib.hid (WD3.out.below hb)
  clear hb BL3 BZ3 HB3 WD3
  have A5 := Lib.hid (below_alloc' w4 (.cells #[.int .i64 0, .int .i64 0] 43))
  go_wp2_with ((with_reducible refine at_store (ty := 43) (x := .tmp 13) (y := .tmp 58) ?_ ?_); exact rfl; refine wpList_store_blk rfl 43 (.tmp 13) (.tmp 58) rfl _ rfl (Blk.new w4 _ _) rfl (by kernel_rfl) rfl rfl ?_; intro w5 b5 g5; have WD5 := Lib.hid ((WD4.out.below A5.out).grown g5 (by have := WD4.out.1; intro e; injection e; omega)); have q4 := WD5.out.2 4 _ rfl)
  have BT5 := Lib.hid b5
  have hlt4 := BL4.out.lt; have hltz4 := BZ4.out.lt
  have BL5 := Lib.hid ((BL4.out.below A5.out hlt4).grown g5 (by intro e; injection e; omega))
  have BZ5 := Lib.hid ((BZ4.out.below A5.out hltz4).grown g5 (by intro e; injection e; omega))
  have HB5 := Lib.hid ((HB4.out.trans (A5.out.mono HB4.out.size)).grown g5 (by have := HB4.out.size; simp; omega) (fun k hk => by injection hk; have := HB4.out.size; omega))
  clear q4 b5 g5 A5 BL4 BZ4 HB4 WD4
  refine (refUnescParts n _ (by omega)).mono ?_
  rintro e w6 ⟨path, e5, rfl, hn1, hn2, hb⟩
  have BL6 := Lib.hid (BL5.out.below hb BL5.out.lt); have BZ6 := Lib.hid (BZ5.out.below hb BZ5.out.lt); have HB6 := Lib.hid (HB5.out.trans (hb.mono HB5.out.size)); have WD6 := Lib.hid (WD5.out.below hb)
  have BT6 := Lib.hid (BT5.out.below hb BT5.out.lt)
  have N1 := Lib.hid hn1; have N2 := Lib.hid hn2
  clear hn1 hn2 hb BL5 BZ5 HB5 WD5 BT5
  generalize w4.heap.size = gT at BT6 ⊢
  generalize w1.heap.size = gL at *
  by_cases hE : e1 = 0 ∧ decErr u = 0 ∧ decErr g = 0 ∧ stErr t = 0 ∧ e5 = 0
  · obtain ⟨h1, h2, h3, h4, h5⟩ := hE
    have f1 : (e1 != 0) = false := by rw [h1]; rfl
    have f2 : (decErr u != 0) = false := by rw [h2]; rfl
    have f3 : (decErr g != 0) = false := by rw [h3]; rfl
    have f4 : (stErr t != 0) = false := by rw [h4]; rfl
    have f5 : (e5 != 0) = false := by rw [h5]; rfl
    have zpa := unesc_len (N1.out h5)
    have HP := Lib.hid (P1.out h1)
    have HN := Lib.hid (N1.out h5)
    have HHd := Lib.hid (head_yes (P1.out h1) (N1.out h5) ⟨h2, h3, h4⟩)
    clear h1 h2 h3 h4 h5 P1 P2 N1 N2
    go_wp2_with (first | ((with_reducible refine at_load (ty := 43) (x := .tmp 13) ?_ ?_); exact rfl; refine wpList_load_blk rfl 43 (.tmp 13) rfl _ rfl BT6.out whole_TimeD ?_) | ((with_reducible refine at_store (ty := 46) (x := .tmp 5) (y := .tmp 92) ?_ ?_); exact rfl; refine wpList_store_blk rfl 46 (.tmp 5) (.tmp 92) rfl _ rfl BL6.out rfl (by kernel_rfl) rfl rfl ?_; intro w7 b7 g7))
    have BL7 := Lib.hid b7; have BZ7 := Lib.hid (BZ6.out.grown g7 (by intro e; injection e; omega)); have HB7 := Lib.hid (HB6.out.grown g7 HB6.out.size (fun k hk => by injection hk; omega)); have WD7 := Lib.hid (WD6.out.grown g7 (by intro e; injection e; omega))
    clear b7 g7 BL6 BZ6 HB6 WD6 BT6
    obtain ⟨w8, hw8⟩ : ∃ w8, w8 = w7 := ⟨_, rfl⟩
    rw [← hw8] at BL7 BZ7 HB7 WD7 ⊢
    have BL8 := BL7; have BZ8 := BZ7; have HB8 := HB7
    clear hw8 BL7 BZ7 HB7 WD7
    obtain ⟨d, hd⟩ : ∃ d, d = (⟨⟨path.toArray⟩, k, m, decV u, decV g, ⟨stS t, stN t⟩, [], ⟨#[]⟩, ⟨#[]⟩⟩ : LineD) := ⟨_, rfl⟩
    have RD : LineD.rd w8 (Up w.heap.size w8) [.string ⟨path.toArray⟩, .int .i64 k, .int .i64 m, .int .i64 (decV u), .int .i64 (decV g), .int .i64 (stS t), .int .i64 (stN t), .slice none 0 0, .string ⟨#[]⟩, .string ⟨#[]⟩] d := by
      rw [hd]
      exact rd_line (by simp [ByteArray.size, maxLen]; omega) (perm_I64 HP.out).1 (perm_I64 HP.out).2 (dec_I64 u) (dec_I64 g) (st_I64 t).1 (st_I64 t).2 (Nat.le_refl _) (by simp [maxLen]) Row.nil (by simp [maxLen, ByteArray.size]) (by simp [maxLen, ByteArray.size])
    have SM : SmallD d := by
      rw [hd]
      refine ⟨?_, ?_, ?_, ?_⟩ <;> (simp [ByteArray.size]; try omega)
    have hR2 : R = checkF s.data.toList d := by rw [HR.out, HHd.out]; show checkF _ _ = _; rw [hd]
    have HSM := Lib.hid SM; have HR2 := Lib.hid hR2
    have HRD := Lib.hid RD
    have BL9 := Lib.hid BL8.out; have BZ9 := Lib.hid BZ8.out; have HB9 := Lib.hid HB8.out
    clear RD SM hR2 hd HR HP HN HHd BL8 BZ8 HB8
    obtain ⟨X, hX, hadd⟩ := add_nl (P := Tryz.prog) s hs
    have HXX := Lib.hid hX
    clear hX
    by_cases hok : rOk d = true
    · have HOK := Lib.hid hok
      clear hok
      have CP : Hid (∀ W, LineD.rd W (Old W) [.string ⟨path.toArray⟩, .int .i64 k, .int .i64 m, .int .i64 (decV u), .int .i64 (decV g), .int .i64 (stS t), .int .i64 (stN t), .slice none 0 0, .string ⟨#[]⟩, .string ⟨#[]⟩] d → Calls Tryz.prog 37 #[.agg #[.string ⟨path.toArray⟩, .int .i64 k, .int .i64 m, .int .i64 (decV u), .int .i64 (decV g), .int .i64 (stS t), .int .i64 (stN t), .slice none 0 0, .string ⟨#[]⟩, .string ⟨#[]⟩]] W fun e w' => e = .returned (.bool true) ∧ Below W.heap.size W w') := Lib.hid fun W h => by
        have := refPrints d W h
        rwa [HOK.out] at this
      have CL : Hid (∀ W, LineD.rd W (Old W) [.string ⟨path.toArray⟩, .int .i64 k, .int .i64 m, .int .i64 (decV u), .int .i64 (decV g), .int .i64 (stS t), .int .i64 (stN t), .slice none 0 0, .string ⟨#[]⟩, .string ⟨#[]⟩] d → Calls Tryz.prog 38 #[.agg #[.string ⟨path.toArray⟩, .int .i64 k, .int .i64 m, .int .i64 (decV u), .int .i64 (decV g), .int .i64 (stS t), .int .i64 (stN t), .slice none 0 0, .string ⟨#[]⟩, .string ⟨#[]⟩]] W fun e w' => e = .returned (.string ⟨(lineBody d ++ [10]).toArray⟩) ∧ Below W.heap.size W w') := Lib.hid fun W h => refLine d W h HSM.out HOK.out
      by_cases hte : lineBody d = s.data.toList
      · have kt := line_eq HXX.out hte
        have HTE := Lib.hid hte
        clear hte
        refine wp_region_H (GrB w.heap.size 46 #[.string ⟨path.toArray⟩, .int .i64 k, .int .i64 m, .int .i64 (decV u), .int .i64 (decV g), .int .i64 (stS t), .int .i64 (stN t), .slice none 0 0, .string ⟨#[]⟩, .string ⟨#[]⟩]) [(2, Made.one (.bool true)), (5, Made.one (.string ⟨(lineBody d ++ [10]).toArray⟩)), (10, Made.stored w.heap.size 46 #[.string ⟨path.toArray⟩, .int .i64 k, .int .i64 m, .int .i64 (decV u), .int .i64 (decV g), .int .i64 (stS t), .int .i64 (stN t), .slice none 0 0, .string ⟨#[]⟩, .string ⟨#[]⟩])] rfl (by kernel_rfl) (grb_refl _ _ _) (grb_trans _ _ _) (grb_draw _ _ _ _) (staysH_cons (oneH_stays _) (staysH_cons (oneH_stays _) (staysH_cons (stored_stays _ _ _) staysH_nil))) ?_
        (refine h_load (t := 46) (cs := #[.string ⟨path.toArray⟩, .int .i64 k, .int .i64 m, .int .i64 (decV u), .int .i64 (decV g), .int .i64 (stS t), .int .i64 (stN t), .slice none 0 0, .string ⟨#[]⟩, .string ⟨#[]⟩]) rfl rfl 46 _ rfl gL rfl whole_LineD (fun W hW => BL9.out.grown hW.1 (by intro e; injection e; omega)) ?_; simp only [Act.put, List.setIfInBounds_toArray, List.set_cons_zero, List.set_cons_succ])
        (refine h_load (t := 46) (cs := #[.string ⟨path.toArray⟩, .int .i64 k, .int .i64 m, .int .i64 (decV u), .int .i64 (decV g), .int .i64 (stS t), .int .i64 (stN t), .slice none 0 0, .string ⟨#[]⟩, .string ⟨#[]⟩]) rfl rfl 46 _ rfl gL rfl whole_LineD (fun W hW => BL9.out.grown hW.1 (by intro e; injection e; omega)) ?_; simp only [Act.put, List.setIfInBounds_toArray, List.set_cons_zero, List.set_cons_succ])
        refine h_call rfl rfl ?_ ?_ (fun W => ?_) ?_ ?_
        rotate_left 2
        · go_simp; (constructor <;> with_reducible rfl)
        · intro W hW _
          refine (CP.out _ (rd_grb HRD.out hW.1)).mono ?_
          rintro e v1 ⟨rfl, hv1⟩
          exact ⟨(), rfl, grb_below hv1, trivial⟩
        rintro ⟨⟩
        simp only [Act.put, List.setIfInBounds_toArray, List.set_cons_zero, List.set_cons_succ, enc_one, enc_stored]
        (refine h_w rfl rfl ?_ (fun W => ?_) ?_; rotate_left; (focus (go_simp; (try with_reducible rfl); done)); simp only [Act.put, List.setIfInBounds_toArray, List.set_cons_zero, List.set_cons_succ])
        (refine h_load (t := 46) (cs := #[.string ⟨path.toArray⟩, .int .i64 k, .int .i64 m, .int .i64 (decV u), .int .i64 (decV g), .int .i64 (stS t), .int .i64 (stN t), .slice none 0 0, .string ⟨#[]⟩, .string ⟨#[]⟩]) rfl rfl 46 _ rfl gL rfl whole_LineD (fun W hW => BL9.out.grown hW.1 (by intro e; injection e; omega)) ?_; simp only [Act.put, List.setIfInBounds_toArray, List.set_cons_zero, List.set_cons_succ])
        refine h_call rfl rfl ?_ ?_ (fun W => ?_) ?_ ?_
        rotate_left 2
        · go_simp; (constructor <;> with_reducible rfl)
        · intro W hW _
          refine (CL.out _ (rd_grb HRD.out hW.1)).mono ?_
          rintro e v1 ⟨rfl, hv1⟩
          exact ⟨(), rfl, grb_below hv1, trivial⟩
        rintro ⟨⟩
        simp only [Act.put, List.setIfInBounds_toArray, List.set_cons_zero, List.set_cons_succ, enc_one, enc_stored]
        (refine h_w rfl rfl ?_ (fun W => ?_) ?_; rotate_left; (focus (go_simp; (try with_reducible rfl); done)); simp only [Act.put, List.setIfInBounds_toArray, List.set_cons_zero, List.set_cons_succ])
        (refine h_w rfl rfl ?_ (fun W => ?_) ?_; rotate_left; (focus (go_simp; (try with_reducible rfl); done)); simp only [Act.put, List.setIfInBounds_toArray, List.set_cons_zero, List.set_cons_succ])
        (refine h_w rfl rfl ?_ (fun W => ?_) ?_; rotate_left; (focus (go_simp; (try with_reducible rfl); done)); simp only [Act.put, List.setIfInBounds_toArray, List.set_cons_zero, List.set_cons_succ])
        (refine h_w rfl rfl ?_ (fun W => ?_) ?_; rotate_left; (focus (go_simp; (try with_reducible rfl); done)); simp only [Act.put, List.setIfInBounds_toArray, List.set_cons_zero, List.set_cons_succ])
        refine h_store (x0 := ()) rfl rfl 46 _ _ rfl w.heap.size rfl rfl rfl (by kernel_rfl) rfl (fun W hW _ => ?_) ?_
        · obtain ⟨old, ho1, ho2⟩ := hW.2.2 ⟨_, BZ9.out, rfl⟩
          exact ⟨_, old, ho1, ho2, fun W' q1 q2 _ => ⟨grb_store q2 q1, q1⟩⟩
        rintro ⟨⟩
        simp only [Act.put, List.setIfInBounds_toArray, List.set_cons_zero, List.set_cons_succ, enc_one, enc_stored]
        (refine h_w rfl rfl ?_ (fun W => ?_) ?_; rotate_left; (focus (go_simp; (try with_reducible rfl); done)); simp only [Act.put, List.setIfInBounds_toArray, List.set_cons_zero, List.set_cons_succ])
        refine h_end (fun wE hE hF => ?_)
        have b10 : Blk wE w.heap.size 46 #[.string ⟨path.toArray⟩, .int .i64 k, .int .i64 m, .int .i64 (decV u), .int .i64 (decV g), .int .i64 (stS t), .int .i64 (stN t), .slice none 0 0, .string ⟨#[]⟩, .string ⟨#[]⟩] := hF 10
        have hg9 := hE.1
        clear hF hE
        go_wp2_with fail
        refine ret_blk_tmp rfl rfl b10 whole_LineD rfl rfl ⟨pe_some (HR2.out.trans (check_yes HOK.out HTE.out)) ?_, HB9.out.grown hg9 HB9.out.size (fun k hk => by injection hk; omega)⟩
        exact Shape.LineD.more (Shape.LineD.keep HRD.out (w' := wE) (Keeps.grown hg9 fun n hn => ⟨hn.2, by have := hn.1; intro e; injection e; omega⟩)) fun n hn => ⟨by have := hn.1; omega, Nat.lt_of_lt_of_le hn.2 hg9.size⟩
      · have kt := line_ne HXX.out hte
        have HTE := Lib.hid hte
        clear hte
        refine wp_region_H (GrB w.heap.size 46 #[.string ⟨path.toArray⟩, .int .i64 k, .int .i64 m, .int .i64 (decV u), .int .i64 (decV g), .int .i64 (stS t), .int .i64 (stN t), .slice none 0 0, .string ⟨#[]⟩, .string ⟨#[]⟩]) [(2, Made.one (.bool true)), (5, Made.one (.string ⟨(lineBody d ++ [10]).toArray⟩)), (10, Made.stored w.heap.size 46 #[.string ⟨path.toArray⟩, .int .i64 k, .int .i64 m, .int .i64 (decV u), .int .i64 (decV g), .int .i64 (stS t), .int .i64 (stN t), .slice none 0 0, .string ⟨#[]⟩, .string ⟨#[]⟩])] rfl (by kernel_rfl) (grb_refl _ _ _) (grb_trans _ _ _) (grb_draw _ _ _ _) (staysH_cons (oneH_stays _) (staysH_cons (oneH_stays _) (staysH_cons (stored_stays _ _ _) staysH_nil))) ?_
        (refine h_load (t := 46) (cs := #[.string ⟨path.toArray⟩, .int .i64 k, .int .i64 m, .int .i64 (decV u), .int .i64 (decV g), .int .i64 (stS t), .int .i64 (stN t), .slice none 0 0, .string ⟨#[]⟩, .string ⟨#[]⟩]) rfl rfl 46 _ rfl gL rfl whole_LineD (fun W hW => BL9.out.grown hW.1 (by intro e; injection e; omega)) ?_; simp only [Act.put, List.setIfInBounds_toArray, List.set_cons_zero, List.set_cons_succ])
        (refine h_load (t := 46) (cs := #[.string ⟨path.toArray⟩, .int .i64 k, .int .i64 m, .int .i64 (decV u), .int .i64 (decV g), .int .i64 (stS t), .int .i64 (stN t), .slice none 0 0, .string ⟨#[]⟩, .string ⟨#[]⟩]) rfl rfl 46 _ rfl gL rfl whole_LineD (fun W hW => BL9.out.grown hW.1 (by intro e; injection e; omega)) ?_; simp only [Act.put, List.setIfInBounds_toArray, List.set_cons_zero, List.set_cons_succ])
        refine h_call rfl rfl ?_ ?_ (fun W => ?_) ?_ ?_
        rotate_left 2
        · go_simp; (constructor <;> with_reducible rfl)
        · intro W hW _
          refine (CP.out _ (rd_grb HRD.out hW.1)).mono ?_
          rintro e v1 ⟨rfl, hv1⟩
          exact ⟨(), rfl, grb_below hv1, trivial⟩
        rintro ⟨⟩
        simp only [Act.put, List.setIfInBounds_toArray, List.set_cons_zero, List.set_cons_succ, enc_one, enc_stored]
        (refine h_w rfl rfl ?_ (fun W => ?_) ?_; rotate_left; (focus (go_simp; (try with_reducible rfl); done)); simp only [Act.put, List.setIfInBounds_toArray, List.set_cons_zero, List.set_cons_succ])
        (refine h_load (t := 46) (cs := #[.string ⟨path.toArray⟩, .int .i64 k, .int .i64 m, .int .i64 (decV u), .int .i64 (decV g), .int .i64 (stS t), .int .i64 (stN t), .slice none 0 0, .string ⟨#[]⟩, .string ⟨#[]⟩]) rfl rfl 46 _ rfl gL rfl whole_LineD (fun W hW => BL9.out.grown hW.1 (by intro e; injection e; omega)) ?_; simp only [Act.put, List.setIfInBounds_toArray, List.set_cons_zero, List.set_cons_succ])
        refine h_call rfl rfl ?_ ?_ (fun W => ?_) ?_ ?_
        rotate_left 2
        · go_simp; (constructor <;> with_reducible rfl)
        · intro W hW _
          refine (CL.out _ (rd_grb HRD.out hW.1)).mono ?_
          rintro e v1 ⟨rfl, hv1⟩
          exact ⟨(), rfl, grb_below hv1, trivial⟩
        rintro ⟨⟩
        simp only [Act.put, List.setIfInBounds_toArray, List.set_cons_zero, List.set_cons_succ, enc_one, enc_stored]
        (refine h_w rfl rfl ?_ (fun W => ?_) ?_; rotate_left; (focus (go_simp; (try with_reducible rfl); done)); simp only [Act.put, List.setIfInBounds_toArray, List.set_cons_zero, List.set_cons_succ])
        (refine h_w rfl rfl ?_ (fun W => ?_) ?_; rotate_left; (focus (go_simp; (try with_reducible rfl); done)); simp only [Act.put, List.setIfInBounds_toArray, List.set_cons_zero, List.set_cons_succ])
        (refine h_w rfl rfl ?_ (fun W => ?_) ?_; rotate_left; (focus (go_simp; (try with_reducible rfl); done)); simp only [Act.put, List.setIfInBounds_toArray, List.set_cons_zero, List.set_cons_succ])
        (refine h_w rfl rfl ?_ (fun W => ?_) ?_; rotate_left; (focus (go_simp; (try with_reducible rfl); done)); simp only [Act.put, List.setIfInBounds_toArray, List.set_cons_zero, List.set_cons_succ])
        refine h_store (x0 := ()) rfl rfl 46 _ _ rfl w.heap.size rfl rfl rfl (by kernel_rfl) rfl (fun W hW _ => ?_) ?_
        · obtain ⟨old, ho1, ho2⟩ := hW.2.2 ⟨_, BZ9.out, rfl⟩
          exact ⟨_, old, ho1, ho2, fun W' q1 q2 _ => ⟨grb_store q2 q1, q1⟩⟩
        rintro ⟨⟩
        simp only [Act.put, List.setIfInBounds_toArray, List.set_cons_zero, List.set_cons_succ, enc_one, enc_stored]
        (refine h_w rfl rfl ?_ (fun W => ?_) ?_; rotate_left; (focus (go_simp; (try with_reducible rfl); done)); simp only [Act.put, List.setIfInBounds_toArray, List.set_cons_zero, List.set_cons_succ])
        refine h_end (fun wE hE hF => ?_)
        have b10 : Blk wE w.heap.size 46 #[.string ⟨path.toArray⟩, .int .i64 k, .int .i64 m, .int .i64 (decV u), .int .i64 (decV g), .int .i64 (stS t), .int .i64 (stN t), .slice none 0 0, .string ⟨#[]⟩, .string ⟨#[]⟩] := hF 10
        have hg9 := hE.1
        clear hF hE
        go_wp2_with fail
        exact ret_blk_tmp rfl rfl b10 whole_LineD rfl rfl ⟨pe_none (HR2.out.trans (check_no2 HTE.out)) rfl rfl, HB9.out.grown hg9 HB9.out.size (fun k hk => by injection hk; omega)⟩
    · rw [Bool.not_eq_true] at hok
      have HOK := Lib.hid hok
      clear hok
      have CP : Hid (∀ W, LineD.rd W (Old W) [.string ⟨path.toArray⟩, .int .i64 k, .int .i64 m, .int .i64 (decV u), .int .i64 (decV g), .int .i64 (stS t), .int .i64 (stN t), .slice none 0 0, .string ⟨#[]⟩, .string ⟨#[]⟩] d → Calls Tryz.prog 37 #[.agg #[.string ⟨path.toArray⟩, .int .i64 k, .int .i64 m, .int .i64 (decV u), .int .i64 (decV g), .int .i64 (stS t), .int .i64 (stN t), .slice none 0 0, .string ⟨#[]⟩, .string ⟨#[]⟩]] W fun e w' => e = .returned (.bool false) ∧ Below W.heap.size W w') := Lib.hid fun W h => by
        have := refPrints d W h
        rwa [HOK.out] at this
      refine wp_region_H (GrB w.heap.size 46 #[.string ⟨path.toArray⟩, .int .i64 k, .int .i64 m, .int .i64 (decV u), .int .i64 (decV g), .int .i64 (stS t), .int .i64 (stN t), .slice none 0 0, .string ⟨#[]⟩, .string ⟨#[]⟩]) [(2, Made.one (.bool false)), (10, Made.stored w.heap.size 46 #[.string ⟨path.toArray⟩, .int .i64 k, .int .i64 m, .int .i64 (decV u), .int .i64 (decV g), .int .i64 (stS t), .int .i64 (stN t), .slice none 0 0, .string ⟨#[]⟩, .string ⟨#[]⟩])] rfl (by kernel_rfl) (grb_refl _ _ _) (grb_trans _ _ _) (grb_draw _ _ _ _) (staysH_cons (oneH_stays _) (staysH_cons (stored_stays _ _ _) staysH_nil)) ?_
      (refine h_load (t := 46) (cs := #[.string ⟨path.toArray⟩, .int .i64 k, .int .i64 m, .int .i64 (decV u), .int .i64 (decV g), .int .i64 (stS t), .int .i64 (stN t), .slice none 0 0, .string ⟨#[]⟩, .string ⟨#[]⟩]) rfl rfl 46 _ rfl gL rfl whole_LineD (fun W hW => BL9.out.grown hW.1 (by intro e; injection e; omega)) ?_; simp only [Act.put, List.setIfInBounds_toArray, List.set_cons_zero, List.set_cons_succ])
      (refine h_load (t := 46) (cs := #[.string ⟨path.toArray⟩, .int .i64 k, .int .i64 m, .int .i64 (decV u), .int .i64 (decV g), .int .i64 (stS t), .int .i64 (stN t), .slice none 0 0, .string ⟨#[]⟩, .string ⟨#[]⟩]) rfl rfl 46 _ rfl gL rfl whole_LineD (fun W hW => BL9.out.grown hW.1 (by intro e; injection e; omega)) ?_; simp only [Act.put, List.setIfInBounds_toArray, List.set_cons_zero, List.set_cons_succ])
      refine h_call rfl rfl ?_ ?_ (fun W => ?_) ?_ ?_
      rotate_left 2
      · go_simp; (constructor <;> with_reducible rfl)
      · intro W hW _
        refine (CP.out _ (rd_grb HRD.out hW.1)).mono ?_
        rintro e v1 ⟨rfl, hv1⟩
        exact ⟨(), rfl, grb_below hv1, trivial⟩
      rintro ⟨⟩
      simp only [Act.put, List.setIfInBounds_toArray, List.set_cons_zero, List.set_cons_succ, enc_one, enc_stored]
      (refine h_w rfl rfl ?_ (fun W => ?_) ?_; rotate_left; (focus (go_simp; (try with_reducible rfl); done)); simp only [Act.put, List.setIfInBounds_toArray, List.set_cons_zero, List.set_cons_succ])
      iterate 5 (refine h_no rfl rfl ?_; simp only [Act.put, List.setIfInBounds_toArray, List.set_cons_zero, List.set_cons_succ])
      (refine h_w rfl rfl ?_ (fun W => ?_) ?_; rotate_left; (focus (go_simp; (try with_reducible rfl); done)); simp only [Act.put, List.setIfInBounds_toArray, List.set_cons_zero, List.set_cons_succ])
      refine h_store (x0 := ()) rfl rfl 46 _ _ rfl w.heap.size rfl rfl rfl (by kernel_rfl) rfl (fun W hW _ => ?_) ?_
      · obtain ⟨old, ho1, ho2⟩ := hW.2.2 ⟨_, BZ9.out, rfl⟩
        exact ⟨_, old, ho1, ho2, fun W' q1 q2 _ => ⟨grb_store q2 q1, q1⟩⟩
      rintro ⟨⟩
      simp only [Act.put, List.setIfInBounds_toArray, List.set_cons_zero, List.set_cons_succ, enc_one, enc_stored]
      (refine h_w rfl rfl ?_ (fun W => ?_) ?_; rotate_left; (focus (go_simp; (try with_reducible rfl); done)); simp only [Act.put, List.setIfInBounds_toArray, List.set_cons_zero, List.set_cons_succ])
      refine h_end (fun wE hE hF => ?_)
      have b10 : Blk wE w.heap.size 46 #[.string ⟨path.toArray⟩, .int .i64 k, .int .i64 m, .int .i64 (decV u), .int .i64 (decV g), .int .i64 (stS t), .int .i64 (stN t), .slice none 0 0, .string ⟨#[]⟩, .string ⟨#[]⟩] := hF 10
      have hg9 := hE.1
      clear hF hE
      go_wp2_with fail
      exact ret_blk_tmp rfl rfl b10 whole_LineD rfl rfl ⟨pe_none (HR2.out.trans (check_no1 HOK.out)) rfl rfl, HB9.out.grown hg9 HB9.out.size (fun k hk => by injection hk; omega)⟩
  · have hno : headF p u g t n = none := by
      by_cases h1 : e1 = 0
      · by_cases h2 : decErr u = 0
        · by_cases h3 : decErr g = 0
          · by_cases h4 : stErr t = 0
            · exact head_no2 (N2.out fun h5 => hE ⟨h1, h2, h3, h4, h5⟩)
            · exact head_no4 (.inr <| .inr <| .inr <| .inr h4)
          · exact head_no4 (.inr <| .inr <| .inr <| .inl h3)
        · exact head_no4 (.inr <| .inr <| .inl h2)
      · exact head_no1 (P2.out h1)
    have HNO := Lib.hid hno
    clear hno P1 P2 N1 N2
    by_cases h0 : e1 = 0
    · have f0 := int_eq0 h0
      have H0 := Lib.hid h0
      clear h0
      by_cases h1 : decErr u = 0
      · have f1 := int_eq0 h1
        have H1 := Lib.hid h1
        clear h1
        by_cases h2 : decErr g = 0
        · have f2 := int_eq0 h2
          have H2 := Lib.hid h2
          clear h2
          by_cases h3 : stErr t = 0
          · have f3 := int_eq0 h3
            have H3 := Lib.hid h3
            clear h3
            have f4 := int_ne0 (fun h => hE ⟨H0.out, H1.out, H2.out, H3.out, h⟩)
            clear hE
            go_wp2_with (first | ((with_reducible refine at_load (ty := 46) (x := .tmp 5) ?_ ?_); exact rfl; refine wpList_load_blk rfl 46 (.tmp 5) rfl _ rfl BL6.out whole_LineD ?_) | ((with_reducible refine at_store (ty := 46) (x := .tmp 2) (y := .tmp 85) ?_ ?_); exact rfl; refine wpList_store_blk rfl 46 (.tmp 2) (.tmp 85) rfl _ rfl BZ6.out rfl (by kernel_rfl) rfl rfl ?_; intro w7 b7 g7))
            exact ret_blk_tmp rfl rfl b7 whole_LineD rfl rfl ⟨pe_none (HR.out.trans (by rw [HNO.out]; rfl)) rfl rfl, HB6.out.grown g7 HB6.out.size (fun k hk => by injection hk; omega)⟩
          · have f3 := int_ne0 h3
            clear hE h3
            go_wp2_with (first | ((with_reducible refine at_load (ty := 46) (x := .tmp 5) ?_ ?_); exact rfl; refine wpList_load_blk rfl 46 (.tmp 5) rfl _ rfl BL6.out whole_LineD ?_) | ((with_reducible refine at_store (ty := 46) (x := .tmp 2) (y := .tmp 85) ?_ ?_); exact rfl; refine wpList_store_blk rfl 46 (.tmp 2) (.tmp 85) rfl _ rfl BZ6.out rfl (by kernel_rfl) rfl rfl ?_; intro w7 b7 g7))
            exact ret_blk_tmp rfl rfl b7 whole_LineD rfl rfl ⟨pe_none (HR.out.trans (by rw [HNO.out]; rfl)) rfl rfl, HB6.out.grown g7 HB6.out.size (fun k hk => by injection hk; omega)⟩
        · have f2 := int_ne0 h2
          clear hE h2
          go_wp2_with (first | ((with_reducible refine at_load (ty := 46) (x := .tmp 5) ?_ ?_); exact rfl; refine wpList_load_blk rfl 46 (.tmp 5) rfl _ rfl BL6.out whole_LineD ?_) | ((with_reducible refine at_store (ty := 46) (x := .tmp 2) (y := .tmp 85) ?_ ?_); exact rfl; refine wpList_store_blk rfl 46 (.tmp 2) (.tmp 85) rfl _ rfl BZ6.out rfl (by kernel_rfl) rfl rfl ?_; intro w7 b7 g7))
          exact ret_blk_tmp rfl rfl b7 whole_LineD rfl rfl ⟨pe_none (HR.out.trans (by rw [HNO.out]; rfl)) rfl rfl, HB6.out.grown g7 HB6.out.size (fun k hk => by injection hk; omega)⟩
      · have f1 := int_ne0 h1
        clear hE h1
        go_wp2_with (first | ((with_reducible refine at_load (ty := 46) (x := .tmp 5) ?_ ?_); exact rfl; refine wpList_load_blk rfl 46 (.tmp 5) rfl _ rfl BL6.out whole_LineD ?_) | ((with_reducible refine at_store (ty := 46) (x := .tmp 2) (y := .tmp 85) ?_ ?_); exact rfl; refine wpList_store_blk rfl 46 (.tmp 2) (.tmp 85) rfl _ rfl BZ6.out rfl (by kernel_rfl) rfl rfl ?_; intro w7 b7 g7))
        exact ret_blk_tmp rfl rfl b7 whole_LineD rfl rfl ⟨pe_none (HR.out.trans (by rw [HNO.out]; rfl)) rfl rfl, HB6.out.grown g7 HB6.out.size (fun k hk => by injection hk; omega)⟩
    · have f0 := int_ne0 h0
      clear hE h0
      go_wp2_with (first | ((with_reducible refine at_load (ty := 46) (x := .tmp 5) ?_ ?_); exact rfl; refine wpList_load_blk rfl 46 (.tmp 5) rfl _ rfl BL6.out whole_LineD ?_) | ((with_reducible refine at_store (ty := 46) (x := .tmp 2) (y := .tmp 85) ?_ ?_); exact rfl; refine wpList_store_blk rfl 46 (.tmp 2) (.tmp 85) rfl _ rfl BZ6.out rfl (by kernel_rfl) rfl rfl ?_; intro w7 b7 g7))
      exact ret_blk_tmp rfl rfl b7 whole_LineD rfl rfl ⟨pe_none (HR.out.trans (by rw [HNO.out]; rfl)) rfl rfl, HB6.out.grown g7 HB6.out.size (fun k hk => by injection hk; omega)⟩
end Go.Proofs.YtkpblhikndennaaGreatDoor
