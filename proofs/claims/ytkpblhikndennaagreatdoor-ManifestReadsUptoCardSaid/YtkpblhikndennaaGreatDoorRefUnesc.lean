/- The reference's Unescape: what it computes. No condition but room. -/
import Derived.Test.YtkpblhikndennaaGreatDoorUnesc
namespace Go.Proofs.YtkpblhikndennaaGreatDoor
open Go.RowKit
set_option linter.unusedVariables false
set_option linter.unusedSimpArgs false
attribute [local go_sem] cell?_over frozen?_over lt_over le_over

theorem dec_no {l : List UInt8} {a b d : UInt8} (hc : ¬ (octB a = true ∧ octB b = true ∧ octB d = true ∧ val3 a b d ≤ 255)) : dec (92 :: a :: b :: d :: l) = none := by
  rw [dec_four, if_neg hc]
theorem four_at (r : ByteArray) (k : Nat) (h : k + 3 < r.size) : r.data.toList.drop k = r[k] :: r[k + 1] :: r[k + 2] :: r[k + 3] :: r.data.toList.drop (k + 4) :=
  (data_cons r k (by omega)).trans (congrArg (r[k] :: ·) ((data_cons r (k + 1) (by omega)).trans (congrArg (r[k + 1] :: ·) ((data_cons r (k + 2) (by omega)).trans (congrArg (r[k + 2] :: ·) (data_cons r (k + 3) (by omega)))))))
set_option maxHeartbeats 4000000 in
set_option maxRecDepth 100000 in
theorem refUnescape (s : ByteArray) (w : World) (hs : s.size ≤ 100000000000) :
    Calls Tryz.prog 58 #[.string s] w fun e w' => e = unescEnd (unesc s.data.toList) ∧ ∃ δ, w' = over w δ := by
  have hsz : s.size = s.data.toList.length := by rw [Array.length_toList]; rfl
  have HS := Lib.hid hsz; clear hsz
  go_enter Tryz.func58, Tryz.ntmps58
  go_wp2_with fail
  go_loopw [4, 5] (fun v i wr => ∃ (k : Nat) (acc : List UInt8), k ≤ s.size ∧ acc.length ≤ k ∧ i = .int .i64 k ∧ dec s.data.toList = (dec (s.data.toList.drop k)).map (acc ++ ·) ∧ OwnB 5 wr w.heap.size v acc ∧ Below w.heap.size w wr ∧ w.heap.size ≤ wr.heap.size) (fun _ i _ => s.size - (intOf i).toNat)
  case atStart => exact ⟨0, [], Nat.zero_le _, by simp, rfl, by simp, Own.made Shape.byte _ w _ (Nat.le_refl _), by go_grown, by simp⟩
  case round =>
    obtain ⟨k, acc, hk, hak, rfl, hdec, hown, hbel, hsz⟩ := hrel
    have U := Lib.hid hdec; clear hdec
    have O := Lib.hid hown; clear hown
    by_cases hlt : k < s.size
    · by_cases h92 : s[k].toNat = 92
      · have k92 : ((s[k].toNat : Int) != 92) = false := by simp; omega
        have H92 := Lib.hid (show s[k] = 92 from UInt8.toNat_inj.1 h92); clear h92
        by_cases h4 : k + 3 < s.size
        · have hf := four_at s k h4
          rw [H92.out] at hf
          have HF := Lib.hid hf; clear hf
          go_wp2_with fail
          go_loop [6, 7] (fun v j => (v = .int .i64 0 ∧ j = .int .i64 (k + 1)) ∨ (octB s[k + 1] = true ∧ v = .int .i64 (v1 s[k + 1] : Nat) ∧ j = .int .i64 (k + 2)) ∨ (octB s[k + 1] = true ∧ octB s[k + 2] = true ∧ v = .int .i64 (v2 s[k + 1] s[k + 2] : Nat) ∧ j = .int .i64 (k + 3)) ∨
            (octB s[k + 1] = true ∧ octB s[k + 2] = true ∧ octB s[k + 3] = true ∧ v = .int .i64 (val3 s[k + 1] s[k + 2] s[k + 3] : Nat) ∧ j = .int .i64 (k + 4))) (fun _ j => (k + 4 - intOf j).toNat)
          case atStart => exact .inl ⟨rfl, rfl⟩
          case round =>
            rcases hrel with ⟨rfl, rfl⟩ | ⟨ha, rfl, rfl⟩ | ⟨ha, hb, rfl, rfl⟩ | ⟨ha, hb, hd, rfl, rfl⟩
            · by_cases ho : octB s[k + 1] = true
              · have ho1 := octB_iff.1 ho
                have HO := Lib.hid ho; clear ho
                obtain ⟨o1, o2⟩ := ho1
                go_wp2
                all_goals first | (exfalso; omega) | skip
                go_round
                case rel => exact .inr (.inl ⟨HO.out, (int_val (by unfold v1; omega)), int_val (by omega)⟩)
                case measure => simp only [intOf]; omega
              · have ho1 : octB s[k + 1] = true → False := ho
                have HN := Lib.hid (show dec (s.data.toList.drop k) = none by rw [HF.out]; exact dec_no (fun hc => ho hc.1))
                have HO := Lib.hid ho1; clear ho ho1
                go_wp2
                all_goals first
                  | (go_ret2; exact ⟨by rw [unesc_eq_dec, U.out, HN.out]; rfl, exists_over hbel⟩)
                  | (exfalso; exact HO.out (octB_iff.2 ⟨by omega, by omega⟩))
                  | (exfalso; omega)
            · have HA := Lib.hid ha; clear ha
              by_cases ho : octB s[k + 2] = true
              · have ho1 := octB_iff.1 ho
                have HO := Lib.hid ho; clear ho
                obtain ⟨o1, o2⟩ := ho1
                have hv1 := v1_lt HA.out
                go_wp2
                all_goals first | (exfalso; omega) | skip
                go_round
                case rel => exact .inr (.inr (.inl ⟨HA.out, HO.out, (int_val (by unfold v1 v2; omega)), int_val (by omega)⟩))
                case measure => simp only [intOf]; omega
              · have ho1 : octB s[k + 2] = true → False := ho
                have HN := Lib.hid (show dec (s.data.toList.drop k) = none by rw [HF.out]; exact dec_no (fun hc => ho hc.2.1))
                have HO := Lib.hid ho1; clear ho ho1
                go_wp2
                all_goals first
                  | (go_ret2; exact ⟨by rw [unesc_eq_dec, U.out, HN.out]; rfl, exists_over hbel⟩)
                  | (exfalso; exact HO.out (octB_iff.2 ⟨by omega, by omega⟩))
                  | (exfalso; omega)
            · have HA := Lib.hid ha; have HB2 := Lib.hid hb; clear ha hb
              by_cases ho : octB s[k + 3] = true
              · have ho1 := octB_iff.1 ho
                have HO := Lib.hid ho; clear ho
                obtain ⟨o1, o2⟩ := ho1
                have hv2 := v2_lt HA.out HB2.out
                go_wp2
                all_goals first | (exfalso; omega) | skip
                go_round
                case rel => exact .inr (.inr (.inr ⟨HA.out, HB2.out, HO.out, (int_val (by rw [val3_eq]; omega)), int_val (by omega)⟩))
                case measure => simp only [intOf]; omega
              · have ho1 : octB s[k + 3] = true → False := ho
                have HN := Lib.hid (show dec (s.data.toList.drop k) = none by rw [HF.out]; exact dec_no (fun hc => ho hc.2.2.1))
                have HO := Lib.hid ho1; clear ho ho1
                go_wp2
                all_goals first
                  | (go_ret2; exact ⟨by rw [unesc_eq_dec, U.out, HN.out]; rfl, exists_over hbel⟩)
                  | (exfalso; exact HO.out (octB_iff.2 ⟨by omega, by omega⟩))
                  | (exfalso; omega)
            · have HA := Lib.hid ha; have HB2 := Lib.hid hb; have HD := Lib.hid hd; clear ha hb hd
              by_cases hv : val3 s[k + 1] s[k + 2] s[k + 3] ≤ 255
              · have hcv : (val3 s[k + 1] s[k + 2] s[k + 3] : Int) = ((UInt8.ofNat (val3 s[k + 1] s[k + 2] s[k + 3])).toNat : Int) := by simp [UInt8.toNat_ofNat', Nat.mod_eq_of_lt (show val3 s[k + 1] s[k + 2] s[k + 3] < 256 by omega)]
                have HC := Lib.hid hcv; clear hcv
                go_wp2_with (first
                  | (at_builtin; refine wpList_append_b1 rfl (.tmp 58) (.tmp 61) _ rfl elem_byte rfl O.out _ (UInt8.ofNat (val3 s[k + 1] s[k + 2] s[k + 3])) rfl (by have := HC.out; omega) (by omega) hbel hsz ?_; intro v1 w1 hown1 hb1 hs1))
                all_goals first | (exfalso; omega) | skip
                go_roundw
                case rel =>
                  refine ⟨k + 4, acc ++ [UInt8.ofNat (val3 s[k + 1] s[k + 2] s[k + 3])], by omega, by simp; omega, int_val (by omega), ?_, hown1, hb1, hs1⟩
                  rw [U.out, HF.out, dec_four, if_pos ⟨HA.out, HB2.out, HD.out, hv⟩]
                  cases dec (List.drop (k + 4) s.data.toList) <;> simp
                case measure => simp only [intOf]; omega
              · have HN := Lib.hid (show dec (s.data.toList.drop k) = none by rw [HF.out]; exact dec_no (fun hc => hv hc.2.2.2))
                go_wp2
                all_goals first | (exfalso; omega) | skip
                go_ret2
                exact ⟨by rw [unesc_eq_dec, U.out, HN.out]; rfl, exists_over hbel⟩
        · have HN := Lib.hid (show dec (s.data.toList.drop k) = none by
            rw [data_cons s k hlt, H92.out, dec_short]
            rw [List.length_drop, Array.length_toList]; change s.size - (k + 1) < 3; omega)
          go_wp2
          all_goals first | (exfalso; omega) | skip
          go_ret2
          exact ⟨by rw [unesc_eq_dec, U.out, HN.out]; rfl, exists_over hbel⟩
      · have k92 : ((s[k].toNat : Int) != 92) = true := by simp; omega
        have hd := data_cons s k hlt
        have HD := Lib.hid hd; clear hd
        have hne : s[k] ≠ 92 := fun e => h92 (by rw [e]; rfl)
        have HN := Lib.hid hne; clear hne h92
        go_wp2_with (first
          | (at_builtin; refine wpList_append_b1 rfl (.tmp 19) (.tmp 23) _ rfl elem_byte rfl O.out _ s[k] rfl rfl (by omega) hbel hsz ?_; intro v1 w1 hown1 hb1 hs1))
        go_roundw
        case rel => exact ⟨k + 1, acc ++ [s[k]], by omega, by simp; omega, by go_num, by rw [U.out, HD.out, dec_plain _ HN.out]; cases dec (List.drop (k + 1) s.data.toList) <;> simp, hown1, hb1, hs1⟩
        case measure => simp [intOf]; omega
    · have hkl : k = s.size := by omega
      have hz : dec (s.data.toList.drop k) = some [] := by
        rw [List.drop_of_length_le (by rw [← HS.out]; omega)]; simp [dec]
      have hU : dec s.data.toList = some acc := by rw [U.out, hz]; simp
      have HU := Lib.hid hU; clear hU hz U
      have hcv := run_str_of (P := Tryz.prog) 44 9 Tryz.underlying44 Tryz.underlying5 Tryz.underlying9 O.out.rd
      have hcv' : (convert 44 9 u4).run Tryz.prog wr = .ok (.string ⟨acc.toArray⟩) wr := hcv
      have hcv2 : ∀ δ, (convert 44 9 u4).run Tryz.prog (over wr δ) = .ok (.string ⟨acc.toArray⟩) (over wr δ) := fun δ => run_str_of (P := Tryz.prog) 44 9 Tryz.underlying44 Tryz.underlying5 Tryz.underlying9 (O.out.over_ δ).rd
      clear hcv
      obtain ⟨E, hE⟩ : ∃ E : ByteArray, E = ⟨(esc acc).toArray⟩ := ⟨_, rfl⟩
      have hcall : ∀ w, Calls Tryz.prog 76 #[.string ⟨acc.toArray⟩] w fun e w' => e = .returned (.string E) ∧ ∃ δ, w' = over w δ := by
        intro w
        have := refEscape ⟨acc.toArray⟩ w (by change acc.toArray.size ≤ _; simp; omega)
        rw [hE]
        simpa [strV] using this
      have HCall := Lib.hid hcall; clear hcall
      have hel : E.data.toList = esc acc := by rw [hE]
      clear hE
      have HEL := Lib.hid hel; clear hel
      by_cases hes : E.toList = s.toList
      · have kes : (E.toList == s.toList) = true := by rw [beq_iff_eq]; exact hes
        have HES := Lib.hid hes; clear hes
        go_wp2_with (first
          | (go_at_call 76; refine (HCall.out _).mono ?_; rintro e w1 ⟨rfl, δ, rfl⟩))
        go_ret2
        refine ⟨?_, exists_over (below_trans_over hbel hsz δ)⟩
        rw [unesc_eq_dec, HU.out]
        have : esc acc = s.data.toList := by rw [← HEL.out, ← ByteArray.toList_eq, ← ByteArray.toList_eq]; exact HES.out
        simp [Option.filter, this, unescEnd]
        rfl
      · have kes : (E.toList == s.toList) = false := by rw [beq_eq_false_iff_ne]; exact hes
        have HES := Lib.hid hes; clear hes
        go_wp2_with (first
          | (go_at_call 76; refine (HCall.out _).mono ?_; rintro e w1 ⟨rfl, δ, rfl⟩))
        go_ret2
        refine ⟨?_, exists_over (below_trans_over hbel hsz δ)⟩
        rw [unesc_eq_dec, HU.out]
        have : ¬ esc acc = s.data.toList := by rw [← HEL.out, ← ByteArray.toList_eq, ← ByteArray.toList_eq]; exact HES.out
        simp [Option.filter, this, unescEnd]
        rfl
end Go.Proofs.YtkpblhikndennaaGreatDoor
