/- manifest's Unescape: what it computes. No condition but room. -/
import Derived.Test.YtkpblhikndennaaGreatDoorBldAll
import Derived.Lib.Strings
namespace Go.Proofs.YtkpblhikndennaaGreatDoor
open Go.RowKit
set_option linter.unusedVariables false
set_option linter.unusedSimpArgs false
attribute [local go_sem] cell?_over frozen?_over lt_over le_over

theorem data_cons (r : ByteArray) (k : Nat) (h : k < r.size) : r.data.toList.drop k = r[k] :: r.data.toList.drop (k + 1) := by
  rw [List.drop_eq_getElem_cons (by rw [Array.length_toList]; exact h)]; rfl
theorem data_from (r : ByteArray) (k : Nat) : (r.extract k r.size).data.toList = r.data.toList.drop k := by
  rw [Lib.extract_data, List.take_of_length_le]
  rw [List.length_drop, Array.length_toList]; exact Nat.le_refl _
theorem data_ext (r : ByteArray) (a b j : Nat) (h : j < (r.extract a b).data.size) (h' : a + j < r.size) : (r.extract a b).data[j] = r[a + j] := by
  have h1 : (r.extract a b).data.toList[j]? = some (r.extract a b).data[j] := by
    rw [Array.getElem?_toList, Array.getElem?_eq_getElem h]
  have h2 : j < b - a := by
    have := congrArg List.length (Lib.extract_data r a b)
    rw [Array.length_toList, List.length_take] at this
    omega
  rw [Lib.extract_data, List.getElem?_take_of_lt h2, List.getElem?_drop, Array.getElem?_toList, Array.getElem?_eq_getElem (by exact h')] at h1
  exact (Option.some.inj h1).symm
def v1 (a : UInt8) : Nat := a.toNat - 48
def v2 (a b : UInt8) : Nat := (a.toNat - 48) * 8 + (b.toNat - 48)
theorem v1_lt {a : UInt8} (h : octB a = true) : v1 a < 8 := by have := octB_iff.1 h; unfold v1; omega
theorem v2_lt {a b : UInt8} (h : octB a = true) (h' : octB b = true) : v2 a b < 64 := by have := octB_iff.1 h; have := octB_iff.1 h'; unfold v2; omega
theorem four (r : ByteArray) (h : ¬ r.size < 4) : r.data.toList = r[0] :: r[1] :: r[2] :: r[3] :: r.data.toList.drop 4 := by
  have h0 := data_cons r 0 (by omega)
  rw [List.drop_zero] at h0
  exact h0.trans (congrArg (r[0] :: ·) ((data_cons r 1 (by omega)).trans (congrArg (r[1] :: ·) ((data_cons r 2 (by omega)).trans (congrArg (r[2] :: ·) (data_cons r 3 (by omega)))))))
theorem unesc_no {r : ByteArray} (h : ¬ r.size < 4) (hb : bareB r[0] = false) (hc : ¬ (r[0] = 92 ∧ octB r[1] = true ∧ octB r[2] = true ∧ octB r[3] = true ∧ r[1].toNat ≤ 51 ∧ bareB (UInt8.ofNat (val3 r[1] r[2] r[3])) = false)) : unesc r.data.toList = none := by
  rw [four r h, unesc_four _ hb, if_neg hc]
theorem unesc_yes {r : ByteArray} (h : ¬ r.size < 4) (hb : bareB r[0] = false) (hc : r[0] = 92 ∧ octB r[1] = true ∧ octB r[2] = true ∧ octB r[3] = true ∧ r[1].toNat ≤ 51 ∧ bareB (UInt8.ofNat (val3 r[1] r[2] r[3])) = false) :
    unesc r.data.toList = (unesc (r.extract 4 r.size).data.toList).map (UInt8.ofNat (val3 r[1] r[2] r[3]) :: ·) := by
  rw [data_from, four r h, unesc_four _ hb, if_pos hc]
  rfl
theorem unesc_few {r : ByteArray} (h : r.size < 4) (h0 : 0 < r.size) (hb : bareB r[0] = false) : unesc r.data.toList = none := by
  have := data_cons r 0 h0
  rw [List.drop_zero] at this
  rw [this, unesc_short hb]
  rw [List.length_drop, Array.length_toList]; change r.size - 1 < 3; omega
theorem val3_eq {a b d : UInt8} : val3 a b d = v2 a b * 8 + (d.toNat - 48) := by unfold val3 v2; omega
theorem val3_lt {a b d : UInt8} (ha : octB a = true) (hb : octB b = true) (hd : octB d = true) (h : a.toNat ≤ 51) : val3 a b d < 256 := by
  have := octB_iff.1 ha; have := octB_iff.1 hb; have := octB_iff.1 hd; unfold val3; omega
theorem or_small (x y : Nat) (hx : x < 64) (hy : y < 8) : bits BinOp.or IntKind.i64 ((x : Int) * 8) (y : Int) = ((x * 8 + y : Nat) : Int) := by
  have h : ((List.range 64).all fun x => (List.range 8).all fun y => decide (bits BinOp.or IntKind.i64 ((x : Int) * 8) (y : Int) = ((x * 8 + y : Nat) : Int))) = true := by decide +kernel
  rw [List.all_eq_true] at h
  have h1 := h x (by simpa using hx)
  rw [List.all_eq_true] at h1
  simpa using h1 y (by simpa using hy)
theorem or_dig (x : Nat) (d : UInt8) (hx : x < 64) (hd : octB d = true) : bits BinOp.or IntKind.i64 ((x : Int) * 8) ((d.toNat : Int) - 48) = ((x * 8 + (d.toNat - 48) : Nat) : Int) := by
  have := octB_iff.1 hd
  rw [show (d.toNat : Int) - 48 = ((d.toNat - 48 : Nat) : Int) by omega]
  exact or_small x _ hx (by omega)
theorem int_val {a b : Int} (h : a = b) : Value.int .i64 a = Value.int .i64 b := by rw [h]
/-- how Unescape ends -/
def unescEnd (o : Option (List UInt8)) : Ending :=
  match o with
  | some t => .returned (.tuple #[strV t, .int .i64 0])
  | none => .returned (.tuple #[strV [], .int .i64 150])
theorem bare_n (n : Int) (c : UInt8) (b : Bool) (hn : n = (c.toNat : Int)) (w : World) (hb : bareB c = b) : Calls Tryz.prog 85 #[.int .u8 n] w fun e w' => e = .returned (.bool b) ∧ w = w' := by
  subst hn; exact bare_c c w b hb
set_option maxHeartbeats 4000000 in
set_option maxRecDepth 100000 in
theorem manUnescape (s : ByteArray) (w : World) (hs : s.size ≤ 100000000000) :
    Calls Tryz.prog 53 #[.string s] w fun e w' => e = unescEnd (unesc s.data.toList) ∧ ∃ δ, w' = over w δ := by
  go_enter Tryz.func53, Tryz.ntmps53
  go_wp2_with fail
  go_loopw [0] (fun t wr => ∃ (r : ByteArray) (acc : List UInt8), t = .string r ∧ r.size + acc.length ≤ s.size ∧ unesc s.data.toList = (unesc r.data.toList).map (acc ++ ·) ∧ BW w w.heap.size w.heap.size acc wr) (fun t _ => (match t with | .string r => r.size | _ => 0))
  case atStart => exact ⟨s, [], rfl, by simp, by simp, BW.new w⟩
  case round =>
    obtain ⟨r, acc, rfl, hle, hun, hbw⟩ := hrel
    have O := Lib.hid hbw; clear hbw
    have U := Lib.hid hun; clear hun
    by_cases h0 : r.data.toList = []
    · have hne : (!r.toList.isEmpty) = false := by rw [ByteArray.toList_eq, h0]; rfl
      rw [h0] at U
      have h0' := Lib.hid h0; clear h0
      go_wp2_with (go_at_call 28; refine (bldStringW O.out).mono ?_; rintro e w1 ⟨rfl, h1⟩)
      go_ret2
      refine ⟨?_, exists_over h1⟩
      rw [U.out]; simp [unesc]; rfl
    · have hpos : 0 < r.size := by
        rcases Nat.eq_zero_or_pos r.size with h | h
        · exact absurd (List.eq_nil_of_length_eq_zero (by rw [Array.length_toList]; exact h)) h0
        · exact h
      have hne : (!r.toList.isEmpty) = true := by rw [ByteArray.toList_eq]; simpa using h0
      clear h0
      have hd0 := Lib.hid (data_cons r 0 hpos)
      by_cases hb : bareB r[0] = true
      · have HB := Lib.hid hb; clear hb
        go_wp2_with (first
          | (go_at_call 85; refine (bare_c _ _ _ HB.out).mono ?_; rintro e w' ⟨rfl, rfl⟩)
          | (go_at_call 27; refine (writeByteW O.out _ r[0] rfl (by omega)).mono ?_; rintro e w1 ⟨rfl, h1⟩))
        go_roundw
        case rel =>
          refine ⟨_, acc ++ [r[0]], rfl, ?_, ?_, h1⟩
          · rw [ByteArray.size_extract]; simp; omega
          · rw [U.out, ← List.drop_zero (l := r.data.toList), hd0.out, unesc_bare _ HB.out, data_from]
            cases unesc (List.drop (0 + 1) r.data.toList) <;> simp
        case measure => simp only [ByteArray.size_extract]; omega
      · have HB := Lib.hid (Bool.eq_false_iff.2 hb); clear hb
        by_cases h92 : r[0].toNat = 92
        · have k92 : ((r[0].toNat : Int) != 92) = false := by simp; omega
          have H92 := Lib.hid h92; clear h92
          by_cases h4 : r.size < 4
          · have HN := Lib.hid (unesc_few h4 hpos HB.out)
            go_wp2_with (first
              | (go_at_call 85; refine (bare_c _ _ _ HB.out).mono ?_; rintro e w' ⟨rfl, rfl⟩))
            all_goals first | (exfalso; omega) | skip
            go_ret2
            exact ⟨by rw [U.out, HN.out]; rfl, exists_over O.out.below⟩
          · by_cases h51 : r[1].toNat ≤ 51
            · obtain ⟨cap, w2, hrun, hg, hsz, hcap, hcells⟩ := run_bytes_of (P := Tryz.prog) 9 44 Tryz.underlying9 Tryz.underlying44 Tryz.underlying5 wr (r.extract 1 4)
              have h3 : (r.extract 1 4).size = 3 := by rw [ByteArray.size_extract]; omega
              rw [h3] at hrun hcap
              have c0 : w2.cell? ⟨wr.heap.size, 0, none⟩ = some (.int .u8 (r[1].toNat : Int)) := by
                rw [hcells 0 (by change 0 < (r.extract 1 4).size; omega), data_ext r 1 4 0 _ (by omega)]
              have c1 : w2.cell? ⟨wr.heap.size, 1, none⟩ = some (.int .u8 (r[2].toNat : Int)) := by
                rw [hcells 1 (by change 1 < (r.extract 1 4).size; omega), data_ext r 1 4 1 _ (by omega)]
              have c2 : w2.cell? ⟨wr.heap.size, 2, none⟩ = some (.int .u8 (r[3].toNat : Int)) := by
                rw [hcells 2 (by change 2 < (r.extract 1 4).size; omega), data_ext r 1 4 2 _ (by omega)]
              have O2 := Lib.hid (O.out.grown hg)
              clear hcells h3
              have HG := Lib.hid hg; clear hg
              have HZ := Lib.hid hsz; clear hsz
              go_wp2_with (first
                | (go_at_call 85; refine (bare_c _ _ _ HB.out).mono ?_; rintro e w' ⟨rfl, rfl⟩))
              clear hrun
              go_loop [6, 35] (fun v i => (v = .int .i64 0 ∧ i = .int .i64 0) ∨ (octB r[1] = true ∧ v = .int .i64 (v1 r[1] : Nat) ∧ i = .int .i64 1) ∨ (octB r[1] = true ∧ octB r[2] = true ∧ v = .int .i64 (v2 r[1] r[2] : Nat) ∧ i = .int .i64 2) ∨
                (octB r[1] = true ∧ octB r[2] = true ∧ octB r[3] = true ∧ v = .int .i64 (val3 r[1] r[2] r[3] : Nat) ∧ i = .int .i64 3)) (fun _ i => (3 - intOf i).toNat)
              case atStart => exact .inl ⟨rfl, rfl⟩
              case round =>
                rcases hrel with ⟨rfl, rfl⟩ | ⟨ha, rfl, rfl⟩ | ⟨ha, hb, rfl, rfl⟩ | ⟨ha, hb, hd, rfl, rfl⟩
                · by_cases ho : octB r[1] = true
                  · have ho1 := octB_iff.1 ho
                    have HO := Lib.hid ho; clear ho
                    obtain ⟨o1, o2⟩ := ho1
                    go_wp2
                    all_goals first | (exfalso; omega) | skip
                    go_round
                    case rel => exact .inr (.inl ⟨HO.out, (int_val ((or_dig 0 r[1] (by decide) HO.out).trans (by unfold v1; simp))), rfl⟩)
                    case measure => simp [intOf]
                  · have ho1 : octB r[1] = true → False := ho
                    have HN := Lib.hid (unesc_no h4 HB.out (fun hc => ho hc.2.1))
                    have HO := Lib.hid ho1; clear ho ho1
                    go_wp2
                    all_goals first
                      | (go_ret2; exact ⟨by rw [U.out, HN.out]; rfl, exists_over O2.out.below⟩)
                      | (exfalso; exact HO.out (octB_iff.2 ⟨by omega, by omega⟩))
                · have HA := Lib.hid ha; clear ha
                  by_cases ho : octB r[2] = true
                  · have ho1 := octB_iff.1 ho
                    have HO := Lib.hid ho; clear ho
                    obtain ⟨o1, o2⟩ := ho1
                    have hv1 := v1_lt HA.out
                    go_wp2
                    all_goals first | (exfalso; omega) | skip
                    go_round
                    case rel => exact .inr (.inr (.inl ⟨HA.out, HO.out, (int_val ((or_dig (v1 r[1]) r[2] (by have := v1_lt HA.out; omega) HO.out).trans (by unfold v1 v2; rfl))), rfl⟩))
                    case measure => simp [intOf]
                  · have ho1 : octB r[2] = true → False := ho
                    have HN := Lib.hid (unesc_no h4 HB.out (fun hc => ho hc.2.2.1))
                    have HO := Lib.hid ho1; clear ho ho1
                    go_wp2
                    all_goals first
                      | (go_ret2; exact ⟨by rw [U.out, HN.out]; rfl, exists_over O2.out.below⟩)
                      | (exfalso; exact HO.out (octB_iff.2 ⟨by omega, by omega⟩))
                · have HA := Lib.hid ha; have HB2 := Lib.hid hb; clear ha hb
                  by_cases ho : octB r[3] = true
                  · have ho1 := octB_iff.1 ho
                    have HO := Lib.hid ho; clear ho
                    obtain ⟨o1, o2⟩ := ho1
                    have hv2 := v2_lt HA.out HB2.out
                    go_wp2
                    all_goals first | (exfalso; omega) | skip
                    go_round
                    case rel => exact .inr (.inr (.inr ⟨HA.out, HB2.out, HO.out, (int_val ((or_dig (v2 r[1] r[2]) r[3] (v2_lt HA.out HB2.out) HO.out).trans (by rw [val3_eq]))), rfl⟩))
                    case measure => simp [intOf]
                  · have ho1 : octB r[3] = true → False := ho
                    have HN := Lib.hid (unesc_no h4 HB.out (fun hc => ho hc.2.2.2.1))
                    have HO := Lib.hid ho1; clear ho ho1
                    go_wp2
                    all_goals first
                      | (go_ret2; exact ⟨by rw [U.out, HN.out]; rfl, exists_over O2.out.below⟩)
                      | (exfalso; exact HO.out (octB_iff.2 ⟨by omega, by omega⟩))
                · have hv := val3_lt ha hb hd h51
                  have hcv : (val3 r[1] r[2] r[3] : Int) = ((UInt8.ofNat (val3 r[1] r[2] r[3])).toNat : Int) := by simp [UInt8.toNat_ofNat', Nat.mod_eq_of_lt hv]
                  have HC := Lib.hid hcv; clear hcv
                  have HA := Lib.hid ha; have HB2 := Lib.hid hb; have HD := Lib.hid hd; clear ha hb hd
                  by_cases hbv : bareB (UInt8.ofNat (val3 r[1] r[2] r[3])) = true
                  · have HV := Lib.hid hbv; clear hbv
                    have HN := Lib.hid (unesc_no h4 HB.out (fun hc => by rw [HV.out] at hc; exact absurd hc.2.2.2.2.2 (by decide)))
                    go_wp2_with (first
                      | (go_at_call 85; refine (bare_n _ _ _ (by have := HC.out; omega) _ HV.out).mono ?_; rintro e w' ⟨rfl, rfl⟩))
                    go_ret2
                    exact ⟨by rw [U.out, HN.out]; rfl, exists_over O2.out.below⟩
                  · have HV := Lib.hid (Bool.eq_false_iff.2 hbv); clear hbv
                    have HY := Lib.hid (unesc_yes h4 HB.out ⟨UInt8.toNat_inj.1 H92.out, HA.out, HB2.out, HD.out, h51, HV.out⟩)
                    go_wp2_with (first
                      | (go_at_call 85; refine (bare_n _ _ _ (by have := HC.out; omega) _ HV.out).mono ?_; rintro e w' ⟨rfl, rfl⟩)
                      | (go_at_call 27; refine (writeByteW O2.out _ (UInt8.ofNat (val3 r[1] r[2] r[3])) (by have := HC.out; omega) (by omega)).mono ?_; rintro e w3 ⟨rfl, h1⟩))
                    go_roundw
                    case rel =>
                      refine ⟨_, acc ++ [UInt8.ofNat (val3 r[1] r[2] r[3])], rfl, ?_, ?_, h1⟩
                      · rw [ByteArray.size_extract]; simp; omega
                      · rw [U.out, HY.out]
                        cases unesc (r.extract 4 r.size).data.toList <;> simp
                    case measure => simp only [ByteArray.size_extract]; omega
            · have HN := Lib.hid (unesc_no h4 HB.out (fun hc => h51 hc.2.2.2.2.1))
              go_wp2_with (first
                | (go_at_call 85; refine (bare_c _ _ _ HB.out).mono ?_; rintro e w' ⟨rfl, rfl⟩))
              all_goals first | (exfalso; omega) | skip
              go_ret2
              exact ⟨by rw [U.out, HN.out]; rfl, exists_over O.out.below⟩
        · have HN := Lib.hid (show unesc r.data.toList = none from by
            by_cases h4 : r.size < 4
            · exact unesc_few h4 hpos HB.out
            · exact unesc_no h4 HB.out (fun hc => h92 (by rw [hc.1]; rfl)))
          have k92 : ((r[0].toNat : Int) != 92) = true := by simp; omega
          have H92 := Lib.hid h92; clear h92
          go_wp2_with (first
            | (go_at_call 85; refine (bare_c _ _ _ HB.out).mono ?_; rintro e w' ⟨rfl, rfl⟩))
          all_goals first | (exfalso; omega) | skip
          go_ret2
          exact ⟨by rw [U.out, HN.out]; rfl, exists_over O.out.below⟩
end Go.Proofs.YtkpblhikndennaaGreatDoor
