/- OverlayNumbers: the walk. No condition. -/
import Derived.Test.YtphloeafgblmnaaOvNums0
set_option linter.unusedSectionVars false
set_option linter.unusedVariables false
set_option linter.unusedSimpArgs false
namespace Go.Proofs.Ytphloeafgblmnaa.overlayNumbers
open Go.ChangeShapes Go.WideShapes Go.ChangeAt Go.RowKit
attribute [local go_sem] cell?_over frozen?_over lt_over le_over lt2 lt3 lt4 lt5
theorem levels_nat (n : Int) : ∃ N : Nat, N = (min (max n 1) 8).toNat ∧ N ≤ 8 := ⟨_, rfl, by omega⟩
set_option maxRecDepth 100000 in
set_option maxHeartbeats 8000000 in
theorem law {A : Option Addr} {n c : Nat} {l : List OpD} (n0 m0 : Int) (hn0 : I64 n0) (hm0 : I64 m0) (w : World) (h : Row Shape.OpD w (Old w) A n l) (hnc : n ≤ c) (hcm : c ≤ maxLen) :
    Calls Try.prog 7 #[.int .i64 n0, .int .i64 m0, .slice A n c] w fun e w' => e = .returned (.bool true) ∧ Below w.heap.size w w' := by
  unfold maxLen at hcm
  go_enter Try.func7, Try.ntmps7
  go_wp2_with fail
  refine (lvI.new _ n0 hn0).mono ?_
  rintro e w1 ⟨δ1, p, rfl, hw1, hat1⟩
  have b1 := below_of hw1; clear hw1
  go_wp2_with fail
  refine (lvI.new _ m0 hm0).mono ?_
  rintro e w2 ⟨δ2, q, rfl, hw2, hat2⟩
  have b2 := below_of hw2; clear hw2
  obtain ⟨M, hMdef⟩ : ∃ M, M = From w.heap.size w1 := ⟨_, rfl⟩
  obtain ⟨M', hMdef'⟩ : ∃ M', M' = From w1.heap.size w2 := ⟨_, rfl⟩
  rw [← hMdef] at hat1
  rw [← hMdef'] at hat2
  have hM1 : ∀ n, M n → w.heap.size ≤ n ∧ n < w1.heap.size := by rw [hMdef]; exact fun _ h => h
  have hM2 : ∀ n, M' n → w1.heap.size ≤ n ∧ n < w2.heap.size := by rw [hMdef']; exact fun _ h => h
  clear hMdef hMdef'
  have hat1 := hat1.keep (w' := w2) fun n hn => b2.block n (hM1 n hn).2
  obtain ⟨N, hN, hN8⟩ := levels_nat n0
  obtain ⟨N', hN', hN8'⟩ := levels_nat m0
  rw [← hN] at hat1
  rw [← hN'] at hat2
  have bw2 : Below w.heap.size w w2 := b1.trans (b2.mono b1.size)
  have HAT1 := Lib.hid hat1; have HAT2 := Lib.hid hat2; have HM1 := Lib.hid hM1; have HM2 := Lib.hid hM2; have HB2 := Lib.hid bw2; have HS := Lib.hid b1.size; have HS2 := Lib.hid b2.size; have HN := Lib.hid hN; have HN' := Lib.hid hN'
  clear hat1 hat2 hM1 hM2 bw2 b1 b2 hN hN'
  go_wp2_with fail
  go_loopw [9] (fun i wr => ∃ k : Nat, k ≤ 2 ∧ i = .int .i64 k ∧ Below w2.heap.size w2 wr) (fun i _ => 2 - (intOf i).toNat)
  case atStart => exact ⟨0, by omega, rfl, Below.refl _ _⟩
  case round =>
    obtain ⟨k, hk, rfl, hbel⟩ := hrel
    by_cases hk2 : k < 2
    · have hk3 : (k : Int) < 2 := by omega
      have HBL := Lib.hid hbel; clear hbel
      go_wp2_with fail
      refine (lvI.new _ 2 (by constructor <;> decide)).mono ?_
      rintro e w3 ⟨δ3, r, rfl, hw3, hat3⟩
      have b3 := below_of hw3; clear hw3
      have HB3 := Lib.hid (HBL.out.trans (b3.mono HBL.out.size)); clear b3
      go_wp2_with (first | (refine (lvI.set_yes _ 1 _ _ hat3 (by decide)).mono ?_; rintro e w4 ⟨rfl, hch, hat4⟩))
      have hb4 := HB3.out.trans (hch.below HB3.out.size fun n hn => Nat.le_trans HBL.out.size hn.1)
      have hat4 : lvI.At w4 (From wr.heap.size w3) r [[], [(5, (6, false))]] := hat4
      have htop : topKv [[], [((5 : Int), ((6 : Int), false))]] 5 = some (6, false) := by decide +kernel
      have hget := lvI.get w4 5 hat4 (by decide)
      rw [htop] at hget
      simp only [Option.map_some, Option.getD_some] at hget
      have HG := Lib.hid hget; have HB4 := Lib.hid hb4; clear hget htop hat4 hat3 hch hb4
      go_wp2_with (first | (refine HG.out.mono ?_; rintro e w5 ⟨rfl, δ5, hw5⟩; have HB5 := Lib.hid (HB4.out.trans ((below_of hw5).mono HB4.out.size)); clear hw5))
      go_roundw
      case rel => exact ⟨k + 1, by omega, by go_num, HB5.out⟩
      case measure => simp [intOf]; omega
    · have hk3 : ¬ (k : Int) < 2 := by omega
      have HBL := Lib.hid hbel; clear hbel
      have hbw := HB2.out.trans (HBL.out.mono HB2.out.size)
      have HBW := Lib.hid hbw; clear hbw
      go_wp2_with fail
      have HA1 := Lib.hid (HAT1.out.keep (w' := wr.alloc (.cells #[] 56)) fun n hn => ((HBL.out.alloc HBL.out.size _).block n (Nat.lt_of_lt_of_le (HM1.out n hn).2 HS2.out)))
      have HA2 := Lib.hid (HAT2.out.keep (w' := wr.alloc (.cells #[] 56)) fun n hn => ((HBL.out.alloc HBL.out.size _).block n (HM2.out n hn).2))
      refine (cut_ _ (h.keep (Keeps.old (HBW.out.alloc HBW.out.size _))) hnc hcm).mono ?_
      rintro e w4 ⟨⟨n', c', rfl, hn', hnc', hcc', hrow⟩, rfl⟩
      have hsrc := hrow.src
      have hll := hrow.1
      have HSRC := Lib.hid hsrc; have HR := Lib.hid hrow; clear hsrc hrow
      generalize l.take 200 = raw at *
      go_wp2_with (first
        | (at_builtin
           refine wpList_append_list (v := .slice (some ⟨wr.heap.size, 0, none⟩) 0 0) rfl (.tmp 62) (.tmp 64) _ rfl elem_OpD rfl (Own.made _ _ wr wr.heap.size (Nat.le_refl _)) rfl HSRC.out ?_ ?_ ?_ ?_ ?_
           · intro n hn
             have := HBW.out.size
             unfold Old at hn
             refine ⟨by simp; omega, fun e => ?_⟩
             injection e with e
             simp at e
             omega
           · simp only [List.length_nil]; omega
           · simp only [List.length_nil, maxLen]; omega
           · simp
           intro v5 w5 hown5 hg5 hat5))
      have hg6 := hg5
      obtain ⟨g, off, cap, hv5, hgl, hop, hgc, hgm⟩ := OpAt.of_own hown5 (by rcases hat5 with e | e <;> rw [e] <;> simp [Value.ownBlock])
      subst hv5
      have hgs := hop.lt
      have HB5 := Lib.hid (((HBW.out.alloc HBW.out.size _)).grown hg5 (by have := HBW.out.size; simp; omega) (fun m hm => by injection hm with hm; simp at hm; have := HBW.out.size; omega))
      have HA1' := Lib.hid (HA1.out.keep (w' := w5) fun n hn => hg5.block n (by have := (HM1.out n hn).2; have := HS2.out; have := HBL.out.size; simp; omega) (fun e => by injection e with e; simp at e; have := (HM1.out n hn).2; have := HS2.out; have := HBL.out.size; omega))
      have HA2' := Lib.hid (HA2.out.keep (w' := w5) fun n hn => hg5.block n (by have := (HM2.out n hn).2; have := HBL.out.size; simp; omega) (fun e => by injection e with e; simp at e; have := (HM2.out n hn).2; have := HBL.out.size; omega))
      simp only [List.nil_append] at hop hgc
      simp only [List.nil_append, hll]
      have hgc : n' ≤ cap := by rw [← hll]; exact hgc
      have HAP : Hid (Apart w w5 M M' g) := Lib.hid ⟨fun n hn => ⟨(HM1.out n hn).1, by have := (HM1.out n hn).2; have := HS2.out; have := HBL.out.size; have := hg5.size; simp at this; omega⟩,
        fun n hn => ⟨by have := (HM2.out n hn).1; have := HS.out; omega, by have := (HM2.out n hn).2; have := HBL.out.size; have := hg5.size; simp at this; omega⟩, by have := HBW.out.size; omega, hgs,
        fun n h1 h2 => by have := (HM1.out n h1).2; have := (HM2.out n h2).1; omega, fun h => by have := (HM1.out g h).2; have := HS2.out; have := HBL.out.size; omega, fun h => by have := (HM2.out g h).2; have := HBL.out.size; omega⟩
      have HST0 := Lib.hid (St.mk (off := off) (Chg.of_below (Below.refl _ _)) HA1'.out HA2'.out hop)
      clear HA1 HA2 HA1' HA2' HM1 HM2 HAT1 HAT2 hg5 hg6 hat5 hgs hgl hop hown5 HBL HBW HS HS2 HB2 HSRC HR hk hk2 hk3 h
      go_loopw [14] (fun i wr => ∃ (k : Nat) (rows rowsu : Rows_), k ≤ n' ∧ i = .int .i64 k ∧ St w5 M M' p q g off (script raw k) rows rowsu wr ∧ rows.length = N ∧ rowsu.length = N' ∧ TabIs code (raw.map conv) k rows ∧ TabIs code (kept raw k) (kept raw k).length rowsu) (fun i _ => n' - (intOf i).toNat)
      case atStart => exact ⟨0, _, _, Nat.zero_le _, rfl, HST0.out, List.length_replicate, List.length_replicate, TabIs.start _, TabIs.start _⟩
      case round =>
        obtain ⟨k', rows, rowsu, hk, rfl, hst, hrl, hru, htab, htabu⟩ := hrel
        have HST := Lib.hid hst; have HT := Lib.hid htab; have HU := Lib.hid htabu
        clear htab htabu
        by_cases hkn : k' < n'
        · have hkn' : (k' : Int) < n' := by omega
          have hkr : k' < raw.length := by omega
          have hsl : k' < (script raw k').length := by rw [script_length raw k' (by omega)]; exact hkr
          obtain ⟨c0, c1, c2, c3, cf⟩ := hst.own.cells k' hsl
          have hgl := hst.own.lt
          have hsat : (script raw k')[k'] = raw[k'] := by have := script_at raw k' hkr; rw [List.getElem?_eq_getElem hsl] at this; exact Option.some.inj this
          rw [hsat] at c0 c1 c2 c3
          obtain ⟨⟨what, level, key, val⟩, ho⟩ : ∃ o, raw[k'] = o := ⟨_, rfl⟩
          rw [ho] at c0 c1 c2 c3
          simp only at c0 c1 c2 c3
          have HO := Lib.hid ho; have HSAT := Lib.hid hsat; clear ho hsat hst
          obtain ⟨z, hz⟩ : ∃ z : Nat, z = key.size % 9 := ⟨_, rfl⟩
          have hz1 : (key.size : Int) % 9 = (z : Int) := by omega
          have hz8 : z ≤ 8 := by omega
          have hz9 : (z : Int) ≤ 9 := by omega
          have HZ := Lib.hid hz; clear hz
          have hconv : conv raw[k'] = ⟨what, level, kk z, val⟩ := by rw [HO.out]; simp [conv, HZ.out]
          have hs1 : script raw (k' + 1) = (script raw k').set k' ⟨what, level, kk z, val⟩ := by rw [script_succ raw k' hkr, hconv]
          have hkz : (kk z).size ≤ maxLen := by rw [kk_size z (by omega)]; unfold maxLen; omega
          have HST1 : Hid (St w5 M M' p q g off (script raw (k' + 1)) rows rowsu (wr.setCell ⟨g, off + k' * 4 + 2, none⟩ (.string (kk z)))) := by
            have h1 := HST.out.turnO HAP.out k' hsl (kk z) hkz
            rw [HSAT.out, HO.out] at h1
            rw [hs1]
            exact Lib.hid h1
          have hcm1 : (raw.map conv)[k']'(by simpa using hkr) = ⟨what, level, kk z, val⟩ := by rw [conv_map raw k' hkr]; exact hconv
          have HC1 := Lib.hid hconv; have HC2 := Lib.hid hcm1
          have HNM : Hid (¬ M wr.heap.size) := Lib.hid fun h => by have := HST.out.lt1 HAP.out _ h; omega
          have HNM2 : Hid (¬ M' wr.heap.size) := Lib.hid fun h => by have := HST.out.lt2 HAP.out _ h; omega
          clear hconv hs1 hcm1 hkz
          by_cases e1 : what = 1
          · subst e1
            have HK : Hid (Blk ((wr.setCell ⟨g, off + k' * 4 + 2, none⟩ (.string (kk z))).alloc (.cells #[.int .i64 1, .int .i64 level, .string (kk z), .int .i64 val] 56)) wr.heap.size 56 #[.int .i64 1, .int .i64 level, .string (kk z), .int .i64 val]) := Lib.hid (by have h := Blk.new (wr.setCell ⟨g, off + k' * 4 + 2, none⟩ (.string (kk z))) 56 #[.int .i64 1, .int .i64 level, .string (kk z), .int .i64 val]; rw [show (wr.setCell ⟨g, off + k' * 4 + 2, none⟩ (.string (kk z))).heap.size = wr.heap.size from by simp] at h; exact h)
            have HST2 := Lib.hid (HST1.out.low HAP.out (below_alloc' _ (.cells #[.int .i64 1, .int .i64 level, .string (kk z), .int .i64 val] 56)))
            have HT1 := Lib.hid (TabIs.upd_put HT.out (by simpa using hkr) (z : Int) ⟨by omega, by omega⟩ (by rw [HC2.out]; rfl) (val, false) (.inl ⟨by rw [HC2.out], by rw [HC2.out]⟩))
            have HU1 := Lib.hid (tabu_put hkr HU.out (z : Int) ⟨by omega, by omega⟩ (by rw [HC1.out]; rfl) (val, false) (.inl ⟨by rw [HO.out], by rw [HO.out]⟩))
            rw [HC2.out] at HT1
            rw [HO.out] at HU1
            go_wp2_with (first
              | (go_at_call 27; refine (set_any _ (HST3.out.lt2 HAP.out) _ _ _ HST3.out.u).mono ?_; rintro e w7 ⟨cc, rfl, hch, ha⟩; have HST4 := Lib.hid (HST3.out.turnU HAP.out hch ha); have HK2 := Lib.hid (HK1.out.chg hch HNM2.out); obtain ⟨kb0, kb1, kb2, kb3⟩ := HK2.out.cells4; have kbl := HK2.out.lt; clear hch ha ka0 ka1 ka2 ka3 kal)
              | (go_at_call 27; refine (set_any _ (HST2.out.lt1 HAP.out) _ _ _ HST2.out.t).mono ?_; rintro e w6 ⟨cc, rfl, hch, ha⟩; have HST3 := Lib.hid (HST2.out.turnT HAP.out hch ha); have HK1 := Lib.hid (HK.out.chg hch HNM.out); obtain ⟨ka0, ka1, ka2, ka3⟩ := HK1.out.cells4; have kal := HK1.out.lt; clear hch ha))
            go_roundw
            case rel => exact ⟨k' + 1, _, _, by omega, by go_num, HST4.out, by rw [upd_length]; exact hrl, by rw [upd_length]; exact hru, HT1.out, HU1.out⟩
            case measure => simp [intOf]; omega
          · by_cases e2 : what = 2
            · subst e2
              have HK : Hid (Blk ((wr.setCell ⟨g, off + k' * 4 + 2, none⟩ (.string (kk z))).alloc (.cells #[.int .i64 2, .int .i64 level, .string (kk z), .int .i64 val] 56)) wr.heap.size 56 #[.int .i64 2, .int .i64 level, .string (kk z), .int .i64 val]) := Lib.hid (by have h := Blk.new (wr.setCell ⟨g, off + k' * 4 + 2, none⟩ (.string (kk z))) 56 #[.int .i64 2, .int .i64 level, .string (kk z), .int .i64 val]; rw [show (wr.setCell ⟨g, off + k' * 4 + 2, none⟩ (.string (kk z))).heap.size = wr.heap.size from by simp] at h; exact h)
              have HST2 := Lib.hid (HST1.out.low HAP.out (below_alloc' _ (.cells #[.int .i64 2, .int .i64 level, .string (kk z), .int .i64 val] 56)))
              have HT1 := Lib.hid (TabIs.upd_put HT.out (by simpa using hkr) (z : Int) ⟨by omega, by omega⟩ (by rw [HC2.out]; rfl) (0, true) (.inr ⟨by rw [HC2.out], rfl⟩))
              have HU1 := Lib.hid (tabu_put hkr HU.out (z : Int) ⟨by omega, by omega⟩ (by rw [HC1.out]; rfl) (0, true) (.inr ⟨by rw [HO.out], rfl⟩))
              rw [HC2.out] at HT1
              rw [HO.out] at HU1
              go_wp2_with (first
                | (go_at_call 29; refine (hide_any _ (HST3.out.lt2 HAP.out) _ _ HST3.out.u).mono ?_; rintro e w7 ⟨cc, rfl, hch, ha⟩; have HST4 := Lib.hid (HST3.out.turnU HAP.out hch ha); have HK2 := Lib.hid (HK1.out.chg hch HNM2.out); obtain ⟨kb0, kb1, kb2, kb3⟩ := HK2.out.cells4; have kbl := HK2.out.lt; clear hch ha ka0 ka1 ka2 ka3 kal)
                | (go_at_call 29; refine (hide_any _ (HST2.out.lt1 HAP.out) _ _ HST2.out.t).mono ?_; rintro e w6 ⟨cc, rfl, hch, ha⟩; have HST3 := Lib.hid (HST2.out.turnT HAP.out hch ha); have HK1 := Lib.hid (HK.out.chg hch HNM.out); obtain ⟨ka0, ka1, ka2, ka3⟩ := HK1.out.cells4; have kal := HK1.out.lt; clear hch ha))
              go_roundw
              case rel => exact ⟨k' + 1, _, _, by omega, by go_num, HST4.out, by rw [upd_length]; exact hrl, by rw [upd_length]; exact hru, HT1.out, HU1.out⟩
              case measure => simp [intOf]; omega
            · by_cases e3 : what = 3
              · subst e3
                have HK : Hid (Blk ((wr.setCell ⟨g, off + k' * 4 + 2, none⟩ (.string (kk z))).alloc (.cells #[.int .i64 3, .int .i64 level, .string (kk z), .int .i64 val] 56)) wr.heap.size 56 #[.int .i64 3, .int .i64 level, .string (kk z), .int .i64 val]) := Lib.hid (by have h := Blk.new (wr.setCell ⟨g, off + k' * 4 + 2, none⟩ (.string (kk z))) 56 #[.int .i64 3, .int .i64 level, .string (kk z), .int .i64 val]; rw [show (wr.setCell ⟨g, off + k' * 4 + 2, none⟩ (.string (kk z))).heap.size = wr.heap.size from by simp] at h; exact h)
                have HST2 := Lib.hid (HST1.out.low HAP.out (below_alloc' _ (.cells #[.int .i64 3, .int .i64 level, .string (kk z), .int .i64 val] 56)))
                have HT1 := Lib.hid (TabIs.upd_clear HT.out (by simpa using hkr) (by rw [HC2.out]))
                have HU1 := Lib.hid (tabu_same hkr HU.out (by rw [HO.out]; simp) (by rw [HO.out]; simp))
                rw [HC2.out] at HT1
                go_wp2_with (first
                  | (go_at_call 30; refine (clear_any _ (HST2.out.lt1 HAP.out) _ HST2.out.t).mono ?_; rintro e w6 ⟨cc, rfl, hch, ha⟩; have HST3 := Lib.hid (HST2.out.turnT HAP.out hch ha); have HK1 := Lib.hid (HK.out.chg hch HNM.out); obtain ⟨ka0, ka1, ka2, ka3⟩ := HK1.out.cells4; have kal := HK1.out.lt; clear hch ha))
                go_roundw
                case rel => exact ⟨k' + 1, _, _, by omega, by go_num, HST3.out, by rw [upd_length]; exact hrl, hru, HT1.out, HU1.out⟩
                case measure => simp [intOf]; omega
              · have _ := trivial
                have HK : Hid (Blk ((wr.setCell ⟨g, off + k' * 4 + 2, none⟩ (.string (kk z))).alloc (.cells #[.int .i64 what, .int .i64 level, .string (kk z), .int .i64 val] 56)) wr.heap.size 56 #[.int .i64 what, .int .i64 level, .string (kk z), .int .i64 val]) := Lib.hid (by have h := Blk.new (wr.setCell ⟨g, off + k' * 4 + 2, none⟩ (.string (kk z))) 56 #[.int .i64 what, .int .i64 level, .string (kk z), .int .i64 val]; rw [show (wr.setCell ⟨g, off + k' * 4 + 2, none⟩ (.string (kk z))).heap.size = wr.heap.size from by simp] at h; exact h)
                have HST2 := Lib.hid (HST1.out.low HAP.out (below_alloc' _ (.cells #[.int .i64 what, .int .i64 level, .string (kk z), .int .i64 val] 56)))
                have b1 : (what == 1) = false := by simpa using e1
                have b2 : (what == 2) = false := by simpa using e2
                have b3 : (what == 3) = false := by simpa using e3
                have HT1 := Lib.hid (Go.Proofs.Ytphloeafgblmnaa.TabIs.other HT.out (by simpa using hkr) (.inr ⟨by rw [HC2.out]; exact e1, by rw [HC2.out]; exact e2, by rw [HC2.out]; exact e3⟩))
                have HU1 := Lib.hid (tabu_same hkr HU.out (by rw [HO.out]; exact e1) (by rw [HO.out]; exact e2))
                clear e1 e2 e3
                by_cases e4 : what < 4
                · go_wp2_with fail
                  go_roundw
                  case rel => exact ⟨k' + 1, _, _, by omega, by go_num, HST2.out, hrl, hru, HT1.out, HU1.out⟩
                  case measure => simp [intOf]; omega
                · have hget := lvI.get _ (z : Int) HST2.out.t (by rw [hrl]; exact hN8)
                  rw [(get_top HT.out hrl z hz8).1, (get_top HT.out hrl z hz8).2] at hget
                  have hsame := getS_same k' (kk z) (fun j hj => script_low raw (k' + 1) j (by omega)) N
                  have hlen : lenAt rows level = cntAt (script raw (k' + 1)) k' N level := (len_top HST2.out.t HT.out hrl (conv_keys raw) level).trans (cntAt_same k' N level fun j hj => (script_low raw (k' + 1) j (by omega)).symm)
                  have hsl1 : (script raw (k' + 1)).length = n' := by rw [script_length raw (k' + 1) (by omega)]; exact hll
                  generalize getS (raw.map conv) k' (kk z) N = gg at hget hsame
                  obtain ⟨g1, g2⟩ := gg
                  generalize hcn : cntAt (script raw (k' + 1)) k' N level = cn at hlen
                  have HCN := Lib.hid hcn; clear hcn
                  have HG := Lib.hid hget; have HGS := Lib.hid hsame; have HLN := Lib.hid hlen; have HSL := Lib.hid hsl1
                  clear hget hsame hlen hsl1
                  go_wp2_with (first
                    | (go_at_call 28; refine HG.out.mono ?_; rintro e w6 ⟨rfl, δ, hw6⟩; have HST3 := Lib.hid (HST2.out.low HAP.out (below_of hw6)); have HK1 := Lib.hid (HK.out.below (below_of hw6) HK.out.lt); obtain ⟨ka0, ka1, ka2, ka3⟩ := HK1.out.cells4; have kal := HK1.out.lt; clear hw6))
                  have HL : ∀ w, Calls Try.prog 19 #[.int .i64 n0] w fun e w' => e = .returned (.int .i64 (N : Int)) ∧ w = w' := fun w => by have h := refLevels n0 w; rw [← HN.out] at h; exact h
                  have HL := Lib.hid HL
                  have HRG := fun δ => Lib.hid (refGet (c := cap) _ ((HST3.out.low HAP.out (below_over w6 δ)).own.row_ HSL.out) (by omega) k' (by omega) N hN8 (kk z))
                  simp only [HGS.out] at HRG
                  refine wp_region_over (by kernel_rfl) (by kernel_rfl) ?_
                  repeat (go_big_quiet_step (first
                    | (go_at_call 19; exact calls_over_same (HL.out _))
                    | (go_at_call 24; exact calls_over (HRG _).out)))
                  refine wpQuiet_nil ?_
                  rintro _ ⟨δ1, rfl⟩
                  clear HRG
                  go_wp2_with fail
                  have HST4 := Lib.hid (HST3.out.low HAP.out (below_over w6 δ1))
                  have HK2 := Lib.hid (HK1.out.over_ δ1)
                  generalize over w6 δ1 = w7 at HST4 HK2 ⊢
                  obtain ⟨kb0, kb1, kb2, kb3⟩ := HK2.out.cells4
                  have kbl := HK2.out.lt
                  clear ka0 ka1 ka2 ka3 kal
                  have HRL := fun δ => Lib.hid (refLen_any (c := cap) _ ((HST4.out.low HAP.out (below_over w7 δ)).own.row_ HSL.out) (by omega) k' (by omega) N hN8 level)
                  have HLE := fun δ => Lib.hid (len_any _ level (HST4.out.low HAP.out (below_over w7 δ)).t)
                  simp only [HLN.out] at HLE
                  simp only [HCN.out] at HRL
                  refine wp_region_over (by kernel_rfl) (by kernel_rfl) ?_
                  repeat (go_big_quiet_step (first
                    | (go_at_call 19; exact calls_over_same (HL.out _))
                    | (go_at_call 25; exact calls_over (HRL _).out)
                    | (go_at_call 31; exact calls_over_same (HLE _).out)))
                  refine wpQuiet_nil ?_
                  rintro _ ⟨δ2, rfl⟩
                  clear HRL HLE
                  have hb1 : ((cn : Int) != (cn : Int)) = false := by simp
                  have hb2 : (g1 != g1) = false := by simp
                  have hb3 : (g2 != g2) = false := by simp
                  go_wp2_with fail
                  go_roundw
                  case rel => exact ⟨k' + 1, _, _, by omega, by go_num, HST4.out.low HAP.out (below_over w7 δ2), hrl, hru, HT1.out, HU1.out⟩
                  case measure => simp [intOf]; omega
        · have hkn' : ¬ (k' : Int) < n' := by omega
          have ek : script raw k' = raw.map conv := script_all raw k' (by omega)
          have ek2 : kept raw k' = kept raw n' := by unfold kept; rw [List.take_of_length_le (by omega), List.take_of_length_le (by omega)]
          rw [ek] at HST
          rw [ek2] at HU
          have hbw := HST.out.below HAP.out HB5.out
          have HBW := Lib.hid hbw
          clear hst ek ek2 hbw
          go_wp2_with fail
          obtain ⟨w0, hw0⟩ : ∃ w0, w0 = wr := ⟨_, rfl⟩
          rw [← hw0] at HST HBW
          go_loopw [21, 22] (fun v i wr => ∃ (j : Nat) (Mx : Nat → Prop), j ≤ n' ∧ i = .int .i64 j ∧ Below w0.heap.size w0 wr ∧ Own Shape.OpD 56 wr w0.heap.size Mx v (kept raw j) ∧ ∀ n, Mx n → w0.heap.size ≤ n) (fun _ i _ => n' - (intOf i).toNat)
          case atStart => exact ⟨0, _, Nat.zero_le _, rfl, by rw [hw0]; exact below_alloc' _ _, by rw [hw0]; exact Own.made _ _ _ _ (Nat.le_refl _), fun _ h => False.elim h⟩
          case round =>
            clear hw0
            obtain ⟨j, Mx, hj, rfl, hbel, hown, hMx⟩ := hrel
            have HO1 := Lib.hid hown; have HMX := Lib.hid hMx; have HBL := Lib.hid hbel
            have hbs := hbel.size
            clear hown hMx hbel
            by_cases hjn : j < n'
            · have hjn' : (j : Int) < n' := by omega
              have hjr : j < raw.length := by omega
              have hjm : j < (raw.map conv).length := by simpa using hjr
              have hown2 := HST.out.own.keep (w' := wr) (HBL.out.block _ HST.out.own.lt)
              have hrow2 := hown2.row
              obtain ⟨c0, c1, c2, c3, cf⟩ := hown2.cells j hjm
              have hgl := hown2.lt
              rw [conv_map raw j hjr] at c0 c1 c2 c3
              have hks := kept_succ raw j hjr
              have hrdw : OpD.rd wr (fun _ => False) [.int .i64 (conv raw[j]).what, .int .i64 (conv raw[j]).level, .string (conv raw[j]).key, .int .i64 (conv raw[j]).val] (conv raw[j]) := by
                obtain ⟨_, _, es, _, _, _, _, hr⟩ := hrow2.at_ (i := j) hjm
                rw [conv_map raw j hjr] at hr
                have e := hr.1
                subst e
                exact hr
              have hwh : (conv raw[j]).what = raw[j].what := rfl
              have hip : isPut raw[j] = ((conv raw[j]).what == 1 || (conv raw[j]).what == 2) := rfl
              clear hwh
              generalize conv raw[j] = o at *
              obtain ⟨what, level, key, val⟩ := o
              simp only at c0 c1 c2 c3 hip
              have HRD := Lib.hid hrdw; have HIP := Lib.hid hip; have HKS := Lib.hid hks
              clear hrdw hip hks hown2 hrow2
              by_cases e1 : what = 1
              · subst e1
                go_wp2_with (first
                  | (at_builtin
                     refine wpList_append_list (v := u21) rfl (.tmp 188) (.tmp 193) _ rfl elem_OpD rfl (HO1.out.alloc _) rfl (Src.single (s := Shape.OpD) _ (fun _ h => False.elim h) HRD.out) ?_ ?_ ?_ ?_ ?_
                     · intro n hn
                       exact False.elim hn
                     · have := kept_length raw j; simp only [List.length_cons, List.length_nil]; omega
                     · have := kept_length raw j; simp only [List.length_cons, List.length_nil, maxLen]; omega
                     · simp; omega
                     intro v' w1 hown' hg hat))
                go_roundw
                case rel =>
                  have e : kept raw (j + 1) = kept raw j ++ [⟨1, level, key, val⟩] := by rw [HKS.out, if_pos (by rw [HIP.out]; simp)]
                  refine ⟨j + 1, _, by omega, by go_num, ?_, by rw [e]; exact hown', ?_⟩
                  · exact (HBL.out.alloc hbs _).grown hg (by simp; omega) (fun m hm => (HO1.out.lt m hm).1)
                  · rintro n (hn | hn)
                    · exact HMX.out n hn
                    · exact False.elim hn
                case measure => simp [intOf]; omega
              · by_cases e2 : what = 2
                · subst e2
                  go_wp2_with (first
                    | (at_builtin
                       refine wpList_append_list (v := u21) rfl (.tmp 188) (.tmp 193) _ rfl elem_OpD rfl (HO1.out.alloc _) rfl (Src.single (s := Shape.OpD) _ (fun _ h => False.elim h) HRD.out) ?_ ?_ ?_ ?_ ?_
                       · intro n hn
                         exact False.elim hn
                       · have := kept_length raw j; simp only [List.length_cons, List.length_nil]; omega
                       · have := kept_length raw j; simp only [List.length_cons, List.length_nil, maxLen]; omega
                       · simp; omega
                       intro v' w1 hown' hg hat))
                  go_roundw
                  case rel =>
                    have e : kept raw (j + 1) = kept raw j ++ [⟨2, level, key, val⟩] := by rw [HKS.out, if_pos (by rw [HIP.out]; simp)]
                    refine ⟨j + 1, _, by omega, by go_num, ?_, by rw [e]; exact hown', ?_⟩
                    · exact (HBL.out.alloc hbs _).grown hg (by simp; omega) (fun m hm => (HO1.out.lt m hm).1)
                    · rintro n (hn | hn)
                      · exact HMX.out n hn
                      · exact False.elim hn
                  case measure => simp [intOf]; omega
                · have b1 : (what == 1) = false := by simpa using e1
                  have b2 : (what == 2) = false := by simpa using e2
                  have E12 := Lib.hid (And.intro e1 e2)
                  clear e1 e2
                  go_wp2_with fail
                  go_roundw
                  case rel =>
                    have e : kept raw (j + 1) = kept raw j := by rw [HKS.out, if_neg (by rw [HIP.out]; simp [E12.out])]; simp
                    exact ⟨j + 1, _, by omega, by go_num, HBL.out, by rw [e]; exact HO1.out, HMX.out⟩
                  case measure => simp [intOf]; omega
            · have hjn' : ¬ (j : Int) < n' := by omega
              have ej : j = n' := by omega
              subst ej
              obtain ⟨Ak, nk, ck, rfl, hkc, hkm, hrowk⟩ := HO1.out.rd_old
              have hlk := hrowk.1
              have HRK := Lib.hid hrowk
              have hatu := low HST.out.u (HST.out.lt2 HAP.out) HBL.out
              have hltu : ∀ n, M' n → n < wr.heap.size := fun n hn => Nat.lt_of_lt_of_le (HST.out.lt2 HAP.out n hn) hbs
              have HATU := Lib.hid hatu; have HLTU := Lib.hid hltu
              have hkl := kept_length raw j
              have hbw2 := HBW.out.trans (HBL.out.mono HBW.out.size)
              have HBW2 := Lib.hid hbw2
              clear hrowk hatu hltu hbw2
              obtain ⟨w1, hw1⟩ : ∃ w1, w1 = wr := ⟨_, rfl⟩
              rw [← hw1] at HRK HATU HLTU HBW2
              go_wp2_with fail
              go_loopw [23] (fun i wr => ∃ m : Nat, m ≤ nk ∧ i = .int .i64 m ∧ Below w1.heap.size w1 wr) (fun i _ => nk - (intOf i).toNat)
              case atStart => exact ⟨0, Nat.zero_le _, rfl, hw1 ▸ Below.refl _ _⟩
              case round =>
                clear hw1
                obtain ⟨m, hm, rfl, hbel⟩ := hrel
                have HB1 := Lib.hid hbel; have hbs1 := hbel.size; clear hbel
                by_cases hmn : m < nk
                · have hmn' : (m : Int) < nk := by omega
                  obtain ⟨b, off', es, hlm, hA, hb, hc, hc0, hr⟩ := HRK.out.elem (Keeps.old HB1.out) hmn
                  subst hA
                  obtain ⟨rfl, -⟩ := hr
                  have e4 : Shape.OpD.size = 4 := rfl
                  simp only [e4] at hc hc0
                  clear e4
                  obtain ⟨z, hz8, hkey⟩ := kept_keys raw j (kept raw j)[m] (List.getElem_mem hlm)
                  obtain ⟨⟨what, level, key, val⟩, ho⟩ : ∃ o, (kept raw j)[m] = o := ⟨_, rfl⟩
                  rw [ho] at hc hc0 hkey
                  simp only at hc hc0 hkey
                  clear ho
                  have hks : (key.size : Int) = (z : Int) := by rw [hkey, kk_size z (by omega)]
                  have hget := lvI.get _ (z : Int) (low HATU.out HLTU.out HB1.out) (by rw [hru]; exact hN8')
                  rw [(get_top HU.out hru z hz8).1, (get_top HU.out hru z hz8).2, ← hkey, hlk] at hget
                  have hb2 : b < wr.heap.size := Nat.lt_of_lt_of_le hb hbs1
                  generalize hgs : getS (kept raw j) nk key N' = gg at hget
                  obtain ⟨g1, g2⟩ := gg
                  have HGS := Lib.hid hgs; have HG := Lib.hid hget
                  clear hgs hget hkey
                  go_wp2_with (first
                    | (go_at_call 28; refine HG.out.mono ?_; rintro e w6 ⟨rfl, δ, hw6⟩; have HB2 := Lib.hid (HB1.out.trans ((below_of hw6).mono hbs1)); clear hw6))
                  have hc6 := fun jj hjj => (HB2.out.cell (p := ⟨b, off' + m * 4 + jj, none⟩) hb).trans ((HB1.out.cell (p := ⟨b, off' + m * 4 + jj, none⟩) hb).symm.trans (hc jj hjj))
                  have hc06 := (HB2.out.cell (p := ⟨b, off' + m * 4, none⟩) hb).trans ((HB1.out.cell (p := ⟨b, off' + m * 4, none⟩) hb).symm.trans hc0)
                  have hb6 : b < w6.heap.size := Nat.lt_of_lt_of_le hb HB2.out.size
                  have HL : ∀ w, Calls Try.prog 19 #[.int .i64 m0] w fun e w' => e = .returned (.int .i64 (N' : Int)) ∧ w = w' := fun w => by have h := refLevels m0 w; rw [← HN'.out] at h; exact h
                  have HL := Lib.hid HL
                  have HRG := fun δ => Lib.hid (refGet (c := ck) _ (HRK.out.below (below_trans_over HB2.out HB2.out.size δ)) (by omega) nk (Nat.le_refl _) N' hN8' key)
                  simp only [HGS.out] at HRG
                  clear hc hc0
                  refine wp_region_over (by kernel_rfl) (by kernel_rfl) ?_
                  repeat (go_big_quiet_step (first
                    | (go_at_call 19; exact calls_over_same (HL.out _))
                    | (go_at_call 24; exact calls_over (HRG _).out)))
                  refine wpQuiet_nil ?_
                  rintro _ ⟨δ1, rfl⟩
                  clear HRG
                  have hb2 : (g1 != g1) = false := by simp
                  have hb3 : (g2 != g2) = false := by simp
                  go_wp2_with fail
                  go_roundw
                  case rel => exact ⟨m + 1, by omega, by go_num, below_trans_over HB2.out HB2.out.size δ1⟩
                  case measure => simp [intOf]; omega
                · have hmn' : ¬ (m : Int) < nk := by omega
                  go_wp2_with fail
                  go_ret
                  exact ⟨rfl, HBW2.out.trans (HB1.out.mono HBW2.out.size)⟩
end Go.Proofs.Ytphloeafgblmnaa.overlayNumbers
