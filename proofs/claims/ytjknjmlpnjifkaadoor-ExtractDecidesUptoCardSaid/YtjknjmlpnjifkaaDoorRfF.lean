/- The document's check of a pattern, its hits, names that are wanted. No condition but room. -/
import Derived.Test.YtjknjmlpnjifkaaDoorRfE
import Derived.Lib.Strings
namespace Go.Proofs.YtjknjmlpnjifkaaDoor
open Go.RowKit
set_option linter.unusedVariables false
set_option linter.unusedSimpArgs false
attribute [local go_sem] cell?_over frozen?_over lt_over le_over
theorem check_zero {p : List UInt8} (h : checkE p = 0) : p.length ≤ 4096 ∧ ∃ ts, readB p 0 = some ts := by
  unfold checkE at h
  by_cases h4 : 4096 < p.length
  · rw [if_pos h4] at h; exact absurd h (by decide)
  · rw [if_neg h4] at h
    cases hr : readB p 0 with
    | none => rw [hr] at h; exact absurd h (by decide)
    | some ts => exact ⟨by omega, ts, rfl⟩
set_option maxHeartbeats 400000 in
theorem rfCheck (s : ByteArray) (w : World) (hs : s.size ≤ 9223372036854775807) :
    Calls Tryd.prog 41 #[.string s] w fun e w' => e = .returned (.int .i64 (checkE s.data.toList)) ∧ Below w.heap.size w w' := by
  by_cases h4 : 4096 < s.size
  · have HC := Lib.hid (show checkE s.data.toList = 21 by unfold checkE; rw [len_data', if_pos h4])
    have c1 : decide ((s.size : Int) > 4096) = true := by simp; omega
    go_enter Tryd.func41, Tryd.ntmps41
    go_wp2_with fail
    go_ret
    exact ⟨by rw [HC.out]; rfl, Below.refl _ _⟩
  · have c1 : decide ((s.size : Int) > 4096) = false := by simp; omega
    have HR := Lib.hid (fun w => rfRead s w (by omega))
    obtain ⟨R, hR⟩ : ∃ R, R = readB s.data.toList 0 := ⟨_, rfl⟩
    have HC := Lib.hid (show checkE s.data.toList = if R.isSome then 0 else 110 by unfold checkE; rw [len_data', if_neg h4, hR])
    unfold ReadVEnd at HR
    rw [← hR] at HR
    clear hR h4
    go_enter Tryd.func41, Tryd.ntmps41
    go_wp2_with fail
    refine (HR.out _).mono ?_
    rintro e w2 ⟨hb, hm⟩
    have HB := Lib.hid hb
    clear hb
    cases R with
    | none =>
      subst hm
      go_wp2_with fail
      go_ret
      exact ⟨by rw [HC.out]; rfl, HB.out⟩
    | some ts =>
      obtain ⟨v, rfl, _⟩ := hm
      go_wp2_with fail
      go_ret
      exact ⟨by rw [HC.out]; rfl, HB.out⟩
set_option maxHeartbeats 2000000 in
set_option maxRecDepth 100000 in
theorem rfHits {A : Option Addr} {n c : Nat} {l : List ByteArray} (x : ByteArray) (w : World) (h : Row Shape.str w (Old w) A n l) (hn : n ≤ 140737488355328) (hx : x.size ≤ 100000000) (hok : ∀ p ∈ bytesL l, checkE p = 0) :
    Calls Tryd.prog 42 #[.slice A n c, .string x] w fun e w' => e = .returned (.bool ((bytesL l).any (hitsP x.data.toList))) ∧ Below w.heap.size w w' := by
  have H := Lib.hid h
  have HL := Lib.hid h.1
  have OK := Lib.hid hok
  obtain ⟨X, hX⟩ : ∃ X, X = x.data.toList := ⟨_, rfl⟩
  have HXL : Hid (X.length = x.size) := Lib.hid (by rw [hX, len_data'])
  have HTX : Hid (∀ i (hi : i < x.size), tx X i = x[i]) := Lib.hid fun i hi => by rw [hX, tx_at hi]
  have HEX : Hid (∀ i, (x.extract 0 i).data.toList = X.take i) := Lib.hid fun i => by rw [hX, Lib.extract_data, List.drop_zero, Nat.sub_zero]
  obtain ⟨RV, hRV⟩ : ∃ v, v = (bytesL l).any (hitsP X) := ⟨_, rfl⟩
  rw [← hX, ← hRV]
  have HRV := Lib.hid hRV
  clear h hok hX hRV
  go_enter Tryd.func42, Tryd.ntmps42
  go_wp2_with fail
  go_loopw [5] (fun it wr => ∃ k : Nat, it = .int .i64 k ∧ k ≤ n ∧ (∀ i (hi : i < k) (hl : i < l.length), hitsP X (l[i]).data.toList = false) ∧ Below w.heap.size w wr) (fun it _ => n - (intOf it).toNat)
  case atStart => exact ⟨0, rfl, Nat.zero_le _, fun i hi => absurd hi (Nat.not_lt_zero _), Below.refl _ _⟩
  case round =>
    obtain ⟨k, rfl, hk, hno, hb⟩ := hrel
    have NO := Lib.hid hno; have B := Lib.hid hb
    clear hno hb
    by_cases hkn : k < n
    · obtain ⟨b, off, hl, hA, hbl, hcell, hsz⟩ := str_cell (H.out.below B.out) hkn
      subst hA
      obtain ⟨s, hs⟩ : ∃ s, s = l[k] := ⟨_, rfl⟩
      rw [← hs] at hcell
      have hc0 : checkE s.data.toList = 0 := OK.out _ (List.mem_map.2 ⟨s, by rw [hs]; exact List.getElem_mem hl, rfl⟩)
      obtain ⟨h4, ts, hts⟩ := check_zero hc0
      rw [len_data'] at h4
      have HR := Lib.hid (fun w => rfRead s w h4)
      unfold ReadVEnd at HR
      rw [hts] at HR
      have HS := Lib.hid hs; have HLK := Lib.hid hl
      have KD := Lib.hid (readB_kind _ _ (Nat.le_refl _) hts)
      have TSL : ts.length ≤ 4096 := by
        rcases readB_len _ _ (Nat.le_refl _) hts with h | h
        · rw [len_data'] at h; omega
        · rw [h]; simp
      have HP : Hid (hitsP X s.data.toList = hitsT ts X) := Lib.hid (by unfold hitsP; rw [hts])
      clear hs hsz hc0 hts hbl
      go_wp2_with fail
      refine (HR.out _).mono ?_
      rintro e w2 ⟨hb2, v, rfl, hown⟩
      obtain ⟨A2, n2, c2, rfl, _, _, hrow⟩ := hown.rd_old
      have hn2 := hrow.1
      subst hn2
      have B2 := Lib.hid (below_old B.out hb2)
      have ROW := Lib.hid hrow
      clear hb2 hown hrow
      go_wp2_with fail
      go_loopw [8] (fun it wq => ∃ i : Nat, it = .int .i64 i ∧ i ≤ x.size + 1 ∧ (∀ j, j < i → hitAt ts X j = false) ∧ Below w2.heap.size w2 wq) (fun it _ => x.size + 1 - (intOf it).toNat)
      case atStart => exact ⟨0, rfl, Nat.zero_le _, fun j hj => absurd hj (Nat.not_lt_zero _), Below.refl _ _⟩
      case round =>
        obtain ⟨i, rfl, hi, hnoi, hbi⟩ := hrel
        have NI := Lib.hid hnoi; have BI := Lib.hid hbi
        clear hnoi hbi
        by_cases hle : i ≤ x.size
        · have MT : Hid (∀ W, Row Shape.Pie W (Old W) A2 ts.length ts → Calls Tryd.prog 57 #[.slice A2 ts.length c2, .string (x.extract 0 i)] W fun e w' => e = .returned (.bool (reach ts X ts.length i)) ∧ Below W.heap.size W w') := Lib.hid fun W hW => by
            have hsz : (x.extract 0 i).size = i := by rw [ByteArray.size_extract]; omega
            have := rfMatches (c := c2) (x.extract 0 i) W hW KD.out (by omega) (by omega)
            rw [HEX.out, hsz, ← reach_take ts X (by rw [HXL.out]; exact hle) ts.length i (Nat.le_refl _)] at this
            exact this
          obtain ⟨rv, hrv⟩ : ∃ v, v = reach ts X ts.length i := ⟨_, rfl⟩
          rw [← hrv] at MT
          have HRI := Lib.hid hrv
          clear hrv
          have HA : Hid (hitAt ts X i = ((i == x.size || tx X i == 47) && rv)) := Lib.hid (by unfold hitAt; rw [HXL.out, HRI.out])
          have YES : Hid (hitAt ts X i = true → RV = true) := Lib.hid fun hh => by
            rw [HRV.out, List.any_eq_true]
            refine ⟨s.data.toList, List.mem_map.2 ⟨s, by rw [HS.out]; exact List.getElem_mem HLK.out, rfl⟩, ?_⟩
            rw [HP.out]
            exact hits_yes (i := i) (by rw [HXL.out]; exact hle) hh
          obtain ⟨g, hg⟩ : ∃ g, g = (i == x.size || tx X i == 47) := ⟨_, rfl⟩
          have HG := Lib.hid hg
          have ti : ((i : Int) == x.size) = (i == x.size) := by rw [Bool.eq_iff_iff, beq_iff_eq, beq_iff_eq]; omega
          by_cases hend : i = x.size
          · have t1 : ((i : Int) == x.size) = true := by rw [ti]; simpa using hend
            have HA2 : Hid (hitAt ts X i = rv) := Lib.hid (by rw [HA.out, show (i == x.size) = true by simpa using hend]; rfl)
            have HE := Lib.hid hend
            clear hg ti hend
            go_wp2_with fail
            refine (MT.out _ (ROW.out.below BI.out)).mono ?_
            rintro e w3 ⟨rfl, hb3⟩
            have BI3 := Lib.hid (below_old BI.out hb3)
            clear hb3
            cases rv with
            | true =>
              go_wp2_with fail
              go_ret
              exact ⟨by rw [YES.out HA2.out]; rfl, below_old B2.out BI3.out⟩
            | false =>
              go_wp2_with fail
              go_roundw
              case rel => exact ⟨i + 1, by go_num, by omega, fun j hj => by
                by_cases hji : j = i
                · rw [hji]; exact HA2.out
                · exact NI.out j (by omega), BI3.out⟩
              case measure => simp [intOf]; omega
          · have hlt : i < x.size := by omega
            have t1 : ((i : Int) == x.size) = false := by rw [ti]; simpa using hend
            have HA1 : Hid (hitAt ts X i = ((x[i] == 47) && rv)) := Lib.hid (by rw [HA.out, show (i == x.size) = false by simpa using hend, HTX.out i hlt]; rfl)
            clear hg ti hend
            by_cases h47 : x[i] = 47
            · have t47 : ((x[i].toNat : Int) == 47) = true := by rw [h47]; rfl
              have HA2 : Hid (hitAt ts X i = rv) := Lib.hid (by rw [HA1.out, h47]; rfl)
              clear h47
              go_wp2_with fail
              refine (MT.out _ (ROW.out.below BI.out)).mono ?_
              rintro e w3 ⟨rfl, hb3⟩
              have BI3 := Lib.hid (below_old BI.out hb3)
              clear hb3
              cases rv with
              | true =>
                go_wp2_with fail
                go_ret
                exact ⟨by rw [YES.out HA2.out]; rfl, below_old B2.out BI3.out⟩
              | false =>
                go_wp2_with fail
                go_roundw
                case rel => exact ⟨i + 1, by go_num, by omega, fun j hj => by
                  by_cases hji : j = i
                  · rw [hji]; exact HA2.out
                  · exact NI.out j (by omega), BI3.out⟩
                case measure => simp [intOf]; omega
            · have t47 : ((x[i].toNat : Int) == 47) = false := by
                rw [beq_eq_false_iff_ne]
                intro e
                exact h47 (UInt8.toNat_inj.1 (by have e47 : (47 : UInt8).toNat = 47 := rfl; omega))
              have HA2 : Hid (hitAt ts X i = false) := Lib.hid (by rw [HA1.out, show (x[i] == 47) = false from beq_eq_false_iff_ne.2 h47]; rfl)
              clear h47
              go_wp2_with fail
              go_roundw
              case rel => exact ⟨i + 1, by go_num, by omega, fun j hj => by
                by_cases hji : j = i
                · rw [hji]; exact HA2.out
                · exact NI.out j (by omega), BI.out⟩
              case measure => simp [intOf]; omega
        · have HF : Hid (hitsP X s.data.toList = false) := Lib.hid (by
            rw [HP.out, hits_end (ts := ts) (x := X) (fun j hj => NI.out j (by rw [HXL.out] at hj; omega))]
            have := NI.out X.length (by rw [HXL.out]; omega)
            unfold hitAt at this
            simpa using this)
          go_wp2_with fail
          go_roundw
          case rel => exact ⟨k + 1, by go_num, by omega, fun i hi hl => by
            by_cases hik : i = k
            · subst hik; rw [← HS.out]; exact HF.out
            · exact NO.out i (by omega) hl, below_old B2.out BI.out⟩
          case measure => simp [intOf]; omega
    · have HF : Hid (RV = false) := Lib.hid (by
        rw [HRV.out, List.any_eq_false]
        intro p hp
        obtain ⟨q, hq, rfl⟩ := List.mem_map.1 hp
        obtain ⟨i, hi, rfl⟩ := List.getElem_of_mem hq
        rw [NO.out i (by have := HL.out; omega) hi]
        decide)
      go_wp2_with fail
      go_ret
      exact ⟨by rw [HF.out]; rfl, B.out⟩
end Go.Proofs.YtjknjmlpnjifkaaDoor
