/- The document's choice: names that are wanted. No condition but room. -/
import Derived.Test.YtjknjmlpnjifkaaDoorRfF
import Derived.Test.YtjknjmlpnjifkaaDoorSvJ
namespace Go.Proofs.YtjknjmlpnjifkaaDoor
open Go.RowKit
set_option linter.unusedVariables false
set_option linter.unusedSimpArgs false
attribute [local go_sem] cell?_over frozen?_over lt_over le_over
set_option maxHeartbeats 2000000 in
set_option maxRecDepth 100000 in
theorem rfChosen {A1 A2 : Option Addr} {n1 c1 n2 c2 : Nat} {inc exc : List ByteArray} (x : ByteArray) (w : World) (h1 : Row Shape.str w (Old w) A1 n1 inc) (h2 : Row Shape.str w (Old w) A2 n2 exc) (hn1 : n1 ≤ 140737488355328) (hn2 : n2 ≤ 140737488355328) (hx : x.size ≤ 100000000) :
    Calls Tryd.prog 24 #[.slice A1 n1 c1, .slice A2 n2 c2, .string x] w fun e w' => e = .returned (.tuple #[.bool (chosenV (bytesL inc) (bytesL exc) x.data.toList), .int .i64 (chosenE (bytesL inc) (bytesL exc))]) ∧ Below w.heap.size w w' := by
  have H1 := Lib.hid h1; have H2 := Lib.hid h2
  have L1 := Lib.hid h1.1; have L2 := Lib.hid h2.1
  obtain ⟨CV, hCV⟩ : ∃ v, v = chosenV (bytesL inc) (bytesL exc) x.data.toList := ⟨_, rfl⟩
  obtain ⟨CE, hCE⟩ : ∃ v, v = chosenE (bytesL inc) (bytesL exc) := ⟨_, rfl⟩
  rw [← hCV, ← hCE]
  have HV := Lib.hid hCV; have HE := Lib.hid hCE
  obtain ⟨W0, hW0⟩ : ∃ v, v = inc.isEmpty := ⟨_, rfl⟩
  have t0 : ((n1 : Int) == 0) = W0 := by
    rw [hW0, ← h1.1]
    cases inc <;> simp
    omega
  have HW0 := Lib.hid hW0
  clear h1 h2 hCV hCE hW0
  go_enter Tryd.func24, Tryd.ntmps24
  go_wp2_with fail
  go_loopw [8] (fun it wr => ∃ k : Nat, it = .int .i64 k ∧ k ≤ n1 ∧ (∀ i (hi : i < k) (hl : i < inc.length), checkE (inc[i]).data.toList = 0) ∧ Below w.heap.size w wr) (fun it _ => n1 - (intOf it).toNat)
  case atStart => exact ⟨0, rfl, Nat.zero_le _, fun i hi => absurd hi (Nat.not_lt_zero _), Below.refl _ _⟩
  case round =>
    obtain ⟨k, rfl, hk, hall, hb⟩ := hrel
    have ALinc := Lib.hid hall; have HBinc := Lib.hid hb
    clear hall hb
    by_cases hlt : k < n1
    · obtain ⟨b, off, hl, hA, hbl, hcell, hsz⟩ := str_cell (H1.out.below HBinc.out) hlt
      subst hA
      have hsz' : (inc[k]).size ≤ 9223372036854775807 := hsz
      obtain ⟨s, hs⟩ : ∃ s, s = inc[k] := ⟨_, rfl⟩
      rw [← hs] at hcell hsz'
      have HS := Lib.hid hs
      have HLK := Lib.hid hl
      clear hs hsz
      obtain ⟨E, hE⟩ : ∃ E, E = checkE s.data.toList := ⟨_, rfl⟩
      have HCK := Lib.hid (fun w => rfCheck s w hsz')
      rw [← hE] at HCK
      have ER := Lib.hid hE
      clear hE hsz'
      go_wp2_with fail
      refine (HCK.out _).mono ?_
      rintro e w2 ⟨rfl, hb2⟩
      have HB2 := Lib.hid (below_old HBinc.out hb2)
      clear hb2
      by_cases hE0 : E = 0
      · subst hE0
        have ALN : Hid (∀ i (hi : i < k + 1) (hl : i < inc.length), checkE (inc[i]).data.toList = 0) := Lib.hid fun i hi hl => by
          by_cases hik : i = k
          · subst hik; rw [← HS.out]; exact ER.out.symm
          · exact ALinc.out i (by omega) hl
        go_wp2_with fail
        go_roundw
        case rel => exact ⟨k + 1, by go_num, by omega, ALN.out, HB2.out⟩
        case measure => simp [intOf]; omega
      · have tE : (E != 0) = true := by rw [bne_iff_ne]; exact hE0
        have NE := Lib.hid hE0
        clear hE0
        go_wp2_with fail
        go_ret2
        have hf : firstE (bytesL inc) = E := by
          have := first_at (l := bytesL inc) (k := k) (by simpa using HLK.out) (fun i hi => by have := ALinc.out i hi (by have := HLK.out; omega); simpa using this) (by simp only [List.getElem_map]; rw [← HS.out, ← ER.out]; exact NE.out)
          rw [this]
          simp only [List.getElem_map]
          rw [← HS.out, ER.out]
        refine ⟨?_, HB2.out⟩
        have h1 : CE = E := by rw [HE.out]; unfold chosenE; rw [if_neg (by rw [hf]; exact NE.out), hf]
        have h2 : CV = false := by rw [HV.out]; unfold chosenV; rw [← HE.out, h1]; simp [NE.out]
        rw [h1, h2]; rfl
    · have AAinc : Hid (∀ p ∈ bytesL inc, checkE p = 0) := Lib.hid fun p hp => by
        obtain ⟨q, hq, rfl⟩ := List.mem_map.1 hp
        obtain ⟨i, hi, rfl⟩ := List.getElem_of_mem hq
        have := L1.out
        exact ALinc.out i (by omega) hi
      clear ALinc
      have hninc := hlt
      clear hlt hk
      go_wp2_with fail
      go_loopw [10] (fun it wr => ∃ k : Nat, it = .int .i64 k ∧ k ≤ n2 ∧ (∀ i (hi : i < k) (hl : i < exc.length), checkE (exc[i]).data.toList = 0) ∧ Below w.heap.size w wr) (fun it _ => n2 - (intOf it).toNat)
      case atStart => exact ⟨0, rfl, Nat.zero_le _, fun i hi => absurd hi (Nat.not_lt_zero _), HBinc.out⟩
      case round =>
        obtain ⟨k, rfl, hk, hall, hb⟩ := hrel
        have ALexc := Lib.hid hall; have HBexc := Lib.hid hb
        clear hall hb
        by_cases hlt : k < n2
        · obtain ⟨b, off, hl, hA, hbl, hcell, hsz⟩ := str_cell (H2.out.below HBexc.out) hlt
          subst hA
          have hsz' : (exc[k]).size ≤ 9223372036854775807 := hsz
          obtain ⟨s, hs⟩ : ∃ s, s = exc[k] := ⟨_, rfl⟩
          rw [← hs] at hcell hsz'
          have HS := Lib.hid hs
          have HLK := Lib.hid hl
          clear hs hsz
          obtain ⟨E, hE⟩ : ∃ E, E = checkE s.data.toList := ⟨_, rfl⟩
          have HCK := Lib.hid (fun w => rfCheck s w hsz')
          rw [← hE] at HCK
          have ER := Lib.hid hE
          clear hE hsz'
          go_wp2_with fail
          refine (HCK.out _).mono ?_
          rintro e w2 ⟨rfl, hb2⟩
          have HB2 := Lib.hid (below_old HBexc.out hb2)
          clear hb2
          by_cases hE0 : E = 0
          · subst hE0
            have ALN : Hid (∀ i (hi : i < k + 1) (hl : i < exc.length), checkE (exc[i]).data.toList = 0) := Lib.hid fun i hi hl => by
              by_cases hik : i = k
              · subst hik; rw [← HS.out]; exact ER.out.symm
              · exact ALexc.out i (by omega) hl
            go_wp2_with fail
            go_roundw
            case rel => exact ⟨k + 1, by go_num, by omega, ALN.out, HB2.out⟩
            case measure => simp [intOf]; omega
          · have tE : (E != 0) = true := by rw [bne_iff_ne]; exact hE0
            have NE := Lib.hid hE0
            clear hE0
            go_wp2_with fail
            go_ret2
            have hf : firstE (bytesL exc) = E := by
              have := first_at (l := bytesL exc) (k := k) (by simpa using HLK.out) (fun i hi => by have := ALexc.out i hi (by have := HLK.out; omega); simpa using this) (by simp only [List.getElem_map]; rw [← HS.out, ← ER.out]; exact NE.out)
              rw [this]
              simp only [List.getElem_map]
              rw [← HS.out, ER.out]
            refine ⟨?_, HB2.out⟩
            have h1 : CE = E := by rw [HE.out]; unfold chosenE; rw [if_pos (first_all AAinc.out), hf]
            have h2 : CV = false := by rw [HV.out]; unfold chosenV; rw [← HE.out, h1]; simp [NE.out]
            rw [h1, h2]; rfl
        · have AAexc : Hid (∀ p ∈ bytesL exc, checkE p = 0) := Lib.hid fun p hp => by
            obtain ⟨q, hq, rfl⟩ := List.mem_map.1 hp
            obtain ⟨i, hi, rfl⟩ := List.getElem_of_mem hq
            have := L2.out
            exact ALexc.out i (by omega) hi
          clear ALexc
          have hnexc := hlt
          clear hlt hk
          have HCE : Hid (CE = 0) := Lib.hid (by rw [HE.out]; unfold chosenE; rw [if_pos (first_all AAinc.out), first_all AAexc.out])
          obtain ⟨V1, hV1⟩ : ∃ v, v = (bytesL inc).any (hitsP x.data.toList) := ⟨_, rfl⟩
          obtain ⟨V2, hV2⟩ : ∃ v, v = (bytesL exc).any (hitsP x.data.toList) := ⟨_, rfl⟩
          have HCV : Hid (CV = ((W0 || V1) && !V2)) := Lib.hid (by
            rw [HV.out]
            unfold chosenV
            rw [← HE.out, HCE.out, HW0.out, hV1, hV2]
            simp)
          have HT1 := Lib.hid (fun w (h : Row Shape.str w (Old w) A1 n1 inc) => rfHits (c := c1) x w h hn1 hx AAinc.out)
          have HT2 := Lib.hid (fun w (h : Row Shape.str w (Old w) A2 n2 exc) => rfHits (c := c2) x w h hn2 hx AAexc.out)
          rw [← hV1] at HT1
          rw [← hV2] at HT2
          clear hV1 hV2 AAinc AAexc HE HV
          have second : ∀ wx, Below w.heap.size w wx → Calls Tryd.prog 42 #[.slice A2 n2 c2, .string x] wx fun e w' => e = .returned (.bool V2) ∧ Below w.heap.size w w' := fun wx hb => (HT2.out wx (H2.out.below hb)).mono fun e w' hh => ⟨hh.1, below_old hb hh.2⟩
          have SEC := Lib.hid second
          clear second
          cases W0 with
          | true =>
            go_wp2_with fail
            refine (SEC.out _ HBexc.out).mono ?_
            rintro e w3 ⟨rfl, hb3⟩
            have HB3 := Lib.hid hb3
            clear hb3
            cases V2 <;> (
              go_wp2_with fail
              go_ret2
              exact ⟨by rw [HCE.out, HCV.out]; rfl, HB3.out⟩)
          | false =>
            go_wp2_with fail
            refine (HT1.out _ (H1.out.below HBexc.out)).mono ?_
            rintro e w2 ⟨rfl, hb2⟩
            have HB2 := Lib.hid (below_old HBexc.out hb2)
            clear hb2
            cases V1 with
            | false =>
              go_wp2_with fail
              go_ret2
              exact ⟨by rw [HCE.out, HCV.out]; rfl, HB2.out⟩
            | true =>
              go_wp2_with fail
              refine (SEC.out _ HB2.out).mono ?_
              rintro e w3 ⟨rfl, hb3⟩
              have HB3 := Lib.hid hb3
              clear hb3
              cases V2 <;> (
                go_wp2_with fail
                go_ret2
                exact ⟨by rw [HCE.out, HCV.out]; rfl, HB3.out⟩)
end Go.Proofs.YtjknjmlpnjifkaaDoor
