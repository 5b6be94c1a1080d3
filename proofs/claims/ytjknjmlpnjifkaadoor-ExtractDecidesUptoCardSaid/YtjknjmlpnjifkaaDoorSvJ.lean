/- The sieve: names that are wanted. No condition but room. -/
import Derived.Test.YtjknjmlpnjifkaaDoorSvI
namespace Go.Proofs.YtjknjmlpnjifkaaDoor
open Go.RowKit
set_option linter.unusedVariables false
set_option linter.unusedSimpArgs false
attribute [local go_sem] cell?_over frozen?_over lt_over le_over
/-- texts as lists of bytes -/
abbrev bytesL (l : List ByteArray) : List (List UInt8) := l.map (·.data.toList)
theorem comp_parts {s : ByteArray} {w w' : World} {e : Ending} (h : CompEnd s w e w') : Below w.heap.size w w' ∧ ((checkE s.data.toList ≠ 0 ∧ e = .returned (.tuple #[.slice none 0 0, .int .i64 (checkE s.data.toList)])) ∨
    (checkE s.data.toList = 0 ∧ ∃ (ts : List Tok) (A : Option Addr) (c : Nat), readB s.data.toList 0 = some ts ∧ e = .returned (.tuple #[.slice A ts.length c, .int .i64 0]) ∧ Row Shape.Tok w' (Old w') A ts.length ts ∧ ts.length ≤ 4096)) := by
  obtain ⟨hb, hm⟩ := h
  refine ⟨hb, ?_⟩
  have hl : s.data.toList.length = s.size := len_data' s
  unfold checkE
  by_cases h4 : 4096 < s.size
  · rw [if_pos h4] at hm
    rw [if_pos (by rw [hl]; exact h4)]
    exact .inl ⟨by decide, hm⟩
  · rw [if_neg h4] at hm
    rw [if_neg (by rw [hl]; exact h4)]
    cases hr : readB s.data.toList 0 with
    | none =>
      rw [hr] at hm
      exact .inl ⟨by decide, hm⟩
    | some ts =>
      rw [hr] at hm
      obtain ⟨v, rfl, hown⟩ := hm
      obtain ⟨A, n, c, rfl, hnc, _, hrow⟩ := hown.rd_old
      have := hrow.1
      subst this
      refine .inr ⟨rfl, ts, A, c, rfl, rfl, hrow, ?_⟩
      rcases readB_len _ _ (Nat.le_refl _) hr with h | h
      · rw [hl] at h; omega
      · rw [h]; simp
theorem first_all {l : List (List UInt8)} (h : ∀ p ∈ l, checkE p = 0) : firstE l = 0 := by
  induction l with
  | nil => rfl
  | cons p l ih =>
    unfold firstE
    rw [if_pos (h p (by simp))]
    exact ih fun q hq => h q (by simp [hq])
theorem first_at {l : List (List UInt8)} {k : Nat} (hk : k < l.length) (h : ∀ i (hi : i < k), checkE (l[i]'(by omega)) = 0) (hne : checkE l[k] ≠ 0) : firstE l = checkE l[k] := by
  induction l generalizing k with
  | nil => simp at hk
  | cons p l ih =>
    unfold firstE
    cases k with
    | zero =>
      simp only [List.getElem_cons_zero] at hne ⊢
      rw [if_neg hne]
    | succ k =>
      have h0 := h 0 (by omega)
      simp only [List.getElem_cons_zero] at h0
      rw [if_pos h0]
      simp only [List.getElem_cons_succ] at hne ⊢
      exact ih (by simpa using hk) (fun i hi => by have := h (i + 1) (by omega); simpa using this) hne
theorem any_take {l : List (List UInt8)} {f : List UInt8 → Bool} {k : Nat} (hk : k < l.length) : (l.take (k + 1)).any f = ((l.take k).any f || f l[k]) := by
  rw [List.take_succ_eq_append_getElem hk, List.any_append]
  simp
set_option maxHeartbeats 2000000 in
set_option maxRecDepth 100000 in
theorem svChosen {A1 A2 : Option Addr} {n1 c1 n2 c2 : Nat} {inc exc : List ByteArray} (x : ByteArray) (w : World) (h1 : Row Shape.str w (Old w) A1 n1 inc) (h2 : Row Shape.str w (Old w) A2 n2 exc) (hn1 : n1 ≤ 140737488355328) (hn2 : n2 ≤ 140737488355328) (hx : x.size ≤ 140737488355328) :
    Calls Tryd.prog 13 #[.slice A1 n1 c1, .slice A2 n2 c2, .string x] w fun e w' => e = .returned (.tuple #[.bool (chosenV (bytesL inc) (bytesL exc) x.data.toList), .int .i64 (chosenE (bytesL inc) (bytesL exc))]) ∧ Below w.heap.size w w' := by
  have H1 := Lib.hid h1; have H2 := Lib.hid h2
  have L1 := Lib.hid h1.1; have L2 := Lib.hid h2.1
  obtain ⟨CV, hCV⟩ : ∃ v, v = chosenV (bytesL inc) (bytesL exc) x.data.toList := ⟨_, rfl⟩
  obtain ⟨CE, hCE⟩ : ∃ v, v = chosenE (bytesL inc) (bytesL exc) := ⟨_, rfl⟩
  rw [← hCV, ← hCE]
  have HV := Lib.hid hCV; have HE := Lib.hid hCE
  obtain ⟨W0, hW0⟩ : ∃ v, v = inc.isEmpty := ⟨_, rfl⟩
  have t0 : ((n1 : Int) == 0) = W0 := by
    rw [hW0, ← h1.1]
    cases inc <;> simp
    omega
  have HW0 := Lib.hid hW0
  clear h1 h2 hCV hCE hW0
  go_enter Tryd.func13, Tryd.ntmps13
  go_wp2_with fail
  go_loopw [8, 23] (fun v it wr => ∃ k : Nat, it = .int .i64 k ∧ k ≤ n1 ∧ v = .bool (W0 || ((bytesL inc).take k).any (hitsP x.data.toList)) ∧ (∀ i (hi : i < k) (hl : i < inc.length), checkE (inc[i]).data.toList = 0) ∧ Below w.heap.size w wr) (fun _ it _ => n1 - (intOf it).toNat)
  case atStart => exact ⟨0, rfl, Nat.zero_le _, by simp, fun i hi => absurd hi (Nat.not_lt_zero _), Below.refl _ _⟩
  case round =>
    obtain ⟨k, rfl, hk, rfl, hall, hb⟩ := hrel
    have ALinc := Lib.hid hall; have HBinc := Lib.hid hb
    clear hall hb
    obtain ⟨V, hV⟩ : ∃ V, V = (W0 || ((bytesL inc).take k).any (hitsP x.data.toList)) := ⟨_, rfl⟩
    rw [← hV]
    have VV := Lib.hid hV
    clear hV
    by_cases hlt : k < n1
    · obtain ⟨b, off, hl, hA, hbl, hcell, hsz⟩ := str_cell (H1.out.below HBinc.out) hlt
      subst hA
      have hsz' : (inc[k]).size ≤ 9223372036854775807 := hsz
      obtain ⟨s, hs⟩ : ∃ s, s = inc[k] := ⟨_, rfl⟩
      rw [← hs] at hcell hsz'
      have HS := Lib.hid hs
      have HLK := Lib.hid hl
      clear hs hsz
      go_wp2_with fail
      refine (svCompile s _ hsz').mono ?_
      rintro e w2 hce
      obtain ⟨hb2, hce⟩ := comp_parts hce
      have HB2 := Lib.hid (below_old HBinc.out hb2)
      clear hb2
      rcases hce with ⟨hne, rfl⟩ | ⟨hz, ts, At, ct, hrd, rfl, hrow, hts⟩
      · obtain ⟨E, hE⟩ : ∃ E, E = checkE s.data.toList := ⟨_, rfl⟩
        rw [← hE] at hne ⊢
        have tE : (E != 0) = true := by rw [bne_iff_ne]; exact hne
        have ER := Lib.hid hE; have NE := Lib.hid hne
        clear hE hne
        go_wp2_with fail
        go_ret2
        have hf : firstE (bytesL inc) = E := by
          have := first_at (l := bytesL inc) (k := k) (by simpa using HLK.out) (fun i hi => by have := ALinc.out i hi (by have := HLK.out; omega); simpa using this) (by simp only [List.getElem_map]; rw [← HS.out, ← ER.out]; exact NE.out)
          rw [this]
          simp only [List.getElem_map]
          rw [← HS.out, ER.out]
        refine ⟨?_, HB2.out⟩
        have h1 : CE = E := by rw [HE.out]; unfold chosenE; rw [if_neg (by rw [hf]; exact NE.out), hf]
        have h2 : CV = false := by rw [HV.out]; unfold chosenV; rw [← HE.out, h1]; simp [NE.out]
        rw [h1, h2]; rfl
      · have HROW := Lib.hid hrow; have HZ := Lib.hid hz
        have HIT : Hid (hitsP x.data.toList s.data.toList = hitsT ts x.data.toList) := Lib.hid (by unfold hitsP; rw [hrd])
        have VN : Hid ((W0 || ((bytesL inc).take (k + 1)).any (hitsP x.data.toList)) = (V || hitsT ts x.data.toList)) := Lib.hid (by
          rw [any_take (by simpa using HLK.out), ← Bool.or_assoc, ← VV.out]
          simp only [List.getElem_map]
          rw [← HS.out, HIT.out])
        have ALN : Hid (∀ i (hi : i < k + 1) (hl : i < inc.length), checkE (inc[i]).data.toList = 0) := Lib.hid fun i hi hl => by
          by_cases hik : i = k
          · subst hik; rw [← HS.out]; exact HZ.out
          · exact ALinc.out i (by omega) hl
        clear hrd hrow hz
        cases V with
        | true =>
          go_wp2_with fail
          go_roundw
          case rel => exact ⟨k + 1, by go_num, by omega, by rw [VN.out]; rfl, ALN.out, HB2.out⟩
          case measure => simp [intOf]; omega
        | false =>
          go_wp2_with fail
          refine (svHits (c := ct) x _ HROW.out (by omega) hx).mono ?_
          rintro e w3 ⟨rfl, hb3⟩
          have HB3 := Lib.hid (below_old HB2.out hb3)
          clear hb3
          go_wp2_with fail
          go_roundw
          case rel => exact ⟨k + 1, by go_num, by omega, by rw [VN.out]; rfl, ALN.out, HB3.out⟩
          case measure => simp [intOf]; omega
    · have AA : Hid (∀ p ∈ bytesL inc, checkE p = 0) := Lib.hid fun p hp => by
        obtain ⟨q, hq, rfl⟩ := List.mem_map.1 hp
        obtain ⟨i, hi, rfl⟩ := List.getElem_of_mem hq
        have := L1.out
        exact ALinc.out i (by omega) hi
      have VA : Hid (V = (W0 || (bytesL inc).any (hitsP x.data.toList))) := Lib.hid (by
        rw [VV.out, List.take_of_length_le (by have := L1.out; simp; omega)])
      have AAi := AA; have VAi := VA; have HB1 := HBinc
      clear AA VA VV ALinc HBinc
      have hn := hlt
      clear hlt hk
      go_wp2_with fail
      go_loopw [9, 44] (fun v it wr => ∃ k : Nat, it = .int .i64 k ∧ k ≤ n2 ∧ v = .bool (false || ((bytesL exc).take k).any (hitsP x.data.toList)) ∧ (∀ i (hi : i < k) (hl : i < exc.length), checkE (exc[i]).data.toList = 0) ∧ Below w.heap.size w wr) (fun _ it _ => n2 - (intOf it).toNat)
      case atStart => exact ⟨0, rfl, Nat.zero_le _, by simp, fun i hi => absurd hi (Nat.not_lt_zero _), HB1.out⟩
      case round =>
        obtain ⟨k, rfl, hk, rfl, hall, hb⟩ := hrel
        have ALexc := Lib.hid hall; have HBexc := Lib.hid hb
        clear hall hb
        obtain ⟨V2, hV⟩ : ∃ V2, V2 = (false || ((bytesL exc).take k).any (hitsP x.data.toList)) := ⟨_, rfl⟩
        rw [← hV]
        have VV := Lib.hid hV
        clear hV
        by_cases hlt : k < n2
        · obtain ⟨b, off, hl, hA, hbl, hcell, hsz⟩ := str_cell (H2.out.below HBexc.out) hlt
          subst hA
          have hsz' : (exc[k]).size ≤ 9223372036854775807 := hsz
          obtain ⟨s, hs⟩ : ∃ s, s = exc[k] := ⟨_, rfl⟩
          rw [← hs] at hcell hsz'
          have HS := Lib.hid hs
          have HLK := Lib.hid hl
          clear hs hsz
          go_wp2_with fail
          refine (svCompile s _ hsz').mono ?_
          rintro e w2 hce
          obtain ⟨hb2, hce⟩ := comp_parts hce
          have HB2 := Lib.hid (below_old HBexc.out hb2)
          clear hb2
          rcases hce with ⟨hne, rfl⟩ | ⟨hz, ts, At, ct, hrd, rfl, hrow, hts⟩
          · obtain ⟨E, hE⟩ : ∃ E, E = checkE s.data.toList := ⟨_, rfl⟩
            rw [← hE] at hne ⊢
            have tE : (E != 0) = true := by rw [bne_iff_ne]; exact hne
            have ER := Lib.hid hE; have NE := Lib.hid hne
            clear hE hne
            go_wp2_with fail
            go_ret2
            have hf : firstE (bytesL exc) = E := by
              have := first_at (l := bytesL exc) (k := k) (by simpa using HLK.out) (fun i hi => by have := ALexc.out i hi (by have := HLK.out; omega); simpa using this) (by simp only [List.getElem_map]; rw [← HS.out, ← ER.out]; exact NE.out)
              rw [this]
              simp only [List.getElem_map]
              rw [← HS.out, ER.out]
            refine ⟨?_, HB2.out⟩
            have h1 : CE = E := by rw [HE.out]; unfold chosenE; rw [if_pos (first_all AAi.out), hf]
            have h2 : CV = false := by rw [HV.out]; unfold chosenV; rw [← HE.out, h1]; simp [NE.out]
            rw [h1, h2]; rfl
          · have HROW := Lib.hid hrow; have HZ := Lib.hid hz
            have HIT : Hid (hitsP x.data.toList s.data.toList = hitsT ts x.data.toList) := Lib.hid (by unfold hitsP; rw [hrd])
            have VN : Hid ((false || ((bytesL exc).take (k + 1)).any (hitsP x.data.toList)) = (V2 || hitsT ts x.data.toList)) := Lib.hid (by
              rw [any_take (by simpa using HLK.out), ← Bool.or_assoc, ← VV.out]
              simp only [List.getElem_map]
              rw [← HS.out, HIT.out])
            have ALN : Hid (∀ i (hi : i < k + 1) (hl : i < exc.length), checkE (exc[i]).data.toList = 0) := Lib.hid fun i hi hl => by
              by_cases hik : i = k
              · subst hik; rw [← HS.out]; exact HZ.out
              · exact ALexc.out i (by omega) hl
            clear hrd hrow hz
            cases V2 with
            | true =>
              go_wp2_with fail
              go_roundw
              case rel => exact ⟨k + 1, by go_num, by omega, by rw [VN.out]; rfl, ALN.out, HB2.out⟩
              case measure => simp [intOf]; omega
            | false =>
              go_wp2_with fail
              refine (svHits (c := ct) x _ HROW.out (by omega) hx).mono ?_
              rintro e w3 ⟨rfl, hb3⟩
              have HB3 := Lib.hid (below_old HB2.out hb3)
              clear hb3
              go_wp2_with fail
              go_roundw
              case rel => exact ⟨k + 1, by go_num, by omega, by rw [VN.out]; rfl, ALN.out, HB3.out⟩
              case measure => simp [intOf]; omega
        · have AA : Hid (∀ p ∈ bytesL exc, checkE p = 0) := Lib.hid fun p hp => by
            obtain ⟨q, hq, rfl⟩ := List.mem_map.1 hp
            obtain ⟨i, hi, rfl⟩ := List.getElem_of_mem hq
            have := L2.out
            exact ALexc.out i (by omega) hi
          have VA : Hid (V2 = (false || (bytesL exc).any (hitsP x.data.toList))) := Lib.hid (by
            rw [VV.out, List.take_of_length_le (by have := L2.out; simp; omega)])
          have HCE : Hid (CE = 0) := Lib.hid (by rw [HE.out]; unfold chosenE; rw [if_pos (first_all AAi.out), first_all AA.out])
          have HCV : Hid (CV = (V && !V2)) := Lib.hid (by
            rw [HV.out]
            unfold chosenV
            rw [← HE.out, HCE.out, VAi.out, HW0.out, VA.out]
            simp)
          cases V <;> cases V2 <;> (
            go_wp2_with fail
            go_ret2
            exact ⟨by rw [HCE.out, HCV.out]; rfl, HBexc.out⟩)
end Go.Proofs.YtjknjmlpnjifkaaDoor
