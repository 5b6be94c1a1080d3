/- The document's parts of a name. No condition but room. -/
import Derived.Test.YtjknjmlpnjifkaaDoorRefPieces
import Derived.Test.YtjknjmlpnjifkaaDoorRouteC
namespace Go.Proofs.YtjknjmlpnjifkaaDoor
open Go.RowKit
set_option linter.unusedVariables false
set_option linter.unusedSimpArgs false
attribute [local go_sem] cell?_over frozen?_over lt_over le_over
theorem keep_take {P : List (List UInt8)} {k : Nat} (h : k < P.length) : (P.take (k + 1)).filter keepP = (P.take k).filter keepP ++ (if keepP P[k] then [P[k]] else []) := by
  rw [List.take_succ_eq_append_getElem h, List.filter_append]
  cases hk : keepP P[k] <;> simp [hk]
set_option maxHeartbeats 8000000 in
set_option maxRecDepth 100000 in
theorem refSplit (s : ByteArray) (mn md : Int) (w : World) (hs : s.size ≤ 100000000) :
    Calls Tryd.prog 23 #[.string s, .int .i64 mn, .int .i64 md] w (RouteEnd s.data.toList mn md w) := by
  have hsl : s.data.toList.length = s.size := Lib.size_eq s |>.symm
  obtain ⟨E, hE⟩ : ∃ E, E = routeE s.data.toList mn md := ⟨_, rfl⟩
  unfold RouteEnd
  rw [← hE]
  unfold routeE at hE
  by_cases h0 : s.data.toList = []
  · rw [if_pos h0] at hE
    have := bytes_ext h0
    subst this
    subst hE
    go_enter Tryd.func23, Tryd.ntmps23
    go_wp2_with fail
    go_ret2
    first | exact ⟨Below.refl _ _, .inl ⟨by decide, rfl⟩⟩ | exact ⟨Below.refl _ _, rfl⟩
  rw [if_neg h0] at hE
  have t0 := empty_lit h0
  have hpos : 0 < s.size := by
    rw [← hsl]; exact List.length_pos_iff.2 h0
  by_cases h1 : mn < s.size
  · rw [hsl, if_pos h1] at hE
    have t1 : decide ((s.size : Int) > mn) = true := by simpa using h1
    subst hE
    clear h0 hsl
    go_enter Tryd.func23, Tryd.ntmps23
    go_wp2_with fail
    go_ret2
    first | exact ⟨Below.refl _ _, .inl ⟨by decide, rfl⟩⟩ | exact ⟨Below.refl _ _, rfl⟩
  rw [hsl, if_neg h1] at hE
  have t1 : decide ((s.size : Int) > mn) = false := by simpa using h1
  rw [head_eq hpos] at hE
  obtain ⟨PA, hPA⟩ : ∃ P, P = partsOf s.data.toList := ⟨_, rfl⟩
  rw [← hPA] at hE ⊢
  have HPA : Hid (PA = (splitW 47 s.data.toList).filter keepP) := Lib.hid hPA
  have HE := Lib.hid hE; have H0 := Lib.hid h0; have HSL := Lib.hid hsl
  clear hE h0 h1 hsl hPA
  go_enter Tryd.func23, Tryd.ntmps23
  go_wp2_with fail
  go_loopw [8] (fun it wr => ∃ k : Nat, it = .int .i64 k ∧ k ≤ s.size ∧ (∀ i (hi : i < k) (hl : i < s.size), s[i] ≠ 0) ∧ wr = w) (fun it _ => s.size - (intOf it).toNat)
  case atStart => exact ⟨0, rfl, Nat.zero_le _, fun i hi => absurd hi (Nat.not_lt_zero _), rfl⟩
  case round =>
    obtain ⟨k, rfl, hk, hall, hw⟩ := hrel
    have AL := Lib.hid hall
    clear hall
    subst hw
    by_cases hlt : k < s.size
    · by_cases hz : s[k] = 0
      · have tz : ((s[k].toNat : Int) == 0) = true := by rw [hz]; rfl
        have hE : E = 91 := by
          rw [HE.out, if_pos]
          have := Lib.data_getElem? s k hlt
          rw [hz] at this
          exact List.mem_of_getElem? this
        subst hE
        clear hz
        go_wp2_with fail
        go_ret2
        first | exact ⟨Below.refl _ _, .inl ⟨by decide, rfl⟩⟩ | exact ⟨Below.refl _ _, rfl⟩
      · have tz : ((s[k].toNat : Int) == 0) = false := by
          rw [beq_eq_false_iff_ne]
          intro e
          exact hz (UInt8.toNat_inj.1 (by have : (0 : UInt8).toNat = 0 := rfl; omega))
        have ALN : Hid (∀ i (hi : i < k + 1) (hl : i < s.size), s[i] ≠ 0) := Lib.hid fun i hi hl => by
          by_cases hik : i = k
          · subst hik; exact hz
          · exact AL.out i (by omega) hl
        clear hz
        go_wp2_with fail
        go_roundw
        case rel => exact ⟨k + 1, by go_num, by omega, ALN.out, by trivial⟩
        case measure => simp [intOf]; omega
    · have h2 : ¬ (0 : UInt8) ∈ s.data.toList := by
        intro h
        obtain ⟨i, hi, he⟩ := List.getElem_of_mem h
        have hi' : i < s.size := by have := HSL.out; omega
        exact AL.out i (by omega) hi' (by
          have h1 := Lib.data_getElem? s i hi'
          rw [List.getElem?_eq_getElem hi] at h1
          exact (Option.some.inj h1).symm.trans he)
      have H2 := Lib.hid h2
      have hE := HE.out
      rw [if_neg h2] at hE
      clear HE h2 AL
      by_cases h3 : s[0]'hpos = 47
      · rw [if_pos (by rw [h3])] at hE
        have t3 : (((s[0]'hpos).toNat : Int) == 47) = true := by rw [h3]; rfl
        subst hE
        clear h3
        go_wp2_with fail
        go_ret2
        first | exact ⟨Below.refl _ _, .inl ⟨by decide, rfl⟩⟩ | exact ⟨Below.refl _ _, rfl⟩
      rw [if_neg (by intro h; injection h with h; exact h3 h)] at hE
      have t3 : (((s[0]'hpos).toNat : Int) == 47) = false := by
        rw [beq_eq_false_iff_ne]
        intro h
        exact h3 (UInt8.toNat_inj.1 (by have : (47 : UInt8).toNat = 47 := rfl; omega))
      have HE := Lib.hid hE
      have HPI := Lib.hid (fun w => refPieces s w (by omega))
      clear hE h3
      go_wp2_with fail
      refine (HPI.out _).mono ?_
      rintro e w2 ⟨v, ws, rfl, hown, hws, hb⟩
      obtain ⟨A, n, c, rfl, _, hc, hrow⟩ := hown.rd_old
      have hws2 : ws = textsL (splitW 47 s.data.toList) := by rw [← hws, texts_back]
      subst hws2
      obtain rfl : (splitW 47 s.data.toList).length = n := by have := hrow.1; simpa using this
      have WL : Hid ((splitW 47 s.data.toList).length ≤ 100000001) := Lib.hid (by
        rw [splitW_length]
        have := List.count_le_length (a := (47 : UInt8)) (l := s.data.toList)
        have := HSL.out
        omega)
      have SM := Lib.hid (fun p (hp : p ∈ splitW 47 s.data.toList) => splitW_small hp)
      obtain ⟨P, hP⟩ : ∃ P, P = splitW 47 s.data.toList := ⟨_, rfl⟩
      rw [← hP] at HPA WL SM hrow ⊢
      have ROW := Lib.hid hrow; have HB := Lib.hid hb
      clear hown hws hrow hb hP HPI H0 H2
      go_wp2_with fail
      go_loopw [10, 11, 12, 13] (fun v up wi i wr => ∃ (k : Nat) (out : List ByteArray), i = .int .i64 k ∧ k ≤ P.length ∧ Own Shape.str 9 wr w2.heap.size (fun _ => False) v out ∧ out = textsL ((P.take k).filter keepP) ∧
        up = .bool (((P.take k).filter keepP).contains [46, 46]) ∧ wi = .bool (((P.take k).filter keepP).any fun p => decide (255 < p.length)) ∧ Below w2.heap.size w2 wr) (fun _ _ _ i _ => P.length - (intOf i).toNat)
      case atStart => exact ⟨0, [], rfl, Nat.zero_le _, Own.made Shape.str _ w2 _ (Nat.le_refl _), rfl, rfl, rfl, below_alloc' _ _⟩
      case round =>
        obtain ⟨k, out, rfl, hk2, hown, hout, rfl, rfl, hbel⟩ := hrel
        have O := Lib.hid hown; have HB2 := Lib.hid hbel
        obtain ⟨F, hF⟩ : ∃ F, F = (P.take k).filter keepP := ⟨_, rfl⟩
        rw [← hF] at hout ⊢
        have HO := Lib.hid hout; have FF := Lib.hid hF
        have hPn : P.length ≤ 100000001 := WL.out
        obtain ⟨up, hup⟩ : ∃ b, b = F.contains [46, 46] := ⟨_, rfl⟩
        obtain ⟨wi, hwi⟩ : ∃ b, b = F.any fun p => decide (255 < p.length) := ⟨_, rfl⟩
        rw [← hup, ← hwi]
        have UP := Lib.hid hup; have WI := Lib.hid hwi
        clear hown hbel hout hF hup hwi
        by_cases hlt2 : k < P.length
        · obtain ⟨b, off, hl, hA, hbl, hcell, hsz⟩ := str_cell (ROW.out.below HB2.out) hlt2
          subst hA
          obtain ⟨p, hp⟩ : ∃ p, p = P[k] := ⟨_, rfl⟩
          rw [show (textsL P)[k] = ⟨p.toArray⟩ by rw [hp]; simp] at hcell hsz
          obtain ⟨x, hx⟩ : ∃ x, x = (⟨p.toArray⟩ : ByteArray) := ⟨_, rfl⟩
          rw [← hx] at hcell hsz
          have hpd : x.data.toList = p := by rw [hx]
          have hpz : x.size = p.length := by rw [hx]; rfl
          have HX := Lib.hid hx
          clear hx
          have FS := keep_take (P := P) (k := k) hlt2
          rw [← FF.out, ← hp] at FS
          clear hp
          by_cases hkp : keepP p = false
          · have FN : Hid ((P.take (k + 1)).filter keepP = F) := Lib.hid (by rw [FS, hkp]; simp)
            clear FS
            unfold keepP at hkp
            simp only [Bool.not_eq_false', Bool.or_eq_true, beq_iff_eq] at hkp
            rcases hkp with rfl | rfl
            · have hxl := bytes_ext hpd
              subst hxl
              clear hpd hpz
              clear hsz hbl
              go_wp2_with fail
              go_roundw
              case rel => exact ⟨k + 1, out, by go_num, by omega, O.out, by rw [HO.out, FN.out], by rw [FN.out, UP.out], by rw [FN.out, WI.out], HB2.out⟩
              case measure => simp [intOf]; omega
            · have hxl := bytes_ext hpd
              subst hxl
              clear hpd hpz
              clear hsz hbl
              go_wp2_with fail
              go_roundw
              case rel => exact ⟨k + 1, out, by go_num, by omega, O.out, by rw [HO.out, FN.out], by rw [FN.out, UP.out], by rw [FN.out, WI.out], HB2.out⟩
              case measure => simp [intOf]; omega
          · have FN : Hid ((P.take (k + 1)).filter keepP = F ++ [p]) := Lib.hid (by rw [FS, show keepP p = true by simpa using hkp]; simp)
            have OL : Hid (out.length = F.length) := Lib.hid (by rw [HO.out]; simp)
            have hFl : F.length ≤ k := by
              rw [FF.out]
              have h1 := List.length_filter_le keepP (P.take k)
              have h2 : (P.take k).length ≤ k := by rw [List.length_take]; omega
              omega
            have hne : p ≠ [] ∧ p ≠ [46] := by
              unfold keepP at hkp
              simp at hkp
              exact hkp
            have t0' := empty_lit (s := x) (by rw [hpd]; exact hne.1)
            have t1' := list_lit (s := x) (l := [46]) (by rw [hpd]; exact hne.2)
            have UPN : Hid ((F ++ [p]).contains [46, 46] = (up || p == [46, 46])) := Lib.hid (by
              rw [UP.out, Bool.eq_iff_iff]
              simp
              constructor
              · rintro (h | h)
                · exact .inl h
                · exact .inr h.symm
              · rintro (h | h)
                · exact .inl h
                · exact .inr h.symm)
            have WIN : Hid (((F ++ [p]).any fun p => decide (255 < p.length)) = (wi || decide (255 < p.length))) := Lib.hid (by
              rw [WI.out]; simp)
            clear FS hkp hne hbl
            by_cases hdd : p = [46, 46]
            · have t2' : (x.toList == [46, 46]) = true := by rw [Lib.toList_data, hpd, hdd]; rfl
              have t3' : decide ((x.size : Int) > 255) = false := by rw [hpz, hdd]; rfl
              rw [show (p == [46, 46]) = true by simpa using hdd, Bool.or_true] at UPN
              rw [show decide (255 < p.length) = false by rw [hdd]; rfl, Bool.or_false] at WIN
              clear hpd hpz hdd
              go_wp2_with (at_builtin; go_loud (refine wpList_append_one (v := u10) flat_str rfl (.tmp 65) (.tmp 70) _ rfl elem_strP rfl O.out (es := [.string x]) (b := x) rfl ⟨rfl, hsz⟩ (by rw [OL.out]; omega) (by rw [OL.out]; unfold maxLen; omega) HB2.out.size ?_))
              intro v' w3 hown2 hg2 hsz2 hat2
              have O2 := Lib.hid hown2
              have HB3 := Lib.hid (HB2.out.grown hg2 HB2.out.size (fun n hn => (O.out.lt n hn).1))
              clear hown2 hg2 hsz2 hat2
              go_wp2_with fail
              go_roundw
              case rel => exact ⟨k + 1, out ++ [x], by go_num, by omega, O2.out, by rw [HO.out, FN.out, HX.out]; simp, by rw [FN.out, UPN.out], by rw [FN.out, WIN.out], HB3.out⟩
              case measure => simp [intOf]; omega
            · have t2' := list_lit (s := x) (l := [46, 46]) (by rw [hpd]; exact hdd)
              have hb2 : (p == [46, 46]) = false := beq_eq_false_iff_ne.2 hdd
              rw [hb2, Bool.or_false] at UPN
              by_cases h255 : 255 < p.length
              · have t3' : decide ((x.size : Int) > 255) = true := by rw [hpz]; simp; omega
                have hw2 : decide (255 < p.length) = true := by simpa using h255
                rw [hw2, Bool.or_true] at WIN
                clear hpd hpz hdd hb2 h255 hw2
                go_wp2_with (at_builtin; go_loud (refine wpList_append_one (v := u10) flat_str rfl (.tmp 65) (.tmp 70) _ rfl elem_strP rfl O.out (es := [.string x]) (b := x) rfl ⟨rfl, hsz⟩ (by rw [OL.out]; omega) (by rw [OL.out]; unfold maxLen; omega) HB2.out.size ?_))
                intro v' w3 hown2 hg2 hsz2 hat2
                have O2 := Lib.hid hown2
                have HB3 := Lib.hid (HB2.out.grown hg2 HB2.out.size (fun n hn => (O.out.lt n hn).1))
                clear hown2 hg2 hsz2 hat2
                go_wp2_with fail
                go_roundw
                case rel => exact ⟨k + 1, out ++ [x], by go_num, by omega, O2.out, by rw [HO.out, FN.out, HX.out]; simp, by rw [FN.out, UPN.out], by rw [FN.out, WIN.out], HB3.out⟩
                case measure => simp [intOf]; omega
              · have t3' : decide ((x.size : Int) > 255) = false := by rw [hpz]; simp; omega
                have hw2 : decide (255 < p.length) = false := by simpa using h255
                rw [hw2, Bool.or_false] at WIN
                clear hpd hpz hdd hb2 h255 hw2
                go_wp2_with (at_builtin; go_loud (refine wpList_append_one (v := u10) flat_str rfl (.tmp 65) (.tmp 70) _ rfl elem_strP rfl O.out (es := [.string x]) (b := x) rfl ⟨rfl, hsz⟩ (by rw [OL.out]; omega) (by rw [OL.out]; unfold maxLen; omega) HB2.out.size ?_))
                intro v' w3 hown2 hg2 hsz2 hat2
                have O2 := Lib.hid hown2
                have HB3 := Lib.hid (HB2.out.grown hg2 HB2.out.size (fun n hn => (O.out.lt n hn).1))
                clear hown2 hg2 hsz2 hat2
                go_wp2_with fail
                go_roundw
                case rel => exact ⟨k + 1, out ++ [x], by go_num, by omega, O2.out, by rw [HO.out, FN.out, HX.out]; simp, by rw [FN.out, UPN.out], by rw [FN.out, WIN.out], HB3.out⟩
                case measure => simp [intOf]; omega
        · obtain rfl : k = P.length := by omega
          have hF : F = PA := by rw [FF.out, HPA.out, List.take_of_length_le (Nat.le_refl _)]
          subst hF
          obtain ⟨A3, n3, c3, hu, hnc3, _, hrow3⟩ := O.out.rd_old
          subst hu
          rw [HO.out] at hrow3
          obtain rfl : F.length = n3 := by have := hrow3.1; simpa using this
          have ROW3 := Lib.hid hrow3; have HNC := Lib.hid hnc3
          have HBW := Lib.hid (below_old HB.out HB2.out)
          have hE := HE.out
          clear hrow3 hnc3 HE O HO HPA FF SM ROW
          cases up with
          | true =>
            rw [if_pos (List.contains_iff_mem.1 UP.out.symm)] at hE
            subst hE
            go_wp2_with fail
            go_ret2
            first | exact ⟨HBW.out, .inl ⟨by decide, rfl⟩⟩ | exact ⟨HBW.out, rfl⟩
          | false =>
            rw [if_neg (fun h => by have h1 := List.contains_iff_mem.2 h; rw [← UP.out] at h1; cases h1)] at hE
            cases wi with
            | true =>
              rw [if_pos WI.out.symm] at hE
              subst hE
              go_wp2_with fail
              go_ret2
              first | exact ⟨HBW.out, .inl ⟨by decide, rfl⟩⟩ | exact ⟨HBW.out, rfl⟩
            | false =>
              rw [if_neg (fun h => by rw [← WI.out] at h; cases h)] at hE
              by_cases hmd : md < F.length
              · have t6 : decide ((F.length : Int) > md) = true := by simpa using hmd
                rw [if_pos hmd] at hE
                subst hE
                clear hmd
                go_wp2_with fail
                go_ret2
                first | exact ⟨HBW.out, .inl ⟨by decide, rfl⟩⟩ | exact ⟨HBW.out, rfl⟩
              · have t6 : decide ((F.length : Int) > md) = false := by simpa using hmd
                rw [if_neg hmd] at hE
                subst hE
                clear hmd
                go_wp2_with fail
                go_ret2
                first | exact ⟨HBW.out, .inr ⟨rfl, _, _, HNC.out, rfl, ROW3.out⟩⟩ | exact ⟨HBW.out, _, ⟨_, HNC.out, rfl⟩, ROW3.out⟩ | exact ⟨HBW.out, _, _, HNC.out, rfl, ROW3.out⟩
end Go.Proofs.YtjknjmlpnjifkaaDoor
