/- The parts of a hard link's name, both ways. No condition but room and the variable MaxLen. -/
import Derived.Test.YtjknjmlpnjifkaaDoorRefRoute
import Derived.Test.YtjknjmlpnjifkaaDoorRouteS
namespace Go.Proofs.YtjknjmlpnjifkaaDoor
open Go.RowKit
set_option linter.unusedVariables false
set_option linter.unusedSimpArgs false
attribute [local go_sem] cell?_over frozen?_over lt_over le_over
/-- what is wrong with a hard link's name -/
def hardE (l : List UInt8) (mn md st : Int) : Int := if routeE l mn md ≠ 0 then routeE l mn md else if (partsOf l).drop st.toNat = [] then 97 else 0
def HardEnd (l : List UInt8) (mn md st : Int) (w : World) (e : Ending) (w' : World) : Prop :=
  Below w.heap.size w w' ∧ ((hardE l mn md st ≠ 0 ∧ e = .returned (.tuple #[.slice none 0 0, .int .i64 (hardE l mn md st)])) ∨ (hardE l mn md st = 0 ∧ ∃ v, e = .returned (.tuple #[v, .int .i64 0]) ∧ TextsN w w' v (textsL ((partsOf l).drop st.toNat))))
theorem parts_size {l : List UInt8} (h : l.length ≤ 100000000) : (partsOf l).length ≤ 1000000000 := by
  have := parts_len l
  omega
set_option maxHeartbeats 1000000 in
set_option maxRecDepth 100000 in
theorem targetHard (s : ByteArray) (mn md st : Int) (w : World) (m : Int) (hs : s.size ≤ 100000000) (hm : w.cell? ⟨0, 0, none⟩ = some (.int .i64 m)) :
    Calls Tryd.prog 18 #[.string s, .int .i64 mn, .int .i64 md, .int .i64 st] w (HardEnd s.data.toList mn md st w) := by
  have hsl : s.data.toList.length = s.size := Lib.size_eq s |>.symm
  have PS := Lib.hid (parts_size (l := s.data.toList) (by omega))
  have HS := Lib.hid (routeSplit s mn md w m hs hm)
  obtain ⟨E, hE⟩ : ∃ E, E = hardE s.data.toList mn md st := ⟨_, rfl⟩
  unfold HardEnd
  rw [← hE]
  unfold hardE at hE
  obtain ⟨P, hP⟩ : ∃ P, P = partsOf s.data.toList := ⟨_, rfl⟩
  obtain ⟨R, hR⟩ : ∃ R, R = routeE s.data.toList mn md := ⟨_, rfl⟩
  unfold RouteEnd at HS
  rw [← hP] at PS HS hE ⊢
  rw [← hR] at HS hE
  obtain ⟨D, hD⟩ : ∃ D, D = P.drop st.toNat := ⟨_, rfl⟩
  rw [← hD] at hE ⊢
  have HE := Lib.hid hE; have HD := Lib.hid hD
  clear hE hP hR hsl hD hm
  go_enter Tryd.func18, Tryd.ntmps18
  go_wp2_with fail
  refine HS.out.mono ?_
  rintro e w1 ⟨hb, hm⟩
  have HB := Lib.hid hb
  clear hb HS
  rcases hm with ⟨hne, rfl⟩ | ⟨hz, A, c, hc, rfl, hrow⟩
  · have tR : (R != 0) = true := by rw [bne_iff_ne]; exact hne
    have hE := HE.out
    rw [if_pos hne] at hE
    subst hE
    have NE := Lib.hid hne
    clear hne HE
    go_wp2_with fail
    go_ret2
    exact ⟨HB.out, .inl ⟨NE.out, rfl⟩⟩
  · subst hz
    have hE := HE.out
    rw [if_neg (fun h => h rfl)] at hE
    have HST := Lib.hid (routeStrip (c := c) st w1 hrow PS.out hc)
    have HE2 := Lib.hid hE
    clear hE HE hc hrow
    go_wp2_with fail
    refine HST.out.mono ?_
    rintro e w2 ⟨hb2, hm⟩
    have HB2 := Lib.hid (below_old HB.out hb2); have hsz0 := HB.out.size
    clear hb2 HST
    rcases hm with ⟨h1, h2, rfl⟩ | ⟨_, v, rfl, hv⟩
    · have hd : D = [] := by rw [HD.out]; exact List.drop_eq_nil_of_le (by simp at h2; omega)
      have hE := HE2.out
      rw [if_pos hd] at hE
      subst hE
      clear hd h1 h2 HE2
      go_wp2_with fail
      go_ret2
      first | exact ⟨HB2.out, .inl ⟨by decide, rfl⟩⟩ | exact ⟨HB2.out, rfl⟩
    · rw [← List.map_drop, ← HD.out] at hv
      have hv := hv.from_ hsz0
      have hE := HE2.out
      obtain ⟨A2, c2, hc2, rfl, hrow2⟩ := hv
      rw [List.length_map] at hc2 hrow2
      rw [List.length_map]
      have HC2 := Lib.hid hc2; have HR2 := Lib.hid hrow2
      by_cases hDn : D = []
      · rw [if_pos hDn] at hE
        subst hE
        have t6 : ((D.length : Int) == 0) = true := by rw [hDn]; rfl
        clear hDn HE2 hc2 hrow2
        go_wp2_with fail
        go_ret2
        first | exact ⟨HB2.out, .inl ⟨by decide, rfl⟩⟩ | exact ⟨HB2.out, rfl⟩
      · rw [if_neg hDn] at hE
        subst hE
        have t6 : ((D.length : Int) == 0) = false := by
          rw [beq_eq_false_iff_ne]
          intro h
          exact hDn (List.eq_nil_of_length_eq_zero (by omega))
        have t7 : ¬ D.length = 0 := fun h => hDn (List.eq_nil_of_length_eq_zero h)
        clear hDn HE2 hc2 hrow2
        go_wp2_with fail
        go_ret2
        have TV : TextsN w w2 (.slice A2 D.length c2) (textsL D) := ⟨A2, c2, by rw [List.length_map]; exact HC2.out, by rw [List.length_map], by rw [List.length_map]; exact HR2.out⟩
        first | exact ⟨HB2.out, .inr ⟨rfl, _, rfl, TV⟩⟩ | exact ⟨HB2.out, _, rfl, TV⟩
set_option maxHeartbeats 1000000 in
set_option maxRecDepth 100000 in
theorem refHard (s : ByteArray) (mn md st : Int) (w : World) (hs : s.size ≤ 100000000) :
    Calls Tryd.prog 28 #[.string s, .int .i64 mn, .int .i64 md, .int .i64 st] w (HardEnd s.data.toList mn md st w) := by
  have hsl : s.data.toList.length = s.size := Lib.size_eq s |>.symm
  have PS := Lib.hid (parts_size (l := s.data.toList) (by omega))
  have HS := Lib.hid (refSplit s mn md w hs)
  obtain ⟨E, hE⟩ : ∃ E, E = hardE s.data.toList mn md st := ⟨_, rfl⟩
  unfold HardEnd
  rw [← hE]
  unfold hardE at hE
  obtain ⟨P, hP⟩ : ∃ P, P = partsOf s.data.toList := ⟨_, rfl⟩
  obtain ⟨R, hR⟩ : ∃ R, R = routeE s.data.toList mn md := ⟨_, rfl⟩
  unfold RouteEnd at HS
  rw [← hP] at PS HS hE ⊢
  rw [← hR] at HS hE
  obtain ⟨D, hD⟩ : ∃ D, D = P.drop st.toNat := ⟨_, rfl⟩
  rw [← hD] at hE ⊢
  have HE := Lib.hid hE; have HD := Lib.hid hD
  clear hE hP hR hsl hD
  go_enter Tryd.func28, Tryd.ntmps28
  go_wp2_with fail
  refine HS.out.mono ?_
  rintro e w1 ⟨hb, hm⟩
  have HB := Lib.hid hb
  clear hb HS
  rcases hm with ⟨hne, rfl⟩ | ⟨hz, A, c, hc, rfl, hrow⟩
  · have tR : (R != 0) = true := by rw [bne_iff_ne]; exact hne
    have hE := HE.out
    rw [if_pos hne] at hE
    subst hE
    have NE := Lib.hid hne
    clear hne HE
    go_wp2_with fail
    go_ret2
    exact ⟨HB.out, .inl ⟨NE.out, rfl⟩⟩
  · subst hz
    have hE := HE.out
    rw [if_neg (fun h => h rfl)] at hE
    have HST := Lib.hid (refStrip (c := c) st w1 hrow PS.out hc)
    have HE2 := Lib.hid hE
    clear hE HE hc hrow
    go_wp2_with fail
    refine HST.out.mono ?_
    rintro e w2 ⟨hb2, hm⟩
    have HB2 := Lib.hid (below_old HB.out hb2); have hsz0 := HB.out.size
    clear hb2 HST
    rcases hm with ⟨h1, h2, rfl⟩ | ⟨_, v, rfl, hv⟩
    · have hd : D = [] := by rw [HD.out]; exact List.drop_eq_nil_of_le (by simp at h2; omega)
      have hE := HE2.out
      rw [if_pos hd] at hE
      subst hE
      clear hd h1 h2 HE2
      go_wp2_with fail
      go_ret2
      first | exact ⟨HB2.out, .inl ⟨by decide, rfl⟩⟩ | exact ⟨HB2.out, rfl⟩
    · rw [← List.map_drop, ← HD.out] at hv
      have hv := hv.from_ hsz0
      have hE := HE2.out
      obtain ⟨A2, c2, hc2, rfl, hrow2⟩ := hv
      rw [List.length_map] at hc2 hrow2
      rw [List.length_map]
      have HC2 := Lib.hid hc2; have HR2 := Lib.hid hrow2
      by_cases hDn : D = []
      · rw [if_pos hDn] at hE
        subst hE
        have t6 : ((D.length : Int) == 0) = true := by rw [hDn]; rfl
        clear hDn HE2 hc2 hrow2
        go_wp2_with fail
        go_ret2
        first | exact ⟨HB2.out, .inl ⟨by decide, rfl⟩⟩ | exact ⟨HB2.out, rfl⟩
      · rw [if_neg hDn] at hE
        subst hE
        have t6 : ((D.length : Int) == 0) = false := by
          rw [beq_eq_false_iff_ne]
          intro h
          exact hDn (List.eq_nil_of_length_eq_zero (by omega))
        have t7 : ¬ D.length = 0 := fun h => hDn (List.eq_nil_of_length_eq_zero h)
        clear hDn HE2 hc2 hrow2
        go_wp2_with fail
        go_ret2
        have TV : TextsN w w2 (.slice A2 D.length c2) (textsL D) := ⟨A2, c2, by rw [List.length_map]; exact HC2.out, by rw [List.length_map], by rw [List.length_map]; exact HR2.out⟩
        first | exact ⟨HB2.out, .inr ⟨rfl, _, rfl, TV⟩⟩ | exact ⟨HB2.out, _, rfl, TV⟩
end Go.Proofs.YtjknjmlpnjifkaaDoor
