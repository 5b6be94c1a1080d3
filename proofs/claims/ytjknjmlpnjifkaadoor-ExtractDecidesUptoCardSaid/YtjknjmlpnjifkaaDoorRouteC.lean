/- route.Split: the parts of a name, or what is wrong with it. No condition but room and the variable MaxLen. -/
import Derived.Test.YtjknjmlpnjifkaaDoorRouteZ
import Derived.Test.YtjknjmlpnjifkaaDoorLayTx
namespace Go.Proofs.YtjknjmlpnjifkaaDoor
open Go.RowKit
set_option linter.unusedVariables false
set_option linter.unusedSimpArgs false
attribute [local go_sem] cell?_over frozen?_over lt_over le_over
/-- what is answered -/
def RouteEnd (l : List UInt8) (mn md : Int) (w : World) (e : Ending) (w' : World) : Prop :=
  Below w.heap.size w w' ∧ ((routeE l mn md ≠ 0 ∧ e = .returned (.tuple #[.slice none 0 0, .int .i64 (routeE l mn md)])) ∨
    (routeE l mn md = 0 ∧ ∃ (A : Option Addr) (c : Nat), (partsOf l).length ≤ c ∧ e = .returned (.tuple #[.slice A (partsOf l).length c, .int .i64 0]) ∧ Row Shape.str w' (Old w') A (partsOf l).length (textsL (partsOf l))))
theorem hasParts {A : Option Addr} {n c : Nat} {l : List ByteArray} (x : ByteArray) (w : World) (h : Row Shape.str w (Old w) A n l) (hn : n ≤ 9223372036854775807) :
    Calls Tryd.prog 34 #[.slice A n c, .string x] w fun e w' => e = .returned (.bool (l.map (·.data.toList) |>.contains x.data.toList)) ∧ w' = w := by
  have hl := h.1
  rcases Nat.eq_zero_or_pos n with h0 | h0
  · subst h0
    obtain rfl : l = [] := List.eq_nil_of_length_eq_zero hl
    exact Any.slices_Contains_string_empty Tryd.lays110 A c x w
  · obtain ⟨b, off, hA, hb, hc⟩ := h.2 h0
    subst hA
    refine (Any.slices_Contains_string Tryd.lays110 b off n c l x w (by omega) hn ?_).mono ?_
    · intro j hj
      obtain ⟨es, hes, hrd⟩ := hc j hj
      have h1 := hes 0 (by decide)
      obtain ⟨rfl, _⟩ := hrd
      rw [List.getD_eq_getElem?_getD, List.getElem?_eq_getElem hj]
      simpa [Shape.str] using h1
    · rintro e w' ⟨rfl, rfl⟩
      refine ⟨?_, rfl⟩
      rw [List.take_of_length_le (by omega)]
      congr 2
      rw [Bool.eq_iff_iff, Lib.containsS_iff, List.contains_iff_mem, List.mem_map]
      constructor
      · exact fun hx => ⟨x, hx, rfl⟩
      · rintro ⟨a, ha, he⟩
        have h1 := bytes_ext he
        have h2 := bytes_ext (s := x) rfl
        rw [h2, ← h1]; exact ha
theorem head_eq {s : ByteArray} (h : 0 < s.size) : s.data.toList.head? = some (s[0]'h) := by
  have := Lib.data_getElem? s 0 h
  rw [← this, List.head?_eq_getElem?]
theorem texts_at {l : List (List UInt8)} {i : Nat} (hi : i < (textsL l).length) : ((textsL l)[i]).data.toList = l[i]'(by simpa using hi) := by simp
theorem texts_data (l : List (List UInt8)) : (textsL l).map (·.data.toList) = l := by
  rw [List.map_map]
  conv => rhs; rw [← List.map_id l]
  exact List.map_congr_left fun _ _ => rfl
set_option maxHeartbeats 4000000 in
set_option maxRecDepth 100000 in
theorem routeSplit (s : ByteArray) (mn md : Int) (w : World) (m : Int) (hs : s.size ≤ 100000000) (hm : w.cell? ⟨0, 0, none⟩ = some (.int .i64 m)) :
    Calls Tryd.prog 12 #[.string s, .int .i64 mn, .int .i64 md] w (RouteEnd s.data.toList mn md w) := by
  have hsl : s.data.toList.length = s.size := Lib.size_eq s |>.symm
  obtain ⟨E, hE⟩ : ∃ E, E = routeE s.data.toList mn md := ⟨_, rfl⟩
  unfold RouteEnd
  rw [← hE]
  unfold routeE at hE
  by_cases h0 : s.data.toList = []
  · rw [if_pos h0] at hE
    have := bytes_ext h0
    subst this
    subst hE
    go_enter Tryd.func12, Tryd.ntmps12
    go_wp2_with fail
    go_ret2
    first | exact ⟨Below.refl _ _, .inl ⟨by decide, rfl⟩⟩ | exact ⟨Below.refl _ _, rfl⟩
  rw [if_neg h0] at hE
  have t0 := empty_lit h0
  have hpos : 0 < s.size := by
    rw [← hsl]; exact List.length_pos_iff.2 h0
  by_cases h1 : mn < s.size
  · rw [hsl, if_pos h1] at hE
    have t1 : decide ((s.size : Int) > mn) = true := by simpa using h1
    subst hE
    clear h0 hsl
    go_enter Tryd.func12, Tryd.ntmps12
    go_wp2_with fail
    go_ret2
    first | exact ⟨Below.refl _ _, .inl ⟨by decide, rfl⟩⟩ | exact ⟨Below.refl _ _, rfl⟩
  rw [hsl, if_neg h1] at hE
  have t1 : decide ((s.size : Int) > mn) = false := by simpa using h1
  have HIX := Lib.hid (fun w => Any.strings_IndexByte Tryd.lays137 s 0 w)
  by_cases h2 : (0 : UInt8) ∈ s.data.toList
  · rw [if_pos h2] at hE
    obtain ⟨k, hk⟩ : ∃ k : Nat, Lib.indexByte s.data.toList 0 = k := by
      rcases index_cases s.data.toList 0 with ⟨_, hn⟩ | ⟨k, _, h, _⟩
      · exact absurd h2 hn
      · exact ⟨k, h⟩
    have e0 : ((0 : Int)).toNat.toUInt8 = (0 : UInt8) := rfl
    rw [e0, hk] at HIX
    subst hE
    have t2 : decide ((k : Int) ≥ 0) = true := by simp
    clear h0 hsl h1 h2 e0 hk
    go_enter Tryd.func12, Tryd.ntmps12
    go_wp2_with fail
    refine (HIX.out _).mono ?_
    rintro e w' ⟨rfl, hw⟩
    rw [hw]; clear hw
    go_wp2_with fail
    go_ret2
    first | exact ⟨Below.refl _ _, .inl ⟨by decide, rfl⟩⟩ | exact ⟨Below.refl _ _, rfl⟩
  rw [if_neg h2] at hE
  have hk : Lib.indexByte s.data.toList 0 = -1 := by
    rcases index_cases s.data.toList 0 with ⟨h, _⟩ | ⟨k, h3, _, _, h4⟩
    · exact h
    · exact absurd (by rw [h4]; simp) h2
  have e0 : ((0 : Int)).toNat.toUInt8 = (0 : UInt8) := rfl
  rw [e0, hk] at HIX
  clear e0 hk
  rw [head_eq hpos] at hE
  by_cases h3 : s[0]'hpos = 47
  · rw [if_pos (by rw [h3])] at hE
    have t3 : (((s[0]'hpos).toNat : Int) == 47) = true := by rw [h3]; rfl
    subst hE
    clear h0 hsl h1 h2 h3
    go_enter Tryd.func12, Tryd.ntmps12
    go_wp2_with fail
    refine (HIX.out _).mono ?_
    rintro e w' ⟨rfl, hw⟩
    rw [hw]; clear hw
    go_wp2_with fail
    go_ret2
    first | exact ⟨Below.refl _ _, .inl ⟨by decide, rfl⟩⟩ | exact ⟨Below.refl _ _, rfl⟩
  rw [if_neg (by intro h; injection h with h; exact h3 h)] at hE
  have t3 : (((s[0]'hpos).toNat : Int) == 47) = false := by
    rw [beq_eq_false_iff_ne]
    intro h
    exact h3 (UInt8.toNat_inj.1 (by have : (47 : UInt8).toNat = 47 := rfl; omega))
  have HW := Lib.hid (splitStroke s w m (by omega) hm)
  have WS : Hid ((splitW 47 s.data.toList).length ≤ 100000001) := Lib.hid (by
    rw [splitW_length]
    have := List.count_le_length (a := (47 : UInt8)) (l := s.data.toList)
    omega)
  have HD := Lib.hid (delPieces (splitW 47 s.data.toList) w (by have := WS.out; omega) (fun p hp => by have := splitW_small hp; unfold maxLen; omega))
  have PL := Lib.hid (parts_len s.data.toList)
  have PM := Lib.hid (fun p (hp : p ∈ partsOf s.data.toList) => parts_mem hp)
  have h2' := Lib.hid h2
  obtain ⟨P, hP⟩ : ∃ P, P = partsOf s.data.toList := ⟨_, rfl⟩
  rw [show (splitW 47 s.data.toList).filter keepP = partsOf s.data.toList from rfl, ← hP] at HD
  rw [← hP] at PL PM hE ⊢
  obtain ⟨W1, hW1⟩ : ∃ W, W = w.alloc (.cells ((textsL (splitW 47 s.data.toList)).map Value.string).toArray 9) := ⟨_, rfl⟩
  rw [← hW1] at HW HD
  have HE := Lib.hid hE
  have HPP : Hid (P = (splitW 47 s.data.toList).filter keepP) := Lib.hid hP
  clear hW1 hE hP h0 h1 h2 h3 hm
  go_enter Tryd.func12, Tryd.ntmps12
  go_wp2_with fail
  refine (HIX.out _).mono ?_
  rintro e w' ⟨rfl, hw⟩
  rw [hw]; clear hw
  go_wp2_with fail
  refine HW.out.mono ?_
  rintro e w1 ⟨rfl, hw⟩
  rw [hw]; clear hw
  go_wp2_with fail
  refine HD.out.mono ?_
  rintro e w2 ⟨rfl, hb, hrow⟩
  have HB := Lib.hid hb; have ROW := Lib.hid hrow
  have HC := Lib.hid (hasParts (c := (splitW 47 s.data.toList).length) ⟨#[46, 46]⟩ w2 hrow (by have := PL.out; omega))
  rw [texts_data, show (⟨#[46, 46]⟩ : ByteArray).data.toList = [46, 46] from rfl] at HC
  have hPc : P.length ≤ (splitW 47 s.data.toList).length := by rw [HPP.out]; exact List.length_filter_le _ _
  have HPC := Lib.hid hPc
  clear hb hrow HD HW hPc
  generalize (splitW 47 s.data.toList).length = c at HC WS HPC ⊢
  go_wp2_with fail
  refine HC.out.mono ?_
  rintro e w3 ⟨rfl, hw⟩
  rw [hw]; clear hw
  by_cases hdd : [46, 46] ∈ P
  · have hE : E = 94 := by rw [HE.out, if_pos hdd]
    subst hE
    rw [List.contains_iff_mem.2 hdd]
    clear hdd
    go_wp2_with fail
    go_ret2
    first | exact ⟨HB.out, .inl ⟨by decide, rfl⟩⟩ | exact ⟨HB.out, rfl⟩
  rw [show P.contains [46, 46] = false by rw [← Bool.not_eq_true, List.contains_iff_mem]; exact hdd]
  have HDD := Lib.hid hdd
  clear hdd
  go_wp2_with fail
  go_loopw [34] (fun it wr => ∃ k : Nat, it = .int .i64 k ∧ k ≤ P.length ∧ (∀ i (hi : i < k) (hl : i < P.length), P[i].length ≤ 255) ∧ Below w.heap.size w wr ∧ Below w2.heap.size w2 wr) (fun it _ => P.length - (intOf it).toNat)
  case atStart => exact ⟨0, rfl, Nat.zero_le _, fun i hi => absurd hi (Nat.not_lt_zero _), HB.out, Below.refl _ _⟩
  case round =>
    obtain ⟨k, rfl, hk, hall, hb, hb2⟩ := hrel
    have AL := Lib.hid hall; have HB3 := Lib.hid hb; have HB4 := Lib.hid hb2
    clear hall hb hb2
    have hPn : P.length ≤ 100000001 := by have := PL.out; omega
    by_cases hlt : k < P.length
    · obtain ⟨b, off, hl, hA, hbl, hcell, hsz⟩ := str_cell (ROW.out.below HB4.out) hlt
      injection hA with hA
      injection hA with hA1 hA2
      subst hA1 hA2
      rw [Nat.zero_add] at hcell
      obtain ⟨p, hp⟩ : ∃ p, p = P[k] := ⟨_, rfl⟩
      rw [show (textsL P)[k] = ⟨p.toArray⟩ by rw [hp]; simp] at hcell hsz
      have HM := PM.out p (by rw [hp]; exact List.getElem_mem hlt)
      have hpd : (⟨p.toArray⟩ : ByteArray).data.toList = p := rfl
      have hpz : (⟨p.toArray⟩ : ByteArray).size = p.length := rfl
      have hmem : p ∈ P := by rw [hp]; exact List.getElem_mem hlt
      have HG := Lib.hid (fun w => goodPart ⟨p.toArray⟩ w (by rw [hpz]; omega) (by rw [hpd]; exact ⟨HM.1, fun h => h2'.out (HM.2.1 _ h)⟩) (by rw [hpd]; exact HM.2.2.1) (by rw [hpd]; exact HM.2.2.2.1) (by rw [hpd]; intro h; rw [h] at hmem; exact HDD.out hmem))
      rw [hpz] at HG
      have HP := Lib.hid hp
      have HLT := Lib.hid hlt
      clear hp hsz HM hbl hmem hpd hpz
      go_wp2_with fail
      refine (HG.out _).mono ?_
      rintro e w4 ⟨rfl, hb4⟩
      have HB5 := Lib.hid (below_old HB3.out hb4); have HB6 := Lib.hid (below_old HB4.out hb4)
      clear hb4
      by_cases h255 : p.length ≤ 255
      · rw [decide_eq_true h255]
        have ALN : Hid (∀ i (hi : i < k + 1) (hl : i < P.length), P[i].length ≤ 255) := Lib.hid fun i hi hl => by
          by_cases hik : i = k
          · subst hik; rw [← HP.out]; exact h255
          · exact AL.out i (by omega) hl
        clear h255
        go_wp2_with fail
        go_roundw
        case rel => exact ⟨k + 1, by go_num, by have := HLT.out; omega, ALN.out, HB5.out, HB6.out⟩
        case measure => simp [intOf]; omega
      · rw [decide_eq_false h255]
        have hE : E = 95 := by
          rw [HE.out, if_neg HDD.out, if_pos]
          rw [List.any_eq_true]
          refine ⟨p, by rw [HP.out]; exact List.getElem_mem HLT.out, ?_⟩
          simp; omega
        subst hE
        clear h255
        go_wp2_with fail
        go_ret2
        first | exact ⟨HB5.out, .inl ⟨by decide, rfl⟩⟩ | exact ⟨HB5.out, rfl⟩
    · have hany : ¬ (P.any fun p => decide (255 < p.length)) = true := by
        rw [List.any_eq_true]
        rintro ⟨q, hq, h5⟩
        obtain ⟨i, hi, rfl⟩ := List.getElem_of_mem hq
        have := AL.out i (by omega) hi
        simp at h5
        omega
      have hE : E = if md < P.length then 96 else 0 := by rw [HE.out, if_neg HDD.out, if_neg hany]
      have hkn : k = P.length := by omega
      subst hkn
      clear hany hlt hk AL
      by_cases hmd : md < P.length
      · have t6 : decide ((P.length : Int) > md) = true := by simpa using hmd
        rw [if_pos hmd] at hE
        subst hE
        clear hmd
        go_wp2_with fail
        go_ret2
        first | exact ⟨HB3.out, .inl ⟨by decide, rfl⟩⟩ | exact ⟨HB3.out, rfl⟩
      · have t6 : decide ((P.length : Int) > md) = false := by simpa using hmd
        rw [if_neg hmd] at hE
        subst hE
        clear hmd
        go_wp2_with fail
        go_ret2
        first | exact ⟨HB3.out, .inr ⟨rfl, _, _, HPC.out, rfl, ROW.out.below HB4.out⟩⟩ | exact ⟨HB3.out, _, ⟨_, HPC.out, rfl⟩, ROW.out.below HB4.out⟩ | exact ⟨HB3.out, _, _, HPC.out, rfl, ROW.out.below HB4.out⟩
end Go.Proofs.YtjknjmlpnjifkaaDoor
