/- target.Sym: whether the text of a symbolic link leads out. No condition but room and the variable MaxLen. -/
import Derived.Test.YtjknjmlpnjifkaaDoorSymLaw
import Derived.WalkMore
namespace Go.Proofs.YtjknjmlpnjifkaaDoor
open Go.RowKit
set_option linter.unusedVariables false
set_option linter.unusedSimpArgs false
attribute [local go_sem] cell?_over frozen?_over lt_over le_over
theorem row_made (w : World) (l : List ByteArray) (e : TypeId) (hs : ∀ x ∈ l, x.size ≤ maxLen) : Row Shape.str (w.alloc (.cells (l.map Value.string).toArray e)) (fun b => b = w.heap.size) (some ⟨w.heap.size, 0, none⟩) l.length l := by
  refine ⟨rfl, fun hn => ⟨w.heap.size, 0, rfl, rfl, fun i hi => ⟨[.string l[i]], fun j hj => ?_, rfl, hs _ (List.getElem_mem hi)⟩⟩⟩
  have hj0 : j = 0 := by have : j < 1 := hj; omega
  subst hj0
  simp [Shape.str, World.cell?_alloc_at, hi]
set_option maxHeartbeats 4000000 in
set_option maxRecDepth 100000 in
theorem targetSym {A : Option Addr} {n c : Nat} {l : List ByteArray} (s : ByteArray) (pol mn : Int) (w : World) (m : Int) (h : Row Shape.str w (Old w) A n l) (hn : n ≤ 200000000) (hs : s.size ≤ 100000000) (hm : w.cell? ⟨0, 0, none⟩ = some (.int .i64 m)) :
    Calls Tryd.prog 17 #[.slice A n c, .string s, .int .i64 pol, .int .i64 mn] w (SymEnd n s.data.toList pol mn w) := by
  have hsl : s.data.toList.length = s.size := Lib.size_eq s |>.symm
  obtain ⟨E, hE⟩ : ∃ E, E = symE n s.data.toList pol mn := ⟨_, rfl⟩
  unfold SymEnd
  rw [← hE]
  unfold symE at hE
  by_cases hp : pol ≠ 0 ∧ pol ≠ 1
  · rw [if_pos hp] at hE
    have p0 : (pol != 0) = true := by rw [bne_iff_ne]; exact hp.1
    have p1 : (pol != 1) = true := by rw [bne_iff_ne]; exact hp.2
    subst hE
    clear hp h
    go_enter Tryd.func17, Tryd.ntmps17
    go_wp2_with fail
    go_step3
    go_wp2_with fail
    rw [Exit.noGoto_ret]
    go_ret2
    exact ⟨Below.refl _ _, _, rfl⟩
  rw [if_neg hp] at hE
  have hp2 : pol = 0 ∨ pol = 1 := by omega
  clear hp
  by_cases h0 : s.data.toList = []
  · rw [if_pos h0] at hE
    have := bytes_ext h0
    subst this
    subst hE
    clear h
    rcases hp2 with rfl | rfl <;> (
      go_enter Tryd.func17, Tryd.ntmps17
      go_wp2_with fail
      go_step3
      go_wp2_with fail
      rw [Exit.noGoto_ret]
      go_ret2
      exact ⟨Below.refl _ _, _, rfl⟩)
  rw [if_neg h0] at hE
  have t0 := empty_lit h0
  have hpos : 0 < s.size := by
    rw [← hsl]; exact List.length_pos_iff.2 h0
  by_cases h1 : mn < s.size
  · rw [hsl, if_pos h1] at hE
    have t1 : decide ((s.size : Int) > mn) = true := by simpa using h1
    subst hE
    clear h0 hsl h
    rcases hp2 with rfl | rfl <;> (
      go_enter Tryd.func17, Tryd.ntmps17
      go_wp2_with fail
      go_step3
      go_wp2_with fail
      rw [Exit.noGoto_ret]
      go_ret2
      exact ⟨Below.refl _ _, _, rfl⟩)
  rw [hsl, if_neg h1] at hE
  have t1 : decide ((s.size : Int) > mn) = false := by simpa using h1
  have HIX := Lib.hid (fun w => Any.strings_IndexByte Tryd.lays137 s 0 w)
  have e0 : ((0 : Int)).toNat.toUInt8 = (0 : UInt8) := rfl
  by_cases h2 : (0 : UInt8) ∈ s.data.toList
  · rw [if_pos h2] at hE
    obtain ⟨k, hk⟩ : ∃ k : Nat, Lib.indexByte s.data.toList 0 = k := by
      rcases index_cases s.data.toList 0 with ⟨_, hn⟩ | ⟨k, _, h, _⟩
      · exact absurd h2 hn
      · exact ⟨k, h⟩
    rw [e0, hk] at HIX
    subst hE
    clear h0 hsl h1 h2 e0 hk h
    rcases hp2 with rfl | rfl <;> (
      go_enter Tryd.func17, Tryd.ntmps17
      go_wp2_with fail
      go_step3
      go_wp2_with fail
      refine (HIX.out _).mono ?_
      rintro e w' ⟨rfl, hw⟩
      rw [hw]; clear hw
      go_wp2_with fail
      rw [Exit.noGoto_ret]
      go_ret2
      exact ⟨Below.refl _ _, _, rfl⟩)
  rw [if_neg h2] at hE
  have hk : Lib.indexByte s.data.toList 0 = -1 := by
    rcases index_cases s.data.toList 0 with ⟨h, _⟩ | ⟨k, h3, _, _, h4⟩
    · exact h
    · exact absurd (by rw [h4]; simp) h2
  rw [e0, hk] at HIX
  clear e0 hk
  rcases hp2 with rfl | rfl
  · rw [if_pos rfl] at hE
    subst hE
    clear h0 hsl h1 h2 h
    go_enter Tryd.func17, Tryd.ntmps17
    go_wp2_with fail
    go_step3
    go_wp2_with fail
    refine (HIX.out _).mono ?_
    rintro e w' ⟨rfl, hw⟩
    rw [hw]; clear hw
    go_wp2_with fail
    rw [Exit.noGoto_ret]
    go_ret2
    exact ⟨Below.refl _ _, _, rfl⟩
  rw [if_neg (by decide), head_eq hpos] at hE
  by_cases h3 : s[0]'hpos = 47
  · rw [if_pos (by rw [h3])] at hE
    have t3 : (((s[0]'hpos).toNat : Int) == 47) = true := by rw [h3]; rfl
    subst hE
    clear h0 hsl h1 h2 h3 h
    go_enter Tryd.func17, Tryd.ntmps17
    go_wp2_with fail
    go_step3
    go_wp2_with fail
    refine (HIX.out _).mono ?_
    rintro e w' ⟨rfl, hw⟩
    rw [hw]; clear hw
    go_wp2_with fail
    rw [Exit.noGoto_ret]
    go_ret2
    exact ⟨Below.refl _ _, _, rfl⟩
  rw [if_neg (by intro h; injection h with h; exact h3 h)] at hE
  have t3 : (((s[0]'hpos).toNat : Int) == 47) = false := by
    rw [beq_eq_false_iff_ne]
    intro h
    exact h3 (UInt8.toNat_inj.1 (by have : (47 : UInt8).toNat = 47 := rfl; omega))
  have HCL := Lib.hid (fun c => cloneOwn (c := c) w h (by omega))
  obtain ⟨P, hP⟩ : ∃ P, P = splitW 47 s.data.toList := ⟨_, rfl⟩
  have WS : Hid (P.length ≤ 100000001) := Lib.hid (by
    rw [hP, splitW_length]
    have := List.count_le_length (a := (47 : UInt8)) (l := s.data.toList)
    omega)
  have PS : Hid (∀ p ∈ P, p.length ≤ maxLen) := Lib.hid (fun p hp => by have := splitW_small (by rw [← hP]; exact hp); unfold maxLen; omega)
  have hln := h.1
  have HW := Lib.hid (fun w hm => splitStroke s w m (by omega) hm)
  have HM := Lib.hid hm
  rw [← hP] at HW hE
  have HE := Lib.hid hE
  have WL : Hid (0 < w.heap.size) := Lib.hid (World.block_lt_of_cell? _ _ hm)
  clear h0 hsl h1 h2 h3 h hm hE hP
  go_enter Tryd.func17, Tryd.ntmps17
  go_wp2_with fail
  go_step3
  go_wp2_with fail
  refine (HIX.out _).mono ?_
  rintro e w' ⟨rfl, hw⟩
  rw [hw]; clear hw
  go_wp2_with fail
  refine (HCL.out _).mono ?_
  rintro e w1 ⟨v, rfl, hown, hb⟩
  have hm1 := (hb.cell (p := ⟨0, 0, none⟩) WL.out).trans HM.out
  have HW1 := Lib.hid (HW.out w1 hm1)
  have O1 := Lib.hid hown; have HB := Lib.hid hb
  clear hown hb hm1
  obtain ⟨G, hG⟩ : ∃ G, G = w1.heap.size := ⟨_, rfl⟩
  have ROW0 := Lib.hid ((row_made w1 (textsL P) 9 (fun x hx => by obtain ⟨p, hp, rfl⟩ := List.mem_map.1 hx; exact PS.out p hp)))
  rw [List.length_map, ← hG] at ROW0
  rw [← hG] at HW1
  obtain ⟨W1, hW1⟩ : ∃ W, W = w1.alloc (.cells ((textsL P).map Value.string).toArray 9) := ⟨_, rfl⟩
  have O2 : Hid (Own Shape.str 9 W1 w.heap.size (fun _ => False) v l) := Lib.hid (by rw [hW1]; exact O1.out.alloc _)
  have NB : Hid (v.ownBlock ≠ some G) := Lib.hid (fun h => by have := O1.out.lt G h; omega)
  have GS : Hid (G < W1.heap.size) := Lib.hid (by rw [hW1, hG]; simp)
  have HB1 : Hid (Below w.heap.size w W1) := Lib.hid (by rw [hW1]; exact HB.out.alloc HB.out.size _)
  rw [← hW1] at HW1 ROW0
  clear hW1 hG O1
  go_wp2_with fail
  go_step3
  go_wp2_with fail
  refine HW1.out.mono ?_
  rintro e w2 ⟨rfl, hw⟩
  rw [hw]; clear hw
  go_wp2_with fail
  go_loopw [10, 44] (fun v it wr => ∃ (k : Nat) (lst : List ByteArray), it = .int .i64 k ∧ k ≤ P.length ∧ Own Shape.str 9 wr w.heap.size (fun _ => False) v lst ∧ lst.length ≤ n + k ∧ E = climb lst.length (P.drop k) ∧ Below w.heap.size w wr ∧ Row Shape.str wr (fun b => b = G) (some ⟨G, 0, none⟩) P.length (textsL P) ∧ v.ownBlock ≠ some G ∧ G < wr.heap.size) (fun _ it _ => P.length - (intOf it).toNat)
  case atStart => exact ⟨0, l, rfl, Nat.zero_le _, O2.out, by omega, by rw [hln]; exact HE.out, HB1.out, ROW0.out, NB.out, GS.out⟩
  case round =>
    obtain ⟨k, lst, rfl, hk, hown, hll, hE, hbel, hrow, hnb, hgs⟩ := hrel
    have O := Lib.hid hown; have HBK := Lib.hid hbel; have ROW := Lib.hid hrow; have NBK := Lib.hid hnb; have HEK := Lib.hid hE
    have hPn : P.length ≤ 100000001 := WS.out
    clear hown hbel hrow hnb hE O2 HB1 ROW0 NB GS HE
    by_cases hlt : k < P.length
    · obtain ⟨b, off, hl, hA, hbl, hcell, hsz⟩ := str_cell ROW.out hlt
      injection hA with hA
      injection hA with hA1 hA2
      subst hA1 hA2
      rw [Nat.zero_add] at hcell
      have hcl := climb_drop hlt lst.length
      obtain ⟨p, hp⟩ : ∃ p, p = P[k] := ⟨_, rfl⟩
      rw [show (textsL P)[k] = ⟨p.toArray⟩ by rw [hp]; simp] at hcell hsz
      rw [← hp] at hcl
      obtain ⟨x, hx⟩ : ∃ x, x = (⟨p.toArray⟩ : ByteArray) := ⟨_, rfl⟩
      rw [← hx] at hcell hsz
      have hpd : x.data.toList = p := by rw [hx]
      have HX := Lib.hid hx
      clear hx hbl hp
      by_cases hkp : keepP p = false
      · rw [if_pos hkp] at hcl
        have HCLB := Lib.hid (HEK.out.trans hcl)
        clear hcl hsz
        unfold keepP at hkp
        simp only [Bool.not_eq_false', Bool.or_eq_true, beq_iff_eq] at hkp
        rcases hkp with rfl | rfl <;> (
          have hxl := bytes_ext hpd
          subst hxl
          clear hpd
          go_wp2_with fail
          go_roundw
          case rel => exact ⟨k + 1, lst, by go_num, by omega, O.out, by omega, HCLB.out, HBK.out, ROW.out, NBK.out, hgs⟩
          case measure => simp [intOf]; omega)
      · rw [if_neg hkp] at hcl
        have hne : p ≠ [] ∧ p ≠ [46] := by
          unfold keepP at hkp
          simp at hkp
          exact hkp
        have t0' := empty_lit (s := x) (by rw [hpd]; exact hne.1)
        have t1' := list_lit (s := x) (l := [46]) (by rw [hpd]; exact hne.2)
        clear hkp hne
        by_cases hdd : p = [46, 46]
        · rw [if_pos hdd] at hcl
          have t2' : (x.toList == [46, 46]) = true := by rw [Lib.toList_data, hpd, hdd]; rfl
          have HCLB := Lib.hid (HEK.out.trans hcl)
          clear hcl hsz hpd hdd
          rcases O.out.form with ⟨hv, hl0⟩ | ⟨g, cap, hv, hg1, hg2, hcap, hcm⟩
          · subst hv hl0
            have hE : E = 101 := HCLB.out
            subst hE
            go_wp2_with fail
            go_ret2
            exact ⟨HBK.out, _, rfl⟩
          · subst hv
            by_cases hz : lst.length = 0
            · have hE : E = 101 := by rw [HCLB.out, if_pos hz]
              subst hE
              have t5 : ((lst.length : Int) == 0) = true := by rw [hz]; rfl
              go_wp2_with fail
              go_ret2
              exact ⟨HBK.out, _, rfl⟩
            · have hE : E = climb (lst.length - 1) (P.drop (k + 1)) := by rw [HCLB.out, if_neg hz]
              have HE2 := Lib.hid hE
              have t5 : ((lst.length : Int) == 0) = false := by rw [beq_eq_false_iff_ne]; omega
              have OT := Lib.hid (Own.take_ O.out (k := lst.length - 1) (by omega))
              have NB2 : Hid ((Value.slice (some ⟨g, 0, none⟩) (lst.length - 1) cap).ownBlock ≠ some G) := Lib.hid NBK.out
              have tn : ((lst.length : Int) - 1).toNat = lst.length - 1 := by omega
              have tl : (lst.take (lst.length - 1)).length = lst.length - 1 := by rw [List.length_take]; omega
              have TL := Lib.hid tl
              clear hE tl
              go_wp2_with fail
              go_roundw
              case rel => exact ⟨k + 1, lst.take (lst.length - 1), by go_num, by omega, OT.out, by rw [TL.out]; omega, by rw [TL.out]; exact HE2.out, HBK.out, ROW.out, NB2.out, hgs⟩
              case measure => simp [intOf]; omega
        · rw [if_neg hdd] at hcl
          have t2' := list_lit (s := x) (l := [46, 46]) (by rw [hpd]; exact hdd)
          have HCLB := Lib.hid (HEK.out.trans hcl)
          clear hcl hpd hdd
          go_wp2_with (at_builtin; go_loud (refine wpList_append_one (v := u10) flat_str rfl (.tmp 49) (.tmp 51) _ rfl elem_strS rfl O.out (es := [.string x]) (b := x) rfl ⟨rfl, hsz⟩ (by omega) (by unfold maxLen; omega) HBK.out.size ?_))
          intro v' w3 hown2 hg2 hsz2 hat2
          have O2 := Lib.hid hown2
          have HB3 := Lib.hid (HBK.out.grown hg2 HBK.out.size (fun n hn => (O.out.lt n hn).1))
          have ROW3 := Lib.hid (ROW.out.keep (fun b hb => by subst hb; exact hg2.block _ hgs (fun e => NBK.out e.symm)))
          have NB3 : Hid (v'.ownBlock ≠ some G) := Lib.hid (fun h => by
            rcases hat2 with e | e
            · exact NBK.out (e.symm.trans h)
            · rw [e] at h; injection h with h; omega)
          have hgs3 : G < w3.heap.size := by omega
          clear hown2 hg2 hsz2 hat2
          go_wp2_with fail
          go_roundw
          case rel => exact ⟨k + 1, lst ++ [x], by go_num, by omega, O2.out, by simp; omega, by rw [List.length_append]; exact HCLB.out, HB3.out, ROW3.out, NB3.out, hgs3⟩
          case measure => simp [intOf]; omega
    · have hkn : k = P.length := by omega
      have hE : E = 0 := by rw [HEK.out, List.drop_eq_nil_of_le (by omega)]; rfl
      subst hE
      subst hkn
      go_wp2_with fail
      rw [Exit.noGoto_ret]
      go_ret2
      exact ⟨HBK.out, _, rfl⟩
end Go.Proofs.YtjknjmlpnjifkaaDoor
