/- The reference's decimal numeral: what it computes. No condition but room. -/
import Derived.Test.YtnadldcdckjifaaDoorOwnSet
import Derived.Test.YtnadldcdckjifaaDoorElemB
namespace Go.Proofs.YtnadldcdckjifaaDoor
open Go.RowKit
set_option linter.unusedVariables false
set_option linter.unusedSimpArgs false
attribute [local go_sem] cell?_over frozen?_over lt_over le_over

theorem digit_pos (u : Nat) : (IntKind.u8.wrap (48 + ((u % 10 : Nat) : Int))) = ((UInt8.ofNat (48 + u % 10)).toNat : Int) := by
  rw [IntKind.wrap_u8, UInt8.toNat_ofNat']
  omega
theorem len_bytes (b : Option Addr) (n c : Nat) (W : World) : (Builtin.len_ #[39] 3 #[.slice b n c]).run Tryd.prog W = .ok (.int .i64 n) W := run_len_slice W _ _ b n c (by kernel_rfl)
theorem quo10 (y : Int) : (0 ≤ y ∧ y.tdiv 10 = y / 10 ∧ y.tmod 10 = y % 10) ∨ (y < 0 ∧ y.tdiv 10 = -((-y) / 10) ∧ y.tmod 10 = -((-y) % 10)) := by
  by_cases h : 0 ≤ y
  · exact .inl ⟨h, Int.tdiv_eq_ediv_of_nonneg h, Int.tmod_eq_emod_of_nonneg h⟩
  · refine .inr ⟨by omega, ?_, ?_⟩
    · rw [← Int.tdiv_eq_ediv_of_nonneg (show 0 ≤ -y by omega), Int.neg_tdiv, Int.neg_neg]
    · rw [← Int.tmod_eq_emod_of_nonneg (show 0 ≤ -y by omega), Int.neg_tmod, Int.neg_neg]
theorem below_setCell' {B : Nat} {W w : World} (h : Below B W w) {g i : Nat} (hg : B ≤ g) (u : Value) : Below B W (w.setCell ⟨g, i, none⟩ u) := h.setCell (p := ⟨g, i, none⟩) hg u
set_option maxHeartbeats 1000000 in
set_option maxRecDepth 100000 in
theorem refShow (v : Int) (hv : I64 v) (w : World) :
    Calls Tryd.prog 35 #[.int .i64 v] w fun e w' => e = .returned (.string ⟨(Lib.itoa v).toArray⟩) ∧ Below w.heap.size w w' := by
  by_cases h0 : v = 0
  · subst h0
    rw [itoa_0]
    go_enter Tryd.func35, Tryd.ntmps35
    go_wp2
    go_ret
    exact ⟨rfl, Below.refl _ _⟩
  have hd0 : (v == 0) = false := by simpa using h0
  have HI := Lib.hid (itoa_decR h0)
  go_enter Tryd.func35, Tryd.ntmps35
  go_wp2_with fail
  go_loopw [0, 3] (fun x v3 wr => ∃ (y : Int) (l : List UInt8), x = .int .i64 y ∧ I64 y ∧ (v < 0 → y ≤ 0) ∧ (0 < v → 0 ≤ y) ∧ decR v.natAbs = decR y.natAbs ++ l.reverse ∧ OwnB 5 wr w.heap.size v3 l ∧ Below w.heap.size w wr ∧ w.heap.size ≤ wr.heap.size) (fun x _ _ => (intOf x).natAbs)
  case atStart => exact ⟨v, [], rfl, hv, fun h => by omega, fun h => by omega, by simp, Own.made Shape.byte _ w _ (Nat.le_refl _), by go_grown, by simp⟩
  case round =>
    obtain ⟨y, l, rfl, hy, hs1, hs2, hdec, hown, hbel, hsz⟩ := hrel
    have hlen : l.length ≤ 19 := by
      have h1 := decR_len v.natAbs 19 (by have := hv.1; have := hv.2; omega)
      rw [hdec] at h1
      simp at h1
      omega
    by_cases hy0 : y = 0
    · subst hy0
      have hl0 : decR v.natAbs = l.reverse := by rw [hdec]; simp [decR]
      have HL : Hid (Lib.itoa v = (if v < 0 then [45] else []) ++ l.reverse) := Lib.hid (by rw [HI.out, hl0])
      clear hdec
      have hpos : 0 < l.length := by
        have h1 : decR v.natAbs ≠ [] := by rw [decR_step (by omega)]; simp
        rw [hl0] at h1
        cases l with
        | nil => exact absurd rfl h1
        | cons _ _ => simp
      clear hl0
      by_cases hneg : v < 0
      · have hd2 : decide (v < 0) = true := by simpa using hneg
        go_wp2_with (first
          | (at_builtin; refine wpList_append_b1 rfl (.tmp 31) (.tmp 32) _ rfl elem_byte rfl hown _ 45 rfl rfl (by omega) hbel hsz ?_; intro v1 w1 hown1 hb1 hs1))
        have HR : Lib.itoa v = (l ++ [45]).reverse := by rw [HL.out, if_pos hneg]; simp
        have hkl : (l ++ [45]).length ≤ 20 := by simp; omega
        have hkp : 0 < (l ++ [45]).length := by simp
        generalize l ++ [45] = k at *
        have HK := Lib.hid HR
        obtain ⟨g, cap, rfl, hg1, hg2, hgc⟩ := hown1.get hkp
        clear HR hown HL hd2 hneg hbel hsz hpos hlen
        go_wp2_with fail
        simp only [len_bytes, Result.andThen_ok]
        go_wp2_with fail
        go_loopw [6, 7] (fun i j wr2 => ∃ (p q : Nat) (cur : List UInt8), i = .int .i64 p ∧ j = .int .i64 q ∧ p + q + 1 = k.length ∧ revAt k cur p ∧ OwnB 5 wr2 w.heap.size (.slice (some ⟨g, 0, none⟩) k.length cap) cur ∧ Below w.heap.size w wr2 ∧ w.heap.size ≤ wr2.heap.size) (fun i j _ => (intOf j - intOf i + 2).toNat)
        case atStart => exact ⟨0, k.length - 1, k, rfl, by go_num, by omega, revAt_0 k, hown1, hb1, hs1⟩
        case round =>
          obtain ⟨p, q, cur, rfl, rfl, hpq, hrev, hown2, hb2, hs2⟩ := hrel
          have hcl := hrev.1
          by_cases hlt : p < q
          · have hlt2 : (p : Int) < q := by omega
            obtain ⟨a, ha⟩ : ∃ a, cur[p]? = some a := ⟨_, List.getElem?_eq_getElem (by omega)⟩
            obtain ⟨b, hb⟩ : ∃ b, cur[q]? = some b := ⟨_, List.getElem?_eq_getElem (by omega)⟩
            obtain ⟨ca, fa⟩ := hown2.cell rfl ha
            obtain ⟨cb, fb⟩ := hown2.cell rfl hb
            have hown3 := Own.set1 (i := p) (u := .int .u8 b.toNat) (a := b) (s := Shape.byte) rfl flat_byte hown2 rfl rfl
            have hown4 := Own.set1 (i := q) (u := .int .u8 a.toNat) (a := a) (s := Shape.byte) rfl flat_byte hown3 rfl rfl
            have fb2 := (OwnB.cell hown3 (i := q) (c := b) rfl (by rw [List.getElem?_set_ne (by omega)]; exact hb)).2
            have hq' : q = k.length - 1 - p := by omega
            have hrev2 : revAt k ((cur.set p b).set q a) (p + 1) := by
              subst hq'
              exact revAt_step hrev (by omega) ha hb
            have O4 := Lib.hid hown4; have R2 := Lib.hid hrev2
            clear hown3 hown4 hrev2 hq' hrev ha hb hown2
            go_wp2
            go_roundw
            case rel => exact ⟨p + 1, q - 1, _, by go_num, by go_num, by omega, R2.out, O4.out, (hb2.setCell (p := ⟨g, p, none⟩) hg1 _).setCell (p := ⟨g, q, none⟩) hg1 _, by simpa [World.setCell] using hs2⟩
            case measure => simp [intOf]; omega
          · have hlt2 : ¬ (p : Int) < q := by omega
            have hcur := revAt_end hrev (by omega)
            rw [hcur] at hown2
            have hcv := run_str_of (P := Tryd.prog) 39 9 Tryd.underlying39 Tryd.underlying5 Tryd.underlying9 hown2.rd
            have O := Lib.hid hown2
            clear hown2 hcur hrev
            go_wp2
            go_ret
            rw [HK.out]
            exact ⟨rfl, hb2⟩
      · have hd2 : decide (v < 0) = false := by simpa using hneg
        have HR : Lib.itoa v = l.reverse := by rw [HL.out, if_neg hneg]; simp
        have hkl : l.length ≤ 20 := by omega
        have hkp := hpos
        obtain ⟨k, hk⟩ : ∃ k, k = l := ⟨_, rfl⟩
        have HK := Lib.hid HR
        have hown1 := hown; have hb1 := hbel; have hs1 := hsz
        rw [← hk] at HK hkl hkp hown1
        obtain ⟨g, cap, rfl, hg1, hg2, hgc⟩ := hown1.get hkp
        clear hk HR hown HL hbel hsz hpos hlen
        go_wp2_with fail
        try simp only [len_bytes, Result.andThen_ok]
        go_wp2_with fail
        go_loopw [6, 7] (fun i j wr2 => ∃ (p q : Nat) (cur : List UInt8), i = .int .i64 p ∧ j = .int .i64 q ∧ p + q + 1 = k.length ∧ revAt k cur p ∧ OwnB 5 wr2 w.heap.size (.slice (some ⟨g, 0, none⟩) k.length cap) cur ∧ Below w.heap.size w wr2 ∧ w.heap.size ≤ wr2.heap.size) (fun i j _ => (intOf j - intOf i + 2).toNat)
        case atStart => exact ⟨0, k.length - 1, k, rfl, by go_num, by omega, revAt_0 k, hown1, hb1, hs1⟩
        case round =>
          obtain ⟨p, q, cur, rfl, rfl, hpq, hrev, hown2, hb2, hs2⟩ := hrel
          have hcl := hrev.1
          by_cases hlt : p < q
          · have hlt2 : (p : Int) < q := by omega
            obtain ⟨a, ha⟩ : ∃ a, cur[p]? = some a := ⟨_, List.getElem?_eq_getElem (by omega)⟩
            obtain ⟨b, hb⟩ : ∃ b, cur[q]? = some b := ⟨_, List.getElem?_eq_getElem (by omega)⟩
            obtain ⟨ca, fa⟩ := hown2.cell rfl ha
            obtain ⟨cb, fb⟩ := hown2.cell rfl hb
            have hown3 := Own.set1 (i := p) (u := .int .u8 b.toNat) (a := b) (s := Shape.byte) rfl flat_byte hown2 rfl rfl
            have hown4 := Own.set1 (i := q) (u := .int .u8 a.toNat) (a := a) (s := Shape.byte) rfl flat_byte hown3 rfl rfl
            have fb2 := (OwnB.cell hown3 (i := q) (c := b) rfl (by rw [List.getElem?_set_ne (by omega)]; exact hb)).2
            have hq' : q = k.length - 1 - p := by omega
            have hrev2 : revAt k ((cur.set p b).set q a) (p + 1) := by
              subst hq'
              exact revAt_step hrev (by omega) ha hb
            have O4 := Lib.hid hown4; have R2 := Lib.hid hrev2
            clear hown3 hown4 hrev2 hq' hrev ha hb hown2
            go_wp2
            go_roundw
            case rel => exact ⟨p + 1, q - 1, _, by go_num, by go_num, by omega, R2.out, O4.out, (hb2.setCell (p := ⟨g, p, none⟩) hg1 _).setCell (p := ⟨g, q, none⟩) hg1 _, by simpa [World.setCell] using hs2⟩
            case measure => simp [intOf]; omega
          · have hlt2 : ¬ (p : Int) < q := by omega
            have hcur := revAt_end hrev (by omega)
            rw [hcur] at hown2
            have hcv := run_str_of (P := Tryd.prog) 39 9 Tryd.underlying39 Tryd.underlying5 Tryd.underlying9 hown2.rd
            have O := Lib.hid hown2
            clear hown2 hcur hrev
            go_wp2
            go_ret
            rw [HK.out]
            exact ⟨rfl, hb2⟩
    · have hd : (y != 0) = true := by simpa using hy0
      have hu : y.natAbs ≠ 0 := by omega
      have hst := decR_step hu
      have HD := Lib.hid hdec; have HST := Lib.hid hst; clear hdec hst
      have hdig : ∀ d : Int, (if y.tmod 10 < 0 then wrap64 (-y.tmod 10) else y.tmod 10) = d → wrap64 (48 + d) % 256 = ((UInt8.ofNat (48 + y.natAbs % 10)).toNat : Int) := by
        intro d hd
        subst hd
        rw [UInt8.toNat_ofNat']
        have := hy.1; have := hy.2
        have hq := quo10 y
        unfold wrap64
        split <;> omega
      have hK : ∀ (v1 : Value) (w1 : World), OwnB 5 w1 w.heap.size v1 (l ++ [UInt8.ofNat (48 + y.natAbs % 10)]) → Below w.heap.size w w1 → w.heap.size ≤ w1.heap.size →
          ∃ (z : Int) (k : List UInt8), Value.int .i64 (y.tdiv 10) = .int .i64 z ∧ I64 z ∧ (v < 0 → z ≤ 0) ∧ (0 < v → 0 ≤ z) ∧ decR v.natAbs = decR z.natAbs ++ k.reverse ∧ OwnB 5 w1 w.heap.size v1 k ∧ Below w.heap.size w w1 ∧ w.heap.size ≤ w1.heap.size := by
        intro v1 w1 a1 a2 a3
        have hq := quo10 y
        refine ⟨_, _, rfl, ⟨?_, ?_⟩, ?_, ?_, ?_, a1, a2, a3⟩
        · have := hy.1; omega
        · have := hy.2; omega
        · intro h; have := hs1 h; omega
        · intro h; have := hs2 h; omega
        · rw [HD.out, HST.out, show (y.tdiv 10).natAbs = y.natAbs / 10 by omega]
          simp
      have HK := Lib.hid hK; clear hK
      have HW : Hid (wrap64 (y.tdiv 10) = y.tdiv 10) := Lib.hid (IntWalk.wrap64_in _ (by have hq := quo10 y; have := hy.1; have := hy.2; omega))
      by_cases hneg : y.tmod 10 < 0
      · have hd2 : decide (y.tmod 10 < 0) = true := by simpa using hneg
        have HE := Lib.hid (hdig _ (if_pos hneg))
        clear hdig hneg
        go_wp2_with (first
          | (at_builtin; refine wpList_append_b1 rfl (.tmp 22) (.tmp 26) _ rfl elem_byte rfl hown _ (UInt8.ofNat (48 + y.natAbs % 10)) rfl HE.out (by omega) hbel hsz ?_; intro v1 w1 hown1 hb1 hs1))
        go_roundw
        case rel => rw [HW.out]; exact HK.out _ _ hown1 hb1 hs1
        case measure => have hq := quo10 y; rw [HW.out]; simp only [intOf]; omega
      · have hd2 : decide (y.tmod 10 < 0) = false := by simpa using hneg
        have HE := Lib.hid (hdig _ (if_neg hneg))
        clear hdig hneg
        go_wp2_with (first
          | (at_builtin; refine wpList_append_b1 rfl (.tmp 22) (.tmp 26) _ rfl elem_byte rfl hown _ (UInt8.ofNat (48 + y.natAbs % 10)) rfl HE.out (by omega) hbel hsz ?_; intro v1 w1 hown1 hb1 hs1))
        go_roundw
        case rel => rw [HW.out]; exact HK.out _ _ hown1 hb1 hs1
        case measure => have hq := quo10 y; rw [HW.out]; simp only [intOf]; omega
end Go.Proofs.YtnadldcdckjifaaDoor
