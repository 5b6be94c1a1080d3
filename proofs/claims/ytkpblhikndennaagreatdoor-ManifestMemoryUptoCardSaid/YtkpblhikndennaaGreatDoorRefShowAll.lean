/- The reference's decimal numeral: what it computes. No condition but room. The nine digits of a part of a second, plain. No condition. The reference's Show of a good stamp: its text; of a bad one: the error. No condition but room. -/
import Derived.Test.YtkpblhikndennaaGreatDoorEscAll
import Derived.Test.YtkpblhikndennaaGreatDoorShowAll
namespace Go.Proofs.YtkpblhikndennaaGreatDoor
open Go.RowKit
set_option linter.unusedVariables false
set_option linter.unusedSimpArgs false
attribute [local go_sem] cell?_over frozen?_over lt_over le_over

theorem digit_pos (u : Nat) : (IntKind.u8.wrap (48 + ((u % 10 : Nat) : Int))) = ((UInt8.ofNat (48 + u % 10)).toNat : Int) := by
  rw [IntKind.wrap_u8, UInt8.toNat_ofNat']
  omega
theorem len_bytes (b : Option Addr) (n c : Nat) (W : World) : (Builtin.len_ #[44] 3 #[.slice b n c]).run Tryz.prog W = .ok (.int .i64 n) W := run_len_slice W _ _ b n c (by kernel_rfl)
theorem quo10 (y : Int) : (0 ≤ y ∧ y.tdiv 10 = y / 10 ∧ y.tmod 10 = y % 10) ∨ (y < 0 ∧ y.tdiv 10 = -((-y) / 10) ∧ y.tmod 10 = -((-y) % 10)) := by
  by_cases h : 0 ≤ y
  · exact .inl ⟨h, Int.tdiv_eq_ediv_of_nonneg h, Int.tmod_eq_emod_of_nonneg h⟩
  · refine .inr ⟨by omega, ?_, ?_⟩
    · rw [← Int.tdiv_eq_ediv_of_nonneg (show 0 ≤ -y by omega), Int.neg_tdiv, Int.neg_neg]
    · rw [← Int.tmod_eq_emod_of_nonneg (show 0 ≤ -y by omega), Int.neg_tmod, Int.neg_neg]
theorem below_setCell' {B : Nat} {W w : World} (h : Below B W w) {g i : Nat} (hg : B ≤ g) (u : Value) : Below B W (w.setCell ⟨g, i, none⟩ u) := h.setCell (p := ⟨g, i, none⟩) hg u
set_option maxHeartbeats 1000000 in
set_option maxRecDepth 100000 in
theorem refShow (v : Int) (hv : I64 v) (w : World) :
    Calls Tryz.prog 75 #[.int .i64 v] w fun e w' => e = .returned (.string ⟨(Lib.itoa v).toArray⟩) ∧ Below w.heap.size w w' := by
  by_cases h0 : v = 0
  · subst h0
    rw [itoa_0]
    go_enter Tryz.func75, Tryz.ntmps75
    go_wp2
    go_ret
    exact ⟨rfl, Below.refl _ _⟩
  have hd0 : (v == 0) = false := by simpa using h0
  have HI := Lib.hid (itoa_decR h0)
  go_enter Tryz.func75, Tryz.ntmps75
  go_wp2_with fail
  go_loopw [0, 3] (fun x v3 wr => ∃ (y : Int) (l : List UInt8), x = .int .i64 y ∧ I64 y ∧ (v < 0 → y ≤ 0) ∧ (0 < v → 0 ≤ y) ∧ decR v.natAbs = decR y.natAbs ++ l.reverse ∧ OwnB 5 wr w.heap.size v3 l ∧ Below w.heap.size w wr ∧ w.heap.size ≤ wr.heap.size) (fun x _ _ => (intOf x).natAbs)
  case atStart => exact ⟨v, [], rfl, hv, fun h => by omega, fun h => by omega, by simp, Own.made Shape.byte _ w _ (Nat.le_refl _), by go_grown, by simp⟩
  case round =>
    obtain ⟨y, l, rfl, hy, hs1, hs2, hdec, hown, hbel, hsz⟩ := hrel
    have hlen : l.length ≤ 19 := by
      have h1 := decR_len v.natAbs 19 (by have := hv.1; have := hv.2; omega)
      rw [hdec] at h1
      simp at h1
      omega
    by_cases hy0 : y = 0
    · subst hy0
      have hl0 : decR v.natAbs = l.reverse := by rw [hdec]; simp [decR]
      have HL : Hid (Lib.itoa v = (if v < 0 then [45] else []) ++ l.reverse) := Lib.hid (by rw [HI.out, hl0])
      clear hdec
      have hpos : 0 < l.length := by
        have h1 : decR v.natAbs ≠ [] := by rw [decR_step (by omega)]; simp
        rw [hl0] at h1
        cases l with
        | nil => exact absurd rfl h1
        | cons _ _ => simp
      clear hl0
      by_cases hneg : v < 0
      · have hd2 : decide (v < 0) = true := by simpa using hneg
        go_wp2_with (first
          | (at_builtin; refine wpList_append_b1 rfl (.tmp 31) (.tmp 32) _ rfl elem_byte rfl hown _ 45 rfl rfl (by omega) hbel hsz ?_; intro v1 w1 hown1 hb1 hs1))
        have HR : Lib.itoa v = (l ++ [45]).reverse := by rw [HL.out, if_pos hneg]; simp
        have hkl : (l ++ [45]).length ≤ 20 := by simp; omega
        have hkp : 0 < (l ++ [45]).length := by simp
        generalize l ++ [45] = k at *
        have HK := Lib.hid HR
        obtain ⟨g, cap, rfl, hg1, hg2, hgc⟩ := hown1.get hkp
        clear HR hown HL hd2 hneg hbel hsz hpos hlen
        go_wp2_with fail
        simp only [len_bytes, Result.andThen_ok]
        go_wp2_with fail
        go_loopw [6, 7] (fun i j wr2 => ∃ (p q : Nat) (cur : List UInt8), i = .int .i64 p ∧ j = .int .i64 q ∧ p + q + 1 = k.length ∧ revAt k cur p ∧ OwnB 5 wr2 w.heap.size (.slice (some ⟨g, 0, none⟩) k.length cap) cur ∧ Below w.heap.size w wr2 ∧ w.heap.size ≤ wr2.heap.size) (fun i j _ => (intOf j - intOf i + 2).toNat)
        case atStart => exact ⟨0, k.length - 1, k, rfl, by go_num, by omega, revAt_0 k, hown1, hb1, hs1⟩
        case round =>
          obtain ⟨p, q, cur, rfl, rfl, hpq, hrev, hown2, hb2, hs2⟩ := hrel
          have hcl := hrev.1
          by_cases hlt : p < q
          · have hlt2 : (p : Int) < q := by omega
            obtain ⟨a, ha⟩ : ∃ a, cur[p]? = some a := ⟨_, List.getElem?_eq_getElem (by omega)⟩
            obtain ⟨b, hb⟩ : ∃ b, cur[q]? = some b := ⟨_, List.getElem?_eq_getElem (by omega)⟩
            obtain ⟨ca, fa⟩ := hown2.cell rfl ha
            obtain ⟨cb, fb⟩ := hown2.cell rfl hb
            have hown3 := Own.set1 (i := p) (u := .int .u8 b.toNat) (a := b) (s := Shape.byte) rfl flat_byte hown2 rfl rfl
            have hown4 := Own.set1 (i := q) (u := .int .u8 a.toNat) (a := a) (s := Shape.byte) rfl flat_byte hown3 rfl rfl
            have fb2 := (OwnB.cell hown3 (i := q) (c := b) rfl (by rw [List.getElem?_set_ne (by omega)]; exact hb)).2
            have hq' : q = k.length - 1 - p := by omega
            have hrev2 : revAt k ((cur.set p b).set q a) (p + 1) := by
              subst hq'
              exact revAt_step hrev (by omega) ha hb
            have O4 := Lib.hid hown4; have R2 := Lib.hid hrev2
            clear hown3 hown4 hrev2 hq' hrev ha hb hown2
            go_wp2
            go_roundw
            case rel => exact ⟨p + 1, q - 1, _, by go_num, by go_num, by omega, R2.out, O4.out, (hb2.setCell (p := ⟨g, p, none⟩) hg1 _).setCell (p := ⟨g, q, none⟩) hg1 _, by simpa [World.setCell] using hs2⟩
            case measure => simp [intOf]; omega
          · have hlt2 : ¬ (p : Int) < q := by omega
            have hcur := revAt_end hrev (by omega)
            rw [hcur] at hown2
            have hcv := run_str_of (P := Tryz.prog) 44 9 Tryz.underlying44 Tryz.underlying5 Tryz.underlying9 hown2.rd
            have O := Lib.hid hown2
            clear hown2 hcur hrev
            go_wp2
            go_ret
            rw [HK.out]
            exact ⟨rfl, hb2⟩
      · have hd2 : decide (v < 0) = false := by simpa using hneg
        have HR : Lib.itoa v = l.reverse := by rw [HL.out, if_neg hneg]; simp
        have hkl : l.length ≤ 20 := by omega
        have hkp := hpos
        obtain ⟨k, hk⟩ : ∃ k, k = l := ⟨_, rfl⟩
        have HK := Lib.hid HR
        have hown1 := hown; have hb1 := hbel; have hs1 := hsz
        rw [← hk] at HK hkl hkp hown1
        obtain ⟨g, cap, rfl, hg1, hg2, hgc⟩ := hown1.get hkp
        clear hk HR hown HL hbel hsz hpos hlen
        go_wp2_with fail
        try simp only [len_bytes, Result.andThen_ok]
        go_wp2_with fail
        go_loopw [6, 7] (fun i j wr2 => ∃ (p q : Nat) (cur : List UInt8), i = .int .i64 p ∧ j = .int .i64 q ∧ p + q + 1 = k.length ∧ revAt k cur p ∧ OwnB 5 wr2 w.heap.size (.slice (some ⟨g, 0, none⟩) k.length cap) cur ∧ Below w.heap.size w wr2 ∧ w.heap.size ≤ wr2.heap.size) (fun i j _ => (intOf j - intOf i + 2).toNat)
        case atStart => exact ⟨0, k.length - 1, k, rfl, by go_num, by omega, revAt_0 k, hown1, hb1, hs1⟩
        case round =>
          obtain ⟨p, q, cur, rfl, rfl, hpq, hrev, hown2, hb2, hs2⟩ := hrel
          have hcl := hrev.1
          by_cases hlt : p < q
          · have hlt2 : (p : Int) < q := by omega
            obtain ⟨a, ha⟩ : ∃ a, cur[p]? = some a := ⟨_, List.getElem?_eq_getElem (by omega)⟩
            obtain ⟨b, hb⟩ : ∃ b, cur[q]? = some b := ⟨_, List.getElem?_eq_getElem (by omega)⟩
            obtain ⟨ca, fa⟩ := hown2.cell rfl ha
            obtain ⟨cb, fb⟩ := hown2.cell rfl hb
            have hown3 := Own.set1 (i := p) (u := .int .u8 b.toNat) (a := b) (s := Shape.byte) rfl flat_byte hown2 rfl rfl
            have hown4 := Own.set1 (i := q) (u := .int .u8 a.toNat) (a := a) (s := Shape.byte) rfl flat_byte hown3 rfl rfl
            have fb2 := (OwnB.cell hown3 (i := q) (c := b) rfl (by rw [List.getElem?_set_ne (by omega)]; exact hb)).2
            have hq' : q = k.length - 1 - p := by omega
            have hrev2 : revAt k ((cur.set p b).set q a) (p + 1) := by
              subst hq'
              exact revAt_step hrev (by omega) ha hb
            have O4 := Lib.hid hown4; have R2 := Lib.hid hrev2
            clear hown3 hown4 hrev2 hq' hrev ha hb hown2
            go_wp2
            go_roundw
            case rel => exact ⟨p + 1, q - 1, _, by go_num, by go_num, by omega, R2.out, O4.out, (hb2.setCell (p := ⟨g, p, none⟩) hg1 _).setCell (p := ⟨g, q, none⟩) hg1 _, by simpa [World.setCell] using hs2⟩
            case measure => simp [intOf]; omega
          · have hlt2 : ¬ (p : Int) < q := by omega
            have hcur := revAt_end hrev (by omega)
            rw [hcur] at hown2
            have hcv := run_str_of (P := Tryz.prog) 44 9 Tryz.underlying44 Tryz.underlying5 Tryz.underlying9 hown2.rd
            have O := Lib.hid hown2
            clear hown2 hcur hrev
            go_wp2
            go_ret
            rw [HK.out]
            exact ⟨rfl, hb2⟩
    · have hd : (y != 0) = true := by simpa using hy0
      have hu : y.natAbs ≠ 0 := by omega
      have hst := decR_step hu
      have HD := Lib.hid hdec; have HST := Lib.hid hst; clear hdec hst
      have hdig : ∀ d : Int, (if y.tmod 10 < 0 then wrap64 (-y.tmod 10) else y.tmod 10) = d → wrap64 (48 + d) % 256 = ((UInt8.ofNat (48 + y.natAbs % 10)).toNat : Int) := by
        intro d hd
        subst hd
        rw [UInt8.toNat_ofNat']
        have := hy.1; have := hy.2
        have hq := quo10 y
        unfold wrap64
        split <;> omega
      have hK : ∀ (v1 : Value) (w1 : World), OwnB 5 w1 w.heap.size v1 (l ++ [UInt8.ofNat (48 + y.natAbs % 10)]) → Below w.heap.size w w1 → w.heap.size ≤ w1.heap.size →
          ∃ (z : Int) (k : List UInt8), Value.int .i64 (y.tdiv 10) = .int .i64 z ∧ I64 z ∧ (v < 0 → z ≤ 0) ∧ (0 < v → 0 ≤ z) ∧ decR v.natAbs = decR z.natAbs ++ k.reverse ∧ OwnB 5 w1 w.heap.size v1 k ∧ Below w.heap.size w w1 ∧ w.heap.size ≤ w1.heap.size := by
        intro v1 w1 a1 a2 a3
        have hq := quo10 y
        refine ⟨_, _, rfl, ⟨?_, ?_⟩, ?_, ?_, ?_, a1, a2, a3⟩
        · have := hy.1; omega
        · have := hy.2; omega
        · intro h; have := hs1 h; omega
        · intro h; have := hs2 h; omega
        · rw [HD.out, HST.out, show (y.tdiv 10).natAbs = y.natAbs / 10 by omega]
          simp
      have HK := Lib.hid hK; clear hK
      have HW : Hid (wrap64 (y.tdiv 10) = y.tdiv 10) := Lib.hid (IntWalk.wrap64_in _ (by have hq := quo10 y; have := hy.1; have := hy.2; omega))
      by_cases hneg : y.tmod 10 < 0
      · have hd2 : decide (y.tmod 10 < 0) = true := by simpa using hneg
        have HE := Lib.hid (hdig _ (if_pos hneg))
        clear hdig hneg
        go_wp2_with (first
          | (at_builtin; refine wpList_append_b1 rfl (.tmp 22) (.tmp 26) _ rfl elem_byte rfl hown _ (UInt8.ofNat (48 + y.natAbs % 10)) rfl HE.out (by omega) hbel hsz ?_; intro v1 w1 hown1 hb1 hs1))
        go_roundw
        case rel => rw [HW.out]; exact HK.out _ _ hown1 hb1 hs1
        case measure => have hq := quo10 y; rw [HW.out]; simp only [intOf]; omega
      · have hd2 : decide (y.tmod 10 < 0) = false := by simpa using hneg
        have HE := Lib.hid (hdig _ (if_neg hneg))
        clear hdig hneg
        go_wp2_with (first
          | (at_builtin; refine wpList_append_b1 rfl (.tmp 22) (.tmp 26) _ rfl elem_byte rfl hown _ (UInt8.ofNat (48 + y.natAbs % 10)) rfl HE.out (by omega) hbel hsz ?_; intro v1 w1 hown1 hb1 hs1))
        go_roundw
        case rel => rw [HW.out]; exact HK.out _ _ hown1 hb1 hs1
        case measure => have hq := quo10 y; rw [HW.out]; simp only [intOf]; omega
end Go.Proofs.YtkpblhikndennaaGreatDoor
namespace Go.Proofs.YtkpblhikndennaaGreatDoor
set_option linter.unusedVariables false
set_option linter.unusedSimpArgs false

def digN (n i : Nat) : UInt8 := UInt8.ofNat (48 + n / 10 ^ i % 10)
def nine (n : Nat) : List UInt8 := [digN n 8, digN n 7, digN n 6, digN n 5, digN n 4, digN n 3, digN n 2, digN n 1, digN n 0]
theorem dec_drop {u : Nat} (h : 10 ≤ u) : (Lib.decDigits u).drop 1 = (Lib.decDigits (u / 10)).drop 1 ++ [UInt8.ofNat (48 + u % 10)] := by
  rw [Lib.decDigits.eq_def, dif_neg (by omega), List.drop_append_of_le_length]
  rw [Lib.decDigits_length]
  have : 1 ≤ (Lib.decDigits (u / 10)).length := by
    rw [Lib.decDigits.eq_def]; split <;> simp
  rw [Lib.decDigits_length] at this
  exact this
theorem dec_small {u : Nat} (h : u < 10) : (Lib.decDigits u).drop 1 = [] := by
  rw [Lib.decDigits.eq_def, dif_pos h]; rfl
theorem itoa_nine (n : Int) (h0 : 0 ≤ n) (h1 : n < 1000000000) : (Lib.itoa (1000000000 + n)).drop 1 = nine n.toNat := by
  obtain ⟨k, rfl⟩ := Int.eq_ofNat_of_zero_le h0
  have hk : k < 1000000000 := by omega
  have e : Lib.itoa (1000000000 + (k : Int)) = Lib.decDigits (1000000000 + k) := by
    unfold Lib.itoa
    rw [if_neg (by omega)]
    congr 1
  rw [e]
  have d : ∀ a b c : Nat, a = b → UInt8.ofNat (48 + a) = UInt8.ofNat (48 + b) := fun a b c h => by rw [h]
  rw [dec_drop (by omega), dec_drop (by omega), dec_drop (by omega), dec_drop (by omega), dec_drop (by omega), dec_drop (by omega), dec_drop (by omega), dec_drop (by omega), dec_drop (by omega), dec_small (by omega)]
  simp only [nine, digN, List.nil_append, List.cons_append, Int.toNat_natCast]
  have p : ∀ a b : Nat, a = b → UInt8.ofNat (48 + a) = UInt8.ofNat (48 + b) := fun a b h => by rw [h]
  congr 1
  · apply p; omega
  congr 1
  · apply p; omega
  congr 1
  · apply p; omega
  congr 1
  · apply p; omega
  congr 1
  · apply p; omega
  congr 1
  · apply p; omega
  congr 1
  · apply p; omega
  congr 1
  · apply p; omega
  congr 1
  apply p; omega
theorem nine_len (n : Nat) : (nine n).length = 9 := rfl
theorem trim_snoc (l : List UInt8) (a : UInt8) : Lib.trimRightB (l ++ [a]) 48 = if a = 48 then Lib.trimRightB l 48 else l ++ [a] := by
  unfold Lib.trimRightB
  rw [List.reverse_append, List.reverse_singleton, List.singleton_append, List.dropWhile_cons]
  by_cases h : a = 48
  · rw [if_pos h, if_pos (by simpa using h)]
  · rw [if_neg h, if_neg (by simpa using h)]; simp
theorem trim_nil : Lib.trimRightB [] 48 = [] := rfl
theorem drop_all {l : List UInt8} (h : l.dropWhile (· == 48) = []) : ∀ a ∈ l, a = 48 := by
  induction l with
  | nil => simp
  | cons a l ih =>
    rw [List.dropWhile_cons] at h
    by_cases ha : a = 48
    · rw [if_pos (by simpa using ha)] at h
      intro b hb
      rcases List.mem_cons.1 hb with e | e
      · exact e.trans ha
      · exact ih h b e
    · rw [if_neg (by simpa using ha)] at h; cases h
theorem trim_all {l : List UInt8} (h : Lib.trimRightB l 48 = []) : ∀ a ∈ l, a = 48 := by
  unfold Lib.trimRightB at h
  rw [List.reverse_eq_nil_iff] at h
  intro a ha
  exact drop_all h a (by simpa using ha)
theorem digN_48 {n i : Nat} (h : digN n i = 48) : n / 10 ^ i % 10 = 0 := by
  have h2 := congrArg UInt8.toNat h
  unfold digN at h2
  rw [UInt8.toNat_ofNat'] at h2
  have : (48 : UInt8).toNat = 48 := rfl
  omega
theorem nine_trim {n : Nat} (h0 : 0 < n) (h1 : n < 1000000000) : Lib.trimRightB (nine n) 48 ≠ [] := by
  intro h
  have ha := trim_all h
  have d0 := digN_48 (ha (digN n 0) (by simp [nine]))
  have d1 := digN_48 (ha (digN n 1) (by simp [nine]))
  have d2 := digN_48 (ha (digN n 2) (by simp [nine]))
  have d3 := digN_48 (ha (digN n 3) (by simp [nine]))
  have d4 := digN_48 (ha (digN n 4) (by simp [nine]))
  have d5 := digN_48 (ha (digN n 5) (by simp [nine]))
  have d6 := digN_48 (ha (digN n 6) (by simp [nine]))
  have d7 := digN_48 (ha (digN n 7) (by simp [nine]))
  have d8 := digN_48 (ha (digN n 8) (by simp [nine]))
  simp at d0 d1 d2 d3 d4 d5 d6 d7 d8
  omega
end Go.Proofs.YtkpblhikndennaaGreatDoor
namespace Go.Proofs.YtkpblhikndennaaGreatDoor
open Go.RowKit
attribute [local go_sem] cell?_over frozen?_over lt_over le_over
set_option linter.unusedVariables false
set_option linter.unusedSimpArgs false
set_option maxHeartbeats 600000 in
set_option maxRecDepth 100000 in
theorem refStShow_bad (s n : Int) (w : World) (hb : stampOk s n = false) :
    Calls Tryz.prog 74 #[.agg #[.int .i64 s, .int .i64 n]] w fun e w' => e = .returned (.tuple #[.string ⟨#[]⟩, .int .i64 20]) ∧ Below w.heap.size w w' := by
  go_enter Tryz.func74, Tryz.ntmps74
  go_wp2_with fail
  refine (refValid s n _).mono ?_
  rintro e w1 ⟨rfl, h1⟩
  rw [hb]
  have B1 := Lib.hid (((below_alloc_self w _).trans (h1.mono (by simp)) : Below w.heap.size w w1))
  clear h1
  go_wp2
  go_ret2
  exact ⟨rfl, B1.out⟩
theorem take_succ_snoc {P : List UInt8} {m : Nat} (h : m < P.length) : P.take (m + 1) = P.take m ++ [P[m]] := List.take_succ_eq_append_getElem h
set_option maxHeartbeats 1000000 in
set_option maxRecDepth 100000 in
theorem refStShow_0 (s n : Int) (w : World) (hs : I64 s) (hn : I64 n) (hb : stampOk s n = true) (h0 : ¬ s < 0) (h1 : ¬ 0 < n) :
    Calls Tryz.prog 74 #[.agg #[.int .i64 s, .int .i64 n]] w fun e w' => e = .returned (.tuple #[.string ⟨(stText s n).toArray⟩, .int .i64 0]) ∧ Below w.heap.size w w' := by
  have hbs : 0 ≤ n ∧ n < 1000000000 ∧ -1099511627777 ≤ s ∧ s ≤ 1099511627776 := by simp [stampOk] at hb; omega
  have hss : stSec s n = s := by unfold stSec; rw [if_neg h0]
  have hnn : stNano s n = n := by unfold stNano; exact if_neg (fun h => h1 h.2)
  have hi : I64 s := ⟨by omega, by omega⟩
  have d0 : decide (s < 0) = false := by simpa using h0
  have d1 : decide (n > 0) = false := by simpa using h1
  have HSS := Lib.hid hss; have HNN := Lib.hid hnn
  have HBK := Lib.hid hb
  clear hss hnn hb
  go_enter Tryz.func74, Tryz.ntmps74
  go_wp2_with fail
  refine (refValid s n _).mono ?_
  rintro e w1 ⟨rfl, h1'⟩
  rw [HBK.out]
  have B1 := Lib.hid (((below_alloc_self w _).trans (h1'.mono (by simp)) : Below w.heap.size w w1))
  have hlt : w.heap.size < w1.heap.size := by have := h1'.size; simp at this; omega
  have k0 : w1.cell? ⟨w.heap.size, 0, none⟩ = some (.int .i64 s) := by rw [World.cell?_of_block (h1'.block _ (by simp))]; go_simp
  have k1 : w1.cell? ⟨w.heap.size, 1, none⟩ = some (.int .i64 n) := by rw [World.cell?_of_block (h1'.block _ (by simp))]; go_simp
  clear h1'
  go_wp2_with fail
  refine (refShow s hi _).mono ?_
  rintro e w3 ⟨rfl, h3⟩
  have B3 := Lib.hid (B1.out.trans (h3.mono B1.out.size))
  clear h3
  have hl : (Lib.itoa s).length ≤ 21 := Lib.itoa_length_le _ hi.1 hi.2
  obtain rfl : n = 0 := by omega
  have H6 : Hid (ByteArray.mk #[] ++ ByteArray.mk (Lib.itoa s).toArray = ⟨(stText s 0).toArray⟩) := Lib.hid (by
    unfold stText
    rw [HSS.out, HNN.out, if_neg (by omega), if_neg (by decide)]
    apply ByteArray.ext
    simp [ByteArray.data_append])
  go_wp2
  go_ret2
  exact ⟨congrArg (fun b => Ending.returned (Value.tuple #[Value.string b, Value.int .i64 0])) H6.out, B3.out⟩
set_option maxHeartbeats 1000000 in
set_option maxRecDepth 100000 in
theorem refStShow_1 (s n : Int) (w : World) (hs : I64 s) (hn : I64 n) (hb : stampOk s n = true) (h0 : ¬ s < 0) (h1 : 0 < n) :
    Calls Tryz.prog 74 #[.agg #[.int .i64 s, .int .i64 n]] w fun e w' => e = .returned (.tuple #[.string ⟨(stText s n).toArray⟩, .int .i64 0]) ∧ Below w.heap.size w w' := by
  have hbs : 0 ≤ n ∧ n < 1000000000 ∧ -1099511627777 ≤ s ∧ s ≤ 1099511627776 := by simp [stampOk] at hb; omega
  have hss : stSec s n = s := by unfold stSec; rw [if_neg h0]
  have hnn : stNano s n = n := by unfold stNano; exact if_neg (fun h => h0 h.1)
  have hi : I64 s := ⟨by omega, by omega⟩
  have d0 : decide (s < 0) = false := by simpa using h0
  have d1 : decide (n > 0) = true := by simpa using h1
  have HSS := Lib.hid hss; have HNN := Lib.hid hnn
  have HBK := Lib.hid hb
  clear hss hnn hb
  go_enter Tryz.func74, Tryz.ntmps74
  go_wp2_with fail
  refine (refValid s n _).mono ?_
  rintro e w1 ⟨rfl, h1'⟩
  rw [HBK.out]
  have B1 := Lib.hid (((below_alloc_self w _).trans (h1'.mono (by simp)) : Below w.heap.size w w1))
  have hlt : w.heap.size < w1.heap.size := by have := h1'.size; simp at this; omega
  have k0 : w1.cell? ⟨w.heap.size, 0, none⟩ = some (.int .i64 s) := by rw [World.cell?_of_block (h1'.block _ (by simp))]; go_simp
  have k1 : w1.cell? ⟨w.heap.size, 1, none⟩ = some (.int .i64 n) := by rw [World.cell?_of_block (h1'.block _ (by simp))]; go_simp
  clear h1'
  go_wp2_with fail
  refine (refShow s hi _).mono ?_
  rintro e w3 ⟨rfl, h3⟩
  have B3 := Lib.hid (B1.out.trans (h3.mono B1.out.size))
  clear h3
  have hl : (Lib.itoa s).length ≤ 21 := Lib.itoa_length_le _ hi.1 hi.2
  have hz : (n == 0) = false := by simp; omega
  have hi2 : I64 (1000000000 + n) := ⟨by omega, by omega⟩
  go_wp2_with fail
  refine (refShow (1000000000 + n) hi2 _).mono ?_
  rintro e w4 ⟨rfl, h4⟩
  have B4 := Lib.hid (B3.out.trans (h4.mono B3.out.size))
  clear h4
  have hl1 : 1 ≤ ((Lib.itoa (1000000000 + n)).length : Int) := itoa_pos _
  have hl2 : (Lib.itoa (1000000000 + n)).length ≤ 21 := Lib.itoa_length_le _ hi2.1 hi2.2
  have HE := Lib.hid (extract_tail (Lib.itoa (1000000000 + n)))
  have HN9 := Lib.hid (itoa_nine n (by omega) (by omega))
  have HT : Hid (Lib.trimRightB (nine (Int.toNat n)) 48 ≠ []) := Lib.hid (nine_trim (by omega) (by omega))
  have HLN := Lib.hid (show stNano s n = n from HNN.out)
  have hN2 : Hid (n = n) := Lib.hid rfl
  go_wp2_with fail
  rw [HE.out, HN9.out]
  go_loopw [7] (fun p wr => ∃ m : Nat, m ≤ 9 ∧ p = .string ⟨((nine n.toNat).take m).toArray⟩ ∧ Lib.trimRightB ((nine n.toNat).take m) 48 = Lib.trimRightB (nine n.toNat) 48 ∧ Below w.heap.size w wr) (fun p _ => match p with | .string b => b.size | _ => 0)
  case atStart => exact ⟨9, Nat.le_refl _, by rw [List.take_of_length_le (by rw [nine_len]; omega)], by rw [List.take_of_length_le (by rw [nine_len]; omega)], B4.out⟩
  case round =>
    obtain ⟨m, hm, rfl, htr, hbel⟩ := hrel
    cases m with
    | zero => exact absurd htr.symm (by simpa [trim_nil] using HT.out)
    | succ m =>
      have hlen9 := nine_len n.toNat
      have hml : m < (nine n.toNat).length := by omega
      have hsn := take_succ_snoc hml
      have hBs : (ByteArray.mk (List.take (m + 1) (nine n.toNat)).toArray).size = m + 1 := by simp [ByteArray.size]; omega
      rw [hsn, trim_snoc] at htr
      have hBg : ∀ h : m < (ByteArray.mk (List.take (m + 1) (nine n.toNat)).toArray).size, (ByteArray.mk (List.take (m + 1) (nine n.toNat)).toArray)[m] = (nine n.toNat)[m] := by
        intro h
        show (List.take (m + 1) (nine n.toNat)).toArray[m]'_ = _
        simp
      have hBe : (ByteArray.mk (List.take (m + 1) (nine n.toNat)).toArray).extract 0 m = ⟨(List.take m (nine n.toNat)).toArray⟩ := by
        apply ByteArray.ext
        rw [ByteArray.data_extract]
        apply Array.ext'
        simp [List.take_take]
      have HSN := Lib.hid hsn; clear hsn
      generalize hB : ByteArray.mk (List.take (m + 1) (nine n.toNat)).toArray = B at *
      have HB := Lib.hid hB; have HBG := Lib.hid hBg; have HBE := Lib.hid hBe; have HTR := Lib.hid htr
      clear hB hBg hBe htr
      have hBm : m < B.size := by omega
      have hB9 : B.size ≤ 9 := by omega
      by_cases hc : (nine n.toNat)[m] = 48
      · have hc2 : (((B[m].toNat : Nat) : Int) == 48) = true := by rw [HBG.out, hc]; rfl
        have HC := Lib.hid hc
        clear hc
        go_wp2_with fail
        go_roundw
        case rel =>
          refine ⟨m, by omega, ?_, ?_, hbel⟩
          · first | exact congrArg Value.string HBE.out | (rw [← HBE.out]; simp [hBs])
          · have := HTR.out; rw [if_pos HC.out] at this; exact this
        case measure =>
          show (B.extract 0 _).size < B.size
          simp [ByteArray.size_extract]; omega
      · have hc2 : (((B[m].toNat : Nat) : Int) == 48) = false := by
          rw [HBG.out]
          have : (nine n.toNat)[m].toNat ≠ 48 := fun h => hc (by apply UInt8.toNat_inj.1; exact h)
          simp; omega
        have H6 : Hid (ByteArray.mk #[] ++ ByteArray.mk (Lib.itoa s).toArray ++ ByteArray.mk #[46] ++ B = ⟨(stText s n).toArray⟩) := Lib.hid (by
          unfold stText
          have ht := HTR.out
          rw [if_neg hc, ← HSN.out] at ht
          rw [HSS.out, HLN.out, if_neg (by omega), if_pos (by have := hN2.out; omega), HN9.out, ← ht, ← HB.out]
          apply ByteArray.ext
          simp [ByteArray.data_append])
        clear hc
        go_wp2_with fail
        go_ret2
        exact ⟨congrArg (fun b => Ending.returned (Value.tuple #[Value.string b, Value.int .i64 0])) H6.out, hbel⟩
set_option maxHeartbeats 1000000 in
set_option maxRecDepth 100000 in
theorem refStShow_2 (s n : Int) (w : World) (hs : I64 s) (hn : I64 n) (hb : stampOk s n = true) (h0 : s < 0) (h1 : ¬ 0 < n) :
    Calls Tryz.prog 74 #[.agg #[.int .i64 s, .int .i64 n]] w fun e w' => e = .returned (.tuple #[.string ⟨(stText s n).toArray⟩, .int .i64 0]) ∧ Below w.heap.size w w' := by
  have hbs : 0 ≤ n ∧ n < 1000000000 ∧ -1099511627777 ≤ s ∧ s ≤ 1099511627776 := by simp [stampOk] at hb; omega
  have hss : stSec s n = (-s) := by unfold stSec; rw [if_pos h0, if_neg h1]
  have hnn : stNano s n = n := by unfold stNano; exact if_neg (fun h => h1 h.2)
  have hi : I64 (-s) := ⟨by omega, by omega⟩
  have d0 : decide (s < 0) = true := by simpa using h0
  have d1 : decide (n > 0) = false := by simpa using h1
  have HSS := Lib.hid hss; have HNN := Lib.hid hnn
  have HBK := Lib.hid hb
  clear hss hnn hb
  go_enter Tryz.func74, Tryz.ntmps74
  go_wp2_with fail
  refine (refValid s n _).mono ?_
  rintro e w1 ⟨rfl, h1'⟩
  rw [HBK.out]
  have B1 := Lib.hid (((below_alloc_self w _).trans (h1'.mono (by simp)) : Below w.heap.size w w1))
  have hlt : w.heap.size < w1.heap.size := by have := h1'.size; simp at this; omega
  have k0 : w1.cell? ⟨w.heap.size, 0, none⟩ = some (.int .i64 s) := by rw [World.cell?_of_block (h1'.block _ (by simp))]; go_simp
  have k1 : w1.cell? ⟨w.heap.size, 1, none⟩ = some (.int .i64 n) := by rw [World.cell?_of_block (h1'.block _ (by simp))]; go_simp
  clear h1'
  go_wp2_with fail
  refine (refShow (-s) hi _).mono ?_
  rintro e w3 ⟨rfl, h3⟩
  have B3 := Lib.hid (B1.out.trans (h3.mono B1.out.size))
  clear h3
  have hl : (Lib.itoa (-s)).length ≤ 21 := Lib.itoa_length_le _ hi.1 hi.2
  obtain rfl : n = 0 := by omega
  have H6 : Hid (ByteArray.mk #[45] ++ ByteArray.mk (Lib.itoa (-s)).toArray = ⟨(stText s 0).toArray⟩) := Lib.hid (by
    unfold stText
    rw [HSS.out, HNN.out, if_pos (by omega), if_neg (by decide)]
    apply ByteArray.ext
    simp [ByteArray.data_append])
  go_wp2
  go_ret2
  exact ⟨congrArg (fun b => Ending.returned (Value.tuple #[Value.string b, Value.int .i64 0])) H6.out, B3.out⟩
set_option maxHeartbeats 1000000 in
set_option maxRecDepth 100000 in
theorem refStShow_3 (s n : Int) (w : World) (hs : I64 s) (hn : I64 n) (hb : stampOk s n = true) (h0 : s < 0) (h1 : 0 < n) :
    Calls Tryz.prog 74 #[.agg #[.int .i64 s, .int .i64 n]] w fun e w' => e = .returned (.tuple #[.string ⟨(stText s n).toArray⟩, .int .i64 0]) ∧ Below w.heap.size w w' := by
  have hbs : 0 ≤ n ∧ n < 1000000000 ∧ -1099511627777 ≤ s ∧ s ≤ 1099511627776 := by simp [stampOk] at hb; omega
  have hss : stSec s n = (-s - 1) := by unfold stSec; rw [if_pos h0, if_pos h1]
  have hnn : stNano s n = (1000000000 - n) := by unfold stNano; rw [if_pos ⟨h0, h1⟩]
  have hi : I64 (-s - 1) := ⟨by omega, by omega⟩
  have d0 : decide (s < 0) = true := by simpa using h0
  have d1 : decide (n > 0) = true := by simpa using h1
  have HSS := Lib.hid hss; have HNN := Lib.hid hnn
  have HBK := Lib.hid hb
  clear hss hnn hb
  go_enter Tryz.func74, Tryz.ntmps74
  go_wp2_with fail
  refine (refValid s n _).mono ?_
  rintro e w1 ⟨rfl, h1'⟩
  rw [HBK.out]
  have B1 := Lib.hid (((below_alloc_self w _).trans (h1'.mono (by simp)) : Below w.heap.size w w1))
  have hlt : w.heap.size < w1.heap.size := by have := h1'.size; simp at this; omega
  have k0 : w1.cell? ⟨w.heap.size, 0, none⟩ = some (.int .i64 s) := by rw [World.cell?_of_block (h1'.block _ (by simp))]; go_simp
  have k1 : w1.cell? ⟨w.heap.size, 1, none⟩ = some (.int .i64 n) := by rw [World.cell?_of_block (h1'.block _ (by simp))]; go_simp
  clear h1'
  go_wp2_with fail
  refine (refShow (-s - 1) hi _).mono ?_
  rintro e w3 ⟨rfl, h3⟩
  have B3 := Lib.hid (B1.out.trans (h3.mono B1.out.size))
  clear h3
  have hl : (Lib.itoa (-s - 1)).length ≤ 21 := Lib.itoa_length_le _ hi.1 hi.2
  have hz : ((1000000000 - n) == 0) = false := by simp; omega
  have hi2 : I64 (1000000000 + (1000000000 - n)) := ⟨by omega, by omega⟩
  go_wp2_with fail
  refine (refShow (1000000000 + (1000000000 - n)) hi2 _).mono ?_
  rintro e w4 ⟨rfl, h4⟩
  have B4 := Lib.hid (B3.out.trans (h4.mono B3.out.size))
  clear h4
  have hl1 : 1 ≤ ((Lib.itoa (1000000000 + (1000000000 - n))).length : Int) := itoa_pos _
  have hl2 : (Lib.itoa (1000000000 + (1000000000 - n))).length ≤ 21 := Lib.itoa_length_le _ hi2.1 hi2.2
  have HE := Lib.hid (extract_tail (Lib.itoa (1000000000 + (1000000000 - n))))
  have HN9 := Lib.hid (itoa_nine (1000000000 - n) (by omega) (by omega))
  have HT : Hid (Lib.trimRightB (nine (Int.toNat (1000000000 - n))) 48 ≠ []) := Lib.hid (nine_trim (by omega) (by omega))
  have HLN := Lib.hid (show stNano s n = (1000000000 - n) from HNN.out)
  generalize hN : (1000000000 - n) = N at *
  have hN2 := Lib.hid hN
  clear hN
  go_wp2_with fail
  rw [HE.out, HN9.out]
  go_loopw [7] (fun p wr => ∃ m : Nat, m ≤ 9 ∧ p = .string ⟨((nine N.toNat).take m).toArray⟩ ∧ Lib.trimRightB ((nine N.toNat).take m) 48 = Lib.trimRightB (nine N.toNat) 48 ∧ Below w.heap.size w wr) (fun p _ => match p with | .string b => b.size | _ => 0)
  case atStart => exact ⟨9, Nat.le_refl _, by rw [List.take_of_length_le (by rw [nine_len]; omega)], by rw [List.take_of_length_le (by rw [nine_len]; omega)], B4.out⟩
  case round =>
    obtain ⟨m, hm, rfl, htr, hbel⟩ := hrel
    cases m with
    | zero => exact absurd htr.symm (by simpa [trim_nil] using HT.out)
    | succ m =>
      have hlen9 := nine_len N.toNat
      have hml : m < (nine N.toNat).length := by omega
      have hsn := take_succ_snoc hml
      have hBs : (ByteArray.mk (List.take (m + 1) (nine N.toNat)).toArray).size = m + 1 := by simp [ByteArray.size]; omega
      rw [hsn, trim_snoc] at htr
      have hBg : ∀ h : m < (ByteArray.mk (List.take (m + 1) (nine N.toNat)).toArray).size, (ByteArray.mk (List.take (m + 1) (nine N.toNat)).toArray)[m] = (nine N.toNat)[m] := by
        intro h
        show (List.take (m + 1) (nine N.toNat)).toArray[m]'_ = _
        simp
      have hBe : (ByteArray.mk (List.take (m + 1) (nine N.toNat)).toArray).extract 0 m = ⟨(List.take m (nine N.toNat)).toArray⟩ := by
        apply ByteArray.ext
        rw [ByteArray.data_extract]
        apply Array.ext'
        simp [List.take_take]
      have HSN := Lib.hid hsn; clear hsn
      generalize hB : ByteArray.mk (List.take (m + 1) (nine N.toNat)).toArray = B at *
      have HB := Lib.hid hB; have HBG := Lib.hid hBg; have HBE := Lib.hid hBe; have HTR := Lib.hid htr
      clear hB hBg hBe htr
      have hBm : m < B.size := by omega
      have hB9 : B.size ≤ 9 := by omega
      by_cases hc : (nine N.toNat)[m] = 48
      · have hc2 : (((B[m].toNat : Nat) : Int) == 48) = true := by rw [HBG.out, hc]; rfl
        have HC := Lib.hid hc
        clear hc
        go_wp2_with fail
        go_roundw
        case rel =>
          refine ⟨m, by omega, ?_, ?_, hbel⟩
          · first | exact congrArg Value.string HBE.out | (rw [← HBE.out]; simp [hBs])
          · have := HTR.out; rw [if_pos HC.out] at this; exact this
        case measure =>
          show (B.extract 0 _).size < B.size
          simp [ByteArray.size_extract]; omega
      · have hc2 : (((B[m].toNat : Nat) : Int) == 48) = false := by
          rw [HBG.out]
          have : (nine N.toNat)[m].toNat ≠ 48 := fun h => hc (by apply UInt8.toNat_inj.1; exact h)
          simp; omega
        have H6 : Hid (ByteArray.mk #[45] ++ ByteArray.mk (Lib.itoa (-s - 1)).toArray ++ ByteArray.mk #[46] ++ B = ⟨(stText s n).toArray⟩) := Lib.hid (by
          unfold stText
          have ht := HTR.out
          rw [if_neg hc, ← HSN.out] at ht
          rw [HSS.out, HLN.out, if_pos (by omega), if_pos (by have := hN2.out; omega), HN9.out, ← ht, ← HB.out]
          apply ByteArray.ext
          simp [ByteArray.data_append])
        clear hc
        go_wp2_with fail
        go_ret2
        exact ⟨congrArg (fun b => Ending.returned (Value.tuple #[Value.string b, Value.int .i64 0])) H6.out, hbel⟩
theorem refStShow (s n : Int) (w : World) (hs : I64 s) (hn : I64 n) (hb : stampOk s n = true) :
    Calls Tryz.prog 74 #[.agg #[.int .i64 s, .int .i64 n]] w fun e w' => e = .returned (.tuple #[.string ⟨(stText s n).toArray⟩, .int .i64 0]) ∧ Below w.heap.size w w' := by
  by_cases h0 : s < 0 <;> by_cases h1 : 0 < n
  · exact refStShow_3 s n w hs hn hb h0 h1
  · exact refStShow_2 s n w hs hn hb h0 h1
  · exact refStShow_1 s n w hs hn hb h0 h1
  · exact refStShow_0 s n w hs hn hb h0 h1
end Go.Proofs.YtkpblhikndennaaGreatDoor
