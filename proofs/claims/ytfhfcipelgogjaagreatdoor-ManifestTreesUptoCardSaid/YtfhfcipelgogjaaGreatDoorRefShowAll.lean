/- The reference's decimal numeral: what it computes. No condition but room. The nine digits of a part of a second, plain. No condition. The reference's Show of a good stamp: its text; of a bad one: the error. No condition but room. -/
import Derived.Test.YtfhfcipelgogjaaGreatDoorEscAll
import Derived.Test.YtfhfcipelgogjaaGreatDoorShowAll
namespace Go.Proofs.YtfhfcipelgogjaaGreatDoor
open Go.RowKit
set_option linter.unusedVariables false
set_option linter.unusedSimpArgs false
attribute [local go_sem] cell?_over frozen?_over lt_over le_over

theorem digit_pos (u : Nat) : (IntKind.u8.wrap (48 + ((u % 10 : Nat) : Int))) = ((UInt8.ofNat (48 + u % 10)).toNat : Int) := by
  rw [IntKind.wrap_u8, UInt8.toNat_ofNat']
  omega
theorem len_bytes (b : Option Addr) (n c : Nat) (W : World) : (Builtin.len_ #[58] 3 #[.slice b n c]).run Tryz.prog W = .ok (.int .i64 n) W := run_len_slice W _ _ b n c (by kernel_rfl)
theorem quo10 (y : Int) : (0 ≤ y ∧ y.tdiv 10 = y / 10 ∧ y.tmod 10 = y % 10) ∨ (y < 0 ∧ y.tdiv 10 = -((-y) / 10) ∧ y.tmod 10 = -((-y) % 10)) := by
  by_cases h : 0 ≤ y
  · exact .inl ⟨h, Int.tdiv_eq_ediv_of_nonneg h, Int.tmod_eq_emod_of_nonneg h⟩
  · refine .inr ⟨by omega, ?_, ?_⟩
    · rw [← Int.tdiv_eq_ediv_of_nonneg (show 0 ≤ -y by omega), Int.neg_tdiv, Int.neg_neg]
    · rw [← Int.tmod_eq_emod_of_nonneg (show 0 ≤ -y by omega), Int.neg_tmod, Int.neg_neg]
theorem below_setCell' {B : Nat} {W w : World} (h : Below B W w) {g i : Nat} (hg : B ≤ g) (u : Value) : Below B W (w.setCell ⟨g, i, none⟩ u) := h.setCell (p := ⟨g, i, none⟩) hg u
end Go.Proofs.YtfhfcipelgogjaaGreatDoor
namespace Go.Proofs.YtfhfcipelgogjaaGreatDoor
set_option linter.unusedVariables false
set_option linter.unusedSimpArgs false

def digN (n i : Nat) : UInt8 := UInt8.ofNat (48 + n / 10 ^ i % 10)
def nine (n : Nat) : List UInt8 := [digN n 8, digN n 7, digN n 6, digN n 5, digN n 4, digN n 3, digN n 2, digN n 1, digN n 0]
theorem dec_drop {u : Nat} (h : 10 ≤ u) : (Lib.decDigits u).drop 1 = (Lib.decDigits (u / 10)).drop 1 ++ [UInt8.ofNat (48 + u % 10)] := by
  rw [Lib.decDigits.eq_def, dif_neg (by omega), List.drop_append_of_le_length]
  rw [Lib.decDigits_length]
  have : 1 ≤ (Lib.decDigits (u / 10)).length := by
    rw [Lib.decDigits.eq_def]; split <;> simp
  rw [Lib.decDigits_length] at this
  exact this
theorem dec_small {u : Nat} (h : u < 10) : (Lib.decDigits u).drop 1 = [] := by
  rw [Lib.decDigits.eq_def, dif_pos h]; rfl
theorem itoa_nine (n : Int) (h0 : 0 ≤ n) (h1 : n < 1000000000) : (Lib.itoa (1000000000 + n)).drop 1 = nine n.toNat := by
  obtain ⟨k, rfl⟩ := Int.eq_ofNat_of_zero_le h0
  have hk : k < 1000000000 := by omega
  have e : Lib.itoa (1000000000 + (k : Int)) = Lib.decDigits (1000000000 + k) := by
    unfold Lib.itoa
    rw [if_neg (by omega)]
    congr 1
  rw [e]
  have d : ∀ a b c : Nat, a = b → UInt8.ofNat (48 + a) = UInt8.ofNat (48 + b) := fun a b c h => by rw [h]
  rw [dec_drop (by omega), dec_drop (by omega), dec_drop (by omega), dec_drop (by omega), dec_drop (by omega), dec_drop (by omega), dec_drop (by omega), dec_drop (by omega), dec_drop (by omega), dec_small (by omega)]
  simp only [nine, digN, List.nil_append, List.cons_append, Int.toNat_natCast]
  have p : ∀ a b : Nat, a = b → UInt8.ofNat (48 + a) = UInt8.ofNat (48 + b) := fun a b h => by rw [h]
  congr 1
  · apply p; omega
  congr 1
  · apply p; omega
  congr 1
  · apply p; omega
  congr 1
  · apply p; omega
  congr 1
  · apply p; omega
  congr 1
  · apply p; omega
  congr 1
  · apply p; omega
  congr 1
  · apply p; omega
  congr 1
  apply p; omega
theorem nine_len (n : Nat) : (nine n).length = 9 := rfl
theorem trim_snoc (l : List UInt8) (a : UInt8) : Lib.trimRightB (l ++ [a]) 48 = if a = 48 then Lib.trimRightB l 48 else l ++ [a] := by
  unfold Lib.trimRightB
  rw [List.reverse_append, List.reverse_singleton, List.singleton_append, List.dropWhile_cons]
  by_cases h : a = 48
  · rw [if_pos h, if_pos (by simpa using h)]
  · rw [if_neg h, if_neg (by simpa using h)]; simp
theorem trim_nil : Lib.trimRightB [] 48 = [] := rfl
theorem drop_all {l : List UInt8} (h : l.dropWhile (· == 48) = []) : ∀ a ∈ l, a = 48 := by
  induction l with
  | nil => simp
  | cons a l ih =>
    rw [List.dropWhile_cons] at h
    by_cases ha : a = 48
    · rw [if_pos (by simpa using ha)] at h
      intro b hb
      rcases List.mem_cons.1 hb with e | e
      · exact e.trans ha
      · exact ih h b e
    · rw [if_neg (by simpa using ha)] at h; cases h
theorem trim_all {l : List UInt8} (h : Lib.trimRightB l 48 = []) : ∀ a ∈ l, a = 48 := by
  unfold Lib.trimRightB at h
  rw [List.reverse_eq_nil_iff] at h
  intro a ha
  exact drop_all h a (by simpa using ha)
theorem digN_48 {n i : Nat} (h : digN n i = 48) : n / 10 ^ i % 10 = 0 := by
  have h2 := congrArg UInt8.toNat h
  unfold digN at h2
  rw [UInt8.toNat_ofNat'] at h2
  have : (48 : UInt8).toNat = 48 := rfl
  omega
theorem nine_trim {n : Nat} (h0 : 0 < n) (h1 : n < 1000000000) : Lib.trimRightB (nine n) 48 ≠ [] := by
  intro h
  have ha := trim_all h
  have d0 := digN_48 (ha (digN n 0) (by simp [nine]))
  have d1 := digN_48 (ha (digN n 1) (by simp [nine]))
  have d2 := digN_48 (ha (digN n 2) (by simp [nine]))
  have d3 := digN_48 (ha (digN n 3) (by simp [nine]))
  have d4 := digN_48 (ha (digN n 4) (by simp [nine]))
  have d5 := digN_48 (ha (digN n 5) (by simp [nine]))
  have d6 := digN_48 (ha (digN n 6) (by simp [nine]))
  have d7 := digN_48 (ha (digN n 7) (by simp [nine]))
  have d8 := digN_48 (ha (digN n 8) (by simp [nine]))
  simp at d0 d1 d2 d3 d4 d5 d6 d7 d8
  omega
end Go.Proofs.YtfhfcipelgogjaaGreatDoor
namespace Go.Proofs.YtfhfcipelgogjaaGreatDoor
open Go.RowKit
attribute [local go_sem] cell?_over frozen?_over lt_over le_over
set_option linter.unusedVariables false
set_option linter.unusedSimpArgs false
theorem take_succ_snoc {P : List UInt8} {m : Nat} (h : m < P.length) : P.take (m + 1) = P.take m ++ [P[m]] := List.take_succ_eq_append_getElem h
end Go.Proofs.YtfhfcipelgogjaaGreatDoor
