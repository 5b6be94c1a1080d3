/- The letters of a mode, plain; the bits of a mode. No condition. The reference's Text of a mode: what it computes. No condition. -/
import Derived.Test.YtfhfcipelgogjaaGreatDoorEscAll
import Derived.Laws.BitsLemmas
import Derived.Test.YtfhfcipelgogjaaGreatDoorRefShowAll
namespace Go.Proofs.YtfhfcipelgogjaaGreatDoor
open Go.RowKit
set_option linter.unusedVariables false
set_option linter.unusedSimpArgs false

def permBit (mode : Int) (i : Nat) : Bool := decide (mode / 2 ^ i % 2 = 1)
theorem wraps_i64 (n : Int) (h₀ : 0 ≤ n) (h₁ : n < 2 ^ 63) : IntKind.i64.wrap n = n := by rw [IntKind.wrap_i64]; omega
theorem and_one (x : Int) (h₀ : 0 ≤ x) (h₁ : x < 9223372036854775808) : bits .and .i64 x 1 = x % 2 := bits_mask .i64 63 (by decide) wraps_i64 1 (by decide) x h₀ h₁
theorem and_pow (x : Int) (k : Nat) (hk : k < 63) (h₀ : 0 ≤ x) (h₁ : x < 9223372036854775808) : (bits .and .i64 x (2 ^ k) == 0) = !permBit x k := by
  obtain ⟨n, rfl⟩ := Int.eq_ofNat_of_zero_le h₀
  have hp : (2 ^ k : Nat) < 2 ^ 63 := Nat.pow_lt_pow_right (by decide) hk
  have e : ((2 : Int) ^ k) = ((2 ^ k : Nat) : Int) := by simp
  rw [e]
  have := (bits_nat .i64 63 (by decide) wraps_i64 n (2 ^ k) (by omega) hp).1
  rw [this]
  have hz : (n &&& 2 ^ k = 0) ↔ n.testBit k = false := by
    constructor
    · intro h
      have h2 : (n &&& 2 ^ k).testBit k = false := by rw [h]; simp
      rw [Nat.testBit_and, Nat.testBit_two_pow_self, Bool.and_true] at h2
      exact h2
    · intro h
      apply Nat.eq_of_testBit_eq
      intro i
      rw [Nat.testBit_and, Nat.testBit_two_pow, Nat.zero_testBit]
      by_cases hi : k = i
      · subst hi; rw [h]; rfl
      · simp [hi]
  unfold permBit
  have e2 : ((n : Int) / 2 ^ k % 2 = 1) ↔ n.testBit k = true := by
    rw [Nat.testBit_eq_decide_div_mod_eq, decide_eq_true_eq, e]
    omega
  rw [decide_eq_decide.2 e2]
  by_cases hb : n.testBit k = true
  · have : ¬ (n &&& 2 ^ k) = 0 := fun h => by rw [hz.1 h] at hb; cases hb
    rw [decide_eq_true hb]
    simp
    omega
  · rw [decide_eq_false hb, hz.2 (by simpa using hb)]
    rfl
theorem andNot_mask (x : Int) (h₀ : -9223372036854775808 ≤ x) (h₁ : x ≤ 9223372036854775807) : (bits .andNot .i64 x 4095 == 0) = decide (0 ≤ x ∧ x ≤ 4095) := by
  have hb : ∀ a : BitVec 64, (a &&& ~~~4095#64 = 0#64) ↔ a.toNat < 4096 := by
    intro a
    constructor
    · intro h
      apply Nat.lt_pow_two_of_testBit (n := 12)
      intro i hi
      have h2 : (a &&& ~~~4095#64).getLsbD i = false := by rw [h]; simp
      by_cases h64 : i < 64
      · have h3 : (4095#64).getLsbD i = false := by
          have : (4095#64).toNat.testBit i = false := Nat.testBit_lt_two_pow (by
            have := Nat.pow_le_pow_right (show 0 < 2 by decide) hi
            show 4095 < 2 ^ i
            omega)
          exact this
        rw [BitVec.getLsbD_and, BitVec.getLsbD_not, h3] at h2
        have h4 : a.getLsbD i = false := by simpa [h64] using h2
        exact h4
      · exact Nat.testBit_lt_two_pow (Nat.lt_of_lt_of_le a.isLt (Nat.pow_le_pow_right (by decide) (by omega)))
    · intro h
      apply BitVec.eq_of_getLsbD_eq
      intro i hi
      rw [BitVec.getLsbD_and, BitVec.getLsbD_not]
      by_cases h12 : i < 12
      · have : (4095#64).getLsbD i = true := by
          rcases i with _|_|_|_|_|_|_|_|_|_|_|_|i <;> first | rfl | omega
        simp [this]
      · have : a.getLsbD i = false := Nat.testBit_lt_two_pow (Nat.lt_of_lt_of_le h (by
            have := Nat.pow_le_pow_right (show 0 < 2 by decide) (show 12 ≤ i by omega)
            omega))
        simp [this]
  show (IntKind.i64.wrap (BitVec.ofInt 64 x &&& ~~~(BitVec.ofInt 64 4095)).toNat == 0) = _
  generalize hr : (BitVec.ofInt 64 x &&& ~~~(BitVec.ofInt 64 4095)) = r
  have hz : (IntKind.i64.wrap (r.toNat : Int) = 0) ↔ r = 0#64 := by
    rw [IntKind.wrap_i64]
    have hlt := r.isLt
    constructor
    · intro h
      apply BitVec.eq_of_toNat_eq
      simp
      omega
    · intro h; subst h; simp
  have hx := hb (BitVec.ofInt 64 x)
  rw [show (BitVec.ofInt 64 4095) = 4095#64 from rfl] at hr
  rw [hr] at hx
  have ht : (BitVec.ofInt 64 x).toNat < 4096 ↔ 0 ≤ x ∧ x ≤ 4095 := by
    rw [BitVec.toNat_ofInt]
    omega
  rw [Bool.eq_iff_iff, beq_iff_eq, decide_eq_true_eq, hz, hx, ht]

def rwxC (i : Nat) : UInt8 := if i % 3 = 0 then 120 else if i % 3 = 1 then 119 else 114
/-- the letter of bit i -/
def permC (mode : Int) (i : Nat) : UInt8 := if permBit mode i then rwxC i else 45
def kindC (kind : Int) : UInt8 := if kind = 1 then 45 else if kind = 2 then 100 else if kind = 3 then 108 else if kind = 4 then 104 else 63
/-- the letter of bit i where bit b is a special one -/
def permS (mode : Int) (b i : Nat) (small large : UInt8) : UInt8 :=
  if permBit mode b then (if permBit mode i then small else large) else permC mode i
def permText (kind mode : Int) : List UInt8 :=
  [kindC kind, permC mode 8, permC mode 7, permS mode 11 6 115 83, permC mode 5, permC mode 4, permS mode 10 3 115 83, permC mode 2, permC mode 1, permS mode 9 0 116 84]
def permOk (kind mode : Int) : Bool := decide (1 ≤ kind ∧ kind ≤ 5 ∧ 0 ≤ mode ∧ mode ≤ 4095)
end Go.Proofs.YtfhfcipelgogjaaGreatDoor
namespace Go.Proofs.YtfhfcipelgogjaaGreatDoor
open Go.RowKit
set_option linter.unusedVariables false
set_option linter.unusedSimpArgs false
attribute [local go_sem] cell?_over frozen?_over lt_over le_over

def perm9 (mode : Int) : List UInt8 := [permC mode 8, permC mode 7, permC mode 6, permC mode 5, permC mode 4, permC mode 3, permC mode 2, permC mode 1, permC mode 0]
theorem perm9_succ (mode : Int) {k : Nat} (h : k < 9) : (perm9 mode).take (k + 1) = (perm9 mode).take k ++ [permC mode (8 - k)] := by
  match k, h with
  | 0, _ | 1, _ | 2, _ | 3, _ | 4, _ | 5, _ | 6, _ | 7, _ | 8, _ => rfl
def bitV (k : Nat) : Int := if k ≤ 8 then 2 ^ (8 - k) else 0
theorem bitV_next {k : Nat} (h : k < 9) : (bitV k).tdiv 2 = bitV (k + 1) := by
  match k, h with
  | 0, _ | 1, _ | 2, _ | 3, _ | 4, _ | 5, _ | 6, _ | 7, _ | 8, _ => rfl
theorem bitV_range (k : Nat) : 0 ≤ bitV k ∧ bitV k ≤ 256 := by
  unfold bitV
  split
  · match k with
    | 0 | 1 | 2 | 3 | 4 | 5 | 6 | 7 | 8 => decide
    | n + 9 => omega
  · decide
theorem letters_rwx {k : Nat} (h : k < 9) (h2 : k < (ByteArray.mk #[114, 119, 120, 114, 119, 120, 114, 119, 120]).size) : (ByteArray.mk #[114, 119, 120, 114, 119, 120, 114, 119, 120])[k] = rwxC (8 - k) := by
  match k, h with
  | 0, _ | 1, _ | 2, _ | 3, _ | 4, _ | 5, _ | 6, _ | 7, _ | 8, _ => rfl
theorem letters_kind {kind : Int} (h : 1 ≤ kind ∧ kind ≤ 5) (h2 : kind.toNat - 1 < (ByteArray.mk #[45, 100, 108, 104, 63]).size) : (ByteArray.mk #[45, 100, 108, 104, 63])[kind.toNat - 1] = kindC kind := by
  obtain rfl | rfl | rfl | rfl | rfl : kind = 1 ∨ kind = 2 ∨ kind = 3 ∨ kind = 4 ∨ kind = 5 := by omega
  all_goals rfl
def stage (kind mode : Int) (k : Nat) : List UInt8 :=
  [kindC kind, permC mode 8, permC mode 7, if 1 ≤ k then permS mode 11 6 115 83 else permC mode 6, permC mode 5, permC mode 4, if 2 ≤ k then permS mode 10 3 115 83 else permC mode 3, permC mode 2, permC mode 1, if 3 ≤ k then permS mode 9 0 116 84 else permC mode 0]
theorem stage_0 (kind mode : Int) : stage kind mode 0 = kindC kind :: perm9 mode := rfl
theorem stage_3 (kind mode : Int) : stage kind mode 3 = permText kind mode := rfl
theorem stage_off (kind mode : Int) {k : Nat} (hk : k < 3) (h : permBit mode (11 - k) = false) : stage kind mode (k + 1) = stage kind mode k := by
  match k, hk with
  | 0, _ | 1, _ | 2, _ => simp [stage, permS, h] <;> simp_all
theorem stage_on (kind mode : Int) {k : Nat} (hk : k < 3) (h : permBit mode (11 - k) = true) : stage kind mode (k + 1) = (stage kind mode k).set (3 + 3 * k) (if permBit mode (6 - 3 * k) then (if k = 2 then 116 else 115) else (if k = 2 then 84 else 83)) := by
  match k, hk with
  | 0, _ | 1, _ | 2, _ => simp [stage, permS, h] <;> simp_all
theorem stage_at (kind mode : Int) {k : Nat} (hk : k < 3) : (stage kind mode k)[3 + 3 * k]? = some (permC mode (6 - 3 * k)) := by
  match k, hk with
  | 0, _ | 1, _ | 2, _ => rfl
theorem permC_x (mode : Int) (i : Nat) (hi : i % 3 = 0) : ((permC mode i).toNat == 120) = permBit mode i := by
  unfold permC rwxC
  rw [if_pos hi]
  cases permBit mode i <;> rfl
end Go.Proofs.YtfhfcipelgogjaaGreatDoor
