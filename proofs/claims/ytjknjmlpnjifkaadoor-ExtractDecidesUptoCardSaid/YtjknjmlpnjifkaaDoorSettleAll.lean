/- The mode that a new thing gets: the program's and the document's. No condition. The mode that a new thing gets, the document's, bit by bit. No condition. -/
import Derived.Test.YtjknjmlpnjifkaaDoorBase
import Derived.Laws.BitsLemmas
namespace Go.Proofs.YtjknjmlpnjifkaaDoor
open Go.RowKit
set_option linter.unusedVariables false
set_option linter.unusedSimpArgs false
attribute [local go_sem] cell?_over frozen?_over lt_over le_over
abbrev bv (x : Int) : BitVec 64 := BitVec.ofInt 64 x
/-- what stays of a mode's bits -/
def settleB (x u : BitVec 64) (keep : Bool) : BitVec 64 := (if keep then x &&& 4095#64 else (x &&& 4095#64) &&& ~~~3072#64) &&& ~~~(u &&& 511#64)
def settleV (mode umask : Int) (keep : Bool) : Int := ((settleB (bv mode) (bv umask) keep).toNat : Int)
theorem bv_nat (v : BitVec 64) : bv ((v.toNat : Nat) : Int) = v := by
  apply BitVec.eq_of_toNat_eq
  rw [BitVec.toNat_ofInt]
  have := v.isLt
  omega
theorem wrap_bv (v : BitVec 64) (h : v.toNat < 9223372036854775808) : IntKind.i64.wrap (v.toNat : Int) = v.toNat := by
  rw [IntKind.wrap_i64]; omega
theorem bv_and_lt (x : BitVec 64) (m : BitVec 64) : (x &&& m).toNat ≤ m.toNat := by
  rw [BitVec.toNat_and]; exact Nat.and_le_right
theorem bits_and_lit (x m : Int) (hm : (bv m).toNat < 9223372036854775808) : bits .and .i64 x m = ((bv x &&& bv m).toNat : Int) := by
  show IntKind.i64.wrap (BitVec.ofInt 64 x &&& BitVec.ofInt 64 m).toNat = _
  exact wrap_bv _ (Nat.lt_of_le_of_lt (bv_and_lt _ _) hm)
theorem bits_andNot_nat (v : BitVec 64) (m : Int) (hv : v.toNat < 9223372036854775808) : bits .andNot .i64 (v.toNat : Int) m = ((v &&& ~~~(bv m)).toNat : Int) := by
  show IntKind.i64.wrap (BitVec.ofInt 64 (v.toNat : Int) &&& ~~~(BitVec.ofInt 64 m)).toNat = _
  rw [show BitVec.ofInt 64 (v.toNat : Int) = v from bv_nat v]
  refine wrap_bv _ (Nat.lt_of_le_of_lt ?_ hv)
  rw [BitVec.toNat_and]; exact Nat.and_le_left
theorem settle_lt (x u : BitVec 64) (keep : Bool) : (settleB x u keep).toNat < 4096 := by
  have h1 : ∀ a b : BitVec 64, (a &&& b).toNat ≤ a.toNat := fun a b => by rw [BitVec.toNat_and]; exact Nat.and_le_left
  have h2 := bv_and_lt x 4095#64
  have h3 : (4095#64).toNat = 4095 := rfl
  unfold settleB
  cases keep
  · have h4 := h1 (x &&& 4095#64) (~~~3072#64)
    have h5 := h1 ((x &&& 4095#64) &&& ~~~3072#64) (~~~(u &&& 511#64))
    simp only [Bool.false_eq_true, if_false]
    omega
  · have h5 := h1 (x &&& 4095#64) (~~~(u &&& 511#64))
    simp only [if_true]
    omega
theorem settle_bit (x u : BitVec 64) (keep : Bool) (i : Nat) (hi : i < 12) : (settleB x u keep).getLsbD i = (x.getLsbD i && !(decide (i < 9) && u.getLsbD i) && (keep || !(decide (i = 10 ∨ i = 11)))) := by
  unfold settleB
  have : i = 0 ∨ i = 1 ∨ i = 2 ∨ i = 3 ∨ i = 4 ∨ i = 5 ∨ i = 6 ∨ i = 7 ∨ i = 8 ∨ i = 9 ∨ i = 10 ∨ i = 11 := by omega
  rcases this with rfl | rfl | rfl | rfl | rfl | rfl | rfl | rfl | rfl | rfl | rfl | rfl <;> cases keep <;> simp [BitVec.getLsbD_and, BitVec.getLsbD_not, BitVec.getLsbD_ofNat]
theorem and_bit (x : Int) (k : Nat) (hk : k < 63) : (bits .and .i64 x (2 ^ k) == 0) = !(bv x).getLsbD k := by
  have hp : (2 ^ k : Nat) < 2 ^ 63 := Nat.pow_lt_pow_right (by decide) hk
  have e : ((2 : Int) ^ k) = ((2 ^ k : Nat) : Int) := by simp
  have hb : (bv ((2 : Int) ^ k)).toNat = 2 ^ k := by
    rw [e]
    show (BitVec.ofInt 64 ((2 ^ k : Nat) : Int)).toNat = 2 ^ k
    rw [BitVec.ofInt_natCast, BitVec.toNat_ofNat, Nat.mod_eq_of_lt (by omega)]
  rw [bits_and_lit x _ (by rw [hb]; omega), BitVec.toNat_and, hb]
  have hz : ((bv x).toNat &&& 2 ^ k = 0) ↔ (bv x).toNat.testBit k = false := by
    constructor
    · intro h
      have h2 : ((bv x).toNat &&& 2 ^ k).testBit k = false := by rw [h]; simp
      rw [Nat.testBit_and, Nat.testBit_two_pow_self, Bool.and_true] at h2
      exact h2
    · intro h
      apply Nat.eq_of_testBit_eq
      intro i
      rw [Nat.testBit_and, Nat.testBit_two_pow, Nat.zero_testBit]
      by_cases hi : k = i
      · subst hi; rw [h]; rfl
      · simp [hi]
  rw [show (bv x).getLsbD k = (bv x).toNat.testBit k from rfl, Bool.eq_iff_iff, beq_iff_eq]
  rw [show (((bv x).toNat &&& 2 ^ k : Nat) : Int) = 0 ↔ (bv x).toNat &&& 2 ^ k = 0 from by omega, hz]
  cases (bv x).toNat.testBit k <;> simp
set_option maxHeartbeats 1000000 in
set_option maxRecDepth 100000 in
theorem permsSettle (mode umask : Int) (keep : Bool) (w : World) :
    Calls Tryd.prog 19 #[.int .i64 mode, .int .i64 umask, .bool keep] w fun e w' => e = .returned (.int .i64 (settleV mode umask keep)) ∧ w' = w := by
  have e1 := bits_and_lit mode 4095 (by decide)
  have e2 := bits_and_lit umask 511 (by decide)
  have l1 : (bv mode &&& bv 4095).toNat < 9223372036854775808 := Nat.lt_of_le_of_lt (bv_and_lt _ _) (by decide)
  have e3 := bits_andNot_nat (bv mode &&& bv 4095) 3072 l1
  have l2 : ((bv mode &&& bv 4095) &&& ~~~(bv 3072)).toNat < 9223372036854775808 := Nat.lt_of_le_of_lt (by rw [BitVec.toNat_and (bv mode &&& bv 4095)]; exact Nat.and_le_left) l1
  have e4 := bits_andNot_nat (bv mode &&& bv 4095) ((bv umask &&& bv 511).toNat : Int) l1
  have e5 := bits_andNot_nat ((bv mode &&& bv 4095) &&& ~~~(bv 3072)) ((bv umask &&& bv 511).toNat : Int) l2
  rw [bv_nat] at e4 e5
  obtain ⟨R, hR⟩ : ∃ R, R = settleV mode umask keep := ⟨_, rfl⟩
  rw [← hR]
  unfold settleV settleB at hR
  have b1 : bv 4095 = 4095#64 := rfl
  have b2 : bv 511 = 511#64 := rfl
  have b3 : bv 3072 = 3072#64 := rfl
  rw [b1, b2] at e4
  rw [b1, b2, b3] at e5
  rw [b1] at e1
  rw [b2] at e2
  rw [b1, b3] at e3
  obtain ⟨a, ha⟩ : ∃ a : Int, a = ((bv mode &&& 4095#64).toNat : Int) := ⟨_, rfl⟩
  obtain ⟨u, hu⟩ : ∃ a : Int, a = ((bv umask &&& 511#64).toNat : Int) := ⟨_, rfl⟩
  obtain ⟨d, hd⟩ : ∃ a : Int, a = (((bv mode &&& 4095#64) &&& ~~~3072#64).toNat : Int) := ⟨_, rfl⟩
  rw [← ha] at e1 e3 e4
  rw [← hu] at e2 e4 e5
  rw [← hd] at e3 e5
  clear l1 l2 ha hu hd b1 b2 b3
  cases keep with
  | true =>
    simp only [if_true] at hR
    rw [← hR] at e4
    clear hR e3 e5
    go_enter Tryd.func19, Tryd.ntmps19
    go_wp2_with fail
    go_ret
    exact ⟨rfl, rfl⟩
  | false =>
    simp only [Bool.false_eq_true, if_false] at hR
    rw [← hR] at e5
    clear hR e4
    go_enter Tryd.func19, Tryd.ntmps19
    go_wp2_with fail
    go_ret
    exact ⟨rfl, rfl⟩
end Go.Proofs.YtjknjmlpnjifkaaDoor
namespace Go.Proofs.YtjknjmlpnjifkaaDoor
open Go.RowKit
set_option linter.unusedVariables false
set_option linter.unusedSimpArgs false
attribute [local go_sem] cell?_over frozen?_over lt_over le_over
theorem mod_step (T k : Nat) : T % 2 ^ (k + 1) = T % 2 ^ k + (if T.testBit k then 2 ^ k else 0) := by
  rw [Nat.mod_pow_succ, Nat.testBit_eq_decide_div_mod_eq]
  have h : T / 2 ^ k % 2 = 0 ∨ T / 2 ^ k % 2 = 1 := by omega
  rcases h with h | h <;> rw [h] <;> simp
set_option maxHeartbeats 4000000 in
set_option maxRecDepth 100000 in
theorem refSettle (mode umask : Int) (keep : Bool) (w : World) :
    Calls Tryd.prog 29 #[.int .i64 mode, .int .i64 umask, .bool keep] w fun e w' => e = .returned (.int .i64 (settleV mode umask keep)) ∧ w' = w := by
  obtain ⟨T, hT⟩ : ∃ T, T = (settleB (bv mode) (bv umask) keep).toNat := ⟨_, rfl⟩
  have hlt := settle_lt (bv mode) (bv umask) keep
  have hbit : Hid (∀ i, i < 12 → (settleB (bv mode) (bv umask) keep).toNat.testBit i = ((bv mode).getLsbD i && !(decide (i < 9) && (bv umask).getLsbD i) && (keep || !(decide (i = 10 ∨ i = 11))))) := Lib.hid (fun i hi => settle_bit (bv mode) (bv umask) keep i hi)
  unfold settleV
  rw [← hT] at hlt hbit ⊢
  clear hT
  have HM := Lib.hid (fun k hk => and_bit mode k hk)
  have HU := Lib.hid (fun k hk => and_bit umask k hk)
  obtain ⟨F, hF⟩ : ∃ F : Nat → Bool, F = fun k => (bv mode).getLsbD k := ⟨_, rfl⟩
  obtain ⟨G, hG⟩ : ∃ F : Nat → Bool, F = fun k => (bv umask).getLsbD k := ⟨_, rfl⟩
  have HM : Hid (∀ k, k < 63 → (bits .and .i64 mode (2 ^ k) == 0) = !F k) := Lib.hid (fun k hk => by rw [hF]; exact and_bit mode k hk)
  have HU : Hid (∀ k, k < 63 → (bits .and .i64 umask (2 ^ k) == 0) = !G k) := Lib.hid (fun k hk => by rw [hG]; exact and_bit umask k hk)
  have HT : Hid (∀ i, i < 12 → T.testBit i = (F i && !(decide (i < 9) && G i) && (keep || !(decide (i = 10 ∨ i = 11))))) := Lib.hid (fun i hi => by rw [hF, hG]; exact hbit.out i hi)
  clear hbit hF hG
  go_enter Tryd.func29, Tryd.ntmps29
  go_wp2_with fail
  go_loopw [7, 8, 9] (fun out it _ wr => ∃ k : Nat, it = .int .i64 k ∧ k ≤ 12 ∧ out = .int .i64 ((T % 2 ^ k : Nat) : Int) ∧ wr = w) (fun _ it _ _ => 12 - (intOf it).toNat)
  case atStart => exact ⟨0, rfl, by omega, by simp [Nat.mod_one], rfl⟩
  case round =>
    obtain ⟨k, rfl, hk, rfl, hw⟩ := hrel
    subst hw
    have hs : T % 2 ^ k < 4096 := Nat.lt_of_le_of_lt (Nat.mod_le _ _) hlt
    have hn : T % 2 ^ (k + 1) < 4096 := Nat.lt_of_le_of_lt (Nat.mod_le _ _) hlt
    have hst := mod_step T k
    have HS := Lib.hid hst
    obtain ⟨q, hq⟩ : ∃ q, q = T % 2 ^ k := ⟨_, rfl⟩
    have HN : Hid (T % 2 ^ (k + 1) = q + (if T.testBit k then 2 ^ k else 0)) := Lib.hid (by rw [hq]; exact hst)
    have hq1 : q < 4096 := by rw [hq]; exact hs
    rw [← hq]
    have HQ := Lib.hid hq
    clear hst HS hs hn hq
    by_cases h12 : k = 12
    · subst h12
      have hq2 : q = T := by rw [HQ.out]; exact Nat.mod_eq_of_lt (by omega)
      subst hq2
      go_wp2_with fail
      go_ret
      exact ⟨rfl, rfl⟩
    · have hcases : k = 0 ∨ k = 1 ∨ k = 2 ∨ k = 3 ∨ k = 4 ∨ k = 5 ∨ k = 6 ∨ k = 7 ∨ k = 8 ∨ k = 9 ∨ k = 10 ∨ k = 11 := by omega
      rcases hcases with rfl | rfl | rfl | rfl | rfl | rfl | rfl | rfl | rfl | rfl | rfl | rfl
      · have hm := HM.out 0 (by decide)
        rw [show ((2 : Int) ^ 0) = 1 from rfl] at hm
        have hb := HT.out 0 (by decide)
        rw [show decide (0 < 9) = true from rfl, show decide (0 = 10 ∨ 0 = 11) = false from rfl] at hb
        obtain ⟨a, ha⟩ : ∃ a, a = F 0 := ⟨_, rfl⟩
        rw [← ha] at hm hb
        clear ha
        have hu := HU.out 0 (by decide)
        rw [show ((2 : Int) ^ 0) = 1 from rfl] at hu
        obtain ⟨b, hb0⟩ : ∃ b, b = G 0 := ⟨_, rfl⟩
        rw [← hb0] at hu hb
        clear hb0
        cases a with
        | false =>
          have HN2 : Hid (T % 2 ^ (0 + 1) = q) := Lib.hid (by rw [HN.out, hb]; simp)
          clear hb HN hu
          rw [show (!false) = true from rfl] at hm
          go_wp2_with fail
          go_roundw
          case rel => exact ⟨1, by go_num, by omega, congrArg (Value.int .i64) (by rw [HN2.out] <;> simp), by trivial⟩
          case measure => simp [intOf]
        | true =>
          rw [show (!true) = false from rfl] at hm
          cases b with
          | true =>
            have HN2 : Hid (T % 2 ^ (0 + 1) = q) := Lib.hid (by rw [HN.out, hb]; simp)
            clear hb HN
            have hu2 : (bits .and .i64 umask 1 != 0) = true := by rw [bne, hu]; rfl
            go_wp2_with fail
            go_roundw
            case rel => exact ⟨1, by go_num, by omega, congrArg (Value.int .i64) (by rw [HN2.out] <;> simp), by trivial⟩
            case measure => simp [intOf]
          | false =>
            have HN2 : Hid (T % 2 ^ (0 + 1) = q + 1) := Lib.hid (by rw [HN.out, hb]; simp)
            clear hb HN
            have hu2 : (bits .and .i64 umask 1 != 0) = false := by rw [bne, hu]; rfl
            go_wp2_with fail
            go_roundw
            case rel => exact ⟨1, by go_num, by omega, congrArg (Value.int .i64) (by rw [HN2.out] <;> simp), by trivial⟩
            case measure => simp [intOf]
      · have hm := HM.out 1 (by decide)
        rw [show ((2 : Int) ^ 1) = 2 from rfl] at hm
        have hb := HT.out 1 (by decide)
        rw [show decide (1 < 9) = true from rfl, show decide (1 = 10 ∨ 1 = 11) = false from rfl] at hb
        obtain ⟨a, ha⟩ : ∃ a, a = F 1 := ⟨_, rfl⟩
        rw [← ha] at hm hb
        clear ha
        have hu := HU.out 1 (by decide)
        rw [show ((2 : Int) ^ 1) = 2 from rfl] at hu
        obtain ⟨b, hb0⟩ : ∃ b, b = G 1 := ⟨_, rfl⟩
        rw [← hb0] at hu hb
        clear hb0
        cases a with
        | false =>
          have HN2 : Hid (T % 2 ^ (1 + 1) = q) := Lib.hid (by rw [HN.out, hb]; simp)
          clear hb HN hu
          rw [show (!false) = true from rfl] at hm
          go_wp2_with fail
          go_roundw
          case rel => exact ⟨2, by go_num, by omega, congrArg (Value.int .i64) (by rw [HN2.out] <;> simp), by trivial⟩
          case measure => simp [intOf]
        | true =>
          rw [show (!true) = false from rfl] at hm
          cases b with
          | true =>
            have HN2 : Hid (T % 2 ^ (1 + 1) = q) := Lib.hid (by rw [HN.out, hb]; simp)
            clear hb HN
            have hu2 : (bits .and .i64 umask 2 != 0) = true := by rw [bne, hu]; rfl
            go_wp2_with fail
            go_roundw
            case rel => exact ⟨2, by go_num, by omega, congrArg (Value.int .i64) (by rw [HN2.out] <;> simp), by trivial⟩
            case measure => simp [intOf]
          | false =>
            have HN2 : Hid (T % 2 ^ (1 + 1) = q + 2) := Lib.hid (by rw [HN.out, hb]; simp)
            clear hb HN
            have hu2 : (bits .and .i64 umask 2 != 0) = false := by rw [bne, hu]; rfl
            go_wp2_with fail
            go_roundw
            case rel => exact ⟨2, by go_num, by omega, congrArg (Value.int .i64) (by rw [HN2.out] <;> simp), by trivial⟩
            case measure => simp [intOf]
      · have hm := HM.out 2 (by decide)
        rw [show ((2 : Int) ^ 2) = 4 from rfl] at hm
        have hb := HT.out 2 (by decide)
        rw [show decide (2 < 9) = true from rfl, show decide (2 = 10 ∨ 2 = 11) = false from rfl] at hb
        obtain ⟨a, ha⟩ : ∃ a, a = F 2 := ⟨_, rfl⟩
        rw [← ha] at hm hb
        clear ha
        have hu := HU.out 2 (by decide)
        rw [show ((2 : Int) ^ 2) = 4 from rfl] at hu
        obtain ⟨b, hb0⟩ : ∃ b, b = G 2 := ⟨_, rfl⟩
        rw [← hb0] at hu hb
        clear hb0
        cases a with
        | false =>
          have HN2 : Hid (T % 2 ^ (2 + 1) = q) := Lib.hid (by rw [HN.out, hb]; simp)
          clear hb HN hu
          rw [show (!false) = true from rfl] at hm
          go_wp2_with fail
          go_roundw
          case rel => exact ⟨3, by go_num, by omega, congrArg (Value.int .i64) (by rw [HN2.out] <;> simp), by trivial⟩
          case measure => simp [intOf]
        | true =>
          rw [show (!true) = false from rfl] at hm
          cases b with
          | true =>
            have HN2 : Hid (T % 2 ^ (2 + 1) = q) := Lib.hid (by rw [HN.out, hb]; simp)
            clear hb HN
            have hu2 : (bits .and .i64 umask 4 != 0) = true := by rw [bne, hu]; rfl
            go_wp2_with fail
            go_roundw
            case rel => exact ⟨3, by go_num, by omega, congrArg (Value.int .i64) (by rw [HN2.out] <;> simp), by trivial⟩
            case measure => simp [intOf]
          | false =>
            have HN2 : Hid (T % 2 ^ (2 + 1) = q + 4) := Lib.hid (by rw [HN.out, hb]; simp)
            clear hb HN
            have hu2 : (bits .and .i64 umask 4 != 0) = false := by rw [bne, hu]; rfl
            go_wp2_with fail
            go_roundw
            case rel => exact ⟨3, by go_num, by omega, congrArg (Value.int .i64) (by rw [HN2.out] <;> simp), by trivial⟩
            case measure => simp [intOf]
      · have hm := HM.out 3 (by decide)
        rw [show ((2 : Int) ^ 3) = 8 from rfl] at hm
        have hb := HT.out 3 (by decide)
        rw [show decide (3 < 9) = true from rfl, show decide (3 = 10 ∨ 3 = 11) = false from rfl] at hb
        obtain ⟨a, ha⟩ : ∃ a, a = F 3 := ⟨_, rfl⟩
        rw [← ha] at hm hb
        clear ha
        have hu := HU.out 3 (by decide)
        rw [show ((2 : Int) ^ 3) = 8 from rfl] at hu
        obtain ⟨b, hb0⟩ : ∃ b, b = G 3 := ⟨_, rfl⟩
        rw [← hb0] at hu hb
        clear hb0
        cases a with
        | false =>
          have HN2 : Hid (T % 2 ^ (3 + 1) = q) := Lib.hid (by rw [HN.out, hb]; simp)
          clear hb HN hu
          rw [show (!false) = true from rfl] at hm
          go_wp2_with fail
          go_roundw
          case rel => exact ⟨4, by go_num, by omega, congrArg (Value.int .i64) (by rw [HN2.out] <;> simp), by trivial⟩
          case measure => simp [intOf]
        | true =>
          rw [show (!true) = false from rfl] at hm
          cases b with
          | true =>
            have HN2 : Hid (T % 2 ^ (3 + 1) = q) := Lib.hid (by rw [HN.out, hb]; simp)
            clear hb HN
            have hu2 : (bits .and .i64 umask 8 != 0) = true := by rw [bne, hu]; rfl
            go_wp2_with fail
            go_roundw
            case rel => exact ⟨4, by go_num, by omega, congrArg (Value.int .i64) (by rw [HN2.out] <;> simp), by trivial⟩
            case measure => simp [intOf]
          | false =>
            have HN2 : Hid (T % 2 ^ (3 + 1) = q + 8) := Lib.hid (by rw [HN.out, hb]; simp)
            clear hb HN
            have hu2 : (bits .and .i64 umask 8 != 0) = false := by rw [bne, hu]; rfl
            go_wp2_with fail
            go_roundw
            case rel => exact ⟨4, by go_num, by omega, congrArg (Value.int .i64) (by rw [HN2.out] <;> simp), by trivial⟩
            case measure => simp [intOf]
      · have hm := HM.out 4 (by decide)
        rw [show ((2 : Int) ^ 4) = 16 from rfl] at hm
        have hb := HT.out 4 (by decide)
        rw [show decide (4 < 9) = true from rfl, show decide (4 = 10 ∨ 4 = 11) = false from rfl] at hb
        obtain ⟨a, ha⟩ : ∃ a, a = F 4 := ⟨_, rfl⟩
        rw [← ha] at hm hb
        clear ha
        have hu := HU.out 4 (by decide)
        rw [show ((2 : Int) ^ 4) = 16 from rfl] at hu
        obtain ⟨b, hb0⟩ : ∃ b, b = G 4 := ⟨_, rfl⟩
        rw [← hb0] at hu hb
        clear hb0
        cases a with
        | false =>
          have HN2 : Hid (T % 2 ^ (4 + 1) = q) := Lib.hid (by rw [HN.out, hb]; simp)
          clear hb HN hu
          rw [show (!false) = true from rfl] at hm
          go_wp2_with fail
          go_roundw
          case rel => exact ⟨5, by go_num, by omega, congrArg (Value.int .i64) (by rw [HN2.out] <;> simp), by trivial⟩
          case measure => simp [intOf]
        | true =>
          rw [show (!true) = false from rfl] at hm
          cases b with
          | true =>
            have HN2 : Hid (T % 2 ^ (4 + 1) = q) := Lib.hid (by rw [HN.out, hb]; simp)
            clear hb HN
            have hu2 : (bits .and .i64 umask 16 != 0) = true := by rw [bne, hu]; rfl
            go_wp2_with fail
            go_roundw
            case rel => exact ⟨5, by go_num, by omega, congrArg (Value.int .i64) (by rw [HN2.out] <;> simp), by trivial⟩
            case measure => simp [intOf]
          | false =>
            have HN2 : Hid (T % 2 ^ (4 + 1) = q + 16) := Lib.hid (by rw [HN.out, hb]; simp)
            clear hb HN
            have hu2 : (bits .and .i64 umask 16 != 0) = false := by rw [bne, hu]; rfl
            go_wp2_with fail
            go_roundw
            case rel => exact ⟨5, by go_num, by omega, congrArg (Value.int .i64) (by rw [HN2.out] <;> simp), by trivial⟩
            case measure => simp [intOf]
      · have hm := HM.out 5 (by decide)
        rw [show ((2 : Int) ^ 5) = 32 from rfl] at hm
        have hb := HT.out 5 (by decide)
        rw [show decide (5 < 9) = true from rfl, show decide (5 = 10 ∨ 5 = 11) = false from rfl] at hb
        obtain ⟨a, ha⟩ : ∃ a, a = F 5 := ⟨_, rfl⟩
        rw [← ha] at hm hb
        clear ha
        have hu := HU.out 5 (by decide)
        rw [show ((2 : Int) ^ 5) = 32 from rfl] at hu
        obtain ⟨b, hb0⟩ : ∃ b, b = G 5 := ⟨_, rfl⟩
        rw [← hb0] at hu hb
        clear hb0
        cases a with
        | false =>
          have HN2 : Hid (T % 2 ^ (5 + 1) = q) := Lib.hid (by rw [HN.out, hb]; simp)
          clear hb HN hu
          rw [show (!false) = true from rfl] at hm
          go_wp2_with fail
          go_roundw
          case rel => exact ⟨6, by go_num, by omega, congrArg (Value.int .i64) (by rw [HN2.out] <;> simp), by trivial⟩
          case measure => simp [intOf]
        | true =>
          rw [show (!true) = false from rfl] at hm
          cases b with
          | true =>
            have HN2 : Hid (T % 2 ^ (5 + 1) = q) := Lib.hid (by rw [HN.out, hb]; simp)
            clear hb HN
            have hu2 : (bits .and .i64 umask 32 != 0) = true := by rw [bne, hu]; rfl
            go_wp2_with fail
            go_roundw
            case rel => exact ⟨6, by go_num, by omega, congrArg (Value.int .i64) (by rw [HN2.out] <;> simp), by trivial⟩
            case measure => simp [intOf]
          | false =>
            have HN2 : Hid (T % 2 ^ (5 + 1) = q + 32) := Lib.hid (by rw [HN.out, hb]; simp)
            clear hb HN
            have hu2 : (bits .and .i64 umask 32 != 0) = false := by rw [bne, hu]; rfl
            go_wp2_with fail
            go_roundw
            case rel => exact ⟨6, by go_num, by omega, congrArg (Value.int .i64) (by rw [HN2.out] <;> simp), by trivial⟩
            case measure => simp [intOf]
      · have hm := HM.out 6 (by decide)
        rw [show ((2 : Int) ^ 6) = 64 from rfl] at hm
        have hb := HT.out 6 (by decide)
        rw [show decide (6 < 9) = true from rfl, show decide (6 = 10 ∨ 6 = 11) = false from rfl] at hb
        obtain ⟨a, ha⟩ : ∃ a, a = F 6 := ⟨_, rfl⟩
        rw [← ha] at hm hb
        clear ha
        have hu := HU.out 6 (by decide)
        rw [show ((2 : Int) ^ 6) = 64 from rfl] at hu
        obtain ⟨b, hb0⟩ : ∃ b, b = G 6 := ⟨_, rfl⟩
        rw [← hb0] at hu hb
        clear hb0
        cases a with
        | false =>
          have HN2 : Hid (T % 2 ^ (6 + 1) = q) := Lib.hid (by rw [HN.out, hb]; simp)
          clear hb HN hu
          rw [show (!false) = true from rfl] at hm
          go_wp2_with fail
          go_roundw
          case rel => exact ⟨7, by go_num, by omega, congrArg (Value.int .i64) (by rw [HN2.out] <;> simp), by trivial⟩
          case measure => simp [intOf]
        | true =>
          rw [show (!true) = false from rfl] at hm
          cases b with
          | true =>
            have HN2 : Hid (T % 2 ^ (6 + 1) = q) := Lib.hid (by rw [HN.out, hb]; simp)
            clear hb HN
            have hu2 : (bits .and .i64 umask 64 != 0) = true := by rw [bne, hu]; rfl
            go_wp2_with fail
            go_roundw
            case rel => exact ⟨7, by go_num, by omega, congrArg (Value.int .i64) (by rw [HN2.out] <;> simp), by trivial⟩
            case measure => simp [intOf]
          | false =>
            have HN2 : Hid (T % 2 ^ (6 + 1) = q + 64) := Lib.hid (by rw [HN.out, hb]; simp)
            clear hb HN
            have hu2 : (bits .and .i64 umask 64 != 0) = false := by rw [bne, hu]; rfl
            go_wp2_with fail
            go_roundw
            case rel => exact ⟨7, by go_num, by omega, congrArg (Value.int .i64) (by rw [HN2.out] <;> simp), by trivial⟩
            case measure => simp [intOf]
      · have hm := HM.out 7 (by decide)
        rw [show ((2 : Int) ^ 7) = 128 from rfl] at hm
        have hb := HT.out 7 (by decide)
        rw [show decide (7 < 9) = true from rfl, show decide (7 = 10 ∨ 7 = 11) = false from rfl] at hb
        obtain ⟨a, ha⟩ : ∃ a, a = F 7 := ⟨_, rfl⟩
        rw [← ha] at hm hb
        clear ha
        have hu := HU.out 7 (by decide)
        rw [show ((2 : Int) ^ 7) = 128 from rfl] at hu
        obtain ⟨b, hb0⟩ : ∃ b, b = G 7 := ⟨_, rfl⟩
        rw [← hb0] at hu hb
        clear hb0
        cases a with
        | false =>
          have HN2 : Hid (T % 2 ^ (7 + 1) = q) := Lib.hid (by rw [HN.out, hb]; simp)
          clear hb HN hu
          rw [show (!false) = true from rfl] at hm
          go_wp2_with fail
          go_roundw
          case rel => exact ⟨8, by go_num, by omega, congrArg (Value.int .i64) (by rw [HN2.out] <;> simp), by trivial⟩
          case measure => simp [intOf]
        | true =>
          rw [show (!true) = false from rfl] at hm
          cases b with
          | true =>
            have HN2 : Hid (T % 2 ^ (7 + 1) = q) := Lib.hid (by rw [HN.out, hb]; simp)
            clear hb HN
            have hu2 : (bits .and .i64 umask 128 != 0) = true := by rw [bne, hu]; rfl
            go_wp2_with fail
            go_roundw
            case rel => exact ⟨8, by go_num, by omega, congrArg (Value.int .i64) (by rw [HN2.out] <;> simp), by trivial⟩
            case measure => simp [intOf]
          | false =>
            have HN2 : Hid (T % 2 ^ (7 + 1) = q + 128) := Lib.hid (by rw [HN.out, hb]; simp)
            clear hb HN
            have hu2 : (bits .and .i64 umask 128 != 0) = false := by rw [bne, hu]; rfl
            go_wp2_with fail
            go_roundw
            case rel => exact ⟨8, by go_num, by omega, congrArg (Value.int .i64) (by rw [HN2.out] <;> simp), by trivial⟩
            case measure => simp [intOf]
      · have hm := HM.out 8 (by decide)
        rw [show ((2 : Int) ^ 8) = 256 from rfl] at hm
        have hb := HT.out 8 (by decide)
        rw [show decide (8 < 9) = true from rfl, show decide (8 = 10 ∨ 8 = 11) = false from rfl] at hb
        obtain ⟨a, ha⟩ : ∃ a, a = F 8 := ⟨_, rfl⟩
        rw [← ha] at hm hb
        clear ha
        have hu := HU.out 8 (by decide)
        rw [show ((2 : Int) ^ 8) = 256 from rfl] at hu
        obtain ⟨b, hb0⟩ : ∃ b, b = G 8 := ⟨_, rfl⟩
        rw [← hb0] at hu hb
        clear hb0
        cases a with
        | false =>
          have HN2 : Hid (T % 2 ^ (8 + 1) = q) := Lib.hid (by rw [HN.out, hb]; simp)
          clear hb HN hu
          rw [show (!false) = true from rfl] at hm
          go_wp2_with fail
          go_roundw
          case rel => exact ⟨9, by go_num, by omega, congrArg (Value.int .i64) (by rw [HN2.out] <;> simp), by trivial⟩
          case measure => simp [intOf]
        | true =>
          rw [show (!true) = false from rfl] at hm
          cases b with
          | true =>
            have HN2 : Hid (T % 2 ^ (8 + 1) = q) := Lib.hid (by rw [HN.out, hb]; simp)
            clear hb HN
            have hu2 : (bits .and .i64 umask 256 != 0) = true := by rw [bne, hu]; rfl
            go_wp2_with fail
            go_roundw
            case rel => exact ⟨9, by go_num, by omega, congrArg (Value.int .i64) (by rw [HN2.out] <;> simp), by trivial⟩
            case measure => simp [intOf]
          | false =>
            have HN2 : Hid (T % 2 ^ (8 + 1) = q + 256) := Lib.hid (by rw [HN.out, hb]; simp)
            clear hb HN
            have hu2 : (bits .and .i64 umask 256 != 0) = false := by rw [bne, hu]; rfl
            go_wp2_with fail
            go_roundw
            case rel => exact ⟨9, by go_num, by omega, congrArg (Value.int .i64) (by rw [HN2.out] <;> simp), by trivial⟩
            case measure => simp [intOf]
      · have hm := HM.out 9 (by decide)
        rw [show ((2 : Int) ^ 9) = 512 from rfl] at hm
        have hb := HT.out 9 (by decide)
        rw [show decide (9 < 9) = false from rfl, show decide (9 = 10 ∨ 9 = 11) = false from rfl] at hb
        obtain ⟨a, ha⟩ : ∃ a, a = F 9 := ⟨_, rfl⟩
        rw [← ha] at hm hb
        clear ha
        cases a with
        | false =>
          have HN2 : Hid (T % 2 ^ (9 + 1) = q) := Lib.hid (by rw [HN.out, hb]; simp)
          clear hb HN
          rw [show (!false) = true from rfl] at hm
          go_wp2_with fail
          go_roundw
          case rel => exact ⟨10, by go_num, by omega, congrArg (Value.int .i64) (by rw [HN2.out] <;> simp), by trivial⟩
          case measure => simp [intOf]
        | true =>
          rw [show (!true) = false from rfl] at hm
          have HN2 : Hid (T % 2 ^ (9 + 1) = q + 512) := Lib.hid (by rw [HN.out, hb]; simp)
          clear hb HN
          go_wp2_with fail
          go_roundw
          case rel => exact ⟨10, by go_num, by omega, congrArg (Value.int .i64) (by rw [HN2.out] <;> simp), by trivial⟩
          case measure => simp [intOf]
      · have hm := HM.out 10 (by decide)
        rw [show ((2 : Int) ^ 10) = 1024 from rfl] at hm
        have hb := HT.out 10 (by decide)
        rw [show decide (10 < 9) = false from rfl, show decide (10 = 10 ∨ 10 = 11) = true from rfl] at hb
        obtain ⟨a, ha⟩ : ∃ a, a = F 10 := ⟨_, rfl⟩
        rw [← ha] at hm hb
        clear ha
        cases a with
        | false =>
          have HN2 : Hid (T % 2 ^ (10 + 1) = q) := Lib.hid (by rw [HN.out, hb]; simp)
          clear hb HN
          rw [show (!false) = true from rfl] at hm
          go_wp2_with fail
          go_roundw
          case rel => exact ⟨11, by go_num, by omega, congrArg (Value.int .i64) (by rw [HN2.out] <;> simp), by trivial⟩
          case measure => simp [intOf]
        | true =>
          rw [show (!true) = false from rfl] at hm
          cases keep with
          | false =>
            have HN2 : Hid (T % 2 ^ (10 + 1) = q) := Lib.hid (by rw [HN.out, hb]; simp)
            clear hb HN
            go_wp2_with fail
            go_roundw
            case rel => exact ⟨11, by go_num, by omega, congrArg (Value.int .i64) (by rw [HN2.out] <;> simp), by trivial⟩
            case measure => simp [intOf]
          | true =>
            have HN2 : Hid (T % 2 ^ (10 + 1) = q + 1024) := Lib.hid (by rw [HN.out, hb]; simp)
            clear hb HN
            go_wp2_with fail
            go_roundw
            case rel => exact ⟨11, by go_num, by omega, congrArg (Value.int .i64) (by rw [HN2.out] <;> simp), by trivial⟩
            case measure => simp [intOf]
      · have hm := HM.out 11 (by decide)
        rw [show ((2 : Int) ^ 11) = 2048 from rfl] at hm
        have hb := HT.out 11 (by decide)
        rw [show decide (11 < 9) = false from rfl, show decide (11 = 10 ∨ 11 = 11) = true from rfl] at hb
        obtain ⟨a, ha⟩ : ∃ a, a = F 11 := ⟨_, rfl⟩
        rw [← ha] at hm hb
        clear ha
        cases a with
        | false =>
          have HN2 : Hid (T % 2 ^ (11 + 1) = q) := Lib.hid (by rw [HN.out, hb]; simp)
          clear hb HN
          rw [show (!false) = true from rfl] at hm
          go_wp2_with fail
          go_roundw
          case rel => exact ⟨12, by go_num, by omega, congrArg (Value.int .i64) (by rw [HN2.out] <;> simp), by trivial⟩
          case measure => simp [intOf]
        | true =>
          rw [show (!true) = false from rfl] at hm
          cases keep with
          | false =>
            have HN2 : Hid (T % 2 ^ (11 + 1) = q) := Lib.hid (by rw [HN.out, hb]; simp)
            clear hb HN
            go_wp2_with fail
            go_roundw
            case rel => exact ⟨12, by go_num, by omega, congrArg (Value.int .i64) (by rw [HN2.out] <;> simp), by trivial⟩
            case measure => simp [intOf]
          | true =>
            have HN2 : Hid (T % 2 ^ (11 + 1) = q + 2048) := Lib.hid (by rw [HN.out, hb]; simp)
            clear hb HN
            go_wp2_with fail
            go_roundw
            case rel => exact ⟨12, by go_num, by omega, congrArg (Value.int .i64) (by rw [HN2.out] <;> simp), by trivial⟩
            case measure => simp [intOf]
end Go.Proofs.YtjknjmlpnjifkaaDoor
