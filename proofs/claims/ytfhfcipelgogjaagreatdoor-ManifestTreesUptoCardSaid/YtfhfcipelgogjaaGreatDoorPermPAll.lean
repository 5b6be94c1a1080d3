/- perms.triple: three letters as bits. No condition. perms.Parse: ten letters as a kind and a mode. No condition but room. -/
import Derived.Test.YtfhfcipelgogjaaGreatDoorPermLaw
import Derived.Test.YtfhfcipelgogjaaGreatDoorLayIx
namespace Go.Proofs.YtfhfcipelgogjaaGreatDoor
open Go.RowKit
set_option linter.unusedVariables false
set_option linter.unusedSimpArgs false
theorem indexByte_calls (s : ByteArray) (c : Int) (w : World) :
    Calls Tryz.prog 150 #[.string s, .int .u8 c] w fun e w' => e = .returned (.int .i64 (Lib.indexByte s.data.toList c.toNat.toUInt8)) ∧ w' = w := Any.strings_IndexByte Tryz.lays137 s c w
def tripEnd (o : Option (Nat × Bool)) : Ending :=
  match o with
  | some (x, sp) => .returned (.tuple #[.int .i64 x, .bool sp, .bool true])
  | none => .returned (.tuple #[.int .i64 0, .bool false, .bool false])
theorem ne_z {a : UInt8} {n : UInt8} (h : a ≠ n) : ((a.toNat : Int) == (n.toNat : Int)) = false := by
  rw [beq_eq_false_iff_ne]
  intro e
  exact h (UInt8.toNat_inj.1 (by omega))
theorem trip_a {a b c s : UInt8} (h : a ≠ 114) (h' : a ≠ 45) : trip a b c s = none := by unfold trip; rw [if_pos ⟨h, h'⟩]
theorem trip_b {a b c s : UInt8} (ha : a = 114 ∨ a = 45) (h : b ≠ 119) (h' : b ≠ 45) : trip a b c s = none := by
  unfold trip; rw [if_neg (fun e => ha.elim e.1 e.2), if_pos ⟨h, h'⟩]
theorem trip_c {a b c s : UInt8} (ha : a = 114 ∨ a = 45) (hb : b = 119 ∨ b = 45) (h1 : c ≠ 45) (h2 : c ≠ 120) (h3 : c ≠ s) (h4 : c ≠ s - 32) : trip a b c s = none := by
  unfold trip; rw [if_neg (fun e => ha.elim e.1 e.2), if_neg (fun e => hb.elim e.1 e.2), if_neg h1, if_neg h2, if_neg h3, if_neg h4]
set_option maxHeartbeats 2000000 in
set_option maxRecDepth 100000 in
theorem triple (a b c small : UInt8) (hsm : small = 115 ∨ small = 116) (w : World) :
    Calls Tryz.prog 151 #[.string ⟨#[a, b, c]⟩, .int .u8 small.toNat] w fun e w' => e = tripEnd (trip a b c small) ∧ w' = w := by
  have e0 : (⟨#[a, b, c]⟩ : ByteArray)[0]'(by show 0 < 3; decide) = a := rfl
  have e1 : (⟨#[a, b, c]⟩ : ByteArray)[1]'(by show 1 < 3; decide) = b := rfl
  have e2 : (⟨#[a, b, c]⟩ : ByteArray)[2]'(by show 2 < 3; decide) = c := rfl
  by_cases ha : a = 114 ∨ a = 45
  · by_cases hb : b = 119 ∨ b = 45
    · by_cases hc : c = 45 ∨ c = 120 ∨ c = small ∨ c = small - 32
      · obtain ⟨r, hr⟩ : ∃ r, r = trip a b c small := ⟨_, rfl⟩
        rw [← hr]
        have HR := Lib.hid hr
        clear hr e0 e1 e2
        rcases hsm with rfl | rfl <;> rcases ha with rfl | rfl <;> rcases hb with rfl | rfl <;> rcases hc with rfl | rfl | rfl | rfl <;> ((go_enter Tryz.func151, Tryz.ntmps151; go_wp2_with (fail); go_ret3; refine ⟨?_, by first | rfl | assumption⟩); rw [HR.out]; rfl)
      · obtain ⟨r, hr⟩ : ∃ r, r = trip a b c small := ⟨_, rfl⟩
        rw [← hr]
        rw [trip_c ha hb (fun e => hc (.inl e)) (fun e => hc (.inr (.inl e))) (fun e => hc (.inr (.inr (.inl e)))) (fun e => hc (.inr (.inr (.inr e))))] at hr
        have HR := Lib.hid hr
        have c1 : ((c.toNat : Int) == 45) = false := ne_z (n := 45) fun e => hc (.inl e)
        have c2 : ((c.toNat : Int) == 120) = false := ne_z (n := 120) fun e => hc (.inr (.inl e))
        rcases hsm with rfl | rfl
        · have c3 : ((c.toNat : Int) == 115) = false := ne_z (n := 115) fun e => hc (.inr (.inr (.inl e)))
          have c4 : ((c.toNat : Int) == 83) = false := ne_z (n := 83) fun e => hc (.inr (.inr (.inr e)))
          clear hr e0 e1 hc
          rcases ha with rfl | rfl <;> rcases hb with rfl | rfl <;> ((go_enter Tryz.func151, Tryz.ntmps151; go_wp2_with (fail); go_ret3; refine ⟨?_, by first | rfl | assumption⟩); rw [HR.out]; rfl)
        · have c3 : ((c.toNat : Int) == 116) = false := ne_z (n := 116) fun e => hc (.inr (.inr (.inl e)))
          have c4 : ((c.toNat : Int) == 84) = false := ne_z (n := 84) fun e => hc (.inr (.inr (.inr e)))
          clear hr e0 e1 hc
          rcases ha with rfl | rfl <;> rcases hb with rfl | rfl <;> ((go_enter Tryz.func151, Tryz.ntmps151; go_wp2_with (fail); go_ret3; refine ⟨?_, by first | rfl | assumption⟩); rw [HR.out]; rfl)
    · obtain ⟨r, hr⟩ : ∃ r, r = trip a b c small := ⟨_, rfl⟩
      rw [← hr]
      rw [trip_b ha (fun e => hb (.inl e)) (fun e => hb (.inr e))] at hr
      have HR := Lib.hid hr
      have c1 : ((b.toNat : Int) == 119) = false := ne_z (n := 119) fun e => hb (.inl e)
      have c2 : ((b.toNat : Int) == 45) = false := ne_z (n := 45) fun e => hb (.inr e)
      have c3 : ((b.toNat : Int) != 45) = true := by simp only [bne, c2, Bool.not_false]
      clear hr e0 e2 hb
      rcases ha with rfl | rfl <;> ((go_enter Tryz.func151, Tryz.ntmps151; go_wp2_with (fail); go_ret3; refine ⟨?_, by first | rfl | assumption⟩); rw [HR.out]; rfl)
  · obtain ⟨r, hr⟩ : ∃ r, r = trip a b c small := ⟨_, rfl⟩
    rw [← hr]
    rw [trip_a (fun e => ha (.inl e)) (fun e => ha (.inr e))] at hr
    have HR := Lib.hid hr
    have c1 : ((a.toNat : Int) == 114) = false := ne_z (n := 114) fun e => ha (.inl e)
    have c2 : ((a.toNat : Int) == 45) = false := ne_z (n := 45) fun e => ha (.inr e)
    have c3 : ((a.toNat : Int) != 45) = true := by simp only [bne, c2, Bool.not_false]
    clear hr e1 e2 ha
    (go_enter Tryz.func151, Tryz.ntmps151; go_wp2_with (fail); go_ret3; refine ⟨?_, by first | rfl | assumption⟩)
    rw [HR.out]
    rfl
end Go.Proofs.YtfhfcipelgogjaaGreatDoor
namespace Go.Proofs.YtfhfcipelgogjaaGreatDoor
open Go.RowKit
set_option linter.unusedVariables false
set_option linter.unusedSimpArgs false
def permEnd (o : Option (Nat × Nat)) : Ending :=
  match o with
  | some (k, m) => .returned (.tuple #[.int .i64 k, .int .i64 m, .int .i64 0])
  | none => .returned (.tuple #[.int .i64 0, .int .i64 0, .int .i64 120])
theorem u8_back (k : UInt8) : ((k.toNat : Int)).toNat.toUInt8 = k := by simp
theorem kind_index (k : UInt8) : Lib.indexByte [45, 100, 108, 104, 63] k = (match kindIx k with | some n => (n : Int) - 1 | none => -1) := by
  unfold kindIx
  by_cases h1 : k = 45
  · subst h1; rfl
  by_cases h2 : k = 100
  · subst h2; rfl
  by_cases h3 : k = 108
  · subst h3; rfl
  by_cases h4 : k = 104
  · subst h4; rfl
  by_cases h5 : k = 63
  · subst h5; rfl
  rw [if_neg h1, if_neg h2, if_neg h3, if_neg h4, if_neg h5]
  have g1 : ((45 : UInt8) == k) = false := beq_eq_false_iff_ne.2 (Ne.symm h1)
  have g2 : ((100 : UInt8) == k) = false := beq_eq_false_iff_ne.2 (Ne.symm h2)
  have g3 : ((108 : UInt8) == k) = false := beq_eq_false_iff_ne.2 (Ne.symm h3)
  have g4 : ((104 : UInt8) == k) = false := beq_eq_false_iff_ne.2 (Ne.symm h4)
  have g5 : ((63 : UInt8) == k) = false := beq_eq_false_iff_ne.2 (Ne.symm h5)
  simp [Lib.indexByte, g1, g2, g3, g4, g5]
theorem ten_of {s : ByteArray} (h : s.size = 10) : ∃ k a b c d e f g i j, s = ⟨#[k, a, b, c, d, e, f, g, i, j]⟩ := by
  have hl : s.data.toList.length = 10 := by rw [Array.length_toList]; exact h
  match hs : s.data.toList, hl with
  | [k, a, b, c, d, e, f, g, i, j], _ =>
    refine ⟨k, a, b, c, d, e, f, g, i, j, ?_⟩
    cases s with | mk v =>
    congr 1
    rw [← Array.toList_inj]
    exact hs
theorem permP_ten {s : ByteArray} (h : s.size ≠ 10) : permP s.data.toList = none := by
  have hl : s.data.toList.length ≠ 10 := by rw [Array.length_toList]; exact h
  unfold permP
  split
  · next hs => rw [hs] at hl; exact absurd rfl hl
  · rfl
theorem bytes_eq {s t : ByteArray} (h : s.data.toList = t.data.toList) : s = t := by
  cases s; cases t
  congr 1
  rw [← Array.toList_inj]
  exact h
theorem or12 {x y : Nat} (hx : x < 4096) (hy : y < 4096) : x ||| y < 4096 := Nat.or_lt_two_pow (n := 12) hx hy
theorem mid_lt {M : Nat} : M &&& 3584 < 4096 ∧ (M &&& 511) <<< 3 < 4096 ∧ M &&& 511 < 512 := by
  have h1 := Nat.and_le_right (n := M) (m := 3584)
  have h2 := Nat.and_le_right (n := M) (m := 511)
  rw [Nat.shiftLeft_eq]
  omega
theorem base_lt {M x : Nat} (hx : x < 8) : M &&& 3584 ||| (M &&& 511) <<< 3 ||| x < 4096 := or12 (or12 mid_lt.1 mid_lt.2.1) (by omega)
theorem stepC_lt {M x bit : Nat} {sp : Bool} (hx : x < 8) (hb : bit < 4096) : stepC M (x, sp) bit < 4096 := by
  unfold stepC
  cases sp
  · exact base_lt hx
  · exact or12 (base_lt hx) hb
theorem step_f {M x bit : Nat} (hM : M < 4096) (hx : x < 8) : bits .or .i64 (bits .or .i64 (bits .and .i64 (M : Int) 3584) (wrap64 (bits .and .i64 (M : Int) 511 * 8))) (x : Int) = ((stepC M (x, false) bit : Nat) : Int) := by
  have a1 := (bits_nat .i64 63 (by decide) wraps_i64 M 3584 (by omega) (by decide)).1
  have a2 := (bits_nat .i64 63 (by decide) wraps_i64 M 511 (by omega) (by decide)).1
  have hm := @mid_lt M
  have e1 : wrap64 (((M &&& 511 : Nat) : Int) * 8) = (((M &&& 511) <<< 3 : Nat) : Int) := by
    rw [Nat.shiftLeft_eq]
    unfold wrap64
    omega
  have e2 : bits .and .i64 (M : Int) 3584 = ((M &&& 3584 : Nat) : Int) := a1
  have e3 : bits .and .i64 (M : Int) 511 = ((M &&& 511 : Nat) : Int) := a2
  rw [e2, e3, e1]
  have o1 := (bits_nat .i64 63 (by decide) wraps_i64 (M &&& 3584) ((M &&& 511) <<< 3) (by omega) (by omega)).2
  rw [o1]
  exact (bits_nat .i64 63 (by decide) wraps_i64 (M &&& 3584 ||| (M &&& 511) <<< 3) x (by have := or12 hm.1 hm.2.1; omega) (by omega)).2
theorem step_t {M x bit : Nat} (hM : M < 4096) (hx : x < 8) (hb : bit < 4096) : bits .or .i64 (bits .or .i64 (bits .or .i64 (bits .and .i64 (M : Int) 3584) (wrap64 (bits .and .i64 (M : Int) 511 * 8))) (x : Int)) (bit : Int) = ((stepC M (x, true) bit : Nat) : Int) := by
  rw [step_f (bit := 0) hM hx]
  have hl := stepC_lt (M := M) (bit := 0) (sp := false) hx (by decide)
  exact (bits_nat .i64 63 (by decide) wraps_i64 (stepC M (x, false) 0) bit (by omega) (by omega)).2
set_option maxHeartbeats 2000000 in
set_option maxRecDepth 100000 in
theorem permsParse (s : ByteArray) (w : World) (hs : s.size ≤ 140737488355328) :
    Calls Tryz.prog 99 #[.string s] w fun e w' => e = permEnd (permP s.data.toList) ∧ Below w.heap.size w w' := by
  by_cases hz : s.size = 10
  · obtain ⟨k, a, b, c, d, e, f, g, i, j, rfl⟩ := ten_of hz
    clear hs hz
    have e0 : (⟨#[k, a, b, c, d, e, f, g, i, j]⟩ : ByteArray)[0]'(by show 0 < 10; decide) = k := rfl
    have eK := kind_index k
    have x1 : (⟨#[k, a, b, c, d, e, f, g, i, j]⟩ : ByteArray).extract 1 4 = ⟨#[a, b, c]⟩ := bytes_eq (by rw [Lib.extract_data]; rfl)
    have x2 : (⟨#[k, a, b, c, d, e, f, g, i, j]⟩ : ByteArray).extract 4 7 = ⟨#[d, e, f]⟩ := bytes_eq (by rw [Lib.extract_data]; rfl)
    have x3 : (⟨#[k, a, b, c, d, e, f, g, i, j]⟩ : ByteArray).extract 7 10 = ⟨#[g, i, j]⟩ := bytes_eq (by rw [Lib.extract_data]; rfl)
    have hP : permP (⟨#[k, a, b, c, d, e, f, g, i, j]⟩ : ByteArray).data.toList = (match kindIx k, trip a b c 115, trip d e f 115, trip g i j 116 with
      | some k, some t1, some t2, some t3 => some (k, modeC t1 t2 t3)
      | _, _, _, _ => none) := rfl
    rw [hP]
    clear hP
    cases hk : kindIx k with
    | none =>
      rw [hk] at eK
      simp only at eK ⊢
      have EK : Hid (Lib.indexByte (⟨#[45, 100, 108, 104, 63]⟩ : ByteArray).data.toList ((k.toNat : Int)).toNat.toUInt8 = -1) := Lib.hid (by rw [u8_back]; exact eK)
      clear eK hk x1 x2 x3
      go_enter Tryz.func99, Tryz.ntmps99
      go_wp2_with fail
      refine (indexByte_calls _ _ _).mono ?_
      rintro e w1 ⟨rfl, hw1⟩
      rw [hw1, EK.out]
      clear hw1
      go_wp2_with fail
      go_ret3
      exact ⟨by first | rfl | simp [permEnd], Below.refl _ _⟩
    | some n =>
      rw [hk] at eK
      simp only at eK ⊢
      have hn := kindIx_sound hk
      have EK : Hid (Lib.indexByte (⟨#[45, 100, 108, 104, 63]⟩ : ByteArray).data.toList ((k.toNat : Int)).toNat.toUInt8 = (n : Int) - 1) := Lib.hid (by rw [u8_back]; exact eK)
      have n1 : ¬ ((n : Int) - 1 < 0) := by omega
      have n2 : (n : Int) ≤ 5 := by omega
      have n3 : (1 : Int) ≤ n := by omega
      clear eK hk hn
      have X1 := Lib.hid x1; have X2 := Lib.hid x2; have X3 := Lib.hid x3
      clear x1 x2 x3
      generalize hr1 : trip a b c 115 = r1
      generalize hr2 : trip d e f 115 = r2
      generalize hr3 : trip g i j 116 = r3
      have R1 := Lib.hid hr1; have R2 := Lib.hid hr2; have R3 := Lib.hid hr3
      clear hr1 hr2 hr3
      obtain ⟨PE, hPE⟩ : ∃ PE, PE = permEnd (match some n, r1, r2, r3 with
        | some k, some t1, some t2, some t3 => some (k, modeC t1 t2 t3)
        | _, _, _, _ => none) := ⟨_, rfl⟩
      have HPE := Lib.hid hPE
      rw [← hPE]
      clear hPE
      have ix0 : ∀ W, (Instr.index 178 (.agg #[.int .i64 2048, .int .i64 1024, .int .i64 512]) (.int .i64 0)).run Tryz.prog W = .ok (.int .i64 2048) W := fun W => by kernel_rfl
      have ix1 : ∀ W, (Instr.index 178 (.agg #[.int .i64 2048, .int .i64 1024, .int .i64 512]) (.int .i64 1)).run Tryz.prog W = .ok (.int .i64 1024) W := fun W => by kernel_rfl
      have ix2 : ∀ W, (Instr.index 178 (.agg #[.int .i64 2048, .int .i64 1024, .int .i64 512]) (.int .i64 2)).run Tryz.prog W = .ok (.int .i64 512) W := fun W => by kernel_rfl
      go_enter Tryz.func99, Tryz.ntmps99
      go_wp2_with fail
      refine (indexByte_calls _ _ _).mono ?_
      rintro e w1 ⟨rfl, hw1⟩
      rw [hw1, EK.out]
      clear hw1
      go_wp2_with fail
      go_loopw [5, 21] (fun m i wr => ∃ (ii M : Nat), ii ≤ 3 ∧ i = .int .i64 ii ∧ m = .int .i64 M ∧ M < 4096 ∧ (ii = 0 → M = 0) ∧ (ii = 1 → ∃ t1, r1 = some t1 ∧ M = stepC 0 t1 2048) ∧ (ii = 2 → ∃ t1 t2, r1 = some t1 ∧ r2 = some t2 ∧ M = stepC (stepC 0 t1 2048) t2 1024) ∧ (ii = 3 → ∃ t1 t2 t3, r1 = some t1 ∧ r2 = some t2 ∧ r3 = some t3 ∧ M = modeC t1 t2 t3) ∧ Below w.heap.size w wr) (fun _ i _ => 3 - (intOf i).toNat)
      case atStart => exact ⟨0, 0, by omega, rfl, rfl, by omega, fun _ => rfl, (fun h => by omega), (fun h => by omega), (fun h => by omega), Below.refl _ _⟩
      case round =>
        obtain ⟨ii, M, hii, rfl, rfl, hM, q0, q1, q2, q3, hbel⟩ := hrel
        have HB := Lib.hid hbel
        clear hbel
        have : ii = 0 ∨ ii = 1 ∨ ii = 2 ∨ ii = 3 := by omega
        rcases this with rfl | rfl | rfl | rfl
        · have hM0 := q0 rfl
          subst hM0
          clear q0 q1 q2 q3 hM hii
          go_wp2_with fail
          have X := X1.out
          cases hr : r1 with
          | none =>
            have hT : ∀ W, Calls Tryz.prog 151 #[.string ⟨#[a, b, c]⟩, .int .u8 115] W fun e w' => e = .returned (.tuple #[.int .i64 0, .bool false, .bool false]) ∧ W = w' := fun W => (triple a b c 115 (.inl rfl) W).mono fun e w' h => ⟨by rw [h.1, R1.out, hr]; rfl, h.2.symm⟩
            refine wp_region_over (by kernel_rfl) (by kernel_rfl) ?_
            repeat (go_big_quiet_step (first | (go_at_call 151; exact calls_over_same (hT _))))
            refine wpQuiet_nil ?_
            rintro _ ⟨δ, rfl⟩
            go_wp2_with fail
            go_ret3
            rw [HPE.out, hr]
            exact ⟨by first | rfl | simp [permEnd], below_trans_over HB.out HB.out.size δ⟩
          | some t =>
            obtain ⟨x, sp⟩ := t
            have hx : x < 8 := (trip_sound (R1.out.trans hr)).1
            have hT : ∀ W, Calls Tryz.prog 151 #[.string ⟨#[a, b, c]⟩, .int .u8 115] W fun e w' => e = .returned (.tuple #[.int .i64 x, .bool sp, .bool true]) ∧ W = w' := fun W => (triple a b c 115 (.inl rfl) W).mono fun e w' h => ⟨by rw [h.1, R1.out, hr]; rfl, h.2.symm⟩
            refine wp_region_over (by kernel_rfl) (by kernel_rfl) ?_
            repeat (go_big_quiet_step (first | (go_at_call 151; exact calls_over_same (hT _))))
            refine wpQuiet_nil ?_
            rintro _ ⟨δ, rfl⟩
            have HR := Lib.hid hr
            clear hr
            cases sp with
            | true =>
              go_wp2_with fail
              go_roundw
              case rel => exact ⟨1, stepC 0 (x, true) 2048, by omega, by go_num, congrArg (Value.int .i64) (step_t (M := 0) (by omega) hx (by decide)), stepC_lt hx (by decide), (fun h => by omega), (fun _ => ⟨_, HR.out, rfl⟩), (fun h => by omega), (fun h => by omega), below_trans_over HB.out HB.out.size δ⟩
              case measure => simp [intOf]
            | false =>
              go_wp2_with fail
              go_roundw
              case rel => exact ⟨1, stepC 0 (x, false) 2048, by omega, by go_num, congrArg (Value.int .i64) (step_f (M := 0) (by omega) hx), stepC_lt hx (by decide), (fun h => by omega), (fun _ => ⟨_, HR.out, rfl⟩), (fun h => by omega), (fun h => by omega), below_trans_over HB.out HB.out.size δ⟩
              case measure => simp [intOf]
        · obtain ⟨t1, h1, h2⟩ := q1 rfl
          clear q0 q1 q2 q3 hii
          have H1 := Lib.hid h1
          clear h1
          subst h2
          have HMM := Lib.hid hM
          obtain ⟨M, hMe⟩ : ∃ M, M = stepC 0 t1 2048 := ⟨_, rfl⟩
          rw [← hMe] at hM ⊢
          have HME := Lib.hid hMe
          clear hMe HMM
          go_wp2_with fail
          have X := X2.out
          cases hr : r2 with
          | none =>
            have hT : ∀ W, Calls Tryz.prog 151 #[.string ⟨#[d, e, f]⟩, .int .u8 115] W fun e w' => e = .returned (.tuple #[.int .i64 0, .bool false, .bool false]) ∧ W = w' := fun W => (triple d e f 115 (.inl rfl) W).mono fun e w' h => ⟨by rw [h.1, R2.out, hr]; rfl, h.2.symm⟩
            refine wp_region_over (by kernel_rfl) (by kernel_rfl) ?_
            repeat (go_big_quiet_step (first | (go_at_call 151; exact calls_over_same (hT _))))
            refine wpQuiet_nil ?_
            rintro _ ⟨δ, rfl⟩
            go_wp2_with fail
            go_ret3
            rw [HPE.out, hr, H1.out]
            exact ⟨by first | rfl | simp [permEnd], below_trans_over HB.out HB.out.size δ⟩
          | some t =>
            obtain ⟨x, sp⟩ := t
            have hx : x < 8 := (trip_sound (R2.out.trans hr)).1
            have hT : ∀ W, Calls Tryz.prog 151 #[.string ⟨#[d, e, f]⟩, .int .u8 115] W fun e w' => e = .returned (.tuple #[.int .i64 x, .bool sp, .bool true]) ∧ W = w' := fun W => (triple d e f 115 (.inl rfl) W).mono fun e w' h => ⟨by rw [h.1, R2.out, hr]; rfl, h.2.symm⟩
            refine wp_region_over (by kernel_rfl) (by kernel_rfl) ?_
            repeat (go_big_quiet_step (first | (go_at_call 151; exact calls_over_same (hT _))))
            refine wpQuiet_nil ?_
            rintro _ ⟨δ, rfl⟩
            have HR := Lib.hid hr
            clear hr
            cases sp with
            | true =>
              go_wp2_with fail
              go_roundw
              case rel => exact ⟨2, stepC M (x, true) 1024, by omega, by go_num, congrArg (Value.int .i64) (step_t (M := M) hM hx (by decide)), stepC_lt hx (by decide), (fun h => by omega), (fun h => by omega), (fun _ => ⟨_, _, H1.out, HR.out, by rw [HME.out]⟩), (fun h => by omega), below_trans_over HB.out HB.out.size δ⟩
              case measure => simp [intOf]
            | false =>
              go_wp2_with fail
              go_roundw
              case rel => exact ⟨2, stepC M (x, false) 1024, by omega, by go_num, congrArg (Value.int .i64) (step_f (M := M) hM hx), stepC_lt hx (by decide), (fun h => by omega), (fun h => by omega), (fun _ => ⟨_, _, H1.out, HR.out, by rw [HME.out]⟩), (fun h => by omega), below_trans_over HB.out HB.out.size δ⟩
              case measure => simp [intOf]
        · obtain ⟨t1, t2, h1, h2, h3⟩ := q2 rfl
          clear q0 q1 q2 q3 hii
          have H1 := Lib.hid h1
          have H2 := Lib.hid h2
          clear h1 h2
          subst h3
          obtain ⟨M, hMe⟩ : ∃ M, M = stepC (stepC 0 t1 2048) t2 1024 := ⟨_, rfl⟩
          rw [← hMe] at hM ⊢
          have HME := Lib.hid hMe
          clear hMe
          go_wp2_with fail
          have X := X3.out
          cases hr : r3 with
          | none =>
            have hT : ∀ W, Calls Tryz.prog 151 #[.string ⟨#[g, i, j]⟩, .int .u8 116] W fun e w' => e = .returned (.tuple #[.int .i64 0, .bool false, .bool false]) ∧ W = w' := fun W => (triple g i j 116 (.inr rfl) W).mono fun e w' h => ⟨by rw [h.1, R3.out, hr]; rfl, h.2.symm⟩
            refine wp_region_over (by kernel_rfl) (by kernel_rfl) ?_
            repeat (go_big_quiet_step (first | (go_at_call 151; exact calls_over_same (hT _))))
            refine wpQuiet_nil ?_
            rintro _ ⟨δ, rfl⟩
            go_wp2_with fail
            go_ret3
            rw [HPE.out, hr, H1.out, H2.out]
            exact ⟨by first | rfl | simp [permEnd], below_trans_over HB.out HB.out.size δ⟩
          | some t =>
            obtain ⟨x, sp⟩ := t
            have hx : x < 8 := (trip_sound (R3.out.trans hr)).1
            have hT : ∀ W, Calls Tryz.prog 151 #[.string ⟨#[g, i, j]⟩, .int .u8 116] W fun e w' => e = .returned (.tuple #[.int .i64 x, .bool sp, .bool true]) ∧ W = w' := fun W => (triple g i j 116 (.inr rfl) W).mono fun e w' h => ⟨by rw [h.1, R3.out, hr]; rfl, h.2.symm⟩
            refine wp_region_over (by kernel_rfl) (by kernel_rfl) ?_
            repeat (go_big_quiet_step (first | (go_at_call 151; exact calls_over_same (hT _))))
            refine wpQuiet_nil ?_
            rintro _ ⟨δ, rfl⟩
            have HR := Lib.hid hr
            clear hr
            cases sp with
            | true =>
              go_wp2_with fail
              go_roundw
              case rel => exact ⟨3, stepC M (x, true) 512, by omega, by go_num, congrArg (Value.int .i64) (step_t (M := M) hM hx (by decide)), stepC_lt hx (by decide), (fun h => by omega), (fun h => by omega), (fun h => by omega), (fun _ => ⟨_, _, _, H1.out, H2.out, HR.out, by rw [HME.out]; rfl⟩), below_trans_over HB.out HB.out.size δ⟩
              case measure => simp [intOf]
            | false =>
              go_wp2_with fail
              go_roundw
              case rel => exact ⟨3, stepC M (x, false) 512, by omega, by go_num, congrArg (Value.int .i64) (step_f (M := M) hM hx), stepC_lt hx (by decide), (fun h => by omega), (fun h => by omega), (fun h => by omega), (fun _ => ⟨_, _, _, H1.out, H2.out, HR.out, by rw [HME.out]; rfl⟩), below_trans_over HB.out HB.out.size δ⟩
              case measure => simp [intOf]
        · obtain ⟨t1, t2, t3, h1, h2, h3, h4⟩ := q3 rfl
          clear q0 q1 q2 q3 hii
          have H4 := Lib.hid h4; have H1 := Lib.hid h1; have H2 := Lib.hid h2; have H3 := Lib.hid h3
          clear h1 h2 h3 h4
          go_wp2_with fail
          refine (indexByte_calls _ _ _).mono ?_
          rintro e w1 ⟨rfl, hw1⟩
          rw [hw1, EK.out]
          clear hw1
          have n4 : (n : Int) - 1 + 1 = n := by omega
          go_wp2_with fail
          go_ret3
          rw [HPE.out, H1.out, H2.out, H3.out, H4.out]
          exact ⟨by first | rfl | simp [permEnd, n4], HB.out⟩
  · have hne : ((s.size : Int) == 10) = false := by rw [beq_eq_false_iff_ne]; omega
    have hne2 : ((s.size : Int) != 10) = true := by simp only [bne, hne, Bool.not_false]
    rw [permP_ten hz]
    clear hz
    go_enter Tryz.func99, Tryz.ntmps99
    go_wp2_with fail
    go_ret3
    exact ⟨by first | rfl | simp [permEnd], Below.refl _ _⟩
end Go.Proofs.YtfhfcipelgogjaaGreatDoor
