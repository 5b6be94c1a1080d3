/- The reference's Parse of ten letters: bit by bit, then the text again. No condition but room. The reference's Parse of a time: what it answers. No condition but room. -/
import Derived.Test.YtkpblhikndennaaGreatDoorPermPAll
import Derived.Test.YtkpblhikndennaaGreatDoorPermR
import Derived.Test.YtkpblhikndennaaGreatDoorStParse2
namespace Go.Proofs.YtkpblhikndennaaGreatDoor
open Go.RowKit
set_option linter.unusedVariables false
set_option linter.unusedSimpArgs false
theorem refPerm0 (mode : Int) (w : World) :
    Calls Tryz.prog 73 #[.int .i64 0, .int .i64 mode] w fun e w' => e = .returned (.tuple #[.string ⟨#[]⟩, .int .i64 120]) ∧ Below w.heap.size w w' := by
  go_enter Tryz.func73, Tryz.ntmps73
  go_wp2_with fail
  go_ret2
  exact ⟨by first | rfl | simp, Below.refl _ _⟩
def kindTo (k : UInt8) (i : Nat) : Nat := if (kindIx k).getD 0 < i then (kindIx k).getD 0 else 0
theorem refStep_rw {M p : Nat} {c : UInt8} (h1 : c ≠ 45) (h2 : p % 3 < 2) : refStep M p c = M ||| 256 >>> p := by unfold refStep; rw [if_neg h1, if_pos h2]
theorem refStep_other {M p : Nat} {c : UInt8} (h1 : c ≠ 45) (h2 : ¬ p % 3 < 2) (h3 : c ≠ 120) (h4 : c ≠ 115) (h5 : c ≠ 116) : refStep M p c = M ||| 2048 >>> (p / 3) := by
  unfold refStep
  rw [if_neg h1, if_neg h2]
  show (if c ≠ 120 then (if c = 120 ∨ c = 115 ∨ c = 116 then M ||| 256 >>> p else M) ||| 2048 >>> (p / 3) else (if c = 120 ∨ c = 115 ∨ c = 116 then M ||| 256 >>> p else M)) = _
  rw [if_pos h3, if_neg (fun h => h.elim h3 (fun h => h.elim h4 h5))]
theorem bne_of {a b : Int} (h : (a == b) = false) : (a != b) = true := by simp only [bne, h, Bool.not_false]
theorem or_bit {M b : Nat} (hM : M < 4096) (hb : b < 4096) : bits .or .i64 (M : Int) (b : Int) = ((M ||| b : Nat) : Int) := (bits_nat .i64 63 (by decide) wraps_i64 M b (by omega) (by omega)).2
set_option maxHeartbeats 4000000 in
set_option maxRecDepth 100000 in
theorem refPermsParse (s : ByteArray) (w : World) (hs : s.size ≤ 140737488355328) :
    Calls Tryz.prog 55 #[.string s] w fun e w' => e = permEnd (refP s.data.toList) ∧ Below w.heap.size w w' := by
  by_cases hz : s.size = 10
  · obtain ⟨k, a, b, c, d, e, f, g, i', j, rfl⟩ := ten_of hz
    clear hs hz
    have e0 : (⟨#[k, a, b, c, d, e, f, g, i', j]⟩ : ByteArray)[0]'(by show 0 < 10; decide) = k := rfl
    obtain ⟨PE, hPE⟩ : ∃ PE, PE = permEnd (refP (⟨#[k, a, b, c, d, e, f, g, i', j]⟩ : ByteArray).data.toList) := ⟨_, rfl⟩
    have HPE := Lib.hid hPE
    rw [← hPE]
    clear hPE
    go_enter Tryz.func55, Tryz.ntmps55
    go_wp2_with fail
    go_loopw [5, 6] (fun kd i wr => ∃ ii : Nat, 1 ≤ ii ∧ ii ≤ 6 ∧ i = .int .i64 ii ∧ kd = .int .i64 (kindTo k ii) ∧ Below w.heap.size w wr) (fun _ i _ => 6 - (intOf i).toNat)
    case atStart =>
      refine ⟨1, by omega, by omega, rfl, ?_, Below.refl _ _⟩
      have : kindTo k 1 = 0 := by unfold kindTo; split <;> omega
      rw [this]
      rfl
    case round =>
      obtain ⟨ii, h1, h6, rfl, rfl, hbel⟩ := hrel
      have HB := Lib.hid hbel
      clear hbel
      have : ii = 1 ∨ ii = 2 ∨ ii = 3 ∨ ii = 4 ∨ ii = 5 ∨ ii = 6 := by omega
      rcases this with rfl | rfl | rfl | rfl | rfl | rfl
      · clear h1 h6
        generalize hkd : kindTo k 1 = kd
        have lt : ((⟨#[45, 100, 108, 104, 63]⟩ : ByteArray)[0]'(by show 0 < 5; decide)).toNat = 45 := rfl
        by_cases hk : k = 45
        · have hy : ((k.toNat : Int) == 45) = true := by rw [hk]; rfl
          have HK := Lib.hid hk
          clear hk hkd
          go_wp2_with fail
          refine wp_region_over (by kernel_rfl) (by kernel_rfl) ?_
          repeat (go_big_quiet_step (fail))
          refine wpQuiet_nil ?_
          rintro _ ⟨δ, rfl⟩
          go_wp2_with fail
          go_roundw
          case rel => exact ⟨2, by omega, by omega, by go_num, by rw [HK.out]; rfl, below_trans_over HB.out HB.out.size δ⟩
          case measure => simp [intOf]
        · have hy : ((k.toNat : Int) == 45) = false := ne_z (n := 45) hk
          have hkd2 : kindTo k 2 = kd := by
            rw [← hkd]
            unfold kindTo kindIx
            by_cases q1 : k = 45
            · subst q1; first | rfl | exact absurd rfl hk
            by_cases q2 : k = 100
            · subst q2; first | rfl | exact absurd rfl hk
            by_cases q3 : k = 108
            · subst q3; first | rfl | exact absurd rfl hk
            by_cases q4 : k = 104
            · subst q4; first | rfl | exact absurd rfl hk
            by_cases q5 : k = 63
            · subst q5; first | rfl | exact absurd rfl hk
            rw [if_neg q1, if_neg q2, if_neg q3, if_neg q4, if_neg q5]
            rfl
          have HK := Lib.hid hkd2
          clear hk hkd hkd2
          go_wp2_with fail
          refine wp_region_over (by kernel_rfl) (by kernel_rfl) ?_
          repeat (go_big_quiet_step (fail))
          refine wpQuiet_nil ?_
          rintro _ ⟨δ, rfl⟩
          go_wp2_with fail
          go_roundw
          case rel => exact ⟨2, by omega, by omega, by go_num, by rw [HK.out], below_trans_over HB.out HB.out.size δ⟩
          case measure => simp [intOf]
      · clear h1 h6
        generalize hkd : kindTo k 2 = kd
        have lt : ((⟨#[45, 100, 108, 104, 63]⟩ : ByteArray)[1]'(by show 1 < 5; decide)).toNat = 100 := rfl
        by_cases hk : k = 100
        · have hy : ((k.toNat : Int) == 100) = true := by rw [hk]; rfl
          have HK := Lib.hid hk
          clear hk hkd
          go_wp2_with fail
          refine wp_region_over (by kernel_rfl) (by kernel_rfl) ?_
          repeat (go_big_quiet_step (fail))
          refine wpQuiet_nil ?_
          rintro _ ⟨δ, rfl⟩
          go_wp2_with fail
          go_roundw
          case rel => exact ⟨3, by omega, by omega, by go_num, by rw [HK.out]; rfl, below_trans_over HB.out HB.out.size δ⟩
          case measure => simp [intOf]
        · have hy : ((k.toNat : Int) == 100) = false := ne_z (n := 100) hk
          have hkd2 : kindTo k 3 = kd := by
            rw [← hkd]
            unfold kindTo kindIx
            by_cases q1 : k = 45
            · subst q1; first | rfl | exact absurd rfl hk
            by_cases q2 : k = 100
            · subst q2; first | rfl | exact absurd rfl hk
            by_cases q3 : k = 108
            · subst q3; first | rfl | exact absurd rfl hk
            by_cases q4 : k = 104
            · subst q4; first | rfl | exact absurd rfl hk
            by_cases q5 : k = 63
            · subst q5; first | rfl | exact absurd rfl hk
            rw [if_neg q1, if_neg q2, if_neg q3, if_neg q4, if_neg q5]
            rfl
          have HK := Lib.hid hkd2
          clear hk hkd hkd2
          go_wp2_with fail
          refine wp_region_over (by kernel_rfl) (by kernel_rfl) ?_
          repeat (go_big_quiet_step (fail))
          refine wpQuiet_nil ?_
          rintro _ ⟨δ, rfl⟩
          go_wp2_with fail
          go_roundw
          case rel => exact ⟨3, by omega, by omega, by go_num, by rw [HK.out], below_trans_over HB.out HB.out.size δ⟩
          case measure => simp [intOf]
      · clear h1 h6
        generalize hkd : kindTo k 3 = kd
        have lt : ((⟨#[45, 100, 108, 104, 63]⟩ : ByteArray)[2]'(by show 2 < 5; decide)).toNat = 108 := rfl
        by_cases hk : k = 108
        · have hy : ((k.toNat : Int) == 108) = true := by rw [hk]; rfl
          have HK := Lib.hid hk
          clear hk hkd
          go_wp2_with fail
          refine wp_region_over (by kernel_rfl) (by kernel_rfl) ?_
          repeat (go_big_quiet_step (fail))
          refine wpQuiet_nil ?_
          rintro _ ⟨δ, rfl⟩
          go_wp2_with fail
          go_roundw
          case rel => exact ⟨4, by omega, by omega, by go_num, by rw [HK.out]; rfl, below_trans_over HB.out HB.out.size δ⟩
          case measure => simp [intOf]
        · have hy : ((k.toNat : Int) == 108) = false := ne_z (n := 108) hk
          have hkd2 : kindTo k 4 = kd := by
            rw [← hkd]
            unfold kindTo kindIx
            by_cases q1 : k = 45
            · subst q1; first | rfl | exact absurd rfl hk
            by_cases q2 : k = 100
            · subst q2; first | rfl | exact absurd rfl hk
            by_cases q3 : k = 108
            · subst q3; first | rfl | exact absurd rfl hk
            by_cases q4 : k = 104
            · subst q4; first | rfl | exact absurd rfl hk
            by_cases q5 : k = 63
            · subst q5; first | rfl | exact absurd rfl hk
            rw [if_neg q1, if_neg q2, if_neg q3, if_neg q4, if_neg q5]
            rfl
          have HK := Lib.hid hkd2
          clear hk hkd hkd2
          go_wp2_with fail
          refine wp_region_over (by kernel_rfl) (by kernel_rfl) ?_
          repeat (go_big_quiet_step (fail))
          refine wpQuiet_nil ?_
          rintro _ ⟨δ, rfl⟩
          go_wp2_with fail
          go_roundw
          case rel => exact ⟨4, by omega, by omega, by go_num, by rw [HK.out], below_trans_over HB.out HB.out.size δ⟩
          case measure => simp [intOf]
      · clear h1 h6
        generalize hkd : kindTo k 4 = kd
        have lt : ((⟨#[45, 100, 108, 104, 63]⟩ : ByteArray)[3]'(by show 3 < 5; decide)).toNat = 104 := rfl
        by_cases hk : k = 104
        · have hy : ((k.toNat : Int) == 104) = true := by rw [hk]; rfl
          have HK := Lib.hid hk
          clear hk hkd
          go_wp2_with fail
          refine wp_region_over (by kernel_rfl) (by kernel_rfl) ?_
          repeat (go_big_quiet_step (fail))
          refine wpQuiet_nil ?_
          rintro _ ⟨δ, rfl⟩
          go_wp2_with fail
          go_roundw
          case rel => exact ⟨5, by omega, by omega, by go_num, by rw [HK.out]; rfl, below_trans_over HB.out HB.out.size δ⟩
          case measure => simp [intOf]
        · have hy : ((k.toNat : Int) == 104) = false := ne_z (n := 104) hk
          have hkd2 : kindTo k 5 = kd := by
            rw [← hkd]
            unfold kindTo kindIx
            by_cases q1 : k = 45
            · subst q1; first | rfl | exact absurd rfl hk
            by_cases q2 : k = 100
            · subst q2; first | rfl | exact absurd rfl hk
            by_cases q3 : k = 108
            · subst q3; first | rfl | exact absurd rfl hk
            by_cases q4 : k = 104
            · subst q4; first | rfl | exact absurd rfl hk
            by_cases q5 : k = 63
            · subst q5; first | rfl | exact absurd rfl hk
            rw [if_neg q1, if_neg q2, if_neg q3, if_neg q4, if_neg q5]
            rfl
          have HK := Lib.hid hkd2
          clear hk hkd hkd2
          go_wp2_with fail
          refine wp_region_over (by kernel_rfl) (by kernel_rfl) ?_
          repeat (go_big_quiet_step (fail))
          refine wpQuiet_nil ?_
          rintro _ ⟨δ, rfl⟩
          go_wp2_with fail
          go_roundw
          case rel => exact ⟨5, by omega, by omega, by go_num, by rw [HK.out], below_trans_over HB.out HB.out.size δ⟩
          case measure => simp [intOf]
      · clear h1 h6
        generalize hkd : kindTo k 5 = kd
        have lt : ((⟨#[45, 100, 108, 104, 63]⟩ : ByteArray)[4]'(by show 4 < 5; decide)).toNat = 63 := rfl
        by_cases hk : k = 63
        · have hy : ((k.toNat : Int) == 63) = true := by rw [hk]; rfl
          have HK := Lib.hid hk
          clear hk hkd
          go_wp2_with fail
          refine wp_region_over (by kernel_rfl) (by kernel_rfl) ?_
          repeat (go_big_quiet_step (fail))
          refine wpQuiet_nil ?_
          rintro _ ⟨δ, rfl⟩
          go_wp2_with fail
          go_roundw
          case rel => exact ⟨6, by omega, by omega, by go_num, by rw [HK.out]; rfl, below_trans_over HB.out HB.out.size δ⟩
          case measure => simp [intOf]
        · have hy : ((k.toNat : Int) == 63) = false := ne_z (n := 63) hk
          have hkd2 : kindTo k 6 = kd := by
            rw [← hkd]
            unfold kindTo kindIx
            by_cases q1 : k = 45
            · subst q1; first | rfl | exact absurd rfl hk
            by_cases q2 : k = 100
            · subst q2; first | rfl | exact absurd rfl hk
            by_cases q3 : k = 108
            · subst q3; first | rfl | exact absurd rfl hk
            by_cases q4 : k = 104
            · subst q4; first | rfl | exact absurd rfl hk
            by_cases q5 : k = 63
            · subst q5; first | rfl | exact absurd rfl hk
            rw [if_neg q1, if_neg q2, if_neg q3, if_neg q4, if_neg q5]
            rfl
          have HK := Lib.hid hkd2
          clear hk hkd hkd2
          go_wp2_with fail
          refine wp_region_over (by kernel_rfl) (by kernel_rfl) ?_
          repeat (go_big_quiet_step (fail))
          refine wpQuiet_nil ?_
          rintro _ ⟨δ, rfl⟩
          go_wp2_with fail
          go_roundw
          case rel => exact ⟨6, by omega, by omega, by go_num, by rw [HK.out], below_trans_over HB.out HB.out.size δ⟩
          case measure => simp [intOf]
      · clear h1 h6
        have hkd : kindTo k 6 = (kindIx k).getD 0 := by
          unfold kindTo
          cases hk : kindIx k with
          | none => rfl
          | some n => have := kindIx_sound hk; rw [if_pos (by simp; omega)]
        rw [hkd]
        clear hkd
        generalize hkn : (kindIx k).getD 0 = kn
        have HKN := Lib.hid hkn
        clear hkn
        have KN := Lib.hid (show (kindIx k = none ∧ kn = 0) ∨ ∃ n, kindIx k = some n ∧ kn = n by
          rw [← HKN.out]
          cases hk : kindIx k with
          | none => exact .inl ⟨rfl, rfl⟩
          | some n => exact .inr ⟨n, rfl, rfl⟩)
        go_wp2_with fail
        go_loopw [7, 8] (fun m i wr => ∃ ii M : Nat, 1 ≤ ii ∧ ii ≤ 10 ∧ i = .int .i64 ii ∧ m = .int .i64 M ∧ M < 4096 ∧ M = refMode 0 ([a, b, c, d, e, f, g, i', j].take (ii - 1)) 0 ∧ Below w.heap.size w wr) (fun _ i _ => 10 - (intOf i).toNat)
        case atStart => exact ⟨1, 0, by omega, by omega, rfl, rfl, by omega, rfl, HB.out⟩
        case round =>
          clear HB
          obtain ⟨ii, M, h1, h10, rfl, rfl, hM, hRM, hbel⟩ := hrel
          have HB := Lib.hid hbel
          have HRM := Lib.hid hRM
          clear hbel hRM
          have : ii = 1 ∨ ii = 2 ∨ ii = 3 ∨ ii = 4 ∨ ii = 5 ∨ ii = 6 ∨ ii = 7 ∨ ii = 8 ∨ ii = 9 ∨ ii = 10 := by omega
          rcases this with rfl | rfl | rfl | rfl | rfl | rfl | rfl | rfl | rfl | rfl
          · clear h1 h10
            have ei : (⟨#[k, a, b, c, d, e, f, g, i', j]⟩ : ByteArray)[1]'(by show 1 < 10; decide) = a := rfl
            by_cases c1 : a = 45
            · have C := Lib.hid c1
              have q1 : ((a.toNat : Int) != 45) = false := by rw [c1]; rfl
              clear c1
              go_wp2_with fail
              go_roundw
              case rel => exact ⟨2, M, by omega, by omega, by go_num, rfl, hM, (by rw [HRM.out, C.out]; rfl), HB.out⟩
              case measure => simp [intOf]
            · have q1 : ((a.toNat : Int) != 45) = true := bne_of (ne_z (n := 45) c1)
              have C := Lib.hid c1
              clear c1
              go_wp2_with fail
              go_roundw
              case rel => exact ⟨2, M ||| 256, by omega, by omega, by go_num, congrArg (Value.int .i64) (or_bit hM (by decide)), or12 hM (by decide), (by rw [HRM.out]; exact (refStep_rw (p := 0) C.out (by decide)).symm), HB.out⟩
              case measure => simp [intOf]
          · clear h1 h10
            have ei : (⟨#[k, a, b, c, d, e, f, g, i', j]⟩ : ByteArray)[2]'(by show 2 < 10; decide) = b := rfl
            by_cases c1 : b = 45
            · have C := Lib.hid c1
              have q1 : ((b.toNat : Int) != 45) = false := by rw [c1]; rfl
              clear c1
              go_wp2_with fail
              go_roundw
              case rel => exact ⟨3, M, by omega, by omega, by go_num, rfl, hM, (by rw [HRM.out, C.out]; rfl), HB.out⟩
              case measure => simp [intOf]
            · have q1 : ((b.toNat : Int) != 45) = true := bne_of (ne_z (n := 45) c1)
              have C := Lib.hid c1
              clear c1
              go_wp2_with fail
              go_roundw
              case rel => exact ⟨3, M ||| 128, by omega, by omega, by go_num, congrArg (Value.int .i64) (or_bit hM (by decide)), or12 hM (by decide), (by rw [HRM.out]; exact (refStep_rw (p := 1) C.out (by decide)).symm), HB.out⟩
              case measure => simp [intOf]
          · clear h1 h10
            have ei : (⟨#[k, a, b, c, d, e, f, g, i', j]⟩ : ByteArray)[3]'(by show 3 < 10; decide) = c := rfl
            by_cases c1 : c = 45
            · have C := Lib.hid c1
              have q1 : ((c.toNat : Int) != 45) = false := by rw [c1]; rfl
              clear c1
              go_wp2_with fail
              go_roundw
              case rel => exact ⟨4, M, by omega, by omega, by go_num, rfl, hM, (by rw [HRM.out, C.out]; rfl), HB.out⟩
              case measure => simp [intOf]
            · by_cases c120 : c = 120
              · have C := Lib.hid c120
                have q0 : ((c.toNat : Int) != 45) = true := by rw [c120]; rfl
                have q120 : ((c.toNat : Int) == 120) = true := by rw [c120]; rfl
                have q115 : ((c.toNat : Int) == 115) = false := by rw [c120]; rfl
                have q116 : ((c.toNat : Int) == 116) = false := by rw [c120]; rfl
                have qn : ((c.toNat : Int) != 120) = false := by rw [c120]; rfl
                clear c1 c120
                go_wp2_with fail
                go_roundw
                case rel => exact ⟨4, M ||| 64, by omega, by omega, by go_num, congrArg (Value.int .i64) (or_bit hM (by decide)), or12 hM (by decide), (by rw [HRM.out, C.out]; rfl), HB.out⟩
                case measure => simp [intOf]
              · by_cases c115 : c = 115
                · have C := Lib.hid c115
                  have q0 : ((c.toNat : Int) != 45) = true := by rw [c115]; rfl
                  have q120 : ((c.toNat : Int) == 120) = false := by rw [c115]; rfl
                  have q115 : ((c.toNat : Int) == 115) = true := by rw [c115]; rfl
                  have q116 : ((c.toNat : Int) == 116) = false := by rw [c115]; rfl
                  have qn : ((c.toNat : Int) != 120) = true := by rw [c115]; rfl
                  clear c1 c120 c115
                  go_wp2_with fail
                  go_roundw
                  case rel => exact ⟨4, M ||| 64 ||| 2048, by omega, by omega, by go_num, congrArg (Value.int .i64) (by rw [show (bits .or .i64 (M : Int) 64) = ((M ||| 64 : Nat) : Int) from or_bit hM (by decide)]; exact or_bit (or12 hM (by decide)) (by decide)), or12 (or12 hM (by decide)) (by decide), (by rw [HRM.out, C.out]; rfl), HB.out⟩
                  case measure => simp [intOf]
                · by_cases c116 : c = 116
                  · have C := Lib.hid c116
                    have q0 : ((c.toNat : Int) != 45) = true := by rw [c116]; rfl
                    have q120 : ((c.toNat : Int) == 120) = false := by rw [c116]; rfl
                    have q115 : ((c.toNat : Int) == 115) = false := by rw [c116]; rfl
                    have q116 : ((c.toNat : Int) == 116) = true := by rw [c116]; rfl
                    have qn : ((c.toNat : Int) != 120) = true := by rw [c116]; rfl
                    clear c1 c120 c115 c116
                    go_wp2_with fail
                    go_roundw
                    case rel => exact ⟨4, M ||| 64 ||| 2048, by omega, by omega, by go_num, congrArg (Value.int .i64) (by rw [show (bits .or .i64 (M : Int) 64) = ((M ||| 64 : Nat) : Int) from or_bit hM (by decide)]; exact or_bit (or12 hM (by decide)) (by decide)), or12 (or12 hM (by decide)) (by decide), (by rw [HRM.out, C.out]; rfl), HB.out⟩
                    case measure => simp [intOf]
                  · have C1 := Lib.hid c1; have C2 := Lib.hid c120; have C3 := Lib.hid c115; have C4 := Lib.hid c116
                    have q0 : ((c.toNat : Int) != 45) = true := bne_of (ne_z (n := 45) c1)
                    have q120 : ((c.toNat : Int) == 120) = false := ne_z (n := 120) c120
                    have q115 : ((c.toNat : Int) == 115) = false := ne_z (n := 115) c115
                    have q116 : ((c.toNat : Int) == 116) = false := ne_z (n := 116) c116
                    have qn : ((c.toNat : Int) != 120) = true := by simp only [bne, q120, Bool.not_false]
                    clear c1 c120 c115 c116
                    go_wp2_with fail
                    go_roundw
                    case rel => exact ⟨4, M ||| 2048, by omega, by omega, by go_num, congrArg (Value.int .i64) (or_bit hM (by decide)), or12 hM (by decide), (by rw [HRM.out]; exact (refStep_other (p := 2) C1.out (by decide) C2.out C3.out C4.out).symm), HB.out⟩
                    case measure => simp [intOf]
          · clear h1 h10
            have ei : (⟨#[k, a, b, c, d, e, f, g, i', j]⟩ : ByteArray)[4]'(by show 4 < 10; decide) = d := rfl
            by_cases c1 : d = 45
            · have C := Lib.hid c1
              have q1 : ((d.toNat : Int) != 45) = false := by rw [c1]; rfl
              clear c1
              go_wp2_with fail
              go_roundw
              case rel => exact ⟨5, M, by omega, by omega, by go_num, rfl, hM, (by rw [HRM.out, C.out]; rfl), HB.out⟩
              case measure => simp [intOf]
            · have q1 : ((d.toNat : Int) != 45) = true := bne_of (ne_z (n := 45) c1)
              have C := Lib.hid c1
              clear c1
              go_wp2_with fail
              go_roundw
              case rel => exact ⟨5, M ||| 32, by omega, by omega, by go_num, congrArg (Value.int .i64) (or_bit hM (by decide)), or12 hM (by decide), (by rw [HRM.out]; exact (refStep_rw (p := 3) C.out (by decide)).symm), HB.out⟩
              case measure => simp [intOf]
          · clear h1 h10
            have ei : (⟨#[k, a, b, c, d, e, f, g, i', j]⟩ : ByteArray)[5]'(by show 5 < 10; decide) = e := rfl
            by_cases c1 : e = 45
            · have C := Lib.hid c1
              have q1 : ((e.toNat : Int) != 45) = false := by rw [c1]; rfl
              clear c1
              go_wp2_with fail
              go_roundw
              case rel => exact ⟨6, M, by omega, by omega, by go_num, rfl, hM, (by rw [HRM.out, C.out]; rfl), HB.out⟩
              case measure => simp [intOf]
            · have q1 : ((e.toNat : Int) != 45) = true := bne_of (ne_z (n := 45) c1)
              have C := Lib.hid c1
              clear c1
              go_wp2_with fail
              go_roundw
              case rel => exact ⟨6, M ||| 16, by omega, by omega, by go_num, congrArg (Value.int .i64) (or_bit hM (by decide)), or12 hM (by decide), (by rw [HRM.out]; exact (refStep_rw (p := 4) C.out (by decide)).symm), HB.out⟩
              case measure => simp [intOf]
          · clear h1 h10
            have ei : (⟨#[k, a, b, c, d, e, f, g, i', j]⟩ : ByteArray)[6]'(by show 6 < 10; decide) = f := rfl
            by_cases c1 : f = 45
            · have C := Lib.hid c1
              have q1 : ((f.toNat : Int) != 45) = false := by rw [c1]; rfl
              clear c1
              go_wp2_with fail
              go_roundw
              case rel => exact ⟨7, M, by omega, by omega, by go_num, rfl, hM, (by rw [HRM.out, C.out]; rfl), HB.out⟩
              case measure => simp [intOf]
            · by_cases c120 : f = 120
              · have C := Lib.hid c120
                have q0 : ((f.toNat : Int) != 45) = true := by rw [c120]; rfl
                have q120 : ((f.toNat : Int) == 120) = true := by rw [c120]; rfl
                have q115 : ((f.toNat : Int) == 115) = false := by rw [c120]; rfl
                have q116 : ((f.toNat : Int) == 116) = false := by rw [c120]; rfl
                have qn : ((f.toNat : Int) != 120) = false := by rw [c120]; rfl
                clear c1 c120
                go_wp2_with fail
                go_roundw
                case rel => exact ⟨7, M ||| 8, by omega, by omega, by go_num, congrArg (Value.int .i64) (or_bit hM (by decide)), or12 hM (by decide), (by rw [HRM.out, C.out]; rfl), HB.out⟩
                case measure => simp [intOf]
              · by_cases c115 : f = 115
                · have C := Lib.hid c115
                  have q0 : ((f.toNat : Int) != 45) = true := by rw [c115]; rfl
                  have q120 : ((f.toNat : Int) == 120) = false := by rw [c115]; rfl
                  have q115 : ((f.toNat : Int) == 115) = true := by rw [c115]; rfl
                  have q116 : ((f.toNat : Int) == 116) = false := by rw [c115]; rfl
                  have qn : ((f.toNat : Int) != 120) = true := by rw [c115]; rfl
                  clear c1 c120 c115
                  go_wp2_with fail
                  go_roundw
                  case rel => exact ⟨7, M ||| 8 ||| 1024, by omega, by omega, by go_num, congrArg (Value.int .i64) (by rw [show (bits .or .i64 (M : Int) 8) = ((M ||| 8 : Nat) : Int) from or_bit hM (by decide)]; exact or_bit (or12 hM (by decide)) (by decide)), or12 (or12 hM (by decide)) (by decide), (by rw [HRM.out, C.out]; rfl), HB.out⟩
                  case measure => simp [intOf]
                · by_cases c116 : f = 116
                  · have C := Lib.hid c116
                    have q0 : ((f.toNat : Int) != 45) = true := by rw [c116]; rfl
                    have q120 : ((f.toNat : Int) == 120) = false := by rw [c116]; rfl
                    have q115 : ((f.toNat : Int) == 115) = false := by rw [c116]; rfl
                    have q116 : ((f.toNat : Int) == 116) = true := by rw [c116]; rfl
                    have qn : ((f.toNat : Int) != 120) = true := by rw [c116]; rfl
                    clear c1 c120 c115 c116
                    go_wp2_with fail
                    go_roundw
                    case rel => exact ⟨7, M ||| 8 ||| 1024, by omega, by omega, by go_num, congrArg (Value.int .i64) (by rw [show (bits .or .i64 (M : Int) 8) = ((M ||| 8 : Nat) : Int) from or_bit hM (by decide)]; exact or_bit (or12 hM (by decide)) (by decide)), or12 (or12 hM (by decide)) (by decide), (by rw [HRM.out, C.out]; rfl), HB.out⟩
                    case measure => simp [intOf]
                  · have C1 := Lib.hid c1; have C2 := Lib.hid c120; have C3 := Lib.hid c115; have C4 := Lib.hid c116
                    have q0 : ((f.toNat : Int) != 45) = true := bne_of (ne_z (n := 45) c1)
                    have q120 : ((f.toNat : Int) == 120) = false := ne_z (n := 120) c120
                    have q115 : ((f.toNat : Int) == 115) = false := ne_z (n := 115) c115
                    have q116 : ((f.toNat : Int) == 116) = false := ne_z (n := 116) c116
                    have qn : ((f.toNat : Int) != 120) = true := by simp only [bne, q120, Bool.not_false]
                    clear c1 c120 c115 c116
                    go_wp2_with fail
                    go_roundw
                    case rel => exact ⟨7, M ||| 1024, by omega, by omega, by go_num, congrArg (Value.int .i64) (or_bit hM (by decide)), or12 hM (by decide), (by rw [HRM.out]; exact (refStep_other (p := 5) C1.out (by decide) C2.out C3.out C4.out).symm), HB.out⟩
                    case measure => simp [intOf]
          · clear h1 h10
            have ei : (⟨#[k, a, b, c, d, e, f, g, i', j]⟩ : ByteArray)[7]'(by show 7 < 10; decide) = g := rfl
            by_cases c1 : g = 45
            · have C := Lib.hid c1
              have q1 : ((g.toNat : Int) != 45) = false := by rw [c1]; rfl
              clear c1
              go_wp2_with fail
              go_roundw
              case rel => exact ⟨8, M, by omega, by omega, by go_num, rfl, hM, (by rw [HRM.out, C.out]; rfl), HB.out⟩
              case measure => simp [intOf]
            · have q1 : ((g.toNat : Int) != 45) = true := bne_of (ne_z (n := 45) c1)
              have C := Lib.hid c1
              clear c1
              go_wp2_with fail
              go_roundw
              case rel => exact ⟨8, M ||| 4, by omega, by omega, by go_num, congrArg (Value.int .i64) (or_bit hM (by decide)), or12 hM (by decide), (by rw [HRM.out]; exact (refStep_rw (p := 6) C.out (by decide)).symm), HB.out⟩
              case measure => simp [intOf]
          · clear h1 h10
            have ei : (⟨#[k, a, b, c, d, e, f, g, i', j]⟩ : ByteArray)[8]'(by show 8 < 10; decide) = i' := rfl
            by_cases c1 : i' = 45
            · have C := Lib.hid c1
              have q1 : ((i'.toNat : Int) != 45) = false := by rw [c1]; rfl
              clear c1
              go_wp2_with fail
              go_roundw
              case rel => exact ⟨9, M, by omega, by omega, by go_num, rfl, hM, (by rw [HRM.out, C.out]; rfl), HB.out⟩
              case measure => simp [intOf]
            · have q1 : ((i'.toNat : Int) != 45) = true := bne_of (ne_z (n := 45) c1)
              have C := Lib.hid c1
              clear c1
              go_wp2_with fail
              go_roundw
              case rel => exact ⟨9, M ||| 2, by omega, by omega, by go_num, congrArg (Value.int .i64) (or_bit hM (by decide)), or12 hM (by decide), (by rw [HRM.out]; exact (refStep_rw (p := 7) C.out (by decide)).symm), HB.out⟩
              case measure => simp [intOf]
          · clear h1 h10
            have ei : (⟨#[k, a, b, c, d, e, f, g, i', j]⟩ : ByteArray)[9]'(by show 9 < 10; decide) = j := rfl
            by_cases c1 : j = 45
            · have C := Lib.hid c1
              have q1 : ((j.toNat : Int) != 45) = false := by rw [c1]; rfl
              clear c1
              go_wp2_with fail
              go_roundw
              case rel => exact ⟨10, M, by omega, by omega, by go_num, rfl, hM, (by rw [HRM.out, C.out]; rfl), HB.out⟩
              case measure => simp [intOf]
            · by_cases c120 : j = 120
              · have C := Lib.hid c120
                have q0 : ((j.toNat : Int) != 45) = true := by rw [c120]; rfl
                have q120 : ((j.toNat : Int) == 120) = true := by rw [c120]; rfl
                have q115 : ((j.toNat : Int) == 115) = false := by rw [c120]; rfl
                have q116 : ((j.toNat : Int) == 116) = false := by rw [c120]; rfl
                have qn : ((j.toNat : Int) != 120) = false := by rw [c120]; rfl
                clear c1 c120
                go_wp2_with fail
                go_roundw
                case rel => exact ⟨10, M ||| 1, by omega, by omega, by go_num, congrArg (Value.int .i64) (or_bit hM (by decide)), or12 hM (by decide), (by rw [HRM.out, C.out]; rfl), HB.out⟩
                case measure => simp [intOf]
              · by_cases c115 : j = 115
                · have C := Lib.hid c115
                  have q0 : ((j.toNat : Int) != 45) = true := by rw [c115]; rfl
                  have q120 : ((j.toNat : Int) == 120) = false := by rw [c115]; rfl
                  have q115 : ((j.toNat : Int) == 115) = true := by rw [c115]; rfl
                  have q116 : ((j.toNat : Int) == 116) = false := by rw [c115]; rfl
                  have qn : ((j.toNat : Int) != 120) = true := by rw [c115]; rfl
                  clear c1 c120 c115
                  go_wp2_with fail
                  go_roundw
                  case rel => exact ⟨10, M ||| 1 ||| 512, by omega, by omega, by go_num, congrArg (Value.int .i64) (by rw [show (bits .or .i64 (M : Int) 1) = ((M ||| 1 : Nat) : Int) from or_bit hM (by decide)]; exact or_bit (or12 hM (by decide)) (by decide)), or12 (or12 hM (by decide)) (by decide), (by rw [HRM.out, C.out]; rfl), HB.out⟩
                  case measure => simp [intOf]
                · by_cases c116 : j = 116
                  · have C := Lib.hid c116
                    have q0 : ((j.toNat : Int) != 45) = true := by rw [c116]; rfl
                    have q120 : ((j.toNat : Int) == 120) = false := by rw [c116]; rfl
                    have q115 : ((j.toNat : Int) == 115) = false := by rw [c116]; rfl
                    have q116 : ((j.toNat : Int) == 116) = true := by rw [c116]; rfl
                    have qn : ((j.toNat : Int) != 120) = true := by rw [c116]; rfl
                    clear c1 c120 c115 c116
                    go_wp2_with fail
                    go_roundw
                    case rel => exact ⟨10, M ||| 1 ||| 512, by omega, by omega, by go_num, congrArg (Value.int .i64) (by rw [show (bits .or .i64 (M : Int) 1) = ((M ||| 1 : Nat) : Int) from or_bit hM (by decide)]; exact or_bit (or12 hM (by decide)) (by decide)), or12 (or12 hM (by decide)) (by decide), (by rw [HRM.out, C.out]; rfl), HB.out⟩
                    case measure => simp [intOf]
                  · have C1 := Lib.hid c1; have C2 := Lib.hid c120; have C3 := Lib.hid c115; have C4 := Lib.hid c116
                    have q0 : ((j.toNat : Int) != 45) = true := bne_of (ne_z (n := 45) c1)
                    have q120 : ((j.toNat : Int) == 120) = false := ne_z (n := 120) c120
                    have q115 : ((j.toNat : Int) == 115) = false := ne_z (n := 115) c115
                    have q116 : ((j.toNat : Int) == 116) = false := ne_z (n := 116) c116
                    have qn : ((j.toNat : Int) != 120) = true := by simp only [bne, q120, Bool.not_false]
                    clear c1 c120 c115 c116
                    go_wp2_with fail
                    go_roundw
                    case rel => exact ⟨10, M ||| 512, by omega, by omega, by go_num, congrArg (Value.int .i64) (or_bit hM (by decide)), or12 hM (by decide), (by rw [HRM.out]; exact (refStep_other (p := 8) C1.out (by decide) C2.out C3.out C4.out).symm), HB.out⟩
                    case measure => simp [intOf]
          · clear h1 h10
            have hRM2 : M = refMode 0 [a, b, c, d, e, f, g, i', j] 0 := HRM.out
            have HR2 := Lib.hid hRM2
            clear hRM2 HRM
            rcases KN.out with ⟨hk0, h0⟩ | ⟨n, hk, hn⟩
            · have HK0 := Lib.hid hk0
              clear hk0
              subst h0
              go_wp2_with fail
              refine (refPerm0 _ _).mono ?_
              rintro e w5 ⟨rfl, hb5⟩
              have HB5 := Lib.hid (below_old HB.out hb5)
              clear hb5
              go_wp2_with fail
              go_ret3
              rw [HPE.out, refP_eq]
              have hp : permP (⟨#[k, a, b, c, d, e, f, g, i', j]⟩ : ByteArray).data.toList = none := by
                show permP [k, a, b, c, d, e, f, g, i', j] = none
                simp only [permP, HK0.out]
              rw [hp]
              exact ⟨by first | rfl | simp [permEnd], HB5.out⟩
            · have HS := kindIx_sound hk
              have HK := Lib.hid hk
              have hpo : permOk (n : Int) (M : Int) = true := decide_eq_true (by omega)
              have HPO := Lib.hid hpo
              clear hk HS hpo
              subst hn
              go_wp2_with fail
              refine (refPerm _ _ _ HPO.out).mono ?_
              rintro e w5 ⟨rfl, hb5⟩
              have HB5 := Lib.hid (below_old HB.out hb5)
              clear hb5
              have hrp : refP (⟨#[k, a, b, c, d, e, f, g, i', j]⟩ : ByteArray).data.toList = if permText (kn : Int) (M : Int) = [k, a, b, c, d, e, f, g, i', j] then some (kn, M) else none := by
                show refP [k, a, b, c, d, e, f, g, i', j] = _
                unfold refP
                simp only [HK.out, Option.getD_some, ← HR2.out]
                by_cases ht : permText (kn : Int) (M : Int) = [k, a, b, c, d, e, f, g, i', j]
                · rw [if_pos ht, if_pos ⟨rfl, ht, HPO.out⟩]
                · rw [if_neg ht, if_neg (fun h => ht h.2.1)]
              have HRP := Lib.hid hrp
              clear hrp
              unfold strV
              by_cases ht : permText (kn : Int) (M : Int) = [k, a, b, c, d, e, f, g, i', j]
              · have HT := Lib.hid ht
                have q1 : ((⟨(permText (kn : Int) (M : Int)).toArray⟩ : ByteArray).toList == [k, a, b, c, d, e, f, g, i', j]) = true := by
                  rw [ByteArray.toList_eq]
                  show ((permText (kn : Int) (M : Int)).toArray.toList == [k, a, b, c, d, e, f, g, i', j]) = true
                  rw [List.toList_toArray, ht]
                  exact beq_self_eq_true _
                clear ht
                generalize (⟨(permText (kn : Int) (M : Int)).toArray⟩ : ByteArray) = T at *
                go_wp2_with fail
                go_ret3
                rw [HPE.out, HRP.out, if_pos HT.out]
                exact ⟨by first | rfl | simp [permEnd], HB5.out⟩
              · have HT := Lib.hid ht
                have q1 : ((⟨(permText (kn : Int) (M : Int)).toArray⟩ : ByteArray).toList == [k, a, b, c, d, e, f, g, i', j]) = false := by
                  rw [ByteArray.toList_eq]
                  show ((permText (kn : Int) (M : Int)).toArray.toList == [k, a, b, c, d, e, f, g, i', j]) = false
                  rw [List.toList_toArray]
                  exact beq_eq_false_iff_ne.2 ht
                clear ht
                generalize (⟨(permText (kn : Int) (M : Int)).toArray⟩ : ByteArray) = T at *
                go_wp2_with fail
                go_ret3
                rw [HPE.out, HRP.out, if_neg HT.out]
                exact ⟨by first | rfl | simp [permEnd], HB5.out⟩
  · have hne : ((s.size : Int) == 10) = false := by rw [beq_eq_false_iff_ne]; omega
    have hne2 : ((s.size : Int) != 10) = true := by simp only [bne, hne, Bool.not_false]
    rw [refP_eq, permP_ten hz]
    clear hz
    go_enter Tryz.func55, Tryz.ntmps55
    go_wp2_with fail
    go_ret3
    exact ⟨by first | rfl | simp [permEnd], Below.refl _ _⟩
end Go.Proofs.YtkpblhikndennaaGreatDoor
namespace Go.Proofs.YtkpblhikndennaaGreatDoor
open Go.RowKit
set_option linter.unusedVariables false
set_option linter.unusedSimpArgs false
attribute [local go_sem] cell?_over frozen?_over lt_over le_over
set_option maxHeartbeats 1000000 in
set_option maxRecDepth 100000 in
theorem refParse_long (s : ByteArray) (w : World) (hs : 64 < s.size) (hs2 : s.size ≤ 140737488355328) :
    Calls Tryz.prog 57 #[.string s] w fun e w' => e = .returned (.tuple #[.agg #[.int .i64 (stS s.data.toList), .int .i64 (stN s.data.toList)], .int .i64 (stErr s.data.toList)]) ∧ Below w.heap.size w w' := by
  have HS := Lib.hid (st_long (l := s.data.toList) (by rw [len_data]; exact hs))
  have h1 : decide ((s.size : Int) > 64) = true := by simp; omega
  go_enter Tryz.func57, Tryz.ntmps57
  go_wp2_with fail
  refine ret_blk_tmp rfl rfl (Blk.new w _ _) whole_TimeD rfl rfl ⟨?_, below_alloc' w _⟩
  rw [HS.out.1, HS.out.2.1, HS.out.2.2]
  rfl
theorem refDigits' (l : List UInt8) (w : World) (hs : l.length ≤ 64) :
    Calls Tryz.prog 86 #[.string ⟨l.toArray⟩] w fun e w' => e = .returned (.bool (allDig l)) ∧ w' = w := refDigits ⟨l.toArray⟩ w (by simp [ByteArray.size]; omega)
theorem take_str {B : ByteArray} {l : List UInt8} (h : B.data.toList = l) (k : Nat) : B.extract 0 k = ⟨(l.take k).toArray⟩ := by
  subst h
  apply ByteArray.ext
  rw [ByteArray.data_extract]
  apply Array.ext'
  simp
theorem drop_str {B : ByteArray} {l : List UInt8} (h : B.data.toList = l) (k : Nat) : B.extract k B.size = ⟨(l.drop k).toArray⟩ := by
  subst h
  apply ByteArray.ext
  rw [ByteArray.data_extract]
  apply Array.ext'
  simp
  exact List.take_of_length_le (by simp; try (show _ ≤ B.data.size - k; omega))
theorem dot_lt {l : List UInt8} {k : Nat} (hk : k < l.length) (h : k < dotAt l) : l[k] ≠ 46 := by
  have := List.not_of_lt_findIdx (p := (· == 46)) (xs := l) h
  simpa using this
theorem dot_at {l : List UInt8} (h : dotAt l < l.length) : l[dotAt l] = 46 := by
  have := List.findIdx_getElem (p := (· == 46)) (xs := l) (w := h)
  rw [beq_iff_eq] at this
  exact this
theorem whole_big {l : List UInt8} (h : allDig l = true) (hz : ¬ (1 < l.length ∧ l.head? = some 48)) (hl : 16 ≤ l.length) : 1099511627776 < dval l := by
  obtain ⟨n1, n2⟩ := allDig_parts h
  obtain ⟨c, r, rfl⟩ : ∃ c r, l = c :: r := by cases l with | nil => exact absurd rfl n1 | cons c r => exact ⟨c, r, rfl⟩
  have hc : isDig c = true := by simp only [List.all_cons, Bool.and_eq_true] at n2; exact n2.1
  have h1 := isDig_iff.1 hc
  have h2 : c ≠ 48 := fun e => hz ⟨by omega, by rw [e]; rfl⟩
  have h3 : c.toNat ≠ 48 := fun e => h2 (by apply UInt8.toNat_inj.1; exact e)
  have h4 := dval_ge (c := c) (l := r) (by omega)
  have h5 : 10 ^ 15 ≤ 10 ^ r.length := Nat.pow_le_pow_right (by decide) (by simp at hl; omega)
  have h6 : (10 : Nat) ^ 15 = 1000000000000000 := by decide
  omega
theorem whole_small {l : List UInt8} (h : allDig l = true) (hl : l.length ≤ 15) : dval l < 1000000000000000 := by
  have h1 := dval_lt (allDig_parts h).2
  have h5 : 10 ^ l.length ≤ 10 ^ 15 := Nat.pow_le_pow_right (by decide) hl
  have h6 : (10 : Nat) ^ 15 = 1000000000000000 := by decide
  omega
theorem first9_in {l : List UInt8} {k : Nat} (hk : k < 9) (hl : k < l.length) : dval ((first9 l).take (k + 1)) = dval ((first9 l).take k) * 10 + (l[k].toNat - 48) := by
  have h9 := first9_len l
  rw [dval_step (by omega)]
  have : (first9 l)[k]'(by omega) = l[k] := by
    unfold first9
    rw [List.getElem_take, List.getElem_append_left hl]
  rw [this]
theorem first9_out {l : List UInt8} {k : Nat} (hk : k < 9) (hl : ¬ k < l.length) : dval ((first9 l).take (k + 1)) = dval ((first9 l).take k) * 10 := by
  have h9 := first9_len l
  rw [dval_step (by omega)]
  have : (first9 l)[k]'(by omega) = 48 := by
    unfold first9
    rw [List.getElem_take, List.getElem_append_right (by omega)]
    exact List.getElem_replicate ..
  rw [this]; rfl
theorem up_step {l : List UInt8} {k : Nat} (hk : 9 ≤ k) (hl : k < l.length) : ((l.drop 9).take (k + 1 - 9)).any (· != 48) = (((l.drop 9).take (k - 9)).any (· != 48) || (l[k] != 48)) := by
  have e : k + 1 - 9 = (k - 9) + 1 := by omega
  have hlen : k - 9 < (l.drop 9).length := by simp; omega
  rw [e, List.take_succ_eq_append_getElem hlen, List.any_append]
  have : (l.drop 9)[k - 9] = l[k] := by
    rw [List.getElem_drop]; congr 1; omega
  rw [this]; simp
theorem body_minus {s : ByteArray} (h : stNeg s.data.toList = true) : (s.extract 1 s.size).data.toList = stBody s.data.toList := by
  rw [drop_str rfl]
  unfold stBody
  rw [h]; rfl
theorem neg_first {s : ByteArray} (hs : 0 < s.size) : stNeg s.data.toList = (((s[0]'hs).toNat : Int) == 45) := by
  unfold stNeg
  have hh : s.data.toList.head? = some (s[0]'hs) := by
    rw [List.head?_eq_getElem?, List.getElem?_eq_getElem (by rw [len_data]; exact hs)]; rfl
  rw [hh, Bool.eq_iff_iff, decide_eq_true_eq, beq_iff_eq]
  constructor
  · intro h; injection h with h; rw [h]; rfl
  · intro h
    have h2 : (s[0]'hs).toNat = 45 := by omega
    have : s[0]'hs = 45 := by apply UInt8.toNat_inj.1; exact h2
    rw [this]
end Go.Proofs.YtkpblhikndennaaGreatDoor
