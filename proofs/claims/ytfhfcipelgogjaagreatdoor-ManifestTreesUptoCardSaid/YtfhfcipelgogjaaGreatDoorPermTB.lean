/- perms.Text: what it computes. No condition. perms.Text and the reference's Text where kind or mode is no good. No condition. -/
import Derived.Test.YtfhfcipelgogjaaGreatDoorPermR
namespace Go.Proofs.YtfhfcipelgogjaaGreatDoor
open Go.RowKit
set_option linter.unusedVariables false
set_option linter.unusedSimpArgs false
attribute [local go_sem] cell?_over frozen?_over lt_over le_over

/-- an array of bytes in a block -/
def BA (w : World) (g : Nat) (t : TypeId) (L : List UInt8) : Prop := Blk w g t (L.map fun b => Value.int .u8 b.toNat).toArray
theorem BA.set_ {w : World} {g : Nat} {t : TypeId} {L : List UInt8} (h : BA w g t L) (i : Nat) (b : UInt8) : BA (w.setCell ⟨g, i, none⟩ (.int .u8 b.toNat)) g t (L.set i b) := by
  have := Blk.set_ h i (.int .u8 b.toNat)
  unfold BA
  rw [List.map_set, ← List.setIfInBounds_toArray]
  exact this
theorem BA.cell {w : World} {g : Nat} {t : TypeId} {L : List UInt8} (h : BA w g t L) {i : Nat} {c : UInt8} (hi : L[i]? = some c) : w.cell? ⟨g, i, none⟩ = some (.int .u8 c.toNat) ∧ w.frozen? ⟨g, i, none⟩ = false := by
  have h' : w.heap[g]? = _ := h
  constructor
  · rw [Lib.cell_of_heap h']
    simp [hi]
  · exact Lib.frozen_of_heap h' i
theorem BA.rd {w : World} {g : Nat} {t : TypeId} {L : List UInt8} (h : BA w g t L) (hl : L.length ≤ maxLen) : SliceRd Shape.byte w (fun n => n = g) (.slice (some ⟨g, 0, none⟩) L.length L.length) L := by
  refine ⟨_, _, _, rfl, Nat.le_refl _, hl, rfl, fun _ => ⟨g, 0, rfl, rfl, fun i hi => ⟨[.int .u8 L[i].toNat], fun j hj => ?_, rfl⟩⟩⟩
  have e13 : Shape.byte.size = 1 := rfl
  have : j = 0 := by omega
  subst this
  have := (h.cell (i := i) (c := L[i]) (List.getElem?_eq_getElem hi)).1
  simpa [e13] using this
theorem BA.lt {w : World} {g : Nat} {t : TypeId} {L : List UInt8} (h : BA w g t L) : g < w.heap.size := Blk.lt h
def st1 (kind mode : Int) (k : Nat) : List UInt8 :=
  kindC kind :: [8, 7, 6, 5, 4, 3, 2, 1, 0].map fun i => if i < k then permC mode i else 0
theorem st1_9 (kind mode : Int) : st1 kind mode 9 = stage kind mode 0 := rfl
theorem st1_succ (kind mode : Int) {k : Nat} (h : k < 9) : (st1 kind mode k).set (9 - k) (permC mode k) = st1 kind mode (k + 1) := by
  match k, h with
  | 0, _ | 1, _ | 2, _ | 3, _ | 4, _ | 5, _ | 6, _ | 7, _ | 8, _ => rfl
theorem idx0 (W : World) : (Instr.index 178 (.agg #[.int .i64 2048, .int .i64 1024, .int .i64 512]) (.int .i64 0)).run Tryz.prog W = .ok (.int .i64 2048) W := by kernel_rfl
theorem idx1 (W : World) : (Instr.index 178 (.agg #[.int .i64 2048, .int .i64 1024, .int .i64 512]) (.int .i64 1)).run Tryz.prog W = .ok (.int .i64 1024) W := by kernel_rfl
theorem idx2 (W : World) : (Instr.index 178 (.agg #[.int .i64 2048, .int .i64 1024, .int .i64 512]) (.int .i64 2)).run Tryz.prog W = .ok (.int .i64 512) W := by kernel_rfl
theorem shr_one (mode : Int) (k : Nat) (h0 : 0 ≤ mode) (h1 : mode ≤ 4095) : (bits .and .i64 (mode / 2 ^ k) 1 == 1) = permBit mode k := by
  have h2 : 0 ≤ mode / 2 ^ k := Int.ediv_nonneg h0 (Int.le_of_lt (Int.pow_pos (by decide)))
  have h3 : mode / 2 ^ k ≤ mode := Int.ediv_le_self _ h0
  rw [and_one _ h2 (by omega)]
  unfold permBit
  rw [Bool.eq_iff_iff, beq_iff_eq, decide_eq_true_eq]
theorem letters_xwr (k : Nat) (h2 : k % 3 < (ByteArray.mk #[120, 119, 114]).size) : (ByteArray.mk #[120, 119, 114])[k % 3] = rwxC k := by
  have h : k % 3 = 0 ∨ k % 3 = 1 ∨ k % 3 = 2 := by omega
  unfold rwxC
  rcases h with h | h | h <;> simp only [h] <;> rfl
set_option maxHeartbeats 1000000 in
set_option maxRecDepth 100000 in
theorem permsText (kind mode : Int) (w : World) (hk : permOk kind mode = true) :
    Calls Tryz.prog 54 #[.int .i64 kind, .int .i64 mode] w fun e w' => e = .returned (.tuple #[strV (permText kind mode), .int .i64 0]) ∧ Below w.heap.size w w' := by
  have hkm : 1 ≤ kind ∧ kind ≤ 5 ∧ 0 ≤ mode ∧ mode ≤ 4095 := by simpa [permOk] using hk
  obtain ⟨k1, k2, m1, m2⟩ := hkm
  have hmask : (bits .andNot .i64 mode 4095 != 0) = false := by
    rw [bne, andNot_mask mode (by omega) (by omega)]; simp; omega
  clear hk
  go_enter Tryz.func54, Tryz.ntmps54
  go_wp2_with fail
  rw [letters_kind ⟨k1, k2⟩]
  have hba : BA (w.alloc (.cells #[.int .u8 (kindC kind).toNat, .int .u8 0, .int .u8 0, .int .u8 0, .int .u8 0, .int .u8 0, .int .u8 0, .int .u8 0, .int .u8 0, .int .u8 0] 177)) w.heap.size 177 (st1 kind mode 0) := Blk.new w _ _
  have hb0 := below_alloc' w (.cells #[.int .u8 (kindC kind).toNat, .int .u8 0, .int .u8 0, .int .u8 0, .int .u8 0, .int .u8 0, .int .u8 0, .int .u8 0, .int .u8 0, .int .u8 0] 177)
  generalize w.alloc (.cells #[.int .u8 (kindC kind).toNat, .int .u8 0, .int .u8 0, .int .u8 0, .int .u8 0, .int .u8 0, .int .u8 0, .int .u8 0, .int .u8 0, .int .u8 0] 177) = w1 at *
  go_loopw [27] (fun i wr => ∃ k : Nat, k ≤ 9 ∧ i = .int .i64 k ∧ BA wr w.heap.size 177 (st1 kind mode k) ∧ Below w.heap.size w wr) (fun i _ => 9 - (intOf i).toNat)
  case atStart => exact ⟨0, by omega, rfl, hba, hb0⟩
  case round =>
    obtain ⟨k, hk, rfl, hb, hbel⟩ := hrel
    by_cases hlt : k < 9
    · have hlt2 : (k : Int) < 9 := by omega
      obtain ⟨c, hc⟩ : ∃ c, (st1 kind mode k)[9 - k]? = some c := ⟨_, List.getElem?_eq_getElem (by show _ < 10; omega)⟩
      obtain ⟨ca, fa⟩ := hb.cell hc
      have b1 : BA (wr.setCell ⟨w.heap.size, 9 - k, none⟩ (.int .u8 45)) w.heap.size 177 ((st1 kind mode k).set (9 - k) 45) := hb.set_ (9 - k) 45
      have b2 := b1.set_ (9 - k) (rwxC k)
      rw [List.set_set] at b2
      obtain ⟨cb, fb⟩ := b1.cell (i := 9 - k) (c := 45) (by rw [List.getElem?_set_self]; show _ < 10; omega)
      have HX : Hid (∀ h2 : k % 3 < (ByteArray.mk #[120, 119, 114]).size, (ByteArray.mk #[120, 119, 114])[k % 3] = rwxC k) := Lib.hid (letters_xwr k)
      have B1 := Lib.hid b1; have B2 := Lib.hid b2
      have HS := Lib.hid (st1_succ kind mode hlt)
      have hbit := shr_one mode k m1 m2
      have HL := Lib.hid (below_setCell' hbel (g := w.heap.size) (i := 9 - k) (Nat.le_refl _) (.int .u8 45))
      clear hb b1 b2 hc
      by_cases hp : permBit mode k = true
      · rw [hp] at hbit
        have HC : Hid (permC mode k = rwxC k) := Lib.hid (by unfold permC; rw [if_pos hp])
        clear hp
        go_wp2_with fail
        go_roundw
        case rel =>
          refine ⟨k + 1, by omega, by go_num, ?_, below_setCell' HL.out (Nat.le_refl _) _⟩
          rw [HX.out, ← HS.out, HC.out]
          exact B2.out
        case measure => simp [intOf]; omega
      · rw [Bool.not_eq_true] at hp
        rw [hp] at hbit
        have HC : Hid (permC mode k = 45) := Lib.hid (by unfold permC; rw [if_neg (by rw [hp]; decide)])
        clear hp
        go_wp2_with fail
        go_roundw
        case rel =>
          refine ⟨k + 1, by omega, by go_num, ?_, HL.out⟩
          rw [← HS.out, HC.out]
          exact B1.out
        case measure => simp [intOf]; omega
    · obtain rfl : k = 9 := by omega
      rw [st1_9] at hb
      have hS := hb.lt
      go_wp2_with fail
      go_loopw [46] (fun i wx => ∃ k : Nat, k ≤ 3 ∧ i = .int .i64 k ∧ BA wx w.heap.size 177 (stage kind mode k) ∧ Below w.heap.size w wx) (fun i _ => 3 - (intOf i).toNat)
      case atStart => exact ⟨0, by omega, rfl, hb, hbel⟩
      case round =>
        obtain ⟨k, hk, rfl, hb, hbel⟩ := hrel
        by_cases hlt : k < 3
        · have m3 : 0 ≤ mode ∧ mode < 9223372036854775808 := by omega
          by_cases hp : permBit mode (11 - k) = true
          · have HS := Lib.hid (stage_on kind mode hlt hp)
            have hb2 : ∀ b : Int, b = 2 ^ (11 - k) → (bits .and .i64 mode b == 0) = false := by
              intro b hb; subst hb
              rw [and_pow mode (11 - k) (by omega) m3.1 m3.2, hp]; rfl
            obtain ⟨ca, fa⟩ := hb.cell (stage_at kind mode hlt)
            have hx2 := permC_x mode (6 - 3 * k) (by omega)
            have hx3 : (((permC mode (6 - 3 * k)).toNat : Int) == 120) = permBit mode (6 - 3 * k) := by
              rw [← hx2]
              generalize (permC mode (6 - 3 * k)).toNat = x
              rw [Bool.eq_iff_iff, beq_iff_eq, beq_iff_eq]; omega
            have O2 := Lib.hid hb
            clear hp hx2 hb
            obtain rfl | rfl | rfl : k = 0 ∨ k = 1 ∨ k = 2 := by omega
            · have hb3 := hb2 2048 rfl
              have hix := idx0 wr
              by_cases hx : permBit mode (6 - 3 * 0) = true
              · have hx4 : (((permC mode (6 - 3 * 0)).toNat : Int) == 120) = true := by rw [hx3]; simpa using hx
                have HX := Lib.hid hx
                clear hx hx3
                go_wp2_with fail
                go_roundw
                case rel =>
                  refine ⟨1, by decide, rfl, ?_, below_setCell' hbel (Nat.le_refl _) _⟩
                  have := BA.set_ O2.out (3 + 3 * 0) 115
                  rw [HS.out, if_pos HX.out]
                  exact this
                case measure => simp [intOf]
              · have hx4 : (((permC mode (6 - 3 * 0)).toNat : Int) == 120) = false := by rw [hx3]; simpa using hx
                have HX := Lib.hid hx
                clear hx hx3
                go_wp2_with fail
                go_roundw
                case rel =>
                  refine ⟨1, by decide, rfl, ?_, below_setCell' hbel (Nat.le_refl _) _⟩
                  have := BA.set_ O2.out (3 + 3 * 0) 83
                  rw [HS.out, if_neg HX.out]
                  exact this
                case measure => simp [intOf]
            · have hb3 := hb2 1024 rfl
              have hix := idx1 wr
              by_cases hx : permBit mode (6 - 3 * 1) = true
              · have hx4 : (((permC mode (6 - 3 * 1)).toNat : Int) == 120) = true := by rw [hx3]; simpa using hx
                have HX := Lib.hid hx
                clear hx hx3
                go_wp2_with fail
                go_roundw
                case rel =>
                  refine ⟨2, by decide, rfl, ?_, below_setCell' hbel (Nat.le_refl _) _⟩
                  have := BA.set_ O2.out (3 + 3 * 1) 115
                  rw [HS.out, if_pos HX.out]
                  exact this
                case measure => simp [intOf]
              · have hx4 : (((permC mode (6 - 3 * 1)).toNat : Int) == 120) = false := by rw [hx3]; simpa using hx
                have HX := Lib.hid hx
                clear hx hx3
                go_wp2_with fail
                go_roundw
                case rel =>
                  refine ⟨2, by decide, rfl, ?_, below_setCell' hbel (Nat.le_refl _) _⟩
                  have := BA.set_ O2.out (3 + 3 * 1) 83
                  rw [HS.out, if_neg HX.out]
                  exact this
                case measure => simp [intOf]
            · have hb3 := hb2 512 rfl
              have hix := idx2 wr
              by_cases hx : permBit mode (6 - 3 * 2) = true
              · have hx4 : (((permC mode (6 - 3 * 2)).toNat : Int) == 120) = true := by rw [hx3]; simpa using hx
                have HX := Lib.hid hx
                clear hx hx3
                go_wp2_with fail
                go_roundw
                case rel =>
                  refine ⟨3, by decide, rfl, ?_, below_setCell' hbel (Nat.le_refl _) _⟩
                  have := BA.set_ O2.out (3 + 3 * 2) 116
                  rw [HS.out, if_pos HX.out]
                  exact this
                case measure => simp [intOf]
              · have hx4 : (((permC mode (6 - 3 * 2)).toNat : Int) == 120) = false := by rw [hx3]; simpa using hx
                have HX := Lib.hid hx
                clear hx hx3
                go_wp2_with fail
                go_roundw
                case rel =>
                  refine ⟨3, by decide, rfl, ?_, below_setCell' hbel (Nat.le_refl _) _⟩
                  have := BA.set_ O2.out (3 + 3 * 2) 84
                  rw [HS.out, if_neg HX.out]
                  exact this
                case measure => simp [intOf]
          · have hp2 : permBit mode (11 - k) = false := by simpa using hp
            have HS := Lib.hid (stage_off kind mode hlt hp2)
            have hb2 : ∀ b : Int, b = 2 ^ (11 - k) → (bits .and .i64 mode b == 0) = true := by
              intro b hb; subst hb
              rw [and_pow mode (11 - k) (by omega) m3.1 m3.2, hp2]; rfl
            clear hp hp2
            obtain rfl | rfl | rfl : k = 0 ∨ k = 1 ∨ k = 2 := by omega
            · have hb3 := hb2 2048 rfl
              have hix := idx0 wr
              go_wp2_with fail
              go_roundw
              case rel => exact ⟨1, by decide, rfl, by rw [HS.out]; exact hb, hbel⟩
              case measure => simp [intOf]
            · have hb3 := hb2 1024 rfl
              have hix := idx1 wr
              go_wp2_with fail
              go_roundw
              case rel => exact ⟨2, by decide, rfl, by rw [HS.out]; exact hb, hbel⟩
              case measure => simp [intOf]
            · have hb3 := hb2 512 rfl
              have hix := idx2 wr
              go_wp2_with fail
              go_roundw
              case rel => exact ⟨3, by decide, rfl, by rw [HS.out]; exact hb, hbel⟩
              case measure => simp [intOf]
        · obtain rfl : k = 3 := by omega
          have hcv := run_str_of (P := Tryz.prog) 58 9 Tryz.underlying58 Tryz.underlying5 Tryz.underlying9 (hb.rd (by show 10 ≤ maxLen; decide))
          have h10 : (stage kind mode 3).length = 10 := rfl
          rw [h10] at hcv
          have O3 := Lib.hid hb
          clear hb h10
          go_wp2
          go_ret2
          exact ⟨rfl, hbel⟩
end Go.Proofs.YtfhfcipelgogjaaGreatDoor
namespace Go.Proofs.YtfhfcipelgogjaaGreatDoor
open Go.RowKit
set_option linter.unusedVariables false
set_option linter.unusedSimpArgs false
set_option maxHeartbeats 1000000 in
set_option maxRecDepth 100000 in
theorem permsText_bad (kind mode : Int) (w : World) (hm : I64 mode) (hk : permOk kind mode = false) :
    Calls Tryz.prog 54 #[.int .i64 kind, .int .i64 mode] w fun e w' => e = .returned (.tuple #[.string ⟨#[]⟩, .int .i64 120]) ∧ w' = w := by
  have hx : ¬ (1 ≤ kind ∧ kind ≤ 5 ∧ 0 ≤ mode ∧ mode ≤ 4095) := by simpa [permOk] using hk
  clear hk
  by_cases h1 : kind < 1
  · have d1 : decide (kind < 1) = true := by simpa using h1
    go_enter Tryz.func54, Tryz.ntmps54
    go_wp2
    go_ret2
    exact ⟨rfl, rfl⟩
  have d1 : decide (kind < 1) = false := by simpa using h1
  by_cases h2 : kind > 5
  · have d2 : decide (kind > 5) = true := by simpa using h2
    go_enter Tryz.func54, Tryz.ntmps54
    go_wp2
    go_ret2
    exact ⟨rfl, rfl⟩
  have d2 : decide (kind > 5) = false := by simpa using h2
  have hmask : (bits .andNot .i64 mode 4095 != 0) = true := by
    rw [bne, andNot_mask mode hm.1 hm.2]; simp; omega
  go_enter Tryz.func54, Tryz.ntmps54
  go_wp2
  go_ret2
  exact ⟨rfl, rfl⟩
end Go.Proofs.YtfhfcipelgogjaaGreatDoor
