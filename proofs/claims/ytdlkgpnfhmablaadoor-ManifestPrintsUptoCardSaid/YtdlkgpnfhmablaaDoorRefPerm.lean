/- The reference's Text of a mode: what it computes. No condition. -/
import Derived.Test.YtdlkgpnfhmablaaDoorPerm
import Derived.Test.YtdlkgpnfhmablaaDoorRefShow
namespace Go.Proofs.YtdlkgpnfhmablaaDoor
open Go.RowKit
set_option linter.unusedVariables false
set_option linter.unusedSimpArgs false
attribute [local go_sem] cell?_over frozen?_over lt_over le_over

def perm9 (mode : Int) : List UInt8 := [permC mode 8, permC mode 7, permC mode 6, permC mode 5, permC mode 4, permC mode 3, permC mode 2, permC mode 1, permC mode 0]
theorem perm9_succ (mode : Int) {k : Nat} (h : k < 9) : (perm9 mode).take (k + 1) = (perm9 mode).take k ++ [permC mode (8 - k)] := by
  match k, h with
  | 0, _ | 1, _ | 2, _ | 3, _ | 4, _ | 5, _ | 6, _ | 7, _ | 8, _ => rfl
def bitV (k : Nat) : Int := if k ≤ 8 then 2 ^ (8 - k) else 0
theorem bitV_next {k : Nat} (h : k < 9) : (bitV k).tdiv 2 = bitV (k + 1) := by
  match k, h with
  | 0, _ | 1, _ | 2, _ | 3, _ | 4, _ | 5, _ | 6, _ | 7, _ | 8, _ => rfl
theorem bitV_range (k : Nat) : 0 ≤ bitV k ∧ bitV k ≤ 256 := by
  unfold bitV
  split
  · match k with
    | 0 | 1 | 2 | 3 | 4 | 5 | 6 | 7 | 8 => decide
    | n + 9 => omega
  · decide
theorem letters_rwx {k : Nat} (h : k < 9) (h2 : k < (ByteArray.mk #[114, 119, 120, 114, 119, 120, 114, 119, 120]).size) : (ByteArray.mk #[114, 119, 120, 114, 119, 120, 114, 119, 120])[k] = rwxC (8 - k) := by
  match k, h with
  | 0, _ | 1, _ | 2, _ | 3, _ | 4, _ | 5, _ | 6, _ | 7, _ | 8, _ => rfl
theorem letters_kind {kind : Int} (h : 1 ≤ kind ∧ kind ≤ 5) (h2 : kind.toNat - 1 < (ByteArray.mk #[45, 100, 108, 104, 63]).size) : (ByteArray.mk #[45, 100, 108, 104, 63])[kind.toNat - 1] = kindC kind := by
  obtain rfl | rfl | rfl | rfl | rfl : kind = 1 ∨ kind = 2 ∨ kind = 3 ∨ kind = 4 ∨ kind = 5 := by omega
  all_goals rfl
def stage (kind mode : Int) (k : Nat) : List UInt8 :=
  [kindC kind, permC mode 8, permC mode 7, if 1 ≤ k then permS mode 11 6 115 83 else permC mode 6, permC mode 5, permC mode 4, if 2 ≤ k then permS mode 10 3 115 83 else permC mode 3, permC mode 2, permC mode 1, if 3 ≤ k then permS mode 9 0 116 84 else permC mode 0]
theorem stage_0 (kind mode : Int) : stage kind mode 0 = kindC kind :: perm9 mode := rfl
theorem stage_3 (kind mode : Int) : stage kind mode 3 = permText kind mode := rfl
theorem stage_off (kind mode : Int) {k : Nat} (hk : k < 3) (h : permBit mode (11 - k) = false) : stage kind mode (k + 1) = stage kind mode k := by
  match k, hk with
  | 0, _ | 1, _ | 2, _ => simp [stage, permS, h] <;> simp_all
theorem stage_on (kind mode : Int) {k : Nat} (hk : k < 3) (h : permBit mode (11 - k) = true) : stage kind mode (k + 1) = (stage kind mode k).set (3 + 3 * k) (if permBit mode (6 - 3 * k) then (if k = 2 then 116 else 115) else (if k = 2 then 84 else 83)) := by
  match k, hk with
  | 0, _ | 1, _ | 2, _ => simp [stage, permS, h] <;> simp_all
theorem stage_at (kind mode : Int) {k : Nat} (hk : k < 3) : (stage kind mode k)[3 + 3 * k]? = some (permC mode (6 - 3 * k)) := by
  match k, hk with
  | 0, _ | 1, _ | 2, _ => rfl
theorem permC_x (mode : Int) (i : Nat) (hi : i % 3 = 0) : ((permC mode i).toNat == 120) = permBit mode i := by
  unfold permC rwxC
  rw [if_pos hi]
  cases permBit mode i <;> rfl
set_option maxHeartbeats 1000000 in
set_option maxRecDepth 100000 in
theorem refPerm (kind mode : Int) (w : World) (hk : permOk kind mode = true) :
    Calls Tryd.prog 27 #[.int .i64 kind, .int .i64 mode] w fun e w' => e = .returned (.tuple #[strV (permText kind mode), .int .i64 0]) ∧ Below w.heap.size w w' := by
  have hkm : 1 ≤ kind ∧ kind ≤ 5 ∧ 0 ≤ mode ∧ mode ≤ 4095 := by simpa [permOk] using hk
  obtain ⟨k1, k2, m1, m2⟩ := hkm
  clear hk
  go_enter Tryd.func27, Tryd.ntmps27
  go_wp2_with (at_builtin; go_loud (refine wpList_append_b1 (l := []) rfl (.tmp 29) (.tmp 33) _ rfl elem_byte rfl (Own.made Shape.byte _ w _ (Nat.le_refl _)) _ (kindC kind) ?c4 ?c1 ?c2 (below_alloc' w _) ?c3 ?_))

  case c1 => rw [letters_kind ⟨k1, k2⟩]
  case c4 => exact congrArg (fun n => Value.slice (some ⟨n, 0, none⟩) 1 1) (by simp)
  case c2 => simp
  case c3 => simp
  intro v1 w1 hown1 hb1 hs1
  go_wp2_with fail
  go_loopw [6, 7, 9] (fun v b i wr => ∃ k : Nat, k ≤ 9 ∧ i = .int .i64 k ∧ b = .int .i64 (bitV k) ∧ OwnB 5 wr w.heap.size v (kindC kind :: (perm9 mode).take k) ∧ Below w.heap.size w wr ∧ w.heap.size ≤ wr.heap.size) (fun _ _ i _ => 9 - (intOf i).toNat)
  case atStart => exact ⟨0, by omega, rfl, rfl, hown1, hb1, hs1⟩
  case round =>
    obtain ⟨k, hk, rfl, rfl, hown, hbel, hsz⟩ := hrel
    by_cases hlt : k < 9
    · have hlt2 : (k : Int) < 9 := by omega
      have HP := Lib.hid (perm9_succ mode hlt)
      have hN := bitV_next hlt
      have hr := bitV_range k
      have hbit : (bits .and .i64 mode (bitV k) == 0) = !permBit mode (8 - k) := by
        unfold bitV; rw [if_pos (by omega)]
        exact and_pow mode (8 - k) (by omega) (by omega) (by omega)
      have hlen : (kindC kind :: (perm9 mode).take k).length ≤ 10 := by simp; omega
      have HN : Hid (bitV (k + 1) = bitV k / 2) := Lib.hid (by rw [← hN]; exact Int.tdiv_eq_ediv_of_nonneg hr.1)
      clear hN
      generalize hB : bitV k = B at *
      clear hB
      by_cases hp : permBit mode (8 - k) = true
      · have hne : (bits .and .i64 mode B != 0) = true := by rw [bne, hbit, hp]; rfl
        have HC : Hid (permC mode (8 - k) = rwxC (8 - k)) := Lib.hid (by unfold permC; rw [if_pos hp])
        have HL : Hid (∀ h2 : k < (ByteArray.mk #[114, 119, 120, 114, 119, 120, 114, 119, 120]).size, (ByteArray.mk #[114, 119, 120, 114, 119, 120, 114, 119, 120])[k] = rwxC (8 - k)) := Lib.hid (letters_rwx hlt)
        clear hbit hp
        go_wp2_with (first | (at_builtin; refine wpList_append_b1 rfl (.tmp 43) (.tmp 47) _ rfl elem_byte rfl hown _ (rwxC (8 - k)) rfl (by rw [HL.out]) (by omega) hbel hsz ?_; intro v2 w2 hown2 hb2 hs2))
        go_roundw
        case rel => exact ⟨k + 1, by omega, by go_num, by rw [HN.out], by rw [HP.out, HC.out]; exact hown2, hb2, hs2⟩
        case measure => simp [intOf]; omega
      · have hne : (bits .and .i64 mode B != 0) = false := by rw [bne, hbit]; simpa using hp
        have HC : Hid (permC mode (8 - k) = 45) := Lib.hid (by unfold permC; rw [if_neg hp])
        clear hbit hp
        go_wp2_with (first | (at_builtin; refine wpList_append_b1 rfl (.tmp 49) (.tmp 50) _ rfl elem_byte rfl hown _ 45 rfl rfl (by omega) hbel hsz ?_; intro v2 w2 hown2 hb2 hs2))
        go_roundw
        case rel => exact ⟨k + 1, by omega, by go_num, by rw [HN.out], by rw [HP.out, HC.out]; exact hown2, hb2, hs2⟩
        case measure => simp [intOf]; omega
    · obtain rfl : k = 9 := by omega
      have e9 : kindC kind :: (perm9 mode).take 9 = stage kind mode 0 := rfl
      rw [e9] at hown
      clear e9
      obtain ⟨g, cap, hv, hg1, hg2, _⟩ := hown.get (by simp [stage])
      have h10 : (stage kind mode 0).length = 10 := rfl
      rw [h10] at hv
      subst hv
      have O := Lib.hid (hown.alloc (.cells #[.int .i64 2048, .int .i64 1024, .int .i64 512] 63))
      have HB := Lib.hid (hbel.alloc hsz (.cells #[.int .i64 2048, .int .i64 1024, .int .i64 512] 63))
      have c0 : (wr.alloc (.cells #[.int .i64 2048, .int .i64 1024, .int .i64 512] 63)).cell? ⟨wr.heap.size, 0, none⟩ = some (.int .i64 2048) := by simp [World.cell?_alloc_new]
      have c1 : (wr.alloc (.cells #[.int .i64 2048, .int .i64 1024, .int .i64 512] 63)).cell? ⟨wr.heap.size, 1, none⟩ = some (.int .i64 1024) := by simp [World.cell?_alloc_new]
      have c2 : (wr.alloc (.cells #[.int .i64 2048, .int .i64 1024, .int .i64 512] 63)).cell? ⟨wr.heap.size, 2, none⟩ = some (.int .i64 512) := by simp [World.cell?_alloc_new]
      have hsz2 : w.heap.size ≤ (wr.alloc (.cells #[.int .i64 2048, .int .i64 1024, .int .i64 512] 63)).heap.size := by simp; omega
      have hne : g ≠ wr.heap.size := by omega
      clear hown hbel h10 hsz hg2
      go_wp2_with fail
      generalize wr.alloc (.cells #[.int .i64 2048, .int .i64 1024, .int .i64 512] 63) = w3 at *
      generalize wr.heap.size = S at *
      go_loopw [13] (fun i wx => ∃ k : Nat, k ≤ 3 ∧ i = .int .i64 k ∧ OwnB 5 wx w.heap.size (.slice (some ⟨g, 0, none⟩) 10 cap) (stage kind mode k) ∧ Below w.heap.size w wx ∧ w.heap.size ≤ wx.heap.size ∧
        wx.cell? ⟨S, 0, none⟩ = some (.int .i64 2048) ∧ wx.cell? ⟨S, 1, none⟩ = some (.int .i64 1024) ∧ wx.cell? ⟨S, 2, none⟩ = some (.int .i64 512)) (fun i _ => 3 - (intOf i).toNat)
      case atStart => exact ⟨0, by omega, rfl, O.out, HB.out, hsz2, c0, c1, c2⟩
      case round =>
        obtain ⟨k, hk, rfl, hown, hbel, hsz, e0, e1, e2⟩ := hrel
        by_cases hlt : k < 3
        · have m3 : 0 ≤ mode ∧ mode < 9223372036854775808 := by omega
          by_cases hp : permBit mode (11 - k) = true
          · have HS := Lib.hid (stage_on kind mode hlt hp)
            have hb2 : ∀ b : Int, b = 2 ^ (11 - k) → (bits .and .i64 mode b == 0) = false := by
              intro b hb; subst hb
              rw [and_pow mode (11 - k) (by omega) m3.1 m3.2, hp]; rfl
            obtain ⟨ca, fa⟩ := hown.cell rfl (stage_at kind mode hlt)
            have hx2 := permC_x mode (6 - 3 * k) (by omega)
            have hx3 : (((permC mode (6 - 3 * k)).toNat : Int) == 120) = permBit mode (6 - 3 * k) := by
              rw [← hx2]
              generalize (permC mode (6 - 3 * k)).toNat = x
              rw [Bool.eq_iff_iff, beq_iff_eq, beq_iff_eq]; omega
            have O2 := Lib.hid hown
            have SC : ∀ (i : Nat) (u : Value) (j : Nat), (wr.setCell ⟨g, i, none⟩ u).cell? ⟨S, j, none⟩ = wr.cell? ⟨S, j, none⟩ := fun i u j => World.cell?_of_block (Below.heap_setCell wr ⟨g, i, none⟩ u S (fun e => hne e.symm))
            have HSC := Lib.hid SC
            clear hp hx2 SC hown
            obtain rfl | rfl | rfl : k = 0 ∨ k = 1 ∨ k = 2 := by omega
            · have hb3 := hb2 2048 rfl
              by_cases hx : permBit mode (6 - 3 * 0) = true
              · have hx4 : (((permC mode (6 - 3 * 0)).toNat : Int) == 120) = true := by rw [hx3]; simpa using hx
                have HX := Lib.hid hx
                clear hx hx3
                go_wp2_with fail
                go_roundw
                case rel =>
                  refine ⟨1, by decide, rfl, ?_, below_setCell' hbel hg1 _, by simpa [World.setCell] using hsz, (HSC.out _ _ _).trans e0, (HSC.out _ _ _).trans e1, (HSC.out _ _ _).trans e2⟩
                  have := Own.set1 (i := 3 + 3 * 0) (u := .int .u8 115) (a := 115) (s := Shape.byte) rfl flat_byte O2.out rfl rfl
                  rw [HS.out, if_pos HX.out]
                  exact this
                case measure => simp [intOf]
              · have hx4 : (((permC mode (6 - 3 * 0)).toNat : Int) == 120) = false := by rw [hx3]; simpa using hx
                have HX := Lib.hid hx
                clear hx hx3
                go_wp2_with fail
                go_roundw
                case rel =>
                  refine ⟨1, by decide, rfl, ?_, below_setCell' hbel hg1 _, by simpa [World.setCell] using hsz, (HSC.out _ _ _).trans e0, (HSC.out _ _ _).trans e1, (HSC.out _ _ _).trans e2⟩
                  have := Own.set1 (i := 3 + 3 * 0) (u := .int .u8 83) (a := 83) (s := Shape.byte) rfl flat_byte O2.out rfl rfl
                  rw [HS.out, if_neg HX.out]
                  exact this
                case measure => simp [intOf]
            · have hb3 := hb2 1024 rfl
              by_cases hx : permBit mode (6 - 3 * 1) = true
              · have hx4 : (((permC mode (6 - 3 * 1)).toNat : Int) == 120) = true := by rw [hx3]; simpa using hx
                have HX := Lib.hid hx
                clear hx hx3
                go_wp2_with fail
                go_roundw
                case rel =>
                  refine ⟨2, by decide, rfl, ?_, below_setCell' hbel hg1 _, by simpa [World.setCell] using hsz, (HSC.out _ _ _).trans e0, (HSC.out _ _ _).trans e1, (HSC.out _ _ _).trans e2⟩
                  have := Own.set1 (i := 3 + 3 * 1) (u := .int .u8 115) (a := 115) (s := Shape.byte) rfl flat_byte O2.out rfl rfl
                  rw [HS.out, if_pos HX.out]
                  exact this
                case measure => simp [intOf]
              · have hx4 : (((permC mode (6 - 3 * 1)).toNat : Int) == 120) = false := by rw [hx3]; simpa using hx
                have HX := Lib.hid hx
                clear hx hx3
                go_wp2_with fail
                go_roundw
                case rel =>
                  refine ⟨2, by decide, rfl, ?_, below_setCell' hbel hg1 _, by simpa [World.setCell] using hsz, (HSC.out _ _ _).trans e0, (HSC.out _ _ _).trans e1, (HSC.out _ _ _).trans e2⟩
                  have := Own.set1 (i := 3 + 3 * 1) (u := .int .u8 83) (a := 83) (s := Shape.byte) rfl flat_byte O2.out rfl rfl
                  rw [HS.out, if_neg HX.out]
                  exact this
                case measure => simp [intOf]
            · have hb3 := hb2 512 rfl
              by_cases hx : permBit mode (6 - 3 * 2) = true
              · have hx4 : (((permC mode (6 - 3 * 2)).toNat : Int) == 120) = true := by rw [hx3]; simpa using hx
                have HX := Lib.hid hx
                clear hx hx3
                go_wp2_with fail
                go_roundw
                case rel =>
                  refine ⟨3, by decide, rfl, ?_, below_setCell' hbel hg1 _, by simpa [World.setCell] using hsz, (HSC.out _ _ _).trans e0, (HSC.out _ _ _).trans e1, (HSC.out _ _ _).trans e2⟩
                  have := Own.set1 (i := 3 + 3 * 2) (u := .int .u8 116) (a := 116) (s := Shape.byte) rfl flat_byte O2.out rfl rfl
                  rw [HS.out, if_pos HX.out]
                  exact this
                case measure => simp [intOf]
              · have hx4 : (((permC mode (6 - 3 * 2)).toNat : Int) == 120) = false := by rw [hx3]; simpa using hx
                have HX := Lib.hid hx
                clear hx hx3
                go_wp2_with fail
                go_roundw
                case rel =>
                  refine ⟨3, by decide, rfl, ?_, below_setCell' hbel hg1 _, by simpa [World.setCell] using hsz, (HSC.out _ _ _).trans e0, (HSC.out _ _ _).trans e1, (HSC.out _ _ _).trans e2⟩
                  have := Own.set1 (i := 3 + 3 * 2) (u := .int .u8 84) (a := 84) (s := Shape.byte) rfl flat_byte O2.out rfl rfl
                  rw [HS.out, if_neg HX.out]
                  exact this
                case measure => simp [intOf]
          · have hp2 : permBit mode (11 - k) = false := by simpa using hp
            have HS := Lib.hid (stage_off kind mode hlt hp2)
            have hb2 : ∀ b : Int, b = 2 ^ (11 - k) → (bits .and .i64 mode b == 0) = true := by
              intro b hb; subst hb
              rw [and_pow mode (11 - k) (by omega) m3.1 m3.2, hp2]; rfl
            clear hp hp2
            obtain rfl | rfl | rfl : k = 0 ∨ k = 1 ∨ k = 2 := by omega
            · have hb3 := hb2 2048 rfl
              go_wp2_with fail
              go_roundw
              case rel => exact ⟨1, by decide, rfl, by rw [HS.out]; exact hown, hbel, hsz, e0, e1, e2⟩
              case measure => simp [intOf]
            · have hb3 := hb2 1024 rfl
              go_wp2_with fail
              go_roundw
              case rel => exact ⟨2, by decide, rfl, by rw [HS.out]; exact hown, hbel, hsz, e0, e1, e2⟩
              case measure => simp [intOf]
            · have hb3 := hb2 512 rfl
              go_wp2_with fail
              go_roundw
              case rel => exact ⟨3, by decide, rfl, by rw [HS.out]; exact hown, hbel, hsz, e0, e1, e2⟩
              case measure => simp [intOf]
        · obtain rfl : k = 3 := by omega
          have hcv := run_str_of (P := Tryd.prog) 32 9 Tryd.underlying32 Tryd.underlying5 Tryd.underlying9 hown.rd
          have O3 := Lib.hid hown
          clear hown
          go_wp2
          go_ret2
          exact ⟨rfl, hbel⟩
end Go.Proofs.YtdlkgpnfhmablaaDoor
