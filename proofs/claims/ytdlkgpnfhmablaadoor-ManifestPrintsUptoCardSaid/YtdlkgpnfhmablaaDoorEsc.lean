/- manifest's Escape: what it computes. No condition but room. -/
import Derived.Test.YtdlkgpnfhmablaaDoorRefEsc
import Derived.Test.YtdlkgpnfhmablaaDoorBuilder
namespace Go.Proofs.YtdlkgpnfhmablaaDoor
open Go.RowKit
set_option linter.unusedVariables false
set_option linter.unusedSimpArgs false
attribute [local go_sem] cell?_over frozen?_over lt_over le_over

set_option maxRecDepth 100000 in
theorem bare_c (c : UInt8) (w : World) (b : Bool) (hb : bareB c = b) : Calls Tryd.prog 36 #[.int .u8 (c.toNat : Int)] w fun e w' => e = .returned (.bool b) ∧ w = w' := by
  subst hb
  go_enter Tryd.func36, Tryd.ntmps36
  go_wp2
  all_goals (go_ret; refine ⟨ret_bool ?_, rfl⟩)
  · by_cases h : (c.toNat : Int) = 92
    · rw [bareB_out (.inr (by simpa using h))]; simpa using h
    · rw [bareB_true (by omega) (by omega) (by simpa using h)]; simpa using h
  · rw [bareB_out (.inl (.inr (by omega)))]
  · rw [bareB_out (.inl (.inl (by omega)))]
theorem u8_e1 (c : UInt8) : (48 + bits BinOp.and IntKind.u8 ((c.toNat : Int) / 64) 7) % 256 = ((48 + c / 64 : UInt8).toNat : Int) := by
  have := all_bytes (fun c => decide ((48 + bits BinOp.and IntKind.u8 ((c.toNat : Int) / 64) 7) % 256 = ((48 + c / 64 : UInt8).toNat : Int))) (by decide +kernel) c
  simpa only [decide_eq_true_eq] using this
theorem u8_e2 (c : UInt8) : (48 + bits BinOp.and IntKind.u8 ((c.toNat : Int) / 8) 7) % 256 = ((48 + c / 8 % 8 : UInt8).toNat : Int) := by
  have := all_bytes (fun c => decide ((48 + bits BinOp.and IntKind.u8 ((c.toNat : Int) / 8) 7) % 256 = ((48 + c / 8 % 8 : UInt8).toNat : Int))) (by decide +kernel) c
  simpa only [decide_eq_true_eq] using this
theorem u8_e3 (c : UInt8) : (48 + bits BinOp.and IntKind.u8 (c.toNat : Int) 7) % 256 = ((48 + c % 8 : UInt8).toNat : Int) := by
  have := all_bytes (fun c => decide ((48 + bits BinOp.and IntKind.u8 (c.toNat : Int) 7) % 256 = ((48 + c % 8 : UInt8).toNat : Int))) (by decide +kernel) c
  simpa only [decide_eq_true_eq] using this
set_option maxHeartbeats 1000000 in
set_option maxRecDepth 100000 in
theorem manEscape (s : ByteArray) (w : World) (hs : s.size ≤ 100000000000) :
    Calls Tryd.prog 22 #[.string s] w fun e w' => e = .returned (strV (esc s.data.toList)) ∧ ∃ δ, w' = over w δ := by
  have hsz : s.size = s.data.toList.length := by rw [Array.length_toList]; rfl
  have HS := Lib.hid hsz; clear hsz
  go_enter Tryd.func22, Tryd.ntmps22
  go_wp2_with fail
  go_loopw [9] (fun i wr => ∃ k : Nat, k ≤ s.size ∧ i = .int .i64 k ∧ BW w w.heap.size w.heap.size (esc (s.data.toList.take k)) wr) (fun i _ => s.size - (intOf i).toNat)
  case atStart => exact ⟨0, Nat.zero_le _, rfl, BW.new w⟩
  case round =>
    obtain ⟨k, hk, rfl, hbw⟩ := hrel
    have O := Lib.hid hbw; clear hbw
    by_cases hlt : k < s.size
    · have hkl : k < s.data.toList.length := by rw [← HS.out]; exact hlt
      have hE := Lib.hid (esc_take hkl)
      have hsk : s.data.toList[k] = s[k] := rfl
      rw [hsk] at hE
      have hlen := (esc_len (s.data.toList.take k)).2
      have hlen2 := List.length_take_le k s.data.toList
      have hle : (esc (s.data.toList.take k)).length ≤ 400000000000 := by omega
      clear hlen hlen2 hsk
      generalize esc (s.data.toList.take k) = acc at *
      by_cases hb : bareB s[k] = true
      · have HB := Lib.hid hb; clear hb
        go_wp2_with (first
          | (go_at_call 36; refine (bare_c _ _ _ HB.out).mono ?_; rintro e w' ⟨rfl, rfl⟩)
          | (go_at_call 12; refine (writeByteW O.out _ s[k] rfl (by omega)).mono ?_; rintro e w1 ⟨rfl, h1⟩))
        go_roundw
        case rel => exact ⟨k + 1, by omega, by go_num, by rw [hE.out, show escB s[k] = [s[k]] from if_pos HB.out]; exact h1⟩
        case measure => simp [intOf]; omega
      · have HB := Lib.hid (Bool.eq_false_iff.2 hb); clear hb
        go_wp2_with (first
          | (go_at_call 36; refine (bare_c _ _ _ HB.out).mono ?_; rintro e w' ⟨rfl, rfl⟩)
          | (go_at_call 12; refine (writeByteW O.out _ 92 rfl (by omega)).mono ?_; rintro e w1 ⟨rfl, h1⟩))
        obtain ⟨wo, rfl⟩ : ∃ wo : World, wo = wr := ⟨_, rfl⟩
        go_loopw [6] (fun t wr => (t = .int .i64 6 ∧ BW w w.heap.size w.heap.size (acc ++ [92]) wr) ∨ (t = .int .i64 3 ∧ BW w w.heap.size w.heap.size (acc ++ [92] ++ [48 + s[k] / 64]) wr) ∨
          (t = .int .i64 0 ∧ BW w w.heap.size w.heap.size (acc ++ [92] ++ [48 + s[k] / 64] ++ [48 + s[k] / 8 % 8]) wr) ∨ (t = .int .i64 (-3) ∧ BW w w.heap.size w.heap.size (acc ++ [92] ++ [48 + s[k] / 64] ++ [48 + s[k] / 8 % 8] ++ [48 + s[k] % 8]) wr)) (fun t _ => (9 + intOf t).toNat)
        case atStart => exact .inl ⟨rfl, h1⟩
        case round =>
          have h1 : True := trivial
          rcases hrel with ⟨rfl, h2⟩ | ⟨rfl, h2⟩ | ⟨rfl, h2⟩ | ⟨rfl, h2⟩
          · have O2 := Lib.hid h2; clear h2 h1
            go_wp2_with (first
              | (go_at_call 12; refine (writeByteW O2.out _ (48 + s[k] / 64) (u8_e1 s[k]) (by simp; omega)).mono ?_; rintro e w1 ⟨rfl, h3⟩))
            go_roundw
            case rel => exact .inr (.inl ⟨rfl, h3⟩)
            case measure => simp [intOf]
          · have O2 := Lib.hid h2; clear h2 h1
            go_wp2_with (first
              | (go_at_call 12; refine (writeByteW O2.out _ (48 + s[k] / 8 % 8) (u8_e2 s[k]) (by simp; omega)).mono ?_; rintro e w1 ⟨rfl, h3⟩))
            go_roundw
            case rel => exact .inr (.inr (.inl ⟨rfl, h3⟩))
            case measure => simp [intOf]
          · have O2 := Lib.hid h2; clear h2 h1
            go_wp2_with (first
              | (go_at_call 12; refine (writeByteW O2.out _ (48 + s[k] % 8) (u8_e3 s[k]) (by simp; omega)).mono ?_; rintro e w1 ⟨rfl, h3⟩))
            go_roundw
            case rel => exact .inr (.inr (.inr ⟨rfl, h3⟩))
            case measure => simp [intOf]
          · have O2 := Lib.hid h2; clear h2 h1
            go_wp2
            go_roundw
            case rel =>
              refine ⟨k + 1, by omega, by go_num, ?_⟩
              rw [hE.out, show escB s[k] = [92, 48 + s[k] / 64, 48 + s[k] / 8 % 8, 48 + s[k] % 8] from if_neg (by rw [HB.out]; decide)]
              simpa only [List.append_assoc, List.cons_append, List.nil_append] using O2.out
            case measure => simp [intOf]; omega
    · have htk : s.data.toList.take k = s.data.toList := List.take_of_length_le (by rw [← HS.out]; omega)
      rw [htk] at O
      clear htk
      go_wp2_with (go_at_call 13; refine (bldStringW O.out).mono ?_; rintro e w1 ⟨rfl, h1⟩)
      go_ret
      exact ⟨rfl, exists_over h1⟩
end Go.Proofs.YtdlkgpnfhmablaaDoor
