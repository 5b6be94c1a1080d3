/- The reference's Escape: what it computes. No condition but room. -/
import Derived.Test.YtdlkgpnfhmablaaDoorByt
import Derived.Test.YtdlkgpnfhmablaaDoorEscLaw
import Derived.BigGuardPart
namespace Go.Proofs.YtdlkgpnfhmablaaDoor
open Go.RowKit
set_option linter.unusedVariables false
set_option linter.unusedSimpArgs false
attribute [local go_sem] cell?_over frozen?_over lt_over le_over

theorem elem_byte : Elem Tryd.prog 32 5 Shape.byte 1 := ⟨Tryd.underlying32, by kernel_rfl⟩
theorem esc_take {l : List UInt8} {k : Nat} (h : k < l.length) : esc (l.take (k + 1)) = esc (l.take k) ++ escB l[k] := by
  rw [List.take_succ_eq_append_getElem h, esc_append]; simp [esc]
theorem u8_d1 (c : UInt8) : (48 + (c.toNat : Int) / 64) = ((48 + c / 64 : UInt8).toNat : Int) := by
  have := all_bytes (fun c => decide ((48 + (c.toNat : Int) / 64) = ((48 + c / 64 : UInt8).toNat : Int))) (by decide +kernel) c
  simpa only [decide_eq_true_eq] using this
theorem u8_d2 (c : UInt8) : (48 + (c.toNat : Int) / 8 % 8) = ((48 + c / 8 % 8 : UInt8).toNat : Int) := by
  have := all_bytes (fun c => decide ((48 + (c.toNat : Int) / 8 % 8) = ((48 + c / 8 % 8 : UInt8).toNat : Int))) (by decide +kernel) c
  simpa only [decide_eq_true_eq] using this
theorem u8_d3 (c : UInt8) : (48 + (c.toNat : Int) % 8) = ((48 + c % 8 : UInt8).toNat : Int) := by
  have := all_bytes (fun c => decide ((48 + (c.toNat : Int) % 8) = ((48 + c % 8 : UInt8).toNat : Int))) (by decide +kernel) c
  simpa only [decide_eq_true_eq] using this
theorem bareB_true {c : UInt8} (h1 : 33 ≤ (c.toNat : Int)) (h2 : (c.toNat : Int) ≤ 126) (h3 : ((c.toNat : Int) != 92) = true) : bareB c = true := by
  simp only [bne_iff_ne, ne_eq] at h3
  simp only [bareB, Bool.and_eq_true, decide_eq_true_eq]
  omega
theorem bareB_out {c : UInt8} (h : ((c.toNat : Int) < 33 ∨ 126 < (c.toNat : Int)) ∨ ((c.toNat : Int) != 92) = false) : bareB c = false := by
  have hn : ¬ (32 < c.toNat ∧ c.toNat < 127 ∧ c.toNat ≠ 92) := by
    rcases h with h | h
    · omega
    · simp only [bne_eq_false_iff_eq] at h; omega
  rw [← Bool.not_eq_true]
  simp only [bareB, Bool.and_eq_true, decide_eq_true_eq]
  intro hc
  exact hn ⟨hc.1.1, hc.1.2, hc.2⟩
set_option maxHeartbeats 1000000 in
set_option maxRecDepth 100000 in
theorem refEscape (s : ByteArray) (w : World) (hs : s.size ≤ 100000000000) :
    Calls Tryd.prog 30 #[.string s] w fun e w' => e = .returned (strV (esc s.data.toList)) ∧ ∃ δ, w' = over w δ := by
  have hsz : s.size = s.data.toList.length := by rw [Array.length_toList]; rfl
  have HS := Lib.hid hsz; clear hsz
  go_enter Tryd.func30, Tryd.ntmps30
  go_wp2_with fail
  go_loopw [3, 4] (fun v i wr => ∃ k : Nat, k ≤ s.size ∧ i = .int .i64 k ∧ OwnB 5 wr w.heap.size v (esc (s.data.toList.take k)) ∧ Below w.heap.size w wr ∧ w.heap.size ≤ wr.heap.size) (fun _ i _ => s.size - (intOf i).toNat)
  case atStart => exact ⟨0, Nat.zero_le _, rfl, Own.made Shape.byte _ w _ (Nat.le_refl _), by go_grown, by simp⟩
  case round =>
    obtain ⟨k, hk, rfl, hown, hbel, hsz⟩ := hrel
    by_cases hlt : k < s.size
    · have hkl : k < s.data.toList.length := by rw [← HS.out]; exact hlt
      have hE := Lib.hid (esc_take hkl)
      have hsk : s.data.toList[k] = s[k] := rfl
      rw [hsk] at hE
      have hlen := (esc_len (s.data.toList.take k)).2
      have hlen2 := List.length_take_le k s.data.toList
      have hle : (esc (s.data.toList.take k)).length ≤ 400000000000 := by omega
      clear hlen hlen2 hsk
      have O := Lib.hid hown; clear hown
      generalize esc (s.data.toList.take k) = acc at *
      go_wp2_with (first
        | (at_builtin; refine wpList_append_b1 rfl (.tmp 26) (.tmp 28) _ rfl elem_byte rfl O.out _ s[k] rfl rfl (by omega) hbel hsz ?_; intro v1 w1 hown1 hb1 hs1)
        | (at_builtin; refine wpList_append_b1 rfl (.tmp 30) (.tmp 31) _ rfl elem_byte rfl O.out _ 92 rfl rfl (by omega) hbel hsz ?_; intro v1 w1 hown1 hb1 hs1)
        | (at_builtin; refine wpList_append_b1 rfl (.tmp 33) (.tmp 37) _ rfl elem_byte rfl hown1 _ (48 + s[k] / 64) rfl (by have := u8_d1 s[k]; have := s[k].toNat_lt; omega) (by simp; omega) hb1 hs1 ?_; intro v2 w2 hown2 hb2 hs2)
        | (at_builtin; refine wpList_append_b1 rfl (.tmp 39) (.tmp 44) _ rfl elem_byte rfl hown2 _ (48 + s[k] / 8 % 8) rfl (by have := u8_d2 s[k]; have := s[k].toNat_lt; omega) (by simp; omega) hb2 hs2 ?_; intro v3 w3 hown3 hb3 hs3)
        | (at_builtin; refine wpList_append_b1 rfl (.tmp 46) (.tmp 50) _ rfl elem_byte rfl hown3 _ (48 + s[k] % 8) rfl (by have := u8_d3 s[k]; have := s[k].toNat_lt; omega) (by simp; omega) hb3 hs3 ?_; intro v4 w4 hown4 hb4 hs4))
      all_goals
        go_roundw
        case rel =>
          refine ⟨k + 1, by omega, by go_num, ?_, by assumption, by assumption⟩
          rw [hE.out]
          first
            | (rw [show escB s[k] = [s[k]] from if_pos (bareB_true (by assumption) (by assumption) (by assumption))]; exact hown1)
            | (rw [show escB s[k] = [92, 48 + s[k] / 64, 48 + s[k] / 8 % 8, 48 + s[k] % 8] from if_neg (by first | (rw [bareB_out (.inl (.inl (by omega)))]; decide) | (rw [bareB_out (.inl (.inr (by omega)))]; decide) | (rw [bareB_out (.inr (by assumption))]; decide))]
               simpa only [List.append_assoc, List.cons_append, List.nil_append] using hown4)
        case measure => simp [intOf]; omega
    · have hkl : k = s.size := by omega
      have htk : s.data.toList.take k = s.data.toList := List.take_of_length_le (by rw [← HS.out]; omega)
      rw [htk] at hown
      clear htk
      have hcv := run_str_of (P := Tryd.prog) 32 9 Tryd.underlying32 Tryd.underlying5 Tryd.underlying9 hown.rd
      have HB := Lib.hid hbel; clear hbel
      have O := Lib.hid hown; clear hown
      go_wp2
      go_ret
      exact ⟨rfl, exists_over HB.out⟩
end Go.Proofs.YtdlkgpnfhmablaaDoor
