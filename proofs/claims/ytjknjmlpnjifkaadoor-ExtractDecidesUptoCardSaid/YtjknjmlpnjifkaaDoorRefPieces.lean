/- The reference's pieces of a name. No condition but room. -/
import Derived.Test.YtjknjmlpnjifkaaDoorRouteZ
import Derived.Test.YtjknjmlpnjifkaaDoorByt
namespace Go.Proofs.YtjknjmlpnjifkaaDoor
open Go.RowKit
set_option linter.unusedVariables false
set_option linter.unusedSimpArgs false
theorem elem_strP : Elem Tryd.prog 27 9 Shape.str 16 := ⟨Tryd.underlying27, by kernel_rfl⟩
set_option maxHeartbeats 2000000 in
set_option maxRecDepth 100000 in
theorem refPieces (s : ByteArray) (w : World) (hs : s.size ≤ 1000000000) :
    Calls Tryd.prog 40 #[.string s] w fun e w' => ∃ v ws, e = .returned v ∧ Own Shape.str 9 w' w.heap.size (fun _ => False) v ws ∧ ws.map (·.data.toList) = splitW 47 s.data.toList ∧ Below w.heap.size w w' := by
  have hz : s.data.toList.length = s.size := by rw [Array.length_toList]; rfl
  have HZ := Lib.hid hz
  have SZ := Lib.hid (show ∀ a b, (s.extract a b).size ≤ maxLen from fun a b => by rw [ByteArray.size_extract]; unfold maxLen; omega)
  clear hz
  go_enter Tryd.func40, Tryd.ntmps40
  go_wp2_with fail
  go_loopw [3, 4, 5] (fun v f i wr => ∃ (fr ii : Nat) (out : List ByteArray), i = .int .i64 ii ∧ f = .int .i64 fr ∧ ii ≤ s.size + 1 ∧ out.length ≤ ii ∧ Own Shape.str 9 wr w.heap.size (fun _ => False) v out ∧ Below w.heap.size w wr ∧
      ((ii ≤ s.size ∧ fr ≤ ii ∧ splitW 47 s.data.toList = out.map (·.data.toList) ++ splitW 47 (s.data.toList.drop fr) ∧ 47 ∉ (s.data.toList.drop fr).take (ii - fr)) ∨ (ii = s.size + 1 ∧ splitW 47 s.data.toList = out.map (·.data.toList)))) (fun _ _ i _ => s.size + 1 - (intOf i).toNat)
  case atStart => exact ⟨0, 0, [], rfl, rfl, by omega, Nat.le_refl _, Own.made Shape.str _ w _ (Nat.le_refl _), below_alloc' _ _, .inl ⟨Nat.zero_le _, Nat.le_refl _, by simp, by simp⟩⟩
  case round =>
    obtain ⟨fr, ii, out, rfl, rfl, hii, hol, hown, hbel, hcase⟩ := hrel
    have O := Lib.hid hown; have HB := Lib.hid hbel; have HC := Lib.hid hcase
    clear hown hbel hcase
    by_cases hle : ii ≤ s.size
    · rcases HC.out with ⟨_, hfr, heq, hno⟩ | ⟨he, _⟩
      · have HE := Lib.hid heq; have HN := Lib.hid hno
        clear heq hno HC
        have hls : (ii : Int) ≤ s.size := by omega
        by_cases hlt : ii = s.size
        · have hex : (s.extract fr ii).data.toList = s.data.toList.drop fr := by
            rw [Lib.extract_data, List.take_of_length_le (by rw [List.length_drop, HZ.out]; omega)]
          have hno2 : 47 ∉ s.data.toList.drop fr := by
            have := HN.out
            rwa [List.take_of_length_le (by rw [List.length_drop, HZ.out]; omega)] at this
          subst hlt
          have HX := Lib.hid hex; have HN2 := Lib.hid hno2
          clear hex hno2
          go_wp2_with (at_builtin; go_loud (refine wpList_append_one (v := u3) flat_str rfl (.tmp 23) (.tmp 28) _ rfl elem_strP rfl O.out (es := [.string (s.extract fr s.size)]) (b := s.extract fr s.size) rfl ⟨rfl, SZ.out _ _⟩ (by omega) (by unfold maxLen; omega) HB.out.size ?_))
          intro v' w2 hown2 hg2 hsz2 hat2
          have O2 := Lib.hid hown2
          have HB2 := Lib.hid (HB.out.grown hg2 HB.out.size (fun n hn => (O.out.lt n hn).1))
          clear hown2 hg2 hsz2 hat2
          go_wp2_with fail
          go_roundw
          case rel =>
            refine ⟨s.size + 1, s.size + 1, _, by go_num, by go_num, by omega, by simp; omega, O2.out, HB2.out, .inr ⟨rfl, ?_⟩⟩
            rw [HE.out, List.map_append, List.map_singleton, HX.out, splitW_none HN2.out]
          case measure => simp [intOf]
        · have hlt2 : ii < s.size := by omega
          have hne : ((ii : Int) == s.size) = false := by rw [beq_eq_false_iff_ne]; omega
          by_cases hb : s[ii] = 47
          · have hy : ((s[ii].toNat : Int) == 47) = true := by rw [hb]; rfl
            have HBB := Lib.hid hb
            clear hb
            go_wp2_with (at_builtin; go_loud (refine wpList_append_one (v := u3) flat_str rfl (.tmp 23) (.tmp 28) _ rfl elem_strP rfl O.out (es := [.string (s.extract fr ii)]) (b := s.extract fr ii) rfl ⟨rfl, SZ.out _ _⟩ (by omega) (by unfold maxLen; omega) HB.out.size ?_))
            intro v' w2 hown2 hg2 hsz2 hat2
            have O2 := Lib.hid hown2
            have HB2 := Lib.hid (HB.out.grown hg2 HB.out.size (fun n hn => (O.out.lt n hn).1))
            clear hown2 hg2 hsz2 hat2
            go_wp2_with fail
            go_roundw
            case rel =>
              have hst := splitW_step (b := 47) (l := s.data.toList) (i := ii) (by rw [HZ.out]; exact hlt2) HBB.out hfr HN.out
              refine ⟨ii + 1, ii + 1, _, by go_num, by go_num, by omega, by simp; omega, O2.out, HB2.out, .inl ⟨by omega, Nat.le_refl _, ?_, by simp⟩⟩
              rw [HE.out, List.map_append, List.map_singleton, hst, Lib.extract_data, List.append_assoc, List.singleton_append]
            case measure => simp [intOf]; omega
          · have hy : ((s[ii].toNat : Int) == 47) = false := by
              rw [beq_eq_false_iff_ne]
              intro e
              exact hb (UInt8.toNat_inj.1 (by have e32 : (47 : UInt8).toNat = 47 := rfl; omega))
            have HBB := Lib.hid hb
            clear hb
            go_wp2_with fail
            go_roundw
            case rel =>
              refine ⟨fr, ii + 1, out, by go_num, rfl, by omega, by omega, O.out, HB.out, .inl ⟨by omega, by omega, HE.out, ?_⟩⟩
              exact none_step (by rw [HZ.out]; exact hlt2) HBB.out hfr HN.out
            case measure => simp [intOf]; omega
      · omega
    · have hls : ¬ (ii : Int) ≤ s.size := by omega
      go_wp2_with fail
      go_ret
      rcases HC.out with ⟨h, _⟩ | ⟨_, he⟩
      · omega
      · exact ⟨_, rfl, out, O.out, he.symm, HB.out⟩
end Go.Proofs.YtjknjmlpnjifkaaDoor
