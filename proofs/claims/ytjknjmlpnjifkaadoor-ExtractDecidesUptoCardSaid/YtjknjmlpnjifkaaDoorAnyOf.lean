/- strings.ContainsAny at a stroke and a nought byte: no for a text that holds neither, whatever else it holds. No condition but room. -/
import Derived.Test.YtjknjmlpnjifkaaDoorBase
import Derived.Test.YtjknjmlpnjifkaaDoorLayAny
import Derived.Test.YtjknjmlpnjifkaaDoorLayIx
import Derived.Laws.RangeAny
import Derived.Laws.Runes
import Derived.Lib.IndexAny
import Derived.WalkMore
import Derived.Lib.OthersKept
namespace Go.Proofs.YtjknjmlpnjifkaaDoor
open Go.RowKit
set_option linter.unusedVariables false
set_option linter.unusedSimpArgs false
attribute [local go_sem] cell?_over frozen?_over lt_over le_over
theorem below_iter (w : World) (s : ByteArray) (i : Nat) : Below w.heap.size w (w.iter s i) :=
  (Below.refl _ w).alloc (Nat.le_refl _) _
theorem valid_eq (r : Int) : Lib.validRune r = Utf8.valid r := by
  unfold Lib.validRune Utf8.valid
  rw [Bool.eq_iff_iff]
  simp
  omega
set_option maxHeartbeats 1000000 in
set_option maxRecDepth 100000 in
/-- a letter that is no ASCII letter is not among the two -/
theorem runeHigh (r : Int) (w : World) (h0 : 128 ≤ r) (h1 : r ≤ 2147483647) :
    Calls Tryd.prog 77 #[.string ⟨#[47, 0]⟩, .int .i32 r] w fun e w' => e = .returned (.int .i64 (-1)) ∧ Below w.heap.size w w' := by
  have c0 : decide ((0 : Int) ≤ r) = true := by simp; omega
  have c1 : decide (r < (128 : Int)) = false := by simp; omega
  by_cases he : r = 65533
  · subst he
    go_enter Tryd.func77, Tryd.ntmps77
    go_wp2_with fail
    go_loopw [5, 6] (fun _ _ wr => ∃ i : Nat, i ≤ 2 ∧ wr = w.iter ⟨#[47, 0]⟩ i) (fun _ _ wr => 2 - wr.iterPos w.heap.size)
    case atStart => exact ⟨0, by omega, rfl⟩
    case round =>
      obtain ⟨i, hi, rfl⟩ := hrel
      obtain rfl | rfl | rfl : i = 0 ∨ i = 1 ∨ i = 2 := by omega
      · have hnx := fun ty => run_next_ascii (P := Tryd.prog) w ⟨#[47, 0]⟩ 0 ty (by decide) (by decide)
        go_wp2_with fail
        go_roundw
        case rel => exact ⟨1, by omega, rfl⟩
        case measure => simp
      · have hnx := fun ty => run_next_ascii (P := Tryd.prog) w ⟨#[47, 0]⟩ 1 ty (by decide) (by decide)
        go_wp2_with fail
        go_roundw
        case rel => exact ⟨2, by omega, rfl⟩
        case measure => simp
      · have hnx := fun ty => run_next_end (P := Tryd.prog) w ⟨#[47, 0]⟩ 2 ty (by decide)
        go_wp2_with fail
        go_ret
        exact ⟨rfl, below_iter _ _ _⟩
  · have c2 : (r == 65533) = false := by simpa using he
    obtain ⟨V, hV⟩ : ∃ v, v = Utf8.valid r := ⟨_, rfl⟩
    have HVR := Lib.hid (fun w => Any.utf8_ValidRune Tryd.lays119 r w)
    rw [valid_eq, ← hV] at HVR
    have HF := Lib.hid (fun hv => encode_facts r hv h0)
    have HV := Lib.hid hV
    clear hV
    go_enter Tryd.func77, Tryd.ntmps77
    go_wp2_with fail
    refine (HVR.out _).mono ?_
    rintro e w' ⟨rfl, rfl⟩
    cases V with
    | false =>
      go_wp2_with fail
      go_ret
      exact ⟨rfl, Below.refl _ _⟩
    | true =>
      obtain ⟨e1, e2, e3⟩ := HF.out HV.out.symm
      obtain ⟨rs, hrs⟩ : ∃ s, s = Utf8.encode r := ⟨_, rfl⟩
      rw [← hrs] at e1 e2 e3
      have hcv : ∀ w, (convert 21 9 (.int .i32 r)).run Tryd.prog w = .ok (.string rs) w := fun w => by
        rw [hrs]
        exact run_convert_int_string w _ _ .i32 r (by kernel_rfl) (by kernel_rfl)
      clear hrs
      obtain h2 | h2 | h2 : rs.size = 2 ∨ rs.size = 3 ∨ rs.size = 4 := by omega
      · have h1s : 1 < rs.size := by omega
        have e3' : 128 ≤ (rs[1]'h1s).toNat := by
          have := e3 (by omega)
          simpa [h2] using this
        have hne : (((({ data := #[47, 0] } : ByteArray)[1]).toNat : Int) != ((rs[1]'h1s).toNat : Int)) = true := by
          have : (({ data := #[47, 0] } : ByteArray)[1]).toNat = 0 := rfl
          rw [this, bne_iff_ne]; omega
        have hIB : ∀ W, Calls Tryd.prog 30 #[.string ByteArray.empty, .int .u8 ((rs[1]'h1s).toNat : Int)] W fun e w' => e = .returned (.int .i64 (-1)) ∧ W = w' := fun W => (Any.strings_IndexByte Tryd.lays137 _ _ W).mono fun e w' h => ⟨h.1, h.2.symm⟩
        clear e1 e2 e3 e3'
        go_wp2_with fail
        go_step3
        go_wp2_with fail
        go_loopw [9, 10, 11, 12] (fun a _ _ _ wr => a = .int .i64 1 ∧ wr = w') (fun _ _ _ _ _ => 0)
        case atStart => exact ⟨rfl, rfl⟩
        case round =>
          obtain ⟨rfl, rfl⟩ := hrel
          go_wp2_with fail
          go_step3
          go_wp2_with fail
          refine wp_region_over (by kernel_rfl) (by kernel_rfl) ?_
          repeat (go_big_quiet_step (fail))
          refine wpQuiet_nil ?_
          rintro _ ⟨δ, rfl⟩
          go_wp2_with fail
          refine wp_region_over (by kernel_rfl) (by kernel_rfl) ?_
          repeat (go_big_quiet_step (first | (go_at_call 30; exact calls_over_same (hIB _))))
          refine wpQuiet_nil ?_
          rintro _ ⟨δ2, rfl⟩
          go_wp2_with fail
          (simp only [Exit.noGoto_ret, Exit.inBlock, Exit.then])
          show Exit.noGoto _ Exit.ret _ _
          (simp only [Exit.noGoto_ret, Exit.inBlock, Exit.then])
          go_ret
          exact ⟨rfl, below_trans_over (below_over wr δ) (below_over wr δ).size δ2⟩
      all_goals (
        clear e1 e2 e3
        go_wp2_with fail
        go_step3
        go_wp2_with fail
        go_loopw [9, 10, 11, 12] (fun a _ _ _ wr => a = .int .i64 ((rs.size : Int) - 1) ∧ wr = w') (fun _ _ _ _ _ => 0)
        case atStart => exact ⟨by simp [h2], rfl⟩
        case round =>
          obtain ⟨rfl, rfl⟩ := hrel
          go_wp2_with fail
          rw [Exit.noGoto_ret]
          go_ret
          exact ⟨rfl, Below.refl _ _⟩)
set_option maxHeartbeats 2000000 in
set_option maxRecDepth 100000 in
theorem indexAnyNone (s : ByteArray) (w : World) (hs : s.size < 4294967281) (hn : (47 : UInt8) ∉ s.data.toList ∧ (0 : UInt8) ∉ s.data.toList) :
    Calls Tryd.prog 62 #[.string s, .string ⟨#[47, 0]⟩] w fun e w' => e = .returned (.int .i64 (-1)) ∧ Below w.heap.size w w' := by
  have hN : Lib.indexAny s.data.toList [47, 0] = -1 := Lib.indexAny_none fun j b hj hb => by
    have hm := List.mem_of_getElem? hb
    have h1 : b ≠ 47 := fun h => hn.1 (h ▸ hm)
    have h2 : b ≠ 0 := fun h => hn.2 (h ▸ hm)
    simp [h1, h2]
  by_cases h8 : 8 < s.size
  · refine (Any.strings_IndexAny_long Tryd.lays153 (fun w => by kernel_rfl) (by kernel_rfl) s ⟨#[47, 0]⟩ w (by decide) h8 hs (by decide) ?_).mono ?_
    · intro j b hb
      have hm := List.mem_of_getElem? hb
      simp at hm
      rcases hm with rfl | rfl <;> decide
    · rintro e w' ⟨rfl, rfl⟩
      exact ⟨by rw [show (⟨#[47, 0]⟩ : ByteArray).data.toList = [47, 0] from rfl, hN], ((Below.refl _ w).alloc (Nat.le_refl _) _).alloc (by simp) _⟩
  · have h8z : decide ((8 : Int) < (s.size : Int)) = false := decide_eq_false (by omega)
    have HA : Hid (∀ i (hi : i < s.size), s[i] ≠ 47 ∧ s[i] ≠ 0) := Lib.hid fun i hi => by
      have hm : s[i] ∈ s.data.toList := by
        have := Lib.data_getElem? s i hi
        exact List.mem_of_getElem? this
      exact ⟨fun e => hn.1 (e ▸ hm), fun e => hn.2 (e ▸ hm)⟩
    have H8 := Lib.hid h8
    clear hN hn h8
    go_enter Tryd.func62, Tryd.ntmps62
    go_wp2_with fail
    refine (Any.strings_shouldUseASCIISet (ρ := Tryd.lays153_ren) { Tryd.lays153 with } _ _).mono ?_
    rintro e w' ⟨rfl, hw⟩
    rw [hw, h8z]
    clear hw
    go_wp2_with fail
    go_loopw [9, 10] (fun _ _ wx => ∃ i : Nat, Below w.heap.size w wx ∧ wx.heap[w.heap.size]? = some (.stringIter s i)) (fun _ _ wx => s.size - wx.iterPos w.heap.size)
    case atStart => exact ⟨0, below_iter _ _ _, World.iter_heap w s 0⟩
    case round =>
      obtain ⟨i, hb, hit⟩ := hrel
      have HB := Lib.hid hb; have HIT := Lib.hid hit
      by_cases hlt : i < s.size
      · have hnx := fun ty => Lib.run_next_any_at (P := Tryd.prog) wr w.heap.size s i ty hit hlt
        have hstep : 1 ≤ (Utf8.decode s i).2 ∧ ((Utf8.decode s i).1 : Int) ≤ 2147483647 ∧ (Utf8.decode s i).1 ≠ 47 ∧ (Utf8.decode s i).1 ≠ 0 := by
          obtain ⟨n1, n2⟩ := HA.out i hlt
          refine ⟨?_, by have := decode_le s i; omega, ?_⟩
          · by_cases ha : (s[i]'hlt).toNat < 128
            · rw [decode_ascii s i hlt ha]; exact Nat.le_refl _
            · exact (decode_high s i hlt (by omega)).2
          · by_cases ha : (s[i]'hlt).toNat < 128
            · rw [decode_ascii s i hlt ha]
              exact ⟨fun e => n1 (UInt8.toNat_inj.1 e), fun e => n2 (UInt8.toNat_inj.1 e)⟩
            · have := (decode_high s i hlt (by omega)).1
              omega
        obtain ⟨n, hn⟩ : ∃ n, n = (Utf8.decode s i).2 := ⟨_, rfl⟩
        obtain ⟨r, hr⟩ : ∃ n, n = (Utf8.decode s i).1 := ⟨_, rfl⟩
        simp only [← hn, ← hr] at hnx hstep
        obtain ⟨h1, h2, h3, h4⟩ := hstep
        have HB2 := Lib.hid (Lib.below_iterAt HB.out (Nat.le_refl _) s (i + n))
        have HI2 := Lib.hid (Lib.iterAt_heap wr w.heap.size s i (i + n) HIT.out)
        have HRN : Hid (∀ W, Calls Tryd.prog 77 #[.string ⟨#[47, 0]⟩, .int .i32 (r : Int)] W fun e w' => e = .returned (.int .i64 (-1)) ∧ Below W.heap.size W w') := Lib.hid fun W => by
          by_cases h128 : r < 128
          · refine (Any.strings_IndexRune_ascii (ρ := Tryd.lays153_ren) { Tryd.lays153 with } ⟨#[47, 0]⟩ r W (by omega) (by omega)).mono ?_
            rintro e w' ⟨rfl, hw⟩
            refine ⟨?_, hw ▸ Below.refl _ _⟩
            have e1 : ((r : Int)).toNat.toUInt8 = UInt8.ofNat r := rfl
            have e2 : (47 == UInt8.ofNat r) = false := by
              rw [beq_eq_false_iff_ne]
              intro e
              have := congrArg UInt8.toNat e
              simp at this
              omega
            have e3 : (0 == UInt8.ofNat r) = false := by
              rw [beq_eq_false_iff_ne]
              intro e
              have := congrArg UInt8.toNat e
              simp at this
              omega
            rw [e1, show (⟨#[47, 0]⟩ : ByteArray).data.toList = [47, 0] from rfl]
            simp [Lib.indexByte, e2, e3]
          · exact runeHigh r W (by omega) (by omega)
        clear hb hit hn hr
        go_wp2_with fail
        refine (HRN.out _).mono ?_
        rintro e w2 ⟨rfl, hb2⟩
        have hsz := HB2.out.size
        have HB3 := Lib.hid (below_old HB2.out hb2)
        have HI3 : Hid (w2.heap[w.heap.size]? = some (.stringIter s (i + n))) := Lib.hid (by rw [hb2.block _ (by have := (Array.getElem?_eq_some_iff.1 HI2.out).1; exact this)]; exact HI2.out)
        clear hb2
        go_wp2_with fail
        go_roundw
        case rel => exact ⟨i + n, HB3.out, HI3.out⟩
        case measure =>
          have q1 : wr.iterPos w.heap.size = i := by unfold World.iterPos; rw [HIT.out]
          have q2 : w2.iterPos w.heap.size = i + n := by unfold World.iterPos; rw [HI3.out]
          rw [q1, q2]; omega
      · have hnx := fun ty => Lib.run_next_end_at (P := Tryd.prog) wr w.heap.size s i ty hit hlt
        clear hb hit
        go_wp2_with fail
        go_ret
        exact ⟨rfl, HB.out⟩
theorem anyNone (s : ByteArray) (w : World) (hs : s.size < 4294967281) (hn : (47 : UInt8) ∉ s.data.toList ∧ (0 : UInt8) ∉ s.data.toList) :
    Calls Tryd.prog 47 #[.string s, .string ⟨#[47, 0]⟩] w fun e w' => e = .returned (.bool false) ∧ Below w.heap.size w w' := by
  have H := Lib.hid (fun w => indexAnyNone s w hs hn)
  clear hn hs
  go_enter Tryd.func47, Tryd.ntmps47
  go_wp2_with fail
  refine (H.out _).mono ?_
  rintro e w' ⟨rfl, hb⟩
  have HB := Lib.hid hb
  clear hb
  go_wp2_with fail
  go_ret
  exact ⟨rfl, HB.out⟩
end Go.Proofs.YtjknjmlpnjifkaaDoor
