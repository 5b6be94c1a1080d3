/- The reference's comparison of two byte lists. No condition but room. Entries and policies copied and compared. No condition but room. The world that holds what the row of ExtractDecides lists, and what its shape gives. No condition. -/
import Derived.Test.YtjknjmlpnjifkaaDoorBase
import Derived.Test.YtjknjmlpnjifkaaDoorElemB
import Derived.Test.YtjknjmlpnjifkaaDoorPlanAll
import Derived.Test.YtjknjmlpnjifkaaDoorCards
import Derived.Test.YtjknjmlpnjifkaaDoorTie
import Derived.Deep.DeepHandedRow
import Derived.Deep.DeepWitnessRowRef
import Derived.LaidMore
import Derived.LaidSub
import Derived.MakeChecks
import Derived.Shelf.Vars
namespace Go.Proofs.YtjknjmlpnjifkaaDoor
open Go.RowKit
set_option linter.unusedVariables false
set_option linter.unusedSimpArgs false
attribute [local go_sem] cell?_over frozen?_over lt_over le_over
/-- a loop's comparison of two byte lists, element by element -/
theorem sameBytes {A A' : Option Addr} {n c n' c' : Nat} {l l' : List UInt8} (w : World) (h : Row Shape.byte w (Old w) A n l) (h' : Row Shape.byte w (Old w) A' n' l') (hn : n ≤ 140737488355328) (hn' : n' ≤ 140737488355328) :
    Calls Tryd.prog 10 #[.slice A n c, .slice A' n' c'] w fun e w' => e = .returned (.bool (decide (l = l'))) ∧ ∃ δ, w' = over w δ := by
  have hl := h.1
  have hl' := h'.1
  by_cases hnn : n = n'
  · subst hnn
    have HL := Lib.hid hl; have HL' := Lib.hid hl'; clear hl hl'
    have hb0 : ((n : Int) != n) = false := by simp
    go_enter Tryd.func10, Tryd.ntmps10
    go_wp2_with fail
    go_loopw [5] (fun i wr => ∃ k : Nat, k ≤ n ∧ i = .int .i64 k ∧ l.take k = l'.take k ∧ Below w.heap.size w wr) (fun i _ => n - (intOf i).toNat)
    case atStart => exact ⟨0, Nat.zero_le _, rfl, by simp, Below.refl _ _⟩
    case round =>
      obtain ⟨k, hk, rfl, htake, hbel⟩ := hrel
      have HT := Lib.hid htake; clear htake
      by_cases hlt : k < n
      · obtain ⟨b, off, es, hkl, rfl, hb, hc, hr⟩ := h.at_ hlt
        obtain ⟨b', off', es', hkl', rfl, hb', hc', hr'⟩ := h'.at_ hlt
        have c0 := hc 0 (by decide)
        have c0' := hc' 0 (by decide)
        simp only [Shape.byte] at hr hr' c0 c0'
        subst hr hr'
        simp only [Nat.mul_one, Nat.add_zero, List.getElem?_cons_zero] at c0 c0'
        rw [← hbel.cell (p := ⟨b, off + k, none⟩) hb] at c0
        rw [← hbel.cell (p := ⟨b', off' + k, none⟩) hb'] at c0'
        have hb2 := Nat.lt_of_lt_of_le hb hbel.size
        have hb2' := Nat.lt_of_lt_of_le hb' hbel.size
        have hks : (k : Int) < n := by omega
        clear hc hc'
        by_cases heq : l[k] = l'[k]
        · have hne : ((l[k].toNat : Int) != (l'[k].toNat : Int)) = false := by rw [heq]; simp
          have HE := Lib.hid heq; clear heq
          go_wp2
          refine wp_region_over (by kernel_rfl) (by kernel_rfl) ?_
          repeat (go_big_quiet_step (fail))
          refine wpQuiet_nil ?_
          rintro _ ⟨δ', rfl⟩
          go_wp2
          go_roundw
          case rel =>
            refine ⟨k + 1, by omega, by go_num, ?_, below_trans_over hbel hbel.size _⟩
            rw [List.take_succ_eq_append_getElem hkl, List.take_succ_eq_append_getElem hkl', HT.out, HE.out]
          case measure => simp [intOf]; omega
        · have hne : ((l[k].toNat : Int) != (l'[k].toNat : Int)) = true := by
            simp only [bne_iff_ne, ne_eq, Int.natCast_inj]
            exact fun e => heq (UInt8.toNat_inj.1 e)
          have HE := Lib.hid heq; clear heq
          go_wp2
          refine wp_region_over (by kernel_rfl) (by kernel_rfl) ?_
          repeat (go_big_quiet_step (fail))
          refine wpQuiet_nil ?_
          rintro _ ⟨δ', rfl⟩
          go_wp2
          go_ret
          refine ⟨ret_bool ?_, exists_over (below_trans_over hbel hbel.size _)⟩
          rw [eq_comm, decide_eq_false_iff_not]
          intro e
          apply HE.out
          simp only [e]
      · go_wp2
        go_ret
        refine ⟨ret_bool ?_, exists_over hbel⟩
        rw [eq_comm, decide_eq_true_iff]
        have h1 := HT.out
        rw [List.take_of_length_le (by rw [HL.out]; omega), List.take_of_length_le (by rw [HL'.out]; omega)] at h1
        exact h1
  · have hb0 : ((n : Int) != n') = true := by simp; omega
    have e : decide (l = l') = false := by
      rw [decide_eq_false_iff_not]
      rintro rfl
      omega
    have E := Lib.hid e; clear e hl hl' hnn
    go_enter Tryd.func10, Tryd.ntmps10
    go_wp2_with fail
    go_ret
    exact ⟨ret_bool E.out.symm, exists_over (Below.refl _ _)⟩

end Go.Proofs.YtjknjmlpnjifkaaDoor
namespace Go.Proofs.YtjknjmlpnjifkaaDoor
open Go.RowKit
set_option linter.unusedVariables false
set_option linter.unusedSimpArgs false
attribute [local go_sem] cell?_over frozen?_over lt_over le_over
theorem str_eq' {a b : ByteArray} (h : a = b) : (a.toList == b.toList) = true := by rw [h]; simp
theorem sameTexts {A A' : Option Addr} {n c n' c' : Nat} {l l' : List ByteArray} (w : World) (h : Row Shape.str w (Old w) A n l) (h' : Row Shape.str w (Old w) A' n' l') (hn : n ≤ 140737488355328) (hn' : n' ≤ 140737488355328) :
    Calls Tryd.prog 9 #[.slice A n c, .slice A' n' c'] w fun e w' => e = .returned (.bool (decide (l = l'))) ∧ ∃ δ, w' = over w δ := by
  have hl := h.1
  have hl' := h'.1
  by_cases hnn : n = n'
  · subst hnn
    have HL := Lib.hid hl; have HL' := Lib.hid hl'; clear hl hl'
    have hb0 : ((n : Int) != n) = false := by simp
    go_enter Tryd.func9, Tryd.ntmps9
    go_wp2_with fail
    go_loopw [5] (fun i wr => ∃ k : Nat, k ≤ n ∧ i = .int .i64 k ∧ l.take k = l'.take k ∧ Below w.heap.size w wr) (fun i _ => n - (intOf i).toNat)
    case atStart => exact ⟨0, Nat.zero_le _, rfl, by simp, Below.refl _ _⟩
    case round =>
      obtain ⟨k, hk, rfl, htake, hbel⟩ := hrel
      have HT := Lib.hid htake; clear htake
      by_cases hlt : k < n
      · obtain ⟨b, off, es, hkl, rfl, hb, hc, hr⟩ := h.at_ hlt
        obtain ⟨b', off', es', hkl', rfl, hb', hc', hr'⟩ := h'.at_ (i := k) (by omega)
        have c0 := hc 0 (by decide)
        have c0' := hc' 0 (by decide)
        obtain ⟨hr, -⟩ := hr
        obtain ⟨hr', -⟩ := hr'
        subst hr hr'
        have e13 : Shape.str.size = 1 := rfl
        simp only [e13, Nat.mul_one, Nat.add_zero, List.getElem?_cons_zero] at c0 c0'
        clear e13
        rw [← hbel.cell (p := ⟨b, off + k, none⟩) hb] at c0
        rw [← hbel.cell (p := ⟨b', off' + k, none⟩) hb'] at c0'
        have hb2 := Nat.lt_of_lt_of_le hb hbel.size
        have hb2' := Nat.lt_of_lt_of_le hb' hbel.size
        have hks : (k : Int) < n := by omega
        skip
        clear hc hc'
        by_cases heq : l[k] = l'[k]
        · have hne := str_eq' heq
          have HE := Lib.hid heq; clear heq
          go_wp2
          refine wp_region_over (by kernel_rfl) (by kernel_rfl) ?_
          repeat (go_big_quiet_step (fail))
          refine wpQuiet_nil ?_
          rintro _ ⟨δ', rfl⟩
          go_wp2
          go_roundw
          case rel =>
            refine ⟨k + 1, by omega, by go_num, ?_, below_trans_over hbel hbel.size _⟩
            rw [List.take_succ_eq_append_getElem hkl, List.take_succ_eq_append_getElem hkl', HT.out, HE.out]
          case measure => simp [intOf]; omega
        · have hne := str_ne heq
          have HE := Lib.hid heq; clear heq
          go_wp2
          refine wp_region_over (by kernel_rfl) (by kernel_rfl) ?_
          repeat (go_big_quiet_step (fail))
          refine wpQuiet_nil ?_
          rintro _ ⟨δ', rfl⟩
          go_wp2
          go_ret
          refine ⟨ret_bool ?_, exists_over (below_trans_over hbel hbel.size _)⟩
          rw [eq_comm, decide_eq_false_iff_not]
          intro e
          apply HE.out
          simp only [e]
      · go_wp2
        go_ret
        refine ⟨ret_bool ?_, exists_over hbel⟩
        rw [eq_comm, decide_eq_true_iff]
        have h1 := HT.out
        have hkn : k = n := by omega
        subst hkn
        rw [List.take_of_length_le (by rw [HL.out]; omega), List.take_of_length_le (by rw [HL'.out]; omega)] at h1
        exact h1
  · have hb0 : ((n : Int) != n') = true := by simp; omega
    have e : (decide (l = l')) = false := by rw [decide_eq_false_iff_not]; rintro rfl; omega
    have E := Lib.hid e; clear e hl hl' hnn
    go_enter Tryd.func9, Tryd.ntmps9
    go_wp2_with fail
    go_ret
    exact ⟨ret_bool E.out.symm, exists_over (Below.refl _ _)⟩

theorem copyTexts {A : Option Addr} {n c : Nat} {l : List ByteArray} (w : World) (h : Row Shape.str w (Old w) A n l) (hn : n ≤ 1000000000000) :
    Calls Tryd.prog 21 #[.slice A n c] w fun e w' => ∃ v δ, e = .returned v ∧ w' = over w δ ∧ Own Shape.str 9 w' w.heap.size (fun _ => False) v l := by
  have hs := (Row.src (h.keep (Keeps.old_alloc w (.cells #[] 9)))).flat (M' := fun _ => False) flat_str
  have hl := Nat.le_of_eq h.1
  go_enter Tryd.func21, Tryd.ntmps21
  go_wp2_with (first
    | (at_builtin
       refine wpList_append_list (v := .slice (some ⟨w.heap.size, 0, none⟩) 0 0) rfl (.tmp 5) (.tmp 6) _ rfl elem_strS rfl (Own.made Shape.str _ w _ (Nat.le_refl _)) rfl hs (fun _ h => h.elim) ?_ ?_ ?_ ?_
       · simp; omega
       · simp [maxLen]; omega
       · simp
       intro v' w1 hown hg hat))
  go_ret
  have hb : Below w.heap.size w w1 := ((Below.refl _ _).alloc (Nat.le_refl _) _).grown hg (by simp) (by simp [Value.ownBlock])
  have e := over_of_below hb
  rw [e] at hown ⊢
  exact ⟨v', _, rfl, rfl, by simpa using hown⟩

theorem copyT {A : Option Addr} {n c : Nat} {l : List ByteArray} (w : World) (h : Row Shape.str w (Old w) A n l) (hn : n ≤ 1000000000) :
    Calls Tryd.prog 21 #[.slice A n c] w fun e w' => ∃ v, e = .returned v ∧ Own Shape.str 9 w' w.heap.size (fun _ => False) v l ∧ Below w.heap.size w w' :=
  (copyTexts w h (by omega)).mono fun _ _ ⟨v, _, h1, h2, h3⟩ => ⟨v, h1, h3, by rw [h2]; exact below_over _ _⟩
theorem whole_ent : Whole Tryd.prog 26 11 := ⟨by kernel_rfl, by kernel_rfl⟩
theorem whole_cfg : Whole Tryd.prog 29 13 := ⟨by kernel_rfl, by kernel_rfl⟩
set_option maxHeartbeats 1000000 in
set_option maxRecDepth 100000 in
theorem copyEntry {e : EntryD} {A : Option Addr} {n cd : Nat} (w : World) (h : Row Shape.byte w (Old w) A n e.data) (hn : n ≤ 1000000000) :
    Calls Tryd.prog 5 #[.agg (entC e A n cd)] w fun en w' => ∃ A' n' c', n' ≤ c' ∧ en = .returned (.agg (entC e A' n' c')) ∧ Row Shape.byte w' (New w w') A' n' e.data ∧ Below w.heap.size w w' := by
  unfold entC
  go_enter Tryd.func5, Tryd.ntmps5
  go_wp2_with fail
  refine (copyB (c := cd) _ (h.below ?_) hn).mono ?_
  · go_grown
  rintro en u ⟨v, rfl, hown, hu⟩
  obtain ⟨b1, b2, hbw, hsz⟩ := blks2 hu
  clear hu
  obtain ⟨A', m, c', rfl, hmc, _, hrow'⟩ := hown.rd_from (B := w.heap.size + 2) (by simp) (fun _ h => h.elim)
  have HR := Lib.hid hrow'
  have j10 := b1.cell 10; have jf10 := b1.frozen 10
  simp only [List.getElem?_toArray, List.getElem?_cons_succ, List.getElem?_cons_zero] at j10
  have HM := Lib.hid hmc; have HBW := Lib.hid hbw; have HSZ := Lib.hid hsz
  have B1 := Lib.hid (b1.set_ 10 (.slice A' m c')); have B2 := Lib.hid (b2.far (p := ⟨w.heap.size, 10, none⟩) (show w.heap.size + 1 ≠ w.heap.size by omega) (.slice A' m c'))
  have lt1 := b1.lt
  clear hown hrow' hmc hbw hsz b1 b2
  go_wp2_with (first
    | ((with_reducible refine at_load (ty := 26) (x := .tmp 1) ?_ ?_); exact rfl; refine wpList_load_blk rfl 26 (.tmp 1) rfl _ rfl B1.out whole_ent ?_)
    | ((with_reducible refine at_store (ty := 26) (x := .tmp 2) (y := .tmp 7) ?_ ?_); exact rfl; refine wpList_store_blk rfl 26 (.tmp 2) (.tmp 7) rfl _ rfl B2.out rfl (by kernel_rfl) rfl rfl ?_; intro w99 b99 g99))
  have hs := g99.size
  have hsz := HSZ.out
  refine ret_blk rfl rfl b99 whole_ent rfl ⟨A', m, c', HM.out, rfl, ?_, ?_⟩
  · refine (HR.out.keep ((Keeps.set u ⟨w.heap.size, 10, none⟩ (.slice A' m c') ?_).trans (Keeps.grown g99 ?_))).more ?_
    · rintro n ⟨h1, h2⟩; simp; omega
    · rintro n ⟨h1, h2⟩; simp [World.setCell]; omega
    · rintro n ⟨h1, h2⟩; exact ⟨by omega, Nat.lt_of_lt_of_le h2 (by simpa [World.setCell] using hs)⟩
  · exact Below.trans (HBW.out.setCell (p := ⟨w.heap.size, 10, none⟩) (Nat.le_refl _) (.slice A' m c')) ((Below.refl _ _).grown g99 (by simp; omega) (by simp))
def CopyCfgEnd (d : ConfigD) (w : World) (en : Ending) (w' : World) : Prop := ∃ B1 m1 d1 B2 m2 d2, m1 ≤ d1 ∧ m2 ≤ d2 ∧ en = .returned (.agg (cfgC d B1 m1 d1 B2 m2 d2)) ∧ Row Shape.str w' (New w w') B1 m1 d.include_ ∧ Row Shape.str w' (New w w') B2 m2 d.exclude ∧ Below w.heap.size w w'
set_option maxHeartbeats 1000000 in
set_option maxRecDepth 100000 in
theorem copyConfig {d : ConfigD} {A1 : Option Addr} {n1 c1 : Nat} {A2 : Option Addr} {n2 c2 : Nat} (w : World) (h1 : Row Shape.str w (Old w) A1 n1 d.include_) (h2 : Row Shape.str w (Old w) A2 n2 d.exclude) (hn1 : n1 ≤ 1000000000) (hn2 : n2 ≤ 1000000000) :
    Calls Tryd.prog 6 #[.agg (cfgC d A1 n1 c1 A2 n2 c2)] w (CopyCfgEnd d w) := by
  unfold cfgC
  have H2 := Lib.hid h2
  clear h2
  go_enter Tryd.func6, Tryd.ntmps6
  go_wp2_with fail
  refine (copyT (c := c1) _ (h1.below ?_) hn1).mono ?_
  · go_grown
  rintro en u ⟨v, rfl, hown, hu⟩
  obtain ⟨b1, b2, hbw, hsz⟩ := blks2 hu
  clear hu
  obtain ⟨A', m, c', rfl, hmc, _, hrow'⟩ := hown.rd_from (B := w.heap.size + 2) (by simp) (fun _ h => h.elim)
  have HR := Lib.hid hrow'
  have j10 := b1.cell 11; have jf10 := b1.frozen 11; have j11 := b1.cell 12
  simp only [List.getElem?_toArray, List.getElem?_cons_succ, List.getElem?_cons_zero] at j10 j11
  have HM := Lib.hid hmc; have HBW := Lib.hid hbw; have HSZ := Lib.hid hsz
  have C1 : Hid (Blk (u.setCell ⟨w.heap.size, 11, none⟩ (.slice A' m c')) w.heap.size 29 #[.int .i64 d.maxEntries, .int .i64 d.maxBytes, .int .i64 d.maxDepth, .int .i64 d.maxName, .int .i64 d.maxPax, .int .i64 d.strip, .int .i64 d.links, .int .i64 d.replace, .int .i64 d.umask, .bool d.keepSetid, .bool d.keepIds, .slice A' m c', .slice A2 n2 c2]) := Lib.hid ((b1.set_ 11 (.slice A' m c')).to rfl)
  have C2 := Lib.hid (b2.far (p := ⟨w.heap.size, 11, none⟩) (show w.heap.size + 1 ≠ w.heap.size by omega) (.slice A' m c'))
  have HBU := Lib.hid (HBW.out.setCell (p := ⟨w.heap.size, 11, none⟩) (Nat.le_refl _) (.slice A' m c'))
  have KU : Hid (Turned w.heap.size u (u.setCell ⟨w.heap.size, 11, none⟩ (.slice A' m c'))) := Lib.hid (turned_cell _ _ _ _)
  have lt1 := b1.lt
  clear hown hrow' hmc hbw hsz b1 b2 h1
  go_wp2_with fail
  clear j10 jf10 j11 lt1
  generalize u.setCell ⟨w.heap.size, 11, none⟩ (.slice A' m c') = u1 at C1 C2 HBU KU ⊢
  refine (copyT (c := c2) _ (H2.out.below HBU.out) hn2).mono ?_
  rintro en u2 ⟨v2, rfl, hown2, hu2⟩
  obtain ⟨A'', m2, c'', rfl, hmc2, _, hrow2⟩ := hown2.rd_from (B := u1.heap.size) (Nat.le_refl _) (fun _ h => h.elim)
  have HR2 := Lib.hid hrow2
  have b1 := C1.out.below hu2 C1.out.lt; have b2 := C2.out.below hu2 C2.out.lt
  have j10 := b1.cell 12; have jf10 := b1.frozen 12
  simp only [List.getElem?_toArray, List.getElem?_cons_succ, List.getElem?_cons_zero] at j10
  have B1 := Lib.hid (b1.set_ 12 (.slice A'' m2 c'')); have B2 := Lib.hid (b2.far (p := ⟨w.heap.size, 12, none⟩) (show w.heap.size + 1 ≠ w.heap.size by omega) (.slice A'' m2 c''))
  have HB2 := Lib.hid (below_old HBU.out hu2)
  have lt1 := b1.lt
  have HU2 := Lib.hid hu2; have HM2 := Lib.hid hmc2
  clear hown2 hrow2 hmc2 hu2 b1 b2 C1 C2
  go_wp2_with (first
    | ((with_reducible refine at_load (ty := 29) (x := .tmp 1) ?_ ?_); exact rfl; refine wpList_load_blk rfl 29 (.tmp 1) rfl _ rfl B1.out whole_cfg ?_)
    | ((with_reducible refine at_store (ty := 29) (x := .tmp 2) (y := .tmp 11) ?_ ?_); exact rfl; refine wpList_store_blk rfl 29 (.tmp 2) (.tmp 11) rfl _ rfl B2.out rfl (by kernel_rfl) rfl rfl ?_; intro w99 b99 g99))
  have hs := g99.size
  have hsz := HSZ.out
  have hs1 := KU.out.size
  have hs2 := HU2.out.size
  have hs' : u2.heap.size ≤ w99.heap.size := by simpa [World.setCell] using hs
  refine ret_blk rfl rfl b99 whole_cfg rfl ⟨A', m, c', A'', m2, c'', HM.out, HM2.out, rfl, ?_, ?_, ?_⟩
  · refine (HR.out.keep (fun b hb => ?_)).more ?_
    · have hb1 := hb.1
      have hb2 := hb.2
      exact ((Keeps.trans (Keeps.set u2 ⟨w.heap.size, 12, none⟩ (.slice A'' m2 c'') (M := fun b => w.heap.size + 2 ≤ b ∧ b < u.heap.size) (by rintro n ⟨h1, h2⟩; simp; omega)) (Keeps.grown g99 (by rintro n ⟨h1, h2⟩; simp [World.setCell]; omega))) b ⟨hb1, hb2⟩).trans ((HU2.out.block b (by omega)).trans (KU.out.block b (by omega)))
    · rintro n ⟨h1, h2⟩; exact ⟨by omega, by omega⟩
  · refine (HR2.out.keep ((Keeps.set u2 ⟨w.heap.size, 12, none⟩ (.slice A'' m2 c'') ?_).trans (Keeps.grown g99 ?_))).more ?_
    · rintro n ⟨h1, h2⟩; simp; omega
    · rintro n ⟨h1, h2⟩; simp [World.setCell]; omega
    · rintro n ⟨h1, h2⟩; exact ⟨by omega, by omega⟩
  · exact Below.trans (HB2.out.setCell (p := ⟨w.heap.size, 12, none⟩) (Nat.le_refl _) (.slice A'' m2 c'')) ((Below.refl _ _).grown g99 (by simp; omega) (by simp))
set_option maxHeartbeats 4000000 in
set_option maxRecDepth 100000 in
theorem sameEntry_eq {e : EntryD} {A A' : Option Addr} {n c n' c' : Nat} (w : World) (h : Row Shape.byte w (Old w) A n e.data) (h' : Row Shape.byte w (Old w) A' n' e.data) (hn : n ≤ 140737488355328) :
    Calls Tryd.prog 8 #[.agg (entC e A n c), .agg (entC e A' n' c')] w fun en w' => en = .returned (.bool true) ∧ ∃ δ, w' = over w δ := by
  have e0 : n = n' := h.1.symm.trans h'.1
  subst e0
  unfold entC
  have HS := Lib.hid (fun W (hb : Below w.heap.size w W) => sameBytes (c := c) (c' := c') W (h.below hb) (h'.below hb) hn hn)
  simp only [decide_true] at HS
  clear h h'
  go_enter Tryd.func8, Tryd.ntmps8
  go_wp2_with (first | (go_at_call 10; refine (HS.out _ (by go_grown)).mono ?_; rintro en w1 ⟨rfl, δ, hu⟩))
  go_ret
  subst hu
  exact ⟨rfl, exists_over (by first | (refine below_trans_over ?_ ?_ _ <;> first | (go_grown; done) | (simp <;> omega)) | go_grown)⟩
end Go.Proofs.YtjknjmlpnjifkaaDoor
namespace Go.Proofs.YtjknjmlpnjifkaaDoor
open Go.RowKit
set_option linter.unusedVariables false
set_option linter.unusedSimpArgs false
theorem door_max {W : World} (h : W.ShapedOpen Tryd.prog) : ∃ n, W.cell? ⟨0, 0, none⟩ = some (.int .i64 n) :=
  cell_of_shapedOpen_int (g := 0) (t := 3) (zero := #[.int .i64 0]) (k := .i64) h (by decide +kernel) (by kernel_rfl) rfl (by kernel_rfl) (by kernel_rfl) Tryd.underlying3
def cellsOfD : Nat → DataW Unit → List Value
  | 0, _ => []
  | _ + 1, .lit (.int k n) => [.int k n]
  | f + 1, .agg l => l.flatMap (cellsOfD f)
  | _, _ => []
noncomputable def layAll : List (Nat × DataW Unit) → World → World
  | [], w => w
  | (g, d) :: r, w => layAll r { w with heap := w.heap.modify g fun
      | .cells _ t frozen => .cells (cellsOfD 4 d).toArray t frozen
      | o => o }
noncomputable def laidWorld (os : Os) : World := layAll [(1, Rows.laid_unicode_utf8_first)] (World.doorLaid Tryd.prog 4000 os)
theorem dec_in {e : EntryD} {c : ConfigD} {w : World} {A A1 A2 : Option Addr} {n n1 n2 x y : Nat} (h : Row Shape.byte w (Old w) A n e.data) (h1 : Row Shape.str w (Old w) A1 n1 c.include_) (h2 : Row Shape.str w (Old w) A2 n2 c.exclude)
    (hx : Shape.EntryD.bulk e ≤ x) (hy : Shape.ConfigD.bulk c ≤ y) (hxy : x + y ≤ 1048576) : DecIn e c w A n A1 n1 A2 n2 := by
  have l1 := len_bulk Shape.byte e.data
  have l2 := len_bulk Shape.str c.include_
  have l3 := len_bulk Shape.str c.exclude
  have a1 := h.1; have a2 := h1.1; have a3 := h2.1
  have hx' : Shape.int.bulk e.kind + Shape.str.bulk e.name + Shape.str.bulk e.link + Shape.int.bulk e.mode + Shape.int.bulk e.uid + Shape.int.bulk e.gid + Shape.str.bulk e.user + Shape.str.bulk e.group + Shape.TimeD.bulk e.mtime + (Shape.slice Shape.byte).bulk e.data + 1 ≤ x := hx
  have s1 : Shape.str.bulk e.name = e.name.size + 1 := rfl
  have s2 : Shape.str.bulk e.link = e.link.size + 1 := rfl
  have s3 : (Shape.slice Shape.byte).bulk e.data = bulkAll Shape.byte.bulk e.data + 1 := rfl
  have s4 : (Shape.slice Shape.str).bulk c.include_ = bulkAll Shape.str.bulk c.include_ + 1 := rfl
  have s5 : (Shape.slice Shape.str).bulk c.exclude = bulkAll Shape.str.bulk c.exclude + 1 := rfl
  have t4 : (Shape.slice Shape.str).bulk c.include_ ≤ Shape.ConfigD.bulk c := by simp only [Shape.ConfigD]; omega
  have t5 : (Shape.slice Shape.str).bulk c.exclude ≤ Shape.ConfigD.bulk c := by simp only [Shape.ConfigD]; omega
  exact ⟨h, h1, h2, by omega, by omega, by omega, by omega, by omega⟩
end Go.Proofs.YtjknjmlpnjifkaaDoor
