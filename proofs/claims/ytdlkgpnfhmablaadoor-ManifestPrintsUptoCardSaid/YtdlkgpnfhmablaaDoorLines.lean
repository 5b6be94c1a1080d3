/- Copies and comparisons of lists of lines. No condition but room. -/
import Derived.Test.YtdlkgpnfhmablaaDoorSameLine
namespace Go.Proofs.YtdlkgpnfhmablaaDoor
open Go.RowKit
set_option linter.unusedVariables false
set_option linter.unusedSimpArgs false
attribute [local go_sem] cell?_over frozen?_over lt_over le_over
theorem copyLine {cs : List Value} {d : LineD} (w : World) (h : LineD.rd w (Old w) cs d) (hn : d.data.length ≤ 140737488355328) :
    Calls Tryd.prog 9 #[.agg cs.toArray] w fun e w' => ∃ cs' δ, e = .returned (.agg cs'.toArray) ∧ w' = over w δ ∧ LineD.rd w' (New w w') cs' d := by
  obtain ⟨A, n, c, rfl, s0, i1, i2, i3, i4, i5, i6, hnc, hcm, hrow, s8, s9⟩ := h
  have hn' : n ≤ 140737488355328 := by have := hrow.1; omega
  go_enter Tryd.func9, Tryd.ntmps9
  go_wp2_with fail
  refine (copyBytes _ (hrow.below ?_) hn').mono ?_
  · go_grown
  rintro e u ⟨v, δ, rfl, hu, hown⟩
  obtain ⟨b1, b2, hbw, hsz⟩ := blks2 (below_of hu)
  clear hu
  have hrd := hown.rd_from (B := w.heap.size + 2) (by simp) (fun _ h => h.elim)
  obtain ⟨A', m, c', rfl, hmc, hcm', hrow'⟩ := hrd
  have k1 := b1.cell; have k2 := b2.cell; have f1 := b1.frozen; have f2 := b2.frozen
  have HR := Lib.hid hrow'; clear hrow'
  have g1 := b1.ne_ b2
  go_wp2_with (first
    | (refine wpList_store_blk rfl 34 (.tmp 2) (.tmp 7) rfl _ rfl (b2.far ?_ _) ?_ ?_ ?_ ?_ ?_
       · simp
       · rfl
       · kernel_rfl
       · rfl
       · rfl
       intro u2 b3 hg3))
  refine ret_blk rfl rfl b3 whole_LineD rfl ?_
  have e := Below.trans (hbw.setCell (p := ⟨w.heap.size, 7, none⟩) (Nat.le_refl _) (.slice A' m c')) ((Below.refl _ _).grown hg3 (by simp; omega) (by simp))
  refine ⟨[.string d.path, .int .i64 d.kind, .int .i64 d.mode, .int .i64 d.uid, .int .i64 d.gid, .int .i64 d.mtime.sec, .int .i64 d.mtime.nano, .slice A' m c', .string d.target, .string d.peer], _, ?_, over_of_below e, ?_⟩
  · rfl
  · refine ⟨A', m, c', rfl, s0, i1, i2, i3, i4, i5, i6, hmc, hcm', ?_, s8, s9⟩
    refine (HR.out.keep ((Keeps.set u ⟨w.heap.size, 7, none⟩ (.slice A' m c') ?_).trans (Keeps.grown hg3 ?_))).more ?_
    · rintro n ⟨h1, h2⟩; simp; omega
    · rintro n ⟨h1, h2⟩; simp [World.setCell]; omega
    · rintro n ⟨h1, h2⟩; exact ⟨by omega, Nat.lt_of_lt_of_le h2 (by have := hg3.size; simpa [World.setCell] using this)⟩
set_option maxHeartbeats 1000000 in
theorem sameLines_eq {A A' : Option Addr} {n c c' : Nat} {l : List LineD} (w : World) (h : Row Shape.LineD w (Old w) A n l) (h' : Row Shape.LineD w (Old w) A' n l) (hs : SmallL l) (hn : n ≤ 140737488355328) :
    Calls Tryd.prog 8 #[.slice A n c, .slice A' n c'] w fun e w' => e = .returned (.bool true) ∧ ∃ δ, w' = over w δ := by
  have HL := Lib.hid h.1
  go_enter Tryd.func8, Tryd.ntmps8
  go_wp2_with fail
  go_loopw [5] (fun i wr => ∃ k : Nat, k ≤ n ∧ i = .int .i64 k ∧ Below w.heap.size w wr) (fun i _ => n - (intOf i).toNat)
  case atStart => exact ⟨0, Nat.zero_le _, rfl, Below.refl _ _⟩
  case round =>
    obtain ⟨k, hk, rfl, hbel⟩ := hrel
    by_cases hlt : k < n
    · obtain ⟨b, off, es, hkl, rfl, hb, hc, hc0, hr⟩ := h.elem (Keeps.old hbel) hlt
      obtain ⟨b', off', es', _, rfl, hb', hc', hc0', hr'⟩ := h'.elem (Keeps.old hbel) hlt
      have hsm := hs _ (List.getElem_mem hkl)
      have hr2 : LineD.rd wr (Old wr) es l[k] := Shape.LineD.more hr fun _ hn => Old.below hbel hn
      have hr2' : LineD.rd wr (Old wr) es' l[k] := Shape.LineD.more hr' fun _ hn => Old.below hbel hn
      have R := Lib.hid hr2; have R' := Lib.hid hr2'; clear hr2 hr2'
      obtain ⟨_, _, _, rfl, -⟩ := hr
      obtain ⟨_, _, _, rfl, -⟩ := hr'
      have e13 : Shape.LineD.size = 10 := rfl
      simp only [e13] at hc hc0 hc' hc0'
      clear e13
      have hb2 := Nat.lt_of_lt_of_le hb hbel.size
      have hb2' := Nat.lt_of_lt_of_le hb' hbel.size
      have hks : (k : Int) < n := by omega
      have SL : ∀ δ, Calls Tryd.prog 16 _ (over wr δ) _ := fun δ => sameLine (over wr δ) (Shape.LineD.below R.out (below_over _ _)) (Shape.LineD.below R'.out (below_over _ _)) hsm hsm
      simp only [decide_true] at SL
      have HSL := Lib.hid SL; clear SL
      go_wp2
      refine wp_region_over (by kernel_rfl) (by kernel_rfl) ?_
      repeat (go_big_quiet_step (first | (go_at_call 16; exact calls_over (HSL.out _))))
      refine wpQuiet_nil ?_
      rintro _ ⟨δ', rfl⟩
      go_wp2
      go_roundw
      case rel => exact ⟨k + 1, by omega, by go_num, below_trans_over hbel hbel.size _⟩
      case measure => simp [intOf]; omega
    · go_wp2
      go_ret
      exact ⟨rfl, exists_over hbel⟩
set_option maxRecDepth 100000 in
set_option maxHeartbeats 1000000 in
theorem copyLines {A : Option Addr} {n c : Nat} {l : List LineD} (w : World) (h : Row Shape.LineD w (Old w) A n l) (hs : SmallL l) (hn : n ≤ 1000000000000) :
    Calls Tryd.prog 5 #[.slice A n c] w fun e w' => ∃ v δ M, e = .returned v ∧ w' = over w δ ∧ Own Shape.LineD 34 w' w.heap.size M v l ∧ ∀ n, M n → w.heap.size ≤ n := by
  have HL := Lib.hid h.1
  go_enter Tryd.func5, Tryd.ntmps5
  go_wp2_with fail
  go_loopw [3, 4] (fun v i wr => ∃ (k : Nat) (M : Nat → Prop), k ≤ n ∧ i = .int .i64 k ∧ Below w.heap.size w wr ∧ Own Shape.LineD 34 wr w.heap.size M v (l.take k) ∧ ∀ n, M n → w.heap.size ≤ n) (fun _ i _ => n - (intOf i).toNat)
  case atStart => exact ⟨0, fun _ => False, Nat.zero_le _, rfl, (Below.refl _ _).alloc (Nat.le_refl _) _, Own.made Shape.LineD _ w _ (Nat.le_refl _), fun _ h => h.elim⟩
  case round =>
    obtain ⟨k, M, hk, rfl, hbel, hown, hM⟩ := hrel
    by_cases hlt : k < n
    · obtain ⟨b, off, es, hkl, rfl, hb, hc, hc0, hr⟩ := h.elem (Keeps.old hbel) hlt
      have hsm := hs _ (List.getElem_mem hkl)
      have hr2 : LineD.rd wr (Old wr) es l[k] := Shape.LineD.more hr fun _ hn => Old.below hbel hn
      have R := Lib.hid hr2; clear hr2
      obtain ⟨_, _, _, rfl, -⟩ := hr
      have e13 : Shape.LineD.size = 10 := rfl
      simp only [e13] at hc hc0
      clear e13
      have hb2 := Nat.lt_of_lt_of_le hb hbel.size
      have hks : (k : Int) < n := by omega
      have hszw := hbel.size
      have O := Lib.hid hown; clear hown
      have HM := Lib.hid hM; clear hM
      have HB := Lib.hid hbel; clear hbel
      go_wp2_with fail
      refine (copyLine _ R.out hsm).mono ?_
      rintro e u ⟨cs', δ, rfl, hu, hrd⟩
      have hbu := below_of hu
      have hszu := hbu.size
      have htk := List.length_take_le k l
      have O2 := O.out.over_ δ
      rw [← hu] at O2
      have hO2 := Lib.hid O2; clear O2 hu
      have R2 := Lib.hid hrd
      obtain ⟨_, _, _, rfl, -⟩ := hrd
      have hlt3 := O.out.lt
      have HL3 := Lib.hid hlt3; clear hlt3
      go_wp2_with (first
        | (at_builtin
           refine wpList_append_list (v := u3) rfl (.tmp 12) (.tmp 18) _ rfl elem_LineD rfl (hO2.out.alloc _) rfl (Src.single (s := Shape.LineD) _ (fun _ h => h.2) R2.out) ?_ ?_ ?_ ?_ ?_
           · intro n hn
             refine ⟨by have := hn.2; simp; omega, fun e => ?_⟩
             have := (HL3.out n e.symm).2
             have := hn.1
             omega
           · simp only [List.length_cons, List.length_nil]; omega
           · simp only [List.length_cons, List.length_nil, maxLen]; omega
           · have := HB.out.size; simp; omega
           intro v' w1 hown' hg hat))
      go_roundw
      case rel =>
        have e : l.take (k + 1) = l.take k ++ [l[k]] := List.take_succ_eq_append_getElem hkl
        refine ⟨k + 1, _, by omega, by go_num, ?_, by rw [e]; exact hown', ?_⟩
        · refine (HB.out.trans (hbu.mono hszw)).alloc (by have := hbu.size; omega) _ |>.grown hg (by have := hbu.size; simp; omega) (fun m hm => (HL3.out m hm).1)
        · rintro n (hn | hn)
          · exact HM.out n hn
          · have := hn.1; omega
      case measure => simp [intOf]; omega
    · go_wp2
      go_ret
      refine ⟨_, _, M, rfl, over_of_below hbel, ?_, hM⟩
      rw [← List.take_of_length_le (l := l) (i := k) (by rw [HL.out]; omega)]
      exact hown
end Go.Proofs.YtdlkgpnfhmablaaDoor
