/- Copies and comparisons of calls. No condition but room. -/
import Derived.Test.YtphloeafgblmnaaBytes
import Derived.BigGuardPart
namespace Go.Proofs.Ytphloeafgblmnaa
open Go.RowKit
attribute [local go_sem] cell?_over frozen?_over lt_over le_over

theorem copyCall {cs : List Value} {d : CallD} (w : World) (h : CallD.rd w (Old w) cs d) (hn : d.data.length ≤ 140737488355328) :
    Calls Try.prog 32 #[.agg cs.toArray] w fun e w' => ∃ cs' δ, e = .returned (.agg cs'.toArray) ∧ w' = over w δ ∧ CallD.rd w' (New w w') cs' d := by
  obtain ⟨A, n, c, rfl, i0, i1, i2, s3, s4, hnc, hcm, hrow, i6, i7, i8, i9, i10, i11, i12⟩ := h
  have hn' : n ≤ 140737488355328 := by have := hrow.1; omega
  go_enter Try.func32, Try.ntmps32
  go_wp2_with fail
  refine (copyBytes _ (hrow.below ?_) hn').mono ?_
  · go_grown
  rintro e u ⟨v, δ, rfl, hu, hown⟩
  obtain ⟨b1, b2, hbw, hsz⟩ := blks2 (below_of hu)
  clear hu
  have hrd := hown.rd_from (B := w.heap.size + 2) (by simp) (fun _ h => h.elim)
  obtain ⟨A', m, c', rfl, hmc, hcm', hrow'⟩ := hrd
  have k1 := b1.cell; have k2 := b2.cell; have f1 := b1.frozen; have f2 := b2.frozen
  have HR := Lib.hid hrow'; clear hrow'
  have g1 := b1.ne_ b2
  go_wp2_with (first
    | (refine wpList_store_blk rfl 74 (.tmp 2) (.tmp 7) rfl _ rfl (b2.far ?_ _) ?_ ?_ ?_ ?_ ?_
       · simp
       · rfl
       · kernel_rfl
       · rfl
       · rfl
       intro u2 b3 hg3))
  refine ret_blk rfl rfl b3 whole_CallD rfl ?_
  have e := Below.trans (hbw.setCell (p := ⟨w.heap.size, 5, none⟩) (Nat.le_refl _) (.slice A' m c')) ((Below.refl _ _).grown hg3 (by simp; omega) (by simp))
  refine ⟨[.int .i64 d.op, .int .i64 d.handle, .int .i64 d.other, .string d.name, .string d.text, .slice A' m c', .int .i64 d.mode, .int .i64 d.uid, .int .i64 d.gid, .int .i64 d.mtime.sec, .int .i64 d.mtime.nano, .int .i64 d.code, .int .i64 d.answer], _, ?_, over_of_below e, ?_⟩
  · rfl
  · refine ⟨A', m, c', rfl, i0, i1, i2, s3, s4, hmc, hcm', ?_, i6, i7, i8, i9, i10, i11, i12⟩
    refine (HR.out.keep ((Keeps.set u ⟨w.heap.size, 5, none⟩ (.slice A' m c') ?_).trans (Keeps.grown hg3 ?_))).more ?_
    · rintro n ⟨h1, h2⟩; simp; omega
    · rintro n ⟨h1, h2⟩; simp [World.setCell]; omega
    · rintro n ⟨h1, h2⟩; exact ⟨by omega, Nat.lt_of_lt_of_le h2 (by have := hg3.size; simpa [World.setCell] using this)⟩

set_option maxHeartbeats 4000000 in
set_option maxRecDepth 100000 in
theorem sameCall_eq {cs cs' : List Value} {d d' : CallD} (w : World) (h : CallD.rd w (Old w) cs d) (h' : CallD.rd w (Old w) cs' d') (hn : d.data.length ≤ 140737488355328) (hn' : d'.data.length ≤ 140737488355328) (e0 : d.op = d'.op) (e1 : d.handle = d'.handle) (e2 : d.other = d'.other) (e3 : d.name = d'.name) (e4 : d.text = d'.text) (e5 : d.mode = d'.mode) (e6 : d.uid = d'.uid) (e7 : d.gid = d'.gid) (e8 : d.mtime.sec = d'.mtime.sec) (e9 : d.mtime.nano = d'.mtime.nano) (e10 : d.code = d'.code) (e11 : d.answer = d'.answer) (e12 : d.data = d'.data) :
    Calls Try.prog 34 #[.agg cs.toArray, .agg cs'.toArray] w fun e w' => e = .returned (.bool true) ∧ ∃ δ, w' = over w δ := by
  obtain ⟨A, n, c, rfl, -, -, -, -, -, -, -, hrow, -⟩ := h
  obtain ⟨A', n', c', rfl, -, -, -, -, -, -, -, hrow', -⟩ := h'
  rw [hrow.1] at hn
  rw [hrow'.1] at hn'
  have HR := Lib.hid hrow; have HR' := Lib.hid hrow'; clear hrow hrow'
  rw [← e0, ← e1, ← e2, ← e3, ← e4, ← e5, ← e6, ← e7, ← e8, ← e9, ← e10, ← e11]
  have Cdata : decide (d.data = d'.data) = true := decide_eq_true e12
  have Kdata := Lib.hid Cdata; clear Cdata
  clear e0 e1 e2 e3 e4 e5 e6 e7 e8 e9 e10 e11 e12
  go_enter Try.func34, Try.ntmps34
  go_wp2_with (first | (go_at_call 41; refine (sameBytes _ (HR.out.below (by go_grown)) (HR'.out.below (by go_grown)) hn hn').mono ?_; rintro e w1 ⟨rfl, δ, hu⟩; rw [Kdata.out]))
  go_ret
  exact ⟨rfl, exists_over (by first | (refine below_trans_over ?_ ?_ _ <;> first | (go_grown; done) | (simp <;> omega)) | go_grown)⟩

/-- so many bytes in each datum at the most -/
def SmallCalls (l : List CallD) : Prop := ∀ d ∈ l, d.data.length ≤ 140737488355328
set_option maxHeartbeats 1000000 in
theorem sameCalls_eq {A A' : Option Addr} {n c c' : Nat} {l : List CallD} (w : World) (h : Row Shape.CallD w (Old w) A n l) (h' : Row Shape.CallD w (Old w) A' n l) (hs : SmallCalls l) (hn : n ≤ 140737488355328) :
    Calls Try.prog 12 #[.slice A n c, .slice A' n c'] w fun e w' => e = .returned (.bool true) ∧ ∃ δ, w' = over w δ := by
  have HL := Lib.hid h.1
  go_enter Try.func12, Try.ntmps12
  go_wp2_with fail
  go_loopw [5] (fun i wr => ∃ k : Nat, k ≤ n ∧ i = .int .i64 k ∧ Below w.heap.size w wr) (fun i _ => n - (intOf i).toNat)
  case atStart => exact ⟨0, Nat.zero_le _, rfl, Below.refl _ _⟩
  case round =>
    obtain ⟨k, hk, rfl, hbel⟩ := hrel
    by_cases hlt : k < n
    · obtain ⟨b, off, es, hkl, rfl, hb, hc, hc0, hr⟩ := h.elem (Keeps.old hbel) hlt
      obtain ⟨b', off', es', _, rfl, hb', hc', hc0', hr'⟩ := h'.elem (Keeps.old hbel) hlt
      have hsm := hs _ (List.getElem_mem hkl)
      have hr2 : CallD.rd wr (Old wr) es l[k] := Shape.CallD.more hr fun _ hn => Old.below hbel hn
      have hr2' : CallD.rd wr (Old wr) es' l[k] := Shape.CallD.more hr' fun _ hn => Old.below hbel hn
      have R := Lib.hid hr2; have R' := Lib.hid hr2'; clear hr2 hr2'
      obtain ⟨_, _, _, rfl, -⟩ := hr
      obtain ⟨_, _, _, rfl, -⟩ := hr'
      have e13 : Shape.CallD.size = 13 := rfl
      simp only [e13] at hc hc0 hc' hc0'
      clear e13
      have hb2 := Nat.lt_of_lt_of_le hb hbel.size
      have hb2' := Nat.lt_of_lt_of_le hb' hbel.size
      have hks : (k : Int) < n := by omega
      go_wp2
      refine wp_region_over (by kernel_rfl) (by kernel_rfl) ?_
      repeat (go_big_quiet_step (first | (go_at_call 34; exact calls_over (sameCall_eq _ (Shape.CallD.below R.out (below_over _ _)) (Shape.CallD.below R'.out (below_over _ _)) hsm hsm rfl rfl rfl rfl rfl rfl rfl rfl rfl rfl rfl rfl rfl))))
      refine wpQuiet_nil ?_
      rintro _ ⟨δ', rfl⟩
      go_wp2
      go_roundw
      case rel => exact ⟨k + 1, by omega, by go_num, below_trans_over hbel hbel.size _⟩
      case measure => simp [intOf]; omega
    · go_wp2
      go_ret
      exact ⟨rfl, exists_over hbel⟩
end Go.Proofs.Ytphloeafgblmnaa
