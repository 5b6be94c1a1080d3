/- slices.Equal at byte lists. No condition but room. manifest's comparison of lines of one path. No condition but room. -/
import Derived.Test.YtkpblhikndennaaGreatDoorSameAll
import Derived.BigGuardPart
namespace Go.Proofs.YtkpblhikndennaaGreatDoor
open Go.RowKit
set_option linter.unusedVariables false
set_option linter.unusedSimpArgs false
attribute [local go_sem] cell?_over frozen?_over lt_over le_over
/-- slices.Equal at byte lists -/
theorem equalBytes {A A' : Option Addr} {n c n' c' : Nat} {l l' : List UInt8} (w : World) (h : Row Shape.byte w (Old w) A n l) (h' : Row Shape.byte w (Old w) A' n' l') (hn : n ≤ 140737488355328) (hn' : n' ≤ 140737488355328) :
    Calls Tryz.prog 71 #[.slice A n c, .slice A' n' c'] w fun e w' => e = .returned (.bool (decide (l = l'))) ∧ ∃ δ, w' = over w δ := by
  have hl := h.1
  have hl' := h'.1
  by_cases hnn : n = n'
  · subst hnn
    have HL := Lib.hid hl; have HL' := Lib.hid hl'; clear hl hl'
    have hb0 : ((n : Int) != n) = false := by simp
    go_enter Tryz.func71, Tryz.ntmps71
    go_wp2_with fail
    go_loopw [13] (fun i wr => ∃ k : Nat, k ≤ n ∧ i = .int .i64 k ∧ l.take k = l'.take k ∧ Below w.heap.size w wr) (fun i _ => n - (intOf i).toNat)
    case atStart => exact ⟨0, Nat.zero_le _, rfl, by simp, Below.refl _ _⟩
    case round =>
      obtain ⟨k, hk, rfl, htake, hbel⟩ := hrel
      have HT := Lib.hid htake; clear htake
      by_cases hlt : k < n
      · obtain ⟨b, off, es, hkl, rfl, hb, hc, hr⟩ := h.at_ hlt
        obtain ⟨b', off', es', hkl', rfl, hb', hc', hr'⟩ := h'.at_ hlt
        have c0 := hc 0 (by decide)
        have c0' := hc' 0 (by decide)
        simp only [Shape.byte] at hr hr' c0 c0'
        subst hr hr'
        simp only [Nat.mul_one, Nat.add_zero, List.getElem?_cons_zero] at c0 c0'
        rw [← hbel.cell (p := ⟨b, off + k, none⟩) hb] at c0
        rw [← hbel.cell (p := ⟨b', off' + k, none⟩) hb'] at c0'
        have hb2 := Nat.lt_of_lt_of_le hb hbel.size
        have hb2' := Nat.lt_of_lt_of_le hb' hbel.size
        have hks : (k : Int) < n := by omega
        clear hc hc'
        by_cases heq : l[k] = l'[k]
        · have hne : ((l[k].toNat : Int) != (l'[k].toNat : Int)) = false := by rw [heq]; simp
          have HE := Lib.hid heq; clear heq
          go_wp2
          refine wp_region_over (by kernel_rfl) (by kernel_rfl) ?_
          repeat (go_big_quiet_step (fail))
          refine wpQuiet_nil ?_
          rintro _ ⟨δ', rfl⟩
          go_wp2
          go_roundw
          case rel =>
            refine ⟨k + 1, by omega, by go_num, ?_, below_trans_over hbel hbel.size _⟩
            rw [List.take_succ_eq_append_getElem hkl, List.take_succ_eq_append_getElem hkl', HT.out, HE.out]
          case measure => simp [intOf]; omega
        · have hne : ((l[k].toNat : Int) != (l'[k].toNat : Int)) = true := by
            simp only [bne_iff_ne, ne_eq, Int.natCast_inj]
            exact fun e => heq (UInt8.toNat_inj.1 e)
          have HE := Lib.hid heq; clear heq
          go_wp2
          refine wp_region_over (by kernel_rfl) (by kernel_rfl) ?_
          repeat (go_big_quiet_step (fail))
          refine wpQuiet_nil ?_
          rintro _ ⟨δ', rfl⟩
          go_wp2
          go_ret
          refine ⟨ret_bool ?_, exists_over (below_trans_over hbel hbel.size _)⟩
          rw [eq_comm, decide_eq_false_iff_not]
          intro e
          apply HE.out
          simp only [e]
      · go_wp2
        go_ret
        refine ⟨ret_bool ?_, exists_over hbel⟩
        rw [eq_comm, decide_eq_true_iff]
        have h1 := HT.out
        rw [List.take_of_length_le (by rw [HL.out]; omega), List.take_of_length_le (by rw [HL'.out]; omega)] at h1
        exact h1
  · have hb0 : ((n : Int) != n') = true := by simp; omega
    have e : decide (l = l') = false := by
      rw [decide_eq_false_iff_not]
      rintro rfl
      omega
    have E := Lib.hid e; clear e hl hl' hnn
    go_enter Tryz.func71, Tryz.ntmps71
    go_wp2_with fail
    go_ret
    exact ⟨ret_bool E.out.symm, exists_over (Below.refl _ _)⟩
end Go.Proofs.YtkpblhikndennaaGreatDoor
namespace Go.Proofs.YtkpblhikndennaaGreatDoor
open Go.RowKit
set_option linter.unusedVariables false
set_option linter.unusedSimpArgs false
attribute [local go_sem] cell?_over frozen?_over lt_over le_over
set_option maxHeartbeats 4000000 in
set_option maxRecDepth 100000 in
theorem manSame_0 {cs cs' : List Value} {d d' : LineD} (w : World) (h : LineD.rd w (Old w) cs d) (h' : LineD.rd w (Old w) cs' d') (hn : d.data.length ≤ 140737488355328) (hn' : d'.data.length ≤ 140737488355328) (hp : d.path = d'.path) (ne : ¬ d.kind = d'.kind) :
    Calls Tryz.prog 40 #[.agg cs.toArray, .agg cs'.toArray] w fun e w' => e = .returned (.bool false) ∧ ∃ δ, w' = over w δ := by
  obtain ⟨A, n, c, rfl, -, -, -, -, -, -, -, -, -, hrow, -⟩ := h
  obtain ⟨A', n', c', rfl, -, -, -, -, -, -, -, -, -, hrow', -⟩ := h'
  rw [hrow.1] at hn
  rw [hrow'.1] at hn'
  have HR := Lib.hid hrow; have HR' := Lib.hid hrow'; clear hrow hrow' hp
  have hk : (d.kind == d'.kind) = false := by simpa using ne
  have NE := Lib.hid ne; clear ne
  go_enter Tryz.func40, Tryz.ntmps40
  go_wp2_with fail
  go_ret
  exact ⟨rfl, exists_over (by first | (refine below_trans_over ?_ ?_ _ <;> first | (go_grown; done) | (simp <;> omega)) | go_grown)⟩
set_option maxHeartbeats 4000000 in
set_option maxRecDepth 100000 in
theorem manSame_1 {cs cs' : List Value} {d d' : LineD} (w : World) (h : LineD.rd w (Old w) cs d) (h' : LineD.rd w (Old w) cs' d') (hn : d.data.length ≤ 140737488355328) (hn' : d'.data.length ≤ 140737488355328) (hp : d.path = d'.path) (e0 : d.kind = d'.kind) (ne : ¬ d.mode = d'.mode) :
    Calls Tryz.prog 40 #[.agg cs.toArray, .agg cs'.toArray] w fun e w' => e = .returned (.bool false) ∧ ∃ δ, w' = over w δ := by
  obtain ⟨A, n, c, rfl, -, -, -, -, -, -, -, -, -, hrow, -⟩ := h
  obtain ⟨A', n', c', rfl, -, -, -, -, -, -, -, -, -, hrow', -⟩ := h'
  rw [hrow.1] at hn
  rw [hrow'.1] at hn'
  have HR := Lib.hid hrow; have HR' := Lib.hid hrow'; clear hrow hrow' hp
  rw [← e0]
  have hk : (d.mode == d'.mode) = false := by simpa using ne
  clear e0
  have NE := Lib.hid ne; clear ne
  go_enter Tryz.func40, Tryz.ntmps40
  go_wp2_with fail
  go_ret
  exact ⟨rfl, exists_over (by first | (refine below_trans_over ?_ ?_ _ <;> first | (go_grown; done) | (simp <;> omega)) | go_grown)⟩
set_option maxHeartbeats 4000000 in
set_option maxRecDepth 100000 in
theorem manSame_2 {cs cs' : List Value} {d d' : LineD} (w : World) (h : LineD.rd w (Old w) cs d) (h' : LineD.rd w (Old w) cs' d') (hn : d.data.length ≤ 140737488355328) (hn' : d'.data.length ≤ 140737488355328) (hp : d.path = d'.path) (e0 : d.kind = d'.kind) (e1 : d.mode = d'.mode) (ne : ¬ d.uid = d'.uid) :
    Calls Tryz.prog 40 #[.agg cs.toArray, .agg cs'.toArray] w fun e w' => e = .returned (.bool false) ∧ ∃ δ, w' = over w δ := by
  obtain ⟨A, n, c, rfl, -, -, -, -, -, -, -, -, -, hrow, -⟩ := h
  obtain ⟨A', n', c', rfl, -, -, -, -, -, -, -, -, -, hrow', -⟩ := h'
  rw [hrow.1] at hn
  rw [hrow'.1] at hn'
  have HR := Lib.hid hrow; have HR' := Lib.hid hrow'; clear hrow hrow' hp
  rw [← e0, ← e1]
  have hk : (d.uid == d'.uid) = false := by simpa using ne
  clear e0 e1
  have NE := Lib.hid ne; clear ne
  go_enter Tryz.func40, Tryz.ntmps40
  go_wp2_with fail
  go_ret
  exact ⟨rfl, exists_over (by first | (refine below_trans_over ?_ ?_ _ <;> first | (go_grown; done) | (simp <;> omega)) | go_grown)⟩
set_option maxHeartbeats 4000000 in
set_option maxRecDepth 100000 in
theorem manSame_3 {cs cs' : List Value} {d d' : LineD} (w : World) (h : LineD.rd w (Old w) cs d) (h' : LineD.rd w (Old w) cs' d') (hn : d.data.length ≤ 140737488355328) (hn' : d'.data.length ≤ 140737488355328) (hp : d.path = d'.path) (e0 : d.kind = d'.kind) (e1 : d.mode = d'.mode) (e2 : d.uid = d'.uid) (ne : ¬ d.gid = d'.gid) :
    Calls Tryz.prog 40 #[.agg cs.toArray, .agg cs'.toArray] w fun e w' => e = .returned (.bool false) ∧ ∃ δ, w' = over w δ := by
  obtain ⟨A, n, c, rfl, -, -, -, -, -, -, -, -, -, hrow, -⟩ := h
  obtain ⟨A', n', c', rfl, -, -, -, -, -, -, -, -, -, hrow', -⟩ := h'
  rw [hrow.1] at hn
  rw [hrow'.1] at hn'
  have HR := Lib.hid hrow; have HR' := Lib.hid hrow'; clear hrow hrow' hp
  rw [← e0, ← e1, ← e2]
  have hk : (d.gid == d'.gid) = false := by simpa using ne
  clear e0 e1 e2
  have NE := Lib.hid ne; clear ne
  go_enter Tryz.func40, Tryz.ntmps40
  go_wp2_with fail
  go_ret
  exact ⟨rfl, exists_over (by first | (refine below_trans_over ?_ ?_ _ <;> first | (go_grown; done) | (simp <;> omega)) | go_grown)⟩
set_option maxHeartbeats 4000000 in
set_option maxRecDepth 100000 in
theorem manSame_4 {cs cs' : List Value} {d d' : LineD} (w : World) (h : LineD.rd w (Old w) cs d) (h' : LineD.rd w (Old w) cs' d') (hn : d.data.length ≤ 140737488355328) (hn' : d'.data.length ≤ 140737488355328) (hp : d.path = d'.path) (e0 : d.kind = d'.kind) (e1 : d.mode = d'.mode) (e2 : d.uid = d'.uid) (e3 : d.gid = d'.gid) (ne : ¬ d.mtime.sec = d'.mtime.sec) :
    Calls Tryz.prog 40 #[.agg cs.toArray, .agg cs'.toArray] w fun e w' => e = .returned (.bool false) ∧ ∃ δ, w' = over w δ := by
  obtain ⟨A, n, c, rfl, -, -, -, -, -, -, -, -, -, hrow, -⟩ := h
  obtain ⟨A', n', c', rfl, -, -, -, -, -, -, -, -, -, hrow', -⟩ := h'
  rw [hrow.1] at hn
  rw [hrow'.1] at hn'
  have HR := Lib.hid hrow; have HR' := Lib.hid hrow'; clear hrow hrow' hp
  rw [← e0, ← e1, ← e2, ← e3]
  have hk : (d.mtime.sec == d'.mtime.sec) = false := by simpa using ne
  clear e0 e1 e2 e3
  go_enter Tryz.func40, Tryz.ntmps40
  go_wp2_with fail
  go_ret
  exact ⟨rfl, exists_over (by first | (refine below_trans_over ?_ ?_ _ <;> first | (go_grown; done) | (simp <;> omega)) | go_grown)⟩
set_option maxHeartbeats 4000000 in
set_option maxRecDepth 100000 in
theorem manSame_5 {cs cs' : List Value} {d d' : LineD} (w : World) (h : LineD.rd w (Old w) cs d) (h' : LineD.rd w (Old w) cs' d') (hn : d.data.length ≤ 140737488355328) (hn' : d'.data.length ≤ 140737488355328) (hp : d.path = d'.path) (e0 : d.kind = d'.kind) (e1 : d.mode = d'.mode) (e2 : d.uid = d'.uid) (e3 : d.gid = d'.gid) (e4 : d.mtime.sec = d'.mtime.sec) (ne : ¬ d.mtime.nano = d'.mtime.nano) :
    Calls Tryz.prog 40 #[.agg cs.toArray, .agg cs'.toArray] w fun e w' => e = .returned (.bool false) ∧ ∃ δ, w' = over w δ := by
  obtain ⟨A, n, c, rfl, -, -, -, -, -, -, -, -, -, hrow, -⟩ := h
  obtain ⟨A', n', c', rfl, -, -, -, -, -, -, -, -, -, hrow', -⟩ := h'
  rw [hrow.1] at hn
  rw [hrow'.1] at hn'
  have HR := Lib.hid hrow; have HR' := Lib.hid hrow'; clear hrow hrow' hp
  rw [← e0, ← e1, ← e2, ← e3, ← e4]
  have hk : (d.mtime.nano == d'.mtime.nano) = false := by simpa using ne
  clear e0 e1 e2 e3 e4
  go_enter Tryz.func40, Tryz.ntmps40
  go_wp2_with fail
  go_ret
  exact ⟨rfl, exists_over (by first | (refine below_trans_over ?_ ?_ _ <;> first | (go_grown; done) | (simp <;> omega)) | go_grown)⟩
set_option maxHeartbeats 4000000 in
set_option maxRecDepth 100000 in
theorem manSame_6 {cs cs' : List Value} {d d' : LineD} (w : World) (h : LineD.rd w (Old w) cs d) (h' : LineD.rd w (Old w) cs' d') (hn : d.data.length ≤ 140737488355328) (hn' : d'.data.length ≤ 140737488355328) (hp : d.path = d'.path) (e0 : d.kind = d'.kind) (e1 : d.mode = d'.mode) (e2 : d.uid = d'.uid) (e3 : d.gid = d'.gid) (e4 : d.mtime.sec = d'.mtime.sec) (e5 : d.mtime.nano = d'.mtime.nano) (ne : ¬ d.target = d'.target) :
    Calls Tryz.prog 40 #[.agg cs.toArray, .agg cs'.toArray] w fun e w' => e = .returned (.bool false) ∧ ∃ δ, w' = over w δ := by
  obtain ⟨A, n, c, rfl, -, -, -, -, -, -, -, -, -, hrow, -⟩ := h
  obtain ⟨A', n', c', rfl, -, -, -, -, -, -, -, -, -, hrow', -⟩ := h'
  rw [hrow.1] at hn
  rw [hrow'.1] at hn'
  have HR := Lib.hid hrow; have HR' := Lib.hid hrow'; clear hrow hrow' hp
  rw [← e0, ← e1, ← e2, ← e3, ← e4, ← e5]
  have hk := str_ne ne
  clear e0 e1 e2 e3 e4 e5
  have NE := Lib.hid ne; clear ne
  go_enter Tryz.func40, Tryz.ntmps40
  go_wp2_with fail
  go_ret
  exact ⟨rfl, exists_over (by first | (refine below_trans_over ?_ ?_ _ <;> first | (go_grown; done) | (simp <;> omega)) | go_grown)⟩
set_option maxHeartbeats 4000000 in
set_option maxRecDepth 100000 in
theorem manSame_7 {cs cs' : List Value} {d d' : LineD} (w : World) (h : LineD.rd w (Old w) cs d) (h' : LineD.rd w (Old w) cs' d') (hn : d.data.length ≤ 140737488355328) (hn' : d'.data.length ≤ 140737488355328) (hp : d.path = d'.path) (e0 : d.kind = d'.kind) (e1 : d.mode = d'.mode) (e2 : d.uid = d'.uid) (e3 : d.gid = d'.gid) (e4 : d.mtime.sec = d'.mtime.sec) (e5 : d.mtime.nano = d'.mtime.nano) (e6 : d.target = d'.target) (ne : ¬ d.peer = d'.peer) :
    Calls Tryz.prog 40 #[.agg cs.toArray, .agg cs'.toArray] w fun e w' => e = .returned (.bool false) ∧ ∃ δ, w' = over w δ := by
  obtain ⟨A, n, c, rfl, -, -, -, -, -, -, -, -, -, hrow, -⟩ := h
  obtain ⟨A', n', c', rfl, -, -, -, -, -, -, -, -, -, hrow', -⟩ := h'
  rw [hrow.1] at hn
  rw [hrow'.1] at hn'
  have HR := Lib.hid hrow; have HR' := Lib.hid hrow'; clear hrow hrow' hp
  rw [← e0, ← e1, ← e2, ← e3, ← e4, ← e5, ← e6]
  have hk := str_ne ne
  clear e0 e1 e2 e3 e4 e5 e6
  have NE := Lib.hid ne; clear ne
  go_enter Tryz.func40, Tryz.ntmps40
  go_wp2_with fail
  go_ret
  exact ⟨rfl, exists_over (by first | (refine below_trans_over ?_ ?_ _ <;> first | (go_grown; done) | (simp <;> omega)) | go_grown)⟩
set_option maxHeartbeats 4000000 in
set_option maxRecDepth 100000 in
theorem manSame_8 {cs cs' : List Value} {d d' : LineD} (w : World) (h : LineD.rd w (Old w) cs d) (h' : LineD.rd w (Old w) cs' d') (hn : d.data.length ≤ 140737488355328) (hn' : d'.data.length ≤ 140737488355328) (hp : d.path = d'.path) (e0 : d.kind = d'.kind) (e1 : d.mode = d'.mode) (e2 : d.uid = d'.uid) (e3 : d.gid = d'.gid) (e4 : d.mtime.sec = d'.mtime.sec) (e5 : d.mtime.nano = d'.mtime.nano) (e6 : d.target = d'.target) (e7 : d.peer = d'.peer) (ne : ¬ d.data = d'.data) :
    Calls Tryz.prog 40 #[.agg cs.toArray, .agg cs'.toArray] w fun e w' => e = .returned (.bool false) ∧ ∃ δ, w' = over w δ := by
  obtain ⟨A, n, c, rfl, -, -, -, -, -, -, -, -, -, hrow, -⟩ := h
  obtain ⟨A', n', c', rfl, -, -, -, -, -, -, -, -, -, hrow', -⟩ := h'
  rw [hrow.1] at hn
  rw [hrow'.1] at hn'
  have HR := Lib.hid hrow; have HR' := Lib.hid hrow'; clear hrow hrow' hp
  rw [← e0, ← e1, ← e2, ← e3, ← e4, ← e5, ← e6, ← e7]
  have Cdata : decide (d.data = d'.data) = false := decide_eq_false ne
  have Kdata := Lib.hid Cdata; clear Cdata
  clear e0 e1 e2 e3 e4 e5 e6 e7
  have NE := Lib.hid ne; clear ne
  go_enter Tryz.func40, Tryz.ntmps40
  go_wp2_with (first | (go_at_call 71; refine (equalBytes _ (HR.out.below (by go_grown)) (HR'.out.below (by go_grown)) hn hn').mono ?_; rintro e w1 ⟨rfl, δ, hu⟩; rw [Kdata.out]))
  go_ret
  exact ⟨rfl, exists_over (by first | (refine below_trans_over ?_ ?_ _ <;> first | (go_grown; done) | (simp <;> omega)) | go_grown)⟩
set_option maxHeartbeats 4000000 in
set_option maxRecDepth 100000 in
theorem manSame_eq {cs cs' : List Value} {d d' : LineD} (w : World) (h : LineD.rd w (Old w) cs d) (h' : LineD.rd w (Old w) cs' d') (hn : d.data.length ≤ 140737488355328) (hn' : d'.data.length ≤ 140737488355328) (hp : d.path = d'.path) (e0 : d.kind = d'.kind) (e1 : d.mode = d'.mode) (e2 : d.uid = d'.uid) (e3 : d.gid = d'.gid) (e4 : d.mtime.sec = d'.mtime.sec) (e5 : d.mtime.nano = d'.mtime.nano) (e6 : d.target = d'.target) (e7 : d.peer = d'.peer) (e8 : d.data = d'.data) :
    Calls Tryz.prog 40 #[.agg cs.toArray, .agg cs'.toArray] w fun e w' => e = .returned (.bool true) ∧ ∃ δ, w' = over w δ := by
  obtain ⟨A, n, c, rfl, -, -, -, -, -, -, -, -, -, hrow, -⟩ := h
  obtain ⟨A', n', c', rfl, -, -, -, -, -, -, -, -, -, hrow', -⟩ := h'
  rw [hrow.1] at hn
  rw [hrow'.1] at hn'
  have HR := Lib.hid hrow; have HR' := Lib.hid hrow'; clear hrow hrow' hp
  rw [← e0, ← e1, ← e2, ← e3, ← e4, ← e5, ← e6, ← e7]
  have Cdata : decide (d.data = d'.data) = true := decide_eq_true e8
  have Kdata := Lib.hid Cdata; clear Cdata
  clear e0 e1 e2 e3 e4 e5 e6 e7 e8
  go_enter Tryz.func40, Tryz.ntmps40
  go_wp2_with (first | (go_at_call 71; refine (equalBytes _ (HR.out.below (by go_grown)) (HR'.out.below (by go_grown)) hn hn').mono ?_; rintro e w1 ⟨rfl, δ, hu⟩; rw [Kdata.out]))
  go_ret
  exact ⟨rfl, exists_over (by first | (refine below_trans_over ?_ ?_ _ <;> first | (go_grown; done) | (simp <;> omega)) | go_grown)⟩
theorem manSame {cs cs' : List Value} {d d' : LineD} (w : World) (h : LineD.rd w (Old w) cs d) (h' : LineD.rd w (Old w) cs' d') (hn : d.data.length ≤ 140737488355328) (hn' : d'.data.length ≤ 140737488355328) (hp : d.path = d'.path) :
    Calls Tryz.prog 40 #[.agg cs.toArray, .agg cs'.toArray] w fun e w' => e = .returned (.bool (decide (d = d'))) ∧ ∃ δ, w' = over w δ := by
  by_cases e0 : d.kind = d'.kind
  case neg => exact (show false = decide (d = d') from (decide_eq_false (fun e => e0 (by rw [e]))).symm) ▸ manSame_0 w h h' hn hn' hp  e0
  by_cases e1 : d.mode = d'.mode
  case neg => exact (show false = decide (d = d') from (decide_eq_false (fun e => e1 (by rw [e]))).symm) ▸ manSame_1 w h h' hn hn' hp e0 e1
  by_cases e2 : d.uid = d'.uid
  case neg => exact (show false = decide (d = d') from (decide_eq_false (fun e => e2 (by rw [e]))).symm) ▸ manSame_2 w h h' hn hn' hp e0 e1 e2
  by_cases e3 : d.gid = d'.gid
  case neg => exact (show false = decide (d = d') from (decide_eq_false (fun e => e3 (by rw [e]))).symm) ▸ manSame_3 w h h' hn hn' hp e0 e1 e2 e3
  by_cases e4 : d.mtime.sec = d'.mtime.sec
  case neg => exact (show false = decide (d = d') from (decide_eq_false (fun e => e4 (by rw [e]))).symm) ▸ manSame_4 w h h' hn hn' hp e0 e1 e2 e3 e4
  by_cases e5 : d.mtime.nano = d'.mtime.nano
  case neg => exact (show false = decide (d = d') from (decide_eq_false (fun e => e5 (by rw [e]))).symm) ▸ manSame_5 w h h' hn hn' hp e0 e1 e2 e3 e4 e5
  by_cases e6 : d.target = d'.target
  case neg => exact (show false = decide (d = d') from (decide_eq_false (fun e => e6 (by rw [e]))).symm) ▸ manSame_6 w h h' hn hn' hp e0 e1 e2 e3 e4 e5 e6
  by_cases e7 : d.peer = d'.peer
  case neg => exact (show false = decide (d = d') from (decide_eq_false (fun e => e7 (by rw [e]))).symm) ▸ manSame_7 w h h' hn hn' hp e0 e1 e2 e3 e4 e5 e6 e7
  by_cases e8 : d.data = d'.data
  case neg => exact (show false = decide (d = d') from (decide_eq_false (fun e => e8 (by rw [e]))).symm) ▸ manSame_8 w h h' hn hn' hp e0 e1 e2 e3 e4 e5 e6 e7 e8
  have ee : d = d' := by
    exact line_ext hp e0 e1 e2 e3 e4 e5 e6 e7 e8
  exact (show true = decide (d = d') from (decide_eq_true ee).symm) ▸ manSame_eq w h h' hn hn' hp e0 e1 e2 e3 e4 e5 e6 e7 e8
end Go.Proofs.YtkpblhikndennaaGreatDoor
