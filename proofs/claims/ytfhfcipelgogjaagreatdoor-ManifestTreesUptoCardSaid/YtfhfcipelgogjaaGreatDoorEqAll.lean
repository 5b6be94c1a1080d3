/- graph's comparison of lines. No condition but room. slices.EqualFunc at lists of lines, with graph's comparison. No condition but room. -/
import Derived.Test.YtfhfcipelgogjaaGreatDoorSameAll
import Derived.BigGuardPart
namespace Go.Proofs.YtfhfcipelgogjaaGreatDoor
open Go.RowKit
set_option linter.unusedSectionVars false
set_option linter.unusedVariables false
set_option linter.unusedSimpArgs false
attribute [local go_sem] cell?_over frozen?_over lt_over le_over
set_option maxHeartbeats 4000000 in
set_option maxRecDepth 100000 in
theorem graphSame_0 {cs cs' : List Value} {d d' : LineD} (w : World) (h : LineD.rd w (Old w) cs d) (h' : LineD.rd w (Old w) cs' d') (hn : d.data.length ≤ 140737488355328) (hn' : d'.data.length ≤ 140737488355328) (ne : ¬ d.path = d'.path) :
    Calls Tryz.prog 39 #[.agg cs.toArray, .agg cs'.toArray] w fun e w' => e = .returned (.bool false) ∧ ∃ δ, w' = over w δ := by
  obtain ⟨A, n, c, rfl, -, -, -, -, -, -, -, -, -, hrow, -⟩ := h
  obtain ⟨A', n', c', rfl, -, -, -, -, -, -, -, -, -, hrow', -⟩ := h'
  rw [hrow.1] at hn
  rw [hrow'.1] at hn'
  have HR := Lib.hid hrow; have HR' := Lib.hid hrow'; clear hrow hrow'
  have hk := str_ne ne
  have NE := Lib.hid ne; clear ne
  go_enter Tryz.func39, Tryz.ntmps39
  go_wp2_with fail
  go_ret
  exact ⟨rfl, exists_over (by first | (refine below_trans_over ?_ ?_ _ <;> first | (go_grown; done) | (simp <;> omega)) | go_grown)⟩
set_option maxHeartbeats 4000000 in
set_option maxRecDepth 100000 in
theorem graphSame_1 {cs cs' : List Value} {d d' : LineD} (w : World) (h : LineD.rd w (Old w) cs d) (h' : LineD.rd w (Old w) cs' d') (hn : d.data.length ≤ 140737488355328) (hn' : d'.data.length ≤ 140737488355328) (e0 : d.path = d'.path) (ne : ¬ d.kind = d'.kind) :
    Calls Tryz.prog 39 #[.agg cs.toArray, .agg cs'.toArray] w fun e w' => e = .returned (.bool false) ∧ ∃ δ, w' = over w δ := by
  obtain ⟨A, n, c, rfl, -, -, -, -, -, -, -, -, -, hrow, -⟩ := h
  obtain ⟨A', n', c', rfl, -, -, -, -, -, -, -, -, -, hrow', -⟩ := h'
  rw [hrow.1] at hn
  rw [hrow'.1] at hn'
  have HR := Lib.hid hrow; have HR' := Lib.hid hrow'; clear hrow hrow'
  rw [← e0]
  have hk : (d.kind == d'.kind) = false := by simpa using ne
  clear e0
  have NE := Lib.hid ne; clear ne
  go_enter Tryz.func39, Tryz.ntmps39
  go_wp2_with fail
  go_ret
  exact ⟨rfl, exists_over (by first | (refine below_trans_over ?_ ?_ _ <;> first | (go_grown; done) | (simp <;> omega)) | go_grown)⟩
set_option maxHeartbeats 4000000 in
set_option maxRecDepth 100000 in
theorem graphSame_2 {cs cs' : List Value} {d d' : LineD} (w : World) (h : LineD.rd w (Old w) cs d) (h' : LineD.rd w (Old w) cs' d') (hn : d.data.length ≤ 140737488355328) (hn' : d'.data.length ≤ 140737488355328) (e0 : d.path = d'.path) (e1 : d.kind = d'.kind) (ne : ¬ d.mode = d'.mode) :
    Calls Tryz.prog 39 #[.agg cs.toArray, .agg cs'.toArray] w fun e w' => e = .returned (.bool false) ∧ ∃ δ, w' = over w δ := by
  obtain ⟨A, n, c, rfl, -, -, -, -, -, -, -, -, -, hrow, -⟩ := h
  obtain ⟨A', n', c', rfl, -, -, -, -, -, -, -, -, -, hrow', -⟩ := h'
  rw [hrow.1] at hn
  rw [hrow'.1] at hn'
  have HR := Lib.hid hrow; have HR' := Lib.hid hrow'; clear hrow hrow'
  rw [← e0, ← e1]
  have hk : (d.mode == d'.mode) = false := by simpa using ne
  clear e0 e1
  have NE := Lib.hid ne; clear ne
  go_enter Tryz.func39, Tryz.ntmps39
  go_wp2_with fail
  go_ret
  exact ⟨rfl, exists_over (by first | (refine below_trans_over ?_ ?_ _ <;> first | (go_grown; done) | (simp <;> omega)) | go_grown)⟩
set_option maxHeartbeats 4000000 in
set_option maxRecDepth 100000 in
theorem graphSame_3 {cs cs' : List Value} {d d' : LineD} (w : World) (h : LineD.rd w (Old w) cs d) (h' : LineD.rd w (Old w) cs' d') (hn : d.data.length ≤ 140737488355328) (hn' : d'.data.length ≤ 140737488355328) (e0 : d.path = d'.path) (e1 : d.kind = d'.kind) (e2 : d.mode = d'.mode) (ne : ¬ d.uid = d'.uid) :
    Calls Tryz.prog 39 #[.agg cs.toArray, .agg cs'.toArray] w fun e w' => e = .returned (.bool false) ∧ ∃ δ, w' = over w δ := by
  obtain ⟨A, n, c, rfl, -, -, -, -, -, -, -, -, -, hrow, -⟩ := h
  obtain ⟨A', n', c', rfl, -, -, -, -, -, -, -, -, -, hrow', -⟩ := h'
  rw [hrow.1] at hn
  rw [hrow'.1] at hn'
  have HR := Lib.hid hrow; have HR' := Lib.hid hrow'; clear hrow hrow'
  rw [← e0, ← e1, ← e2]
  have hk : (d.uid == d'.uid) = false := by simpa using ne
  clear e0 e1 e2
  have NE := Lib.hid ne; clear ne
  go_enter Tryz.func39, Tryz.ntmps39
  go_wp2_with fail
  go_ret
  exact ⟨rfl, exists_over (by first | (refine below_trans_over ?_ ?_ _ <;> first | (go_grown; done) | (simp <;> omega)) | go_grown)⟩
set_option maxHeartbeats 4000000 in
set_option maxRecDepth 100000 in
theorem graphSame_4 {cs cs' : List Value} {d d' : LineD} (w : World) (h : LineD.rd w (Old w) cs d) (h' : LineD.rd w (Old w) cs' d') (hn : d.data.length ≤ 140737488355328) (hn' : d'.data.length ≤ 140737488355328) (e0 : d.path = d'.path) (e1 : d.kind = d'.kind) (e2 : d.mode = d'.mode) (e3 : d.uid = d'.uid) (ne : ¬ d.gid = d'.gid) :
    Calls Tryz.prog 39 #[.agg cs.toArray, .agg cs'.toArray] w fun e w' => e = .returned (.bool false) ∧ ∃ δ, w' = over w δ := by
  obtain ⟨A, n, c, rfl, -, -, -, -, -, -, -, -, -, hrow, -⟩ := h
  obtain ⟨A', n', c', rfl, -, -, -, -, -, -, -, -, -, hrow', -⟩ := h'
  rw [hrow.1] at hn
  rw [hrow'.1] at hn'
  have HR := Lib.hid hrow; have HR' := Lib.hid hrow'; clear hrow hrow'
  rw [← e0, ← e1, ← e2, ← e3]
  have hk : (d.gid == d'.gid) = false := by simpa using ne
  clear e0 e1 e2 e3
  have NE := Lib.hid ne; clear ne
  go_enter Tryz.func39, Tryz.ntmps39
  go_wp2_with fail
  go_ret
  exact ⟨rfl, exists_over (by first | (refine below_trans_over ?_ ?_ _ <;> first | (go_grown; done) | (simp <;> omega)) | go_grown)⟩
set_option maxHeartbeats 4000000 in
set_option maxRecDepth 100000 in
theorem graphSame_5 {cs cs' : List Value} {d d' : LineD} (w : World) (h : LineD.rd w (Old w) cs d) (h' : LineD.rd w (Old w) cs' d') (hn : d.data.length ≤ 140737488355328) (hn' : d'.data.length ≤ 140737488355328) (e0 : d.path = d'.path) (e1 : d.kind = d'.kind) (e2 : d.mode = d'.mode) (e3 : d.uid = d'.uid) (e4 : d.gid = d'.gid) (ne : ¬ d.mtime.sec = d'.mtime.sec) :
    Calls Tryz.prog 39 #[.agg cs.toArray, .agg cs'.toArray] w fun e w' => e = .returned (.bool false) ∧ ∃ δ, w' = over w δ := by
  obtain ⟨A, n, c, rfl, -, -, -, -, -, -, -, -, -, hrow, -⟩ := h
  obtain ⟨A', n', c', rfl, -, -, -, -, -, -, -, -, -, hrow', -⟩ := h'
  rw [hrow.1] at hn
  rw [hrow'.1] at hn'
  have HR := Lib.hid hrow; have HR' := Lib.hid hrow'; clear hrow hrow'
  rw [← e0, ← e1, ← e2, ← e3, ← e4]
  have hk : (d.mtime.sec == d'.mtime.sec) = false := by simpa using ne
  clear e0 e1 e2 e3 e4
  go_enter Tryz.func39, Tryz.ntmps39
  go_wp2_with fail
  go_ret
  exact ⟨rfl, exists_over (by first | (refine below_trans_over ?_ ?_ _ <;> first | (go_grown; done) | (simp <;> omega)) | go_grown)⟩
set_option maxHeartbeats 4000000 in
set_option maxRecDepth 100000 in
theorem graphSame_6 {cs cs' : List Value} {d d' : LineD} (w : World) (h : LineD.rd w (Old w) cs d) (h' : LineD.rd w (Old w) cs' d') (hn : d.data.length ≤ 140737488355328) (hn' : d'.data.length ≤ 140737488355328) (e0 : d.path = d'.path) (e1 : d.kind = d'.kind) (e2 : d.mode = d'.mode) (e3 : d.uid = d'.uid) (e4 : d.gid = d'.gid) (e5 : d.mtime.sec = d'.mtime.sec) (ne : ¬ d.mtime.nano = d'.mtime.nano) :
    Calls Tryz.prog 39 #[.agg cs.toArray, .agg cs'.toArray] w fun e w' => e = .returned (.bool false) ∧ ∃ δ, w' = over w δ := by
  obtain ⟨A, n, c, rfl, -, -, -, -, -, -, -, -, -, hrow, -⟩ := h
  obtain ⟨A', n', c', rfl, -, -, -, -, -, -, -, -, -, hrow', -⟩ := h'
  rw [hrow.1] at hn
  rw [hrow'.1] at hn'
  have HR := Lib.hid hrow; have HR' := Lib.hid hrow'; clear hrow hrow'
  rw [← e0, ← e1, ← e2, ← e3, ← e4, ← e5]
  have hk : (d.mtime.nano == d'.mtime.nano) = false := by simpa using ne
  clear e0 e1 e2 e3 e4 e5
  go_enter Tryz.func39, Tryz.ntmps39
  go_wp2_with fail
  go_ret
  exact ⟨rfl, exists_over (by first | (refine below_trans_over ?_ ?_ _ <;> first | (go_grown; done) | (simp <;> omega)) | go_grown)⟩
set_option maxHeartbeats 4000000 in
set_option maxRecDepth 100000 in
theorem graphSame_7 {cs cs' : List Value} {d d' : LineD} (w : World) (h : LineD.rd w (Old w) cs d) (h' : LineD.rd w (Old w) cs' d') (hn : d.data.length ≤ 140737488355328) (hn' : d'.data.length ≤ 140737488355328) (e0 : d.path = d'.path) (e1 : d.kind = d'.kind) (e2 : d.mode = d'.mode) (e3 : d.uid = d'.uid) (e4 : d.gid = d'.gid) (e5 : d.mtime.sec = d'.mtime.sec) (e6 : d.mtime.nano = d'.mtime.nano) (ne : ¬ d.target = d'.target) :
    Calls Tryz.prog 39 #[.agg cs.toArray, .agg cs'.toArray] w fun e w' => e = .returned (.bool false) ∧ ∃ δ, w' = over w δ := by
  obtain ⟨A, n, c, rfl, -, -, -, -, -, -, -, -, -, hrow, -⟩ := h
  obtain ⟨A', n', c', rfl, -, -, -, -, -, -, -, -, -, hrow', -⟩ := h'
  rw [hrow.1] at hn
  rw [hrow'.1] at hn'
  have HR := Lib.hid hrow; have HR' := Lib.hid hrow'; clear hrow hrow'
  rw [← e0, ← e1, ← e2, ← e3, ← e4, ← e5, ← e6]
  have hk := str_ne ne
  clear e0 e1 e2 e3 e4 e5 e6
  have NE := Lib.hid ne; clear ne
  go_enter Tryz.func39, Tryz.ntmps39
  go_wp2_with fail
  go_ret
  exact ⟨rfl, exists_over (by first | (refine below_trans_over ?_ ?_ _ <;> first | (go_grown; done) | (simp <;> omega)) | go_grown)⟩
set_option maxHeartbeats 4000000 in
set_option maxRecDepth 100000 in
theorem graphSame_8 {cs cs' : List Value} {d d' : LineD} (w : World) (h : LineD.rd w (Old w) cs d) (h' : LineD.rd w (Old w) cs' d') (hn : d.data.length ≤ 140737488355328) (hn' : d'.data.length ≤ 140737488355328) (e0 : d.path = d'.path) (e1 : d.kind = d'.kind) (e2 : d.mode = d'.mode) (e3 : d.uid = d'.uid) (e4 : d.gid = d'.gid) (e5 : d.mtime.sec = d'.mtime.sec) (e6 : d.mtime.nano = d'.mtime.nano) (e7 : d.target = d'.target) (ne : ¬ d.peer = d'.peer) :
    Calls Tryz.prog 39 #[.agg cs.toArray, .agg cs'.toArray] w fun e w' => e = .returned (.bool false) ∧ ∃ δ, w' = over w δ := by
  obtain ⟨A, n, c, rfl, -, -, -, -, -, -, -, -, -, hrow, -⟩ := h
  obtain ⟨A', n', c', rfl, -, -, -, -, -, -, -, -, -, hrow', -⟩ := h'
  rw [hrow.1] at hn
  rw [hrow'.1] at hn'
  have HR := Lib.hid hrow; have HR' := Lib.hid hrow'; clear hrow hrow'
  rw [← e0, ← e1, ← e2, ← e3, ← e4, ← e5, ← e6, ← e7]
  have hk := str_ne ne
  clear e0 e1 e2 e3 e4 e5 e6 e7
  have NE := Lib.hid ne; clear ne
  go_enter Tryz.func39, Tryz.ntmps39
  go_wp2_with fail
  go_ret
  exact ⟨rfl, exists_over (by first | (refine below_trans_over ?_ ?_ _ <;> first | (go_grown; done) | (simp <;> omega)) | go_grown)⟩
set_option maxHeartbeats 4000000 in
set_option maxRecDepth 100000 in
theorem graphSame_9 {cs cs' : List Value} {d d' : LineD} (w : World) (h : LineD.rd w (Old w) cs d) (h' : LineD.rd w (Old w) cs' d') (hn : d.data.length ≤ 140737488355328) (hn' : d'.data.length ≤ 140737488355328) (e0 : d.path = d'.path) (e1 : d.kind = d'.kind) (e2 : d.mode = d'.mode) (e3 : d.uid = d'.uid) (e4 : d.gid = d'.gid) (e5 : d.mtime.sec = d'.mtime.sec) (e6 : d.mtime.nano = d'.mtime.nano) (e7 : d.target = d'.target) (e8 : d.peer = d'.peer) (ne : ¬ d.data = d'.data) :
    Calls Tryz.prog 39 #[.agg cs.toArray, .agg cs'.toArray] w fun e w' => e = .returned (.bool false) ∧ ∃ δ, w' = over w δ := by
  obtain ⟨A, n, c, rfl, -, -, -, -, -, -, -, -, -, hrow, -⟩ := h
  obtain ⟨A', n', c', rfl, -, -, -, -, -, -, -, -, -, hrow', -⟩ := h'
  rw [hrow.1] at hn
  rw [hrow'.1] at hn'
  have HR := Lib.hid hrow; have HR' := Lib.hid hrow'; clear hrow hrow'
  rw [← e0, ← e1, ← e2, ← e3, ← e4, ← e5, ← e6, ← e7, ← e8]
  have Cdata : decide (d.data = d'.data) = false := decide_eq_false ne
  have Kdata := Lib.hid Cdata; clear Cdata
  clear e0 e1 e2 e3 e4 e5 e6 e7 e8
  have NE := Lib.hid ne; clear ne
  go_enter Tryz.func39, Tryz.ntmps39
  go_wp2_with (first | (go_at_call 71; refine (equalBytes _ (HR.out.below (by go_grown)) (HR'.out.below (by go_grown)) hn hn').mono ?_; rintro e w1 ⟨rfl, δ, hu⟩; rw [Kdata.out]))
  go_ret
  exact ⟨rfl, exists_over (by first | (refine below_trans_over ?_ ?_ _ <;> first | (go_grown; done) | (simp <;> omega)) | go_grown)⟩
set_option maxHeartbeats 4000000 in
set_option maxRecDepth 100000 in
theorem graphSame_eq {cs cs' : List Value} {d d' : LineD} (w : World) (h : LineD.rd w (Old w) cs d) (h' : LineD.rd w (Old w) cs' d') (hn : d.data.length ≤ 140737488355328) (hn' : d'.data.length ≤ 140737488355328) (e0 : d.path = d'.path) (e1 : d.kind = d'.kind) (e2 : d.mode = d'.mode) (e3 : d.uid = d'.uid) (e4 : d.gid = d'.gid) (e5 : d.mtime.sec = d'.mtime.sec) (e6 : d.mtime.nano = d'.mtime.nano) (e7 : d.target = d'.target) (e8 : d.peer = d'.peer) (e9 : d.data = d'.data) :
    Calls Tryz.prog 39 #[.agg cs.toArray, .agg cs'.toArray] w fun e w' => e = .returned (.bool true) ∧ ∃ δ, w' = over w δ := by
  obtain ⟨A, n, c, rfl, -, -, -, -, -, -, -, -, -, hrow, -⟩ := h
  obtain ⟨A', n', c', rfl, -, -, -, -, -, -, -, -, -, hrow', -⟩ := h'
  rw [hrow.1] at hn
  rw [hrow'.1] at hn'
  have HR := Lib.hid hrow; have HR' := Lib.hid hrow'; clear hrow hrow'
  rw [← e0, ← e1, ← e2, ← e3, ← e4, ← e5, ← e6, ← e7, ← e8]
  have Cdata : decide (d.data = d'.data) = true := decide_eq_true e9
  have Kdata := Lib.hid Cdata; clear Cdata
  clear e0 e1 e2 e3 e4 e5 e6 e7 e8 e9
  go_enter Tryz.func39, Tryz.ntmps39
  go_wp2_with (first | (go_at_call 71; refine (equalBytes _ (HR.out.below (by go_grown)) (HR'.out.below (by go_grown)) hn hn').mono ?_; rintro e w1 ⟨rfl, δ, hu⟩; rw [Kdata.out]))
  go_ret
  exact ⟨rfl, exists_over (by first | (refine below_trans_over ?_ ?_ _ <;> first | (go_grown; done) | (simp <;> omega)) | go_grown)⟩
theorem graphSame {cs cs' : List Value} {d d' : LineD} (w : World) (h : LineD.rd w (Old w) cs d) (h' : LineD.rd w (Old w) cs' d') (hn : d.data.length ≤ 140737488355328) (hn' : d'.data.length ≤ 140737488355328) :
    Calls Tryz.prog 39 #[.agg cs.toArray, .agg cs'.toArray] w fun e w' => e = .returned (.bool (decide (d = d'))) ∧ ∃ δ, w' = over w δ := by
  by_cases e0 : d.path = d'.path
  case neg => exact (show false = decide (d = d') from (decide_eq_false (fun e => e0 (by rw [e]))).symm) ▸ graphSame_0 w h h' hn hn'  e0
  by_cases e1 : d.kind = d'.kind
  case neg => exact (show false = decide (d = d') from (decide_eq_false (fun e => e1 (by rw [e]))).symm) ▸ graphSame_1 w h h' hn hn' e0 e1
  by_cases e2 : d.mode = d'.mode
  case neg => exact (show false = decide (d = d') from (decide_eq_false (fun e => e2 (by rw [e]))).symm) ▸ graphSame_2 w h h' hn hn' e0 e1 e2
  by_cases e3 : d.uid = d'.uid
  case neg => exact (show false = decide (d = d') from (decide_eq_false (fun e => e3 (by rw [e]))).symm) ▸ graphSame_3 w h h' hn hn' e0 e1 e2 e3
  by_cases e4 : d.gid = d'.gid
  case neg => exact (show false = decide (d = d') from (decide_eq_false (fun e => e4 (by rw [e]))).symm) ▸ graphSame_4 w h h' hn hn' e0 e1 e2 e3 e4
  by_cases e5 : d.mtime.sec = d'.mtime.sec
  case neg => exact (show false = decide (d = d') from (decide_eq_false (fun e => e5 (by rw [e]))).symm) ▸ graphSame_5 w h h' hn hn' e0 e1 e2 e3 e4 e5
  by_cases e6 : d.mtime.nano = d'.mtime.nano
  case neg => exact (show false = decide (d = d') from (decide_eq_false (fun e => e6 (by rw [e]))).symm) ▸ graphSame_6 w h h' hn hn' e0 e1 e2 e3 e4 e5 e6
  by_cases e7 : d.target = d'.target
  case neg => exact (show false = decide (d = d') from (decide_eq_false (fun e => e7 (by rw [e]))).symm) ▸ graphSame_7 w h h' hn hn' e0 e1 e2 e3 e4 e5 e6 e7
  by_cases e8 : d.peer = d'.peer
  case neg => exact (show false = decide (d = d') from (decide_eq_false (fun e => e8 (by rw [e]))).symm) ▸ graphSame_8 w h h' hn hn' e0 e1 e2 e3 e4 e5 e6 e7 e8
  by_cases e9 : d.data = d'.data
  case neg => exact (show false = decide (d = d') from (decide_eq_false (fun e => e9 (by rw [e]))).symm) ▸ graphSame_9 w h h' hn hn' e0 e1 e2 e3 e4 e5 e6 e7 e8 e9
  have ee : d = d' := by
    exact line_ext e0 e1 e2 e3 e4 e5 e6 e7 e8 e9
  exact (show true = decide (d = d') from (decide_eq_true ee).symm) ▸ graphSame_eq w h h' hn hn' e0 e1 e2 e3 e4 e5 e6 e7 e8 e9
end Go.Proofs.YtfhfcipelgogjaaGreatDoor
namespace Go.Proofs.YtfhfcipelgogjaaGreatDoor
open Go.RowKit
set_option linter.unusedSectionVars false
set_option linter.unusedVariables false
set_option linter.unusedSimpArgs false
attribute [local go_sem] cell?_over frozen?_over lt_over le_over
def SmallLn (l : List LineD) : Prop := ∀ d ∈ l, d.data.length ≤ 140737488355328
set_option maxHeartbeats 2000000 in
set_option maxRecDepth 100000 in
theorem eqLines {A A' : Option Addr} {n c n' c' : Nat} {l l' : List LineD} (w : World) (h : Row Shape.LineD w (Old w) A n l) (h' : Row Shape.LineD w (Old w) A' n' l') (hs : SmallLn l) (hs' : SmallLn l') (hn : n ≤ 140737488355328) (hn' : n' ≤ 140737488355328) :
    Calls Tryz.prog 38 #[.slice A n c, .slice A' n' c', .func (.func 39) #[] #[]] w fun e w' => e = .returned (.bool (decide (l = l'))) ∧ Below w.heap.size w w' := by
  obtain ⟨E, hE⟩ : ∃ E, E = decide (l = l') := ⟨_, rfl⟩
  rw [← hE]
  have HE := Lib.hid hE
  have HL := Lib.hid h.1; have HL' := Lib.hid h'.1
  have H := Lib.hid h; have H' := Lib.hid h'
  clear hE h h'
  by_cases hnn : n = n'
  · subst hnn
    have hb0 : ((n : Int) != n) = false := by simp
    go_enter Tryz.func38, Tryz.ntmps38
    go_wp2_with fail
    go_loopw [17] (fun i wr => ∃ k : Nat, k ≤ n ∧ i = .int .i64 k ∧ l.take k = l'.take k ∧ Below w.heap.size w wr) (fun i _ => n - (intOf i).toNat)
    case atStart => exact ⟨0, Nat.zero_le _, rfl, by simp, Below.refl _ _⟩
    case round =>
      obtain ⟨k, hk, rfl, htake, hbel⟩ := hrel
      have HT := Lib.hid htake; clear htake
      by_cases hlt : k < n
      · obtain ⟨b, off, es, hkl, rfl, hb, hc, hc0, hr⟩ := H.out.elem (Keeps.old hbel) hlt
        obtain ⟨b', off', es', hkl', rfl, hb', hc', hc0', hr'⟩ := H'.out.elem (Keeps.old hbel) hlt
        have hsm := hs _ (List.getElem_mem hkl)
        have hsm' := hs' _ (List.getElem_mem hkl')
        have hr2 : LineD.rd wr (Old wr) es l[k] := Shape.LineD.more hr fun _ hn => Old.below hbel hn
        have hr2' : LineD.rd wr (Old wr) es' l'[k] := Shape.LineD.more hr' fun _ hn => Old.below hbel hn
        have R := Lib.hid hr2; have R' := Lib.hid hr2'; clear hr2 hr2'
        obtain ⟨_, _, _, rfl, -⟩ := hr
        obtain ⟨_, _, _, rfl, -⟩ := hr'
        have e13 : Shape.LineD.size = 10 := rfl
        simp only [e13] at hc hc0 hc' hc0'
        clear e13
        have hb2 := Nat.lt_of_lt_of_le hb hbel.size
        have hb2' := Nat.lt_of_lt_of_le hb' hbel.size
        have hks : (k : Int) < n := by omega
        have HB := Lib.hid hbel
        clear hbel
        go_wp2_with fail
        obtain ⟨w2, hw2, hb2w⟩ : ∃ w2, w2 = _ ∧ Below wr.heap.size wr w2 := ⟨_, rfl, ((below_alloc' _ _).trans ((below_alloc' _ _).mono (by simp)))⟩
        rw [← hw2]
        refine (graphSame w2 (Shape.LineD.below R.out hb2w) (Shape.LineD.below R'.out hb2w) hsm hsm').mono ?_
        clear hw2
        rintro e w3 ⟨rfl, δ, rfl⟩
        have HB3 := Lib.hid (HB.out.trans ((hb2w.trans ((below_over w2 δ).mono hb2w.size)).mono HB.out.size))
        clear hb2w
        by_cases heq : l[k] = l'[k]
        · rw [decide_eq_true heq]
          have HT2 : Hid (l.take (k + 1) = l'.take (k + 1)) := Lib.hid (by rw [List.take_succ_eq_append_getElem hkl, List.take_succ_eq_append_getElem hkl', HT.out, heq])
          clear heq
          go_wp2_with fail
          go_roundw
          case rel => exact ⟨k + 1, by omega, by go_num, HT2.out, HB3.out⟩
          case measure => simp [intOf]; omega
        · rw [decide_eq_false heq]
          have HE2 : Hid (E = false) := Lib.hid (by
            rw [HE.out, decide_eq_false_iff_not]
            intro e
            apply heq
            subst e
            rfl)
          clear heq
          go_wp2_with fail
          go_ret
          exact ⟨by rw [HE2.out]; rfl, HB3.out⟩
      · have hks : ¬ (k : Int) < n := by omega
        have hkn : k = n := by omega
        have HE2 : Hid (E = true) := Lib.hid (by
          rw [HE.out, decide_eq_true_iff]
          have := HT.out
          rwa [hkn, List.take_of_length_le (Nat.le_of_eq HL.out), List.take_of_length_le (Nat.le_of_eq HL'.out)] at this)
        clear hkn
        go_wp2_with fail
        go_ret
        exact ⟨by rw [HE2.out]; rfl, hbel⟩
  · have hb0 : ((n : Int) != n') = true := by
      rw [bne_iff_ne]; omega
    have HE2 : Hid (E = false) := Lib.hid (by
      rw [HE.out, decide_eq_false_iff_not]
      intro e
      apply hnn
      rw [← HL.out, ← HL'.out, e])
    clear hnn
    go_enter Tryz.func38, Tryz.ntmps38
    go_wp2_with fail
    go_ret
    exact ⟨by rw [HE2.out]; rfl, Below.refl _ _⟩
end Go.Proofs.YtfhfcipelgogjaaGreatDoor
