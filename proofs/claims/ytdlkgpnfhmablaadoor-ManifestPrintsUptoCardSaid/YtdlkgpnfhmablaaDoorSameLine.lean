/- The reference's comparison of lines. No condition but room. -/
import Derived.Test.YtdlkgpnfhmablaaDoorBytes2
import Derived.BigGuardPart
namespace Go.Proofs.YtdlkgpnfhmablaaDoor
open Go.RowKit
set_option linter.unusedVariables false
set_option linter.unusedSimpArgs false
attribute [local go_sem] cell?_over frozen?_over lt_over le_over
set_option maxHeartbeats 4000000 in
set_option maxRecDepth 100000 in
theorem sameLine_0 {cs cs' : List Value} {d d' : LineD} (w : World) (h : LineD.rd w (Old w) cs d) (h' : LineD.rd w (Old w) cs' d') (hn : d.data.length ≤ 140737488355328) (hn' : d'.data.length ≤ 140737488355328) (ne : ¬ d.path = d'.path) :
    Calls Tryd.prog 16 #[.agg cs.toArray, .agg cs'.toArray] w fun e w' => e = .returned (.bool false) ∧ ∃ δ, w' = over w δ := by
  obtain ⟨A, n, c, rfl, -, -, -, -, -, -, -, -, -, hrow, -⟩ := h
  obtain ⟨A', n', c', rfl, -, -, -, -, -, -, -, -, -, hrow', -⟩ := h'
  rw [hrow.1] at hn
  rw [hrow'.1] at hn'
  have HR := Lib.hid hrow; have HR' := Lib.hid hrow'; clear hrow hrow'
  have hk := str_ne ne
  have NE := Lib.hid ne; clear ne
  go_enter Tryd.func16, Tryd.ntmps16
  go_wp2_with fail
  go_ret
  exact ⟨rfl, exists_over (by first | (refine below_trans_over ?_ ?_ _ <;> first | (go_grown; done) | (simp <;> omega)) | go_grown)⟩
set_option maxHeartbeats 4000000 in
set_option maxRecDepth 100000 in
theorem sameLine_1 {cs cs' : List Value} {d d' : LineD} (w : World) (h : LineD.rd w (Old w) cs d) (h' : LineD.rd w (Old w) cs' d') (hn : d.data.length ≤ 140737488355328) (hn' : d'.data.length ≤ 140737488355328) (e0 : d.path = d'.path) (ne : ¬ d.kind = d'.kind) :
    Calls Tryd.prog 16 #[.agg cs.toArray, .agg cs'.toArray] w fun e w' => e = .returned (.bool false) ∧ ∃ δ, w' = over w δ := by
  obtain ⟨A, n, c, rfl, -, -, -, -, -, -, -, -, -, hrow, -⟩ := h
  obtain ⟨A', n', c', rfl, -, -, -, -, -, -, -, -, -, hrow', -⟩ := h'
  rw [hrow.1] at hn
  rw [hrow'.1] at hn'
  have HR := Lib.hid hrow; have HR' := Lib.hid hrow'; clear hrow hrow'
  rw [← e0]
  have hk : (d.kind == d'.kind) = false := by simpa using ne
  clear e0
  have NE := Lib.hid ne; clear ne
  go_enter Tryd.func16, Tryd.ntmps16
  go_wp2_with fail
  go_ret
  exact ⟨rfl, exists_over (by first | (refine below_trans_over ?_ ?_ _ <;> first | (go_grown; done) | (simp <;> omega)) | go_grown)⟩
set_option maxHeartbeats 4000000 in
set_option maxRecDepth 100000 in
theorem sameLine_2 {cs cs' : List Value} {d d' : LineD} (w : World) (h : LineD.rd w (Old w) cs d) (h' : LineD.rd w (Old w) cs' d') (hn : d.data.length ≤ 140737488355328) (hn' : d'.data.length ≤ 140737488355328) (e0 : d.path = d'.path) (e1 : d.kind = d'.kind) (ne : ¬ d.mode = d'.mode) :
    Calls Tryd.prog 16 #[.agg cs.toArray, .agg cs'.toArray] w fun e w' => e = .returned (.bool false) ∧ ∃ δ, w' = over w δ := by
  obtain ⟨A, n, c, rfl, -, -, -, -, -, -, -, -, -, hrow, -⟩ := h
  obtain ⟨A', n', c', rfl, -, -, -, -, -, -, -, -, -, hrow', -⟩ := h'
  rw [hrow.1] at hn
  rw [hrow'.1] at hn'
  have HR := Lib.hid hrow; have HR' := Lib.hid hrow'; clear hrow hrow'
  rw [← e0, ← e1]
  have hk : (d.mode == d'.mode) = false := by simpa using ne
  clear e0 e1
  have NE := Lib.hid ne; clear ne
  go_enter Tryd.func16, Tryd.ntmps16
  go_wp2_with fail
  go_ret
  exact ⟨rfl, exists_over (by first | (refine below_trans_over ?_ ?_ _ <;> first | (go_grown; done) | (simp <;> omega)) | go_grown)⟩
set_option maxHeartbeats 4000000 in
set_option maxRecDepth 100000 in
theorem sameLine_3 {cs cs' : List Value} {d d' : LineD} (w : World) (h : LineD.rd w (Old w) cs d) (h' : LineD.rd w (Old w) cs' d') (hn : d.data.length ≤ 140737488355328) (hn' : d'.data.length ≤ 140737488355328) (e0 : d.path = d'.path) (e1 : d.kind = d'.kind) (e2 : d.mode = d'.mode) (ne : ¬ d.uid = d'.uid) :
    Calls Tryd.prog 16 #[.agg cs.toArray, .agg cs'.toArray] w fun e w' => e = .returned (.bool false) ∧ ∃ δ, w' = over w δ := by
  obtain ⟨A, n, c, rfl, -, -, -, -, -, -, -, -, -, hrow, -⟩ := h
  obtain ⟨A', n', c', rfl, -, -, -, -, -, -, -, -, -, hrow', -⟩ := h'
  rw [hrow.1] at hn
  rw [hrow'.1] at hn'
  have HR := Lib.hid hrow; have HR' := Lib.hid hrow'; clear hrow hrow'
  rw [← e0, ← e1, ← e2]
  have hk : (d.uid == d'.uid) = false := by simpa using ne
  clear e0 e1 e2
  have NE := Lib.hid ne; clear ne
  go_enter Tryd.func16, Tryd.ntmps16
  go_wp2_with fail
  go_ret
  exact ⟨rfl, exists_over (by first | (refine below_trans_over ?_ ?_ _ <;> first | (go_grown; done) | (simp <;> omega)) | go_grown)⟩
set_option maxHeartbeats 4000000 in
set_option maxRecDepth 100000 in
theorem sameLine_4 {cs cs' : List Value} {d d' : LineD} (w : World) (h : LineD.rd w (Old w) cs d) (h' : LineD.rd w (Old w) cs' d') (hn : d.data.length ≤ 140737488355328) (hn' : d'.data.length ≤ 140737488355328) (e0 : d.path = d'.path) (e1 : d.kind = d'.kind) (e2 : d.mode = d'.mode) (e3 : d.uid = d'.uid) (ne : ¬ d.gid = d'.gid) :
    Calls Tryd.prog 16 #[.agg cs.toArray, .agg cs'.toArray] w fun e w' => e = .returned (.bool false) ∧ ∃ δ, w' = over w δ := by
  obtain ⟨A, n, c, rfl, -, -, -, -, -, -, -, -, -, hrow, -⟩ := h
  obtain ⟨A', n', c', rfl, -, -, -, -, -, -, -, -, -, hrow', -⟩ := h'
  rw [hrow.1] at hn
  rw [hrow'.1] at hn'
  have HR := Lib.hid hrow; have HR' := Lib.hid hrow'; clear hrow hrow'
  rw [← e0, ← e1, ← e2, ← e3]
  have hk : (d.gid == d'.gid) = false := by simpa using ne
  clear e0 e1 e2 e3
  have NE := Lib.hid ne; clear ne
  go_enter Tryd.func16, Tryd.ntmps16
  go_wp2_with fail
  go_ret
  exact ⟨rfl, exists_over (by first | (refine below_trans_over ?_ ?_ _ <;> first | (go_grown; done) | (simp <;> omega)) | go_grown)⟩
set_option maxHeartbeats 4000000 in
set_option maxRecDepth 100000 in
theorem sameLine_5 {cs cs' : List Value} {d d' : LineD} (w : World) (h : LineD.rd w (Old w) cs d) (h' : LineD.rd w (Old w) cs' d') (hn : d.data.length ≤ 140737488355328) (hn' : d'.data.length ≤ 140737488355328) (e0 : d.path = d'.path) (e1 : d.kind = d'.kind) (e2 : d.mode = d'.mode) (e3 : d.uid = d'.uid) (e4 : d.gid = d'.gid) (ne : ¬ d.mtime.sec = d'.mtime.sec) :
    Calls Tryd.prog 16 #[.agg cs.toArray, .agg cs'.toArray] w fun e w' => e = .returned (.bool false) ∧ ∃ δ, w' = over w δ := by
  obtain ⟨A, n, c, rfl, -, -, -, -, -, -, -, -, -, hrow, -⟩ := h
  obtain ⟨A', n', c', rfl, -, -, -, -, -, -, -, -, -, hrow', -⟩ := h'
  rw [hrow.1] at hn
  rw [hrow'.1] at hn'
  have HR := Lib.hid hrow; have HR' := Lib.hid hrow'; clear hrow hrow'
  rw [← e0, ← e1, ← e2, ← e3, ← e4]
  have hk : (d.mtime.sec == d'.mtime.sec) = false := by simpa using ne
  clear e0 e1 e2 e3 e4
  go_enter Tryd.func16, Tryd.ntmps16
  go_wp2_with fail
  go_ret
  exact ⟨rfl, exists_over (by first | (refine below_trans_over ?_ ?_ _ <;> first | (go_grown; done) | (simp <;> omega)) | go_grown)⟩
set_option maxHeartbeats 4000000 in
set_option maxRecDepth 100000 in
theorem sameLine_6 {cs cs' : List Value} {d d' : LineD} (w : World) (h : LineD.rd w (Old w) cs d) (h' : LineD.rd w (Old w) cs' d') (hn : d.data.length ≤ 140737488355328) (hn' : d'.data.length ≤ 140737488355328) (e0 : d.path = d'.path) (e1 : d.kind = d'.kind) (e2 : d.mode = d'.mode) (e3 : d.uid = d'.uid) (e4 : d.gid = d'.gid) (e5 : d.mtime.sec = d'.mtime.sec) (ne : ¬ d.mtime.nano = d'.mtime.nano) :
    Calls Tryd.prog 16 #[.agg cs.toArray, .agg cs'.toArray] w fun e w' => e = .returned (.bool false) ∧ ∃ δ, w' = over w δ := by
  obtain ⟨A, n, c, rfl, -, -, -, -, -, -, -, -, -, hrow, -⟩ := h
  obtain ⟨A', n', c', rfl, -, -, -, -, -, -, -, -, -, hrow', -⟩ := h'
  rw [hrow.1] at hn
  rw [hrow'.1] at hn'
  have HR := Lib.hid hrow; have HR' := Lib.hid hrow'; clear hrow hrow'
  rw [← e0, ← e1, ← e2, ← e3, ← e4, ← e5]
  have hk : (d.mtime.nano == d'.mtime.nano) = false := by simpa using ne
  clear e0 e1 e2 e3 e4 e5
  go_enter Tryd.func16, Tryd.ntmps16
  go_wp2_with fail
  go_ret
  exact ⟨rfl, exists_over (by first | (refine below_trans_over ?_ ?_ _ <;> first | (go_grown; done) | (simp <;> omega)) | go_grown)⟩
set_option maxHeartbeats 4000000 in
set_option maxRecDepth 100000 in
theorem sameLine_7 {cs cs' : List Value} {d d' : LineD} (w : World) (h : LineD.rd w (Old w) cs d) (h' : LineD.rd w (Old w) cs' d') (hn : d.data.length ≤ 140737488355328) (hn' : d'.data.length ≤ 140737488355328) (e0 : d.path = d'.path) (e1 : d.kind = d'.kind) (e2 : d.mode = d'.mode) (e3 : d.uid = d'.uid) (e4 : d.gid = d'.gid) (e5 : d.mtime.sec = d'.mtime.sec) (e6 : d.mtime.nano = d'.mtime.nano) (ne : ¬ d.target = d'.target) :
    Calls Tryd.prog 16 #[.agg cs.toArray, .agg cs'.toArray] w fun e w' => e = .returned (.bool false) ∧ ∃ δ, w' = over w δ := by
  obtain ⟨A, n, c, rfl, -, -, -, -, -, -, -, -, -, hrow, -⟩ := h
  obtain ⟨A', n', c', rfl, -, -, -, -, -, -, -, -, -, hrow', -⟩ := h'
  rw [hrow.1] at hn
  rw [hrow'.1] at hn'
  have HR := Lib.hid hrow; have HR' := Lib.hid hrow'; clear hrow hrow'
  rw [← e0, ← e1, ← e2, ← e3, ← e4, ← e5, ← e6]
  have hk := str_ne ne
  clear e0 e1 e2 e3 e4 e5 e6
  have NE := Lib.hid ne; clear ne
  go_enter Tryd.func16, Tryd.ntmps16
  go_wp2_with fail
  go_ret
  exact ⟨rfl, exists_over (by first | (refine below_trans_over ?_ ?_ _ <;> first | (go_grown; done) | (simp <;> omega)) | go_grown)⟩
set_option maxHeartbeats 4000000 in
set_option maxRecDepth 100000 in
theorem sameLine_8 {cs cs' : List Value} {d d' : LineD} (w : World) (h : LineD.rd w (Old w) cs d) (h' : LineD.rd w (Old w) cs' d') (hn : d.data.length ≤ 140737488355328) (hn' : d'.data.length ≤ 140737488355328) (e0 : d.path = d'.path) (e1 : d.kind = d'.kind) (e2 : d.mode = d'.mode) (e3 : d.uid = d'.uid) (e4 : d.gid = d'.gid) (e5 : d.mtime.sec = d'.mtime.sec) (e6 : d.mtime.nano = d'.mtime.nano) (e7 : d.target = d'.target) (ne : ¬ d.peer = d'.peer) :
    Calls Tryd.prog 16 #[.agg cs.toArray, .agg cs'.toArray] w fun e w' => e = .returned (.bool false) ∧ ∃ δ, w' = over w δ := by
  obtain ⟨A, n, c, rfl, -, -, -, -, -, -, -, -, -, hrow, -⟩ := h
  obtain ⟨A', n', c', rfl, -, -, -, -, -, -, -, -, -, hrow', -⟩ := h'
  rw [hrow.1] at hn
  rw [hrow'.1] at hn'
  have HR := Lib.hid hrow; have HR' := Lib.hid hrow'; clear hrow hrow'
  rw [← e0, ← e1, ← e2, ← e3, ← e4, ← e5, ← e6, ← e7]
  have hk := str_ne ne
  clear e0 e1 e2 e3 e4 e5 e6 e7
  have NE := Lib.hid ne; clear ne
  go_enter Tryd.func16, Tryd.ntmps16
  go_wp2_with fail
  go_ret
  exact ⟨rfl, exists_over (by first | (refine below_trans_over ?_ ?_ _ <;> first | (go_grown; done) | (simp <;> omega)) | go_grown)⟩
set_option maxHeartbeats 4000000 in
set_option maxRecDepth 100000 in
theorem sameLine_9 {cs cs' : List Value} {d d' : LineD} (w : World) (h : LineD.rd w (Old w) cs d) (h' : LineD.rd w (Old w) cs' d') (hn : d.data.length ≤ 140737488355328) (hn' : d'.data.length ≤ 140737488355328) (e0 : d.path = d'.path) (e1 : d.kind = d'.kind) (e2 : d.mode = d'.mode) (e3 : d.uid = d'.uid) (e4 : d.gid = d'.gid) (e5 : d.mtime.sec = d'.mtime.sec) (e6 : d.mtime.nano = d'.mtime.nano) (e7 : d.target = d'.target) (e8 : d.peer = d'.peer) (ne : ¬ d.data = d'.data) :
    Calls Tryd.prog 16 #[.agg cs.toArray, .agg cs'.toArray] w fun e w' => e = .returned (.bool false) ∧ ∃ δ, w' = over w δ := by
  obtain ⟨A, n, c, rfl, -, -, -, -, -, -, -, -, -, hrow, -⟩ := h
  obtain ⟨A', n', c', rfl, -, -, -, -, -, -, -, -, -, hrow', -⟩ := h'
  rw [hrow.1] at hn
  rw [hrow'.1] at hn'
  have HR := Lib.hid hrow; have HR' := Lib.hid hrow'; clear hrow hrow'
  rw [← e0, ← e1, ← e2, ← e3, ← e4, ← e5, ← e6, ← e7, ← e8]
  have Cdata : decide (d.data = d'.data) = false := decide_eq_false ne
  have Kdata := Lib.hid Cdata; clear Cdata
  clear e0 e1 e2 e3 e4 e5 e6 e7 e8
  have NE := Lib.hid ne; clear ne
  go_enter Tryd.func16, Tryd.ntmps16
  go_wp2_with (first | (go_at_call 31; refine (sameBytes _ (HR.out.below (by go_grown)) (HR'.out.below (by go_grown)) hn hn').mono ?_; rintro e w1 ⟨rfl, δ, hu⟩; rw [Kdata.out]))
  go_ret
  exact ⟨rfl, exists_over (by first | (refine below_trans_over ?_ ?_ _ <;> first | (go_grown; done) | (simp <;> omega)) | go_grown)⟩
set_option maxHeartbeats 4000000 in
set_option maxRecDepth 100000 in
theorem sameLine_eq {cs cs' : List Value} {d d' : LineD} (w : World) (h : LineD.rd w (Old w) cs d) (h' : LineD.rd w (Old w) cs' d') (hn : d.data.length ≤ 140737488355328) (hn' : d'.data.length ≤ 140737488355328) (e0 : d.path = d'.path) (e1 : d.kind = d'.kind) (e2 : d.mode = d'.mode) (e3 : d.uid = d'.uid) (e4 : d.gid = d'.gid) (e5 : d.mtime.sec = d'.mtime.sec) (e6 : d.mtime.nano = d'.mtime.nano) (e7 : d.target = d'.target) (e8 : d.peer = d'.peer) (e9 : d.data = d'.data) :
    Calls Tryd.prog 16 #[.agg cs.toArray, .agg cs'.toArray] w fun e w' => e = .returned (.bool true) ∧ ∃ δ, w' = over w δ := by
  obtain ⟨A, n, c, rfl, -, -, -, -, -, -, -, -, -, hrow, -⟩ := h
  obtain ⟨A', n', c', rfl, -, -, -, -, -, -, -, -, -, hrow', -⟩ := h'
  rw [hrow.1] at hn
  rw [hrow'.1] at hn'
  have HR := Lib.hid hrow; have HR' := Lib.hid hrow'; clear hrow hrow'
  rw [← e0, ← e1, ← e2, ← e3, ← e4, ← e5, ← e6, ← e7, ← e8]
  have Cdata : decide (d.data = d'.data) = true := decide_eq_true e9
  have Kdata := Lib.hid Cdata; clear Cdata
  clear e0 e1 e2 e3 e4 e5 e6 e7 e8 e9
  go_enter Tryd.func16, Tryd.ntmps16
  go_wp2_with (first | (go_at_call 31; refine (sameBytes _ (HR.out.below (by go_grown)) (HR'.out.below (by go_grown)) hn hn').mono ?_; rintro e w1 ⟨rfl, δ, hu⟩; rw [Kdata.out]))
  go_ret
  exact ⟨rfl, exists_over (by first | (refine below_trans_over ?_ ?_ _ <;> first | (go_grown; done) | (simp <;> omega)) | go_grown)⟩
theorem sameLine {cs cs' : List Value} {d d' : LineD} (w : World) (h : LineD.rd w (Old w) cs d) (h' : LineD.rd w (Old w) cs' d') (hn : d.data.length ≤ 140737488355328) (hn' : d'.data.length ≤ 140737488355328) :
    Calls Tryd.prog 16 #[.agg cs.toArray, .agg cs'.toArray] w fun e w' => e = .returned (.bool (decide (d = d'))) ∧ ∃ δ, w' = over w δ := by
  by_cases e0 : d.path = d'.path
  case neg => exact (show false = decide (d = d') from (decide_eq_false (fun e => e0 (by rw [e]))).symm) ▸ sameLine_0 w h h' hn hn'  e0
  by_cases e1 : d.kind = d'.kind
  case neg => exact (show false = decide (d = d') from (decide_eq_false (fun e => e1 (by rw [e]))).symm) ▸ sameLine_1 w h h' hn hn' e0 e1
  by_cases e2 : d.mode = d'.mode
  case neg => exact (show false = decide (d = d') from (decide_eq_false (fun e => e2 (by rw [e]))).symm) ▸ sameLine_2 w h h' hn hn' e0 e1 e2
  by_cases e3 : d.uid = d'.uid
  case neg => exact (show false = decide (d = d') from (decide_eq_false (fun e => e3 (by rw [e]))).symm) ▸ sameLine_3 w h h' hn hn' e0 e1 e2 e3
  by_cases e4 : d.gid = d'.gid
  case neg => exact (show false = decide (d = d') from (decide_eq_false (fun e => e4 (by rw [e]))).symm) ▸ sameLine_4 w h h' hn hn' e0 e1 e2 e3 e4
  by_cases e5 : d.mtime.sec = d'.mtime.sec
  case neg => exact (show false = decide (d = d') from (decide_eq_false (fun e => e5 (by rw [e]))).symm) ▸ sameLine_5 w h h' hn hn' e0 e1 e2 e3 e4 e5
  by_cases e6 : d.mtime.nano = d'.mtime.nano
  case neg => exact (show false = decide (d = d') from (decide_eq_false (fun e => e6 (by rw [e]))).symm) ▸ sameLine_6 w h h' hn hn' e0 e1 e2 e3 e4 e5 e6
  by_cases e7 : d.target = d'.target
  case neg => exact (show false = decide (d = d') from (decide_eq_false (fun e => e7 (by rw [e]))).symm) ▸ sameLine_7 w h h' hn hn' e0 e1 e2 e3 e4 e5 e6 e7
  by_cases e8 : d.peer = d'.peer
  case neg => exact (show false = decide (d = d') from (decide_eq_false (fun e => e8 (by rw [e]))).symm) ▸ sameLine_8 w h h' hn hn' e0 e1 e2 e3 e4 e5 e6 e7 e8
  by_cases e9 : d.data = d'.data
  case neg => exact (show false = decide (d = d') from (decide_eq_false (fun e => e9 (by rw [e]))).symm) ▸ sameLine_9 w h h' hn hn' e0 e1 e2 e3 e4 e5 e6 e7 e8 e9
  have ee : d = d' := by
    exact line_ext e0 e1 e2 e3 e4 e5 e6 e7 e8 e9
  exact (show true = decide (d = d') from (decide_eq_true ee).symm) ▸ sameLine_eq w h h' hn hn' e0 e1 e2 e3 e4 e5 e6 e7 e8 e9
end Go.Proofs.YtdlkgpnfhmablaaDoor
