/- manifest.owner. No condition. manifest.prints and the reference's: which lines print. No condition. manifest.tail: which mark and which field stand behind the path. No condition. -/
import Derived.Test.YtfhfcipelgogjaaGreatDoorDataAll
import Derived.Test.YtfhfcipelgogjaaGreatDoorPermTB
import Derived.Test.YtfhfcipelgogjaaGreatDoorBaseAt
import Derived.BigGuardPart
namespace Go.Proofs.YtfhfcipelgogjaaGreatDoor
open Go.RowKit
set_option linter.unusedVariables false
set_option linter.unusedSimpArgs false
def ownerOk (n : Int) : Bool := decide (0 ≤ n ∧ n ≤ 2147483647)
set_option maxRecDepth 100000 in
theorem owner (n : Int) (w : World) :
    Calls Tryz.prog 93 #[.int .i64 n] w fun e w' => e = .returned (.bool (ownerOk n)) ∧ w' = w := by
  unfold ownerOk
  by_cases h0 : 0 ≤ n
  · have hd : decide (n ≥ 0) = true := by simpa using h0
    go_enter Tryz.func93, Tryz.ntmps93
    go_wp2
    go_ret
    exact ⟨by simp <;> omega, rfl⟩
  · have hd : decide (n ≥ 0) = false := by simpa using h0
    go_enter Tryz.func93, Tryz.ntmps93
    go_wp2
    go_ret
    exact ⟨by simp <;> omega, rfl⟩
end Go.Proofs.YtfhfcipelgogjaaGreatDoor
namespace Go.Proofs.YtfhfcipelgogjaaGreatDoor
open Go.RowKit
set_option linter.unusedVariables false
set_option linter.unusedSimpArgs false
attribute [local go_sem] cell?_over frozen?_over lt_over le_over

/-- what manifest.prints asks -/
def pOk (d : LineD) : Bool :=
  !d.path.toList.isEmpty && ownerOk d.uid && ownerOk d.gid &&
    (if d.peer.toList.isEmpty then
      (if d.kind == 1 then d.target.toList.isEmpty else if d.kind == 2 then d.target.toList.isEmpty && (d.data.length == 0) else !d.target.toList.isEmpty && (d.data.length == 0))
     else !(d.kind == 2) && (d.data.length == 0) && d.target.toList.isEmpty)
/-- what the reference's prints asks -/
def rOk (d : LineD) : Bool :=
  decide (1 ≤ d.kind ∧ d.kind ≤ 3 ∧ 0 ≤ d.mode ∧ d.mode ≤ 4095) && ownerOk d.uid && ownerOk d.gid && stampOk d.mtime.sec d.mtime.nano && !d.path.toList.isEmpty &&
    (if d.peer.toList.isEmpty then ((d.kind == 1) || (d.data.length == 0)) && ((d.kind == 3) == !d.target.toList.isEmpty)
     else (d.data.length == 0) && d.target.toList.isEmpty && !(d.kind == 2))
theorem len_z (n : Nat) : ((n : Int) == 0) = (n == 0) := by rw [Bool.eq_iff_iff, beq_iff_eq, beq_iff_eq]; omega
theorem ok_same (d : LineD) : (permOk d.kind d.mode && stampOk d.mtime.sec d.mtime.nano && !decide (3 < d.kind) && pOk d) = rOk d := by
  unfold pOk rOk permOk
  generalize stampOk d.mtime.sec d.mtime.nano = x
  generalize ownerOk d.uid = y
  generalize ownerOk d.gid = z
  generalize d.path.toList.isEmpty = p
  generalize d.target.toList.isEmpty = t
  generalize d.peer.toList.isEmpty = q
  generalize (d.data.length == 0) = l
  generalize d.mode = m
  generalize d.kind = k
  by_cases h1 : k = 1
  · subst h1; cases x <;> cases y <;> cases z <;> cases p <;> cases t <;> cases q <;> cases l <;> simp
  by_cases h2 : k = 2
  · subst h2; cases x <;> cases y <;> cases z <;> cases p <;> cases t <;> cases q <;> cases l <;> simp
  by_cases h3 : k = 3
  · subst h3; cases x <;> cases y <;> cases z <;> cases p <;> cases t <;> cases q <;> cases l <;> simp
  have e1 : (decide (1 ≤ k ∧ k ≤ 5 ∧ 0 ≤ m ∧ m ≤ 4095) && x && !decide (3 < k)) = false := by
    cases x <;> simp <;> omega
  have e2 : decide (1 ≤ k ∧ k ≤ 3 ∧ 0 ≤ m ∧ m ≤ 4095) = false := by simp; omega
  rw [e1, e2]; simp
set_option maxHeartbeats 2000000 in
set_option maxRecDepth 100000 in
theorem prints (d : LineD) {cs : List Value} (w : World) (h : LineD.rd w (Old w) cs d) :
    Calls Tryz.prog 56 #[.agg cs.toArray] w fun e w' => e = .returned (.bool (pOk d)) ∧ Below w.heap.size w w' := by
  obtain ⟨A, n, c, rfl, s0, i1, i2, i3, i4, i5, i6, hnc, hcm, hrow, s8, s9⟩ := h
  go_enter Tryz.func56, Tryz.ntmps56
  go_wp2_with (first | (go_at_call 93; refine (owner _ _).mono ?_; rintro e w' ⟨rfl, rfl⟩))
  all_goals (go_ret; refine ⟨ret_bool ?_, below_alloc_self w _⟩)
  all_goals (
    unfold pOk
    have hl := hrow.1
    subst hl
    clear hrow s0 i1 i2 i3 i4 i5 i6 hnc hcm s8 s9
    try rw [len_z]
    generalize d.data.length = m at *
    generalize d.kind = kk at *
    generalize d.path.toList.isEmpty = p at *
    generalize d.peer.toList.isEmpty = q at *
    generalize d.target.toList.isEmpty = t at *
    cases p <;> cases q <;> cases t <;> simp only [Bool.not_true, Bool.not_false, Bool.true_and, Bool.false_and, Bool.and_false, Bool.and_true, if_true, if_false, reduceCtorEq, ite_true, ite_false, Bool.false_eq_true, Bool.true_eq_false] at * <;> (first | contradiction | (simp_all; done) | (simp [*]; done) | skip)
    all_goals (try intros; try omega))
end Go.Proofs.YtfhfcipelgogjaaGreatDoor
namespace Go.Proofs.YtfhfcipelgogjaaGreatDoor
open Go.RowKit
set_option linter.unusedVariables false
set_option linter.unusedSimpArgs false
attribute [local go_sem] cell?_over frozen?_over lt_over le_over

def tailMark (d : LineD) : List UInt8 := if d.peer.toList.isEmpty then (if d.data.length = 0 then (if d.kind = 3 then [45, 62] else []) else [58]) else [61]
def tailField (d : LineD) : ByteArray := if d.peer.toList.isEmpty then (if d.data.length = 0 then (if d.kind = 3 then d.target else ⟨#[]⟩) else ⟨d.data.toArray⟩) else d.peer
theorem isEmpty_nil (s : ByteArray) : s.toList.isEmpty = decide (s = ⟨#[]⟩) := by
  rw [Bool.eq_iff_iff, decide_eq_true_eq, List.isEmpty_iff, ByteArray.toList_eq]
  constructor
  · intro h; cases s with | mk a => simp at h; rw [h]
  · intro h; subst h; rfl
set_option maxHeartbeats 2000000 in
set_option maxRecDepth 100000 in
theorem tail (d : LineD) {cs : List Value} (w : World) (h : LineD.rd w (Old w) cs d) :
    Calls Tryz.prog 59 #[.agg cs.toArray] w fun e w' => e = .returned (.tuple #[strV (tailMark d), .string (tailField d)]) ∧ Below w.heap.size w w' := by
  obtain ⟨A, n, c, rfl, s0, i1, i2, i3, i4, i5, i6, hnc, hcm, hrow, s8, s9⟩ := h
  have hl := hrow.1
  unfold tailMark tailField
  by_cases hp : d.peer.toList.isEmpty = true
  · rw [if_pos hp, if_pos hp]
    by_cases hd : n = 0
    · have hd' : d.data.length = 0 := by omega
      rw [if_pos hd', if_pos hd']
      have hd0 : decide ((n : Int) > 0) = false := by simp; omega
      by_cases hk : d.kind = 3
      · rw [if_pos hk, if_pos hk]
        have hk0 : (d.kind == 3) = true := by simpa using hk
        go_enter Tryz.func59, Tryz.ntmps59
        go_wp2_with fail
        go_region
        all_goals (go_wp2; go_ret2; exact ⟨rfl, (below_alloc' w _).drew⟩)
      · rw [if_neg hk, if_neg hk]
        have hk0 : (d.kind == 3) = false := by simpa using hk
        go_enter Tryz.func59, Tryz.ntmps59
        go_wp2
        go_ret2
        exact ⟨rfl, below_alloc' w _⟩
    · have hd' : ¬ d.data.length = 0 := by omega
      rw [if_neg hd', if_neg hd']
      have hcv := run_str_of (P := Tryz.prog) 58 9 Tryz.underlying58 Tryz.underlying5 Tryz.underlying9 ((show SliceRd Shape.byte w (Old w) (.slice A n c) d.data from ⟨A, n, c, rfl, hnc, hcm, hrow⟩).keep (w' := (w.alloc (.cells #[.string d.path, .int .i64 d.kind, .int .i64 d.mode, .int .i64 d.uid, .int .i64 d.gid, .int .i64 d.mtime.sec, .int .i64 d.mtime.nano, .slice A n c, .string d.target, .string d.peer] 60)).drew) (Keeps.old_alloc w _))
      have HB := Lib.hid (below_alloc' w (.cells #[.string d.path, .int .i64 d.kind, .int .i64 d.mode, .int .i64 d.uid, .int .i64 d.gid, .int .i64 d.mtime.sec, .int .i64 d.mtime.nano, .slice A n c, .string d.target, .string d.peer] 60))
      have hd0 : decide ((n : Int) > 0) = true := by simp; omega
      go_enter Tryz.func59, Tryz.ntmps59
      go_wp2_with fail
      go_region
      all_goals (go_wp2; go_ret2; exact ⟨rfl, (below_alloc' w _).drew⟩)
  · rw [if_neg hp, if_neg hp]
    have hp0 : d.peer.toList.isEmpty = false := by simpa using hp
    go_enter Tryz.func59, Tryz.ntmps59
    go_wp2_with fail
    go_region
    all_goals (go_wp2; go_ret2; exact ⟨rfl, (below_alloc' w _).drew⟩)
end Go.Proofs.YtfhfcipelgogjaaGreatDoor
