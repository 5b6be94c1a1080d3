/- manifest.prints and the reference's: which lines print. No condition. -/
import Derived.Test.YtdlkgpnfhmablaaDoorOwner
import Derived.Test.YtdlkgpnfhmablaaDoorDataL
import Derived.Test.YtdlkgpnfhmablaaDoorPermBad
import Derived.Test.YtdlkgpnfhmablaaDoorBlk
import Derived.BigGuardPart
namespace Go.Proofs.YtdlkgpnfhmablaaDoor
open Go.RowKit
set_option linter.unusedVariables false
set_option linter.unusedSimpArgs false
attribute [local go_sem] cell?_over frozen?_over lt_over le_over

/-- what manifest.prints asks -/
def pOk (d : LineD) : Bool :=
  !d.path.toList.isEmpty && ownerOk d.uid && ownerOk d.gid &&
    (if d.peer.toList.isEmpty then
      (if d.kind == 1 then d.target.toList.isEmpty else if d.kind == 2 then d.target.toList.isEmpty && (d.data.length == 0) else !d.target.toList.isEmpty && (d.data.length == 0))
     else !(d.kind == 2) && (d.data.length == 0) && d.target.toList.isEmpty)
/-- what the reference's prints asks -/
def rOk (d : LineD) : Bool :=
  decide (1 ≤ d.kind ∧ d.kind ≤ 3 ∧ 0 ≤ d.mode ∧ d.mode ≤ 4095) && ownerOk d.uid && ownerOk d.gid && stampOk d.mtime.sec d.mtime.nano && !d.path.toList.isEmpty &&
    (if d.peer.toList.isEmpty then ((d.kind == 1) || (d.data.length == 0)) && ((d.kind == 3) == !d.target.toList.isEmpty)
     else (d.data.length == 0) && d.target.toList.isEmpty && !(d.kind == 2))
theorem len_z (n : Nat) : ((n : Int) == 0) = (n == 0) := by rw [Bool.eq_iff_iff, beq_iff_eq, beq_iff_eq]; omega
theorem ok_same (d : LineD) : (permOk d.kind d.mode && stampOk d.mtime.sec d.mtime.nano && !decide (3 < d.kind) && pOk d) = rOk d := by
  unfold pOk rOk permOk
  generalize stampOk d.mtime.sec d.mtime.nano = x
  generalize ownerOk d.uid = y
  generalize ownerOk d.gid = z
  generalize d.path.toList.isEmpty = p
  generalize d.target.toList.isEmpty = t
  generalize d.peer.toList.isEmpty = q
  generalize (d.data.length == 0) = l
  generalize d.mode = m
  generalize d.kind = k
  by_cases h1 : k = 1
  · subst h1; cases x <;> cases y <;> cases z <;> cases p <;> cases t <;> cases q <;> cases l <;> simp
  by_cases h2 : k = 2
  · subst h2; cases x <;> cases y <;> cases z <;> cases p <;> cases t <;> cases q <;> cases l <;> simp
  by_cases h3 : k = 3
  · subst h3; cases x <;> cases y <;> cases z <;> cases p <;> cases t <;> cases q <;> cases l <;> simp
  have e1 : (decide (1 ≤ k ∧ k ≤ 5 ∧ 0 ≤ m ∧ m ≤ 4095) && x && !decide (3 < k)) = false := by
    cases x <;> simp <;> omega
  have e2 : decide (1 ≤ k ∧ k ≤ 3 ∧ 0 ≤ m ∧ m ≤ 4095) = false := by simp; omega
  rw [e1, e2]; simp
set_option maxHeartbeats 2000000 in
set_option maxRecDepth 100000 in
theorem prints (d : LineD) {cs : List Value} (w : World) (h : LineD.rd w (Old w) cs d) :
    Calls Tryd.prog 20 #[.agg cs.toArray] w fun e w' => e = .returned (.bool (pOk d)) ∧ Below w.heap.size w w' := by
  obtain ⟨A, n, c, rfl, s0, i1, i2, i3, i4, i5, i6, hnc, hcm, hrow, s8, s9⟩ := h
  go_enter Tryd.func20, Tryd.ntmps20
  go_wp2_with (first | (go_at_call 35; refine (owner _ _).mono ?_; rintro e w' ⟨rfl, rfl⟩))
  all_goals (go_ret; refine ⟨ret_bool ?_, below_alloc_self w _⟩)
  all_goals (
    unfold pOk
    have hl := hrow.1
    subst hl
    clear hrow s0 i1 i2 i3 i4 i5 i6 hnc hcm s8 s9
    try rw [len_z]
    generalize d.data.length = m at *
    generalize d.kind = kk at *
    generalize d.path.toList.isEmpty = p at *
    generalize d.peer.toList.isEmpty = q at *
    generalize d.target.toList.isEmpty = t at *
    cases p <;> cases q <;> cases t <;> simp only [Bool.not_true, Bool.not_false, Bool.true_and, Bool.false_and, Bool.and_false, Bool.and_true, if_true, if_false, reduceCtorEq, ite_true, ite_false, Bool.false_eq_true, Bool.true_eq_false] at * <;> (first | contradiction | (simp_all; done) | (simp [*]; done) | skip)
    all_goals (try intros; try omega))
set_option maxHeartbeats 4000000 in
set_option maxRecDepth 100000 in
theorem refPrints (d : LineD) {cs : List Value} (w : World) (h : LineD.rd w (Old w) cs d) :
    Calls Tryd.prog 14 #[.agg cs.toArray] w fun e w' => e = .returned (.bool (rOk d)) ∧ Below w.heap.size w w' := by
  obtain ⟨A, n, c, rfl, s0, i1, i2, i3, i4, i5, i6, hnc, hcm, hrow, s8, s9⟩ := h
  go_enter Tryd.func14, Tryd.ntmps14
  go_wp2_with (first | (go_at_call 26; refine (refValid _ _ _).mono ?_; rintro e u ⟨rfl, hb⟩; obtain ⟨b1, hbw, hsz⟩ := blks1 hb; have k1 := b1.cell; have HBW := Lib.hid hbw; clear hb hbw b1))
  all_goals (go_ret; refine ⟨ret_bool ?_, by first | exact below_alloc_self w _ | exact HBW.out⟩)
  all_goals (
    unfold rOk ownerOk
    have hl := hrow.1
    subst hl
    clear hrow s0 i1 i2 i3 i4 i5 i6 hnc hcm s8 s9
    try rw [len_z]
    generalize d.data.length = m at *
    generalize d.kind = kk at *
    generalize d.path.toList.isEmpty = p at *
    generalize d.peer.toList.isEmpty = q at *
    generalize d.target.toList.isEmpty = t at *
    cases p <;> cases q <;> cases t <;> simp only [Bool.not_true, Bool.not_false, Bool.true_and, Bool.false_and, Bool.and_false, Bool.and_true, if_true, if_false, reduceCtorEq, ite_true, ite_false, Bool.false_eq_true, Bool.true_eq_false] at * <;> (first
      | contradiction
      | (rw [show decide (1 ≤ kk ∧ kk ≤ 3 ∧ 0 ≤ d.mode ∧ d.mode ≤ 4095) = false from decide_eq_false (by omega)]; simp; done)
      | (rw [show decide (0 ≤ d.uid ∧ d.uid ≤ 2147483647) = false from decide_eq_false (by omega)]; simp; done)
      | (rw [show decide (0 ≤ d.gid ∧ d.gid ≤ 2147483647) = false from decide_eq_false (by omega)]; simp; done)
      | (rw [show decide (1 ≤ kk ∧ kk ≤ 3 ∧ 0 ≤ d.mode ∧ d.mode ≤ 4095) = true from decide_eq_true (by omega), show decide (0 ≤ d.uid ∧ d.uid ≤ 2147483647) = true from decide_eq_true (by omega), show decide (0 ≤ d.gid ∧ d.gid ≤ 2147483647) = true from decide_eq_true (by omega)]; simp [*]; done)
      | (clear k1
         rw [show decide (1 ≤ kk ∧ kk ≤ 3 ∧ 0 ≤ d.mode ∧ d.mode ≤ 4095) = true from decide_eq_true (by omega), show decide (0 ≤ d.uid ∧ d.uid ≤ 2147483647) = true from decide_eq_true (by omega), show decide (0 ≤ d.gid ∧ d.gid ≤ 2147483647) = true from decide_eq_true (by omega)]
         have hm2 : (m = 0) ∨ ((m == 0) = false ∧ 0 < m) := by rcases Nat.eq_zero_or_pos m with h | h <;> simp <;> omega
         obtain rfl | ⟨hm3, hm4⟩ := hm2
         all_goals (obtain rfl | rfl | rfl : kk = 1 ∨ kk = 2 ∨ kk = 3 := by omega)
         all_goals (first | (exfalso; omega) | (simp [*]; done)))
      | skip)
    all_goals (try intros; try omega))
end Go.Proofs.YtdlkgpnfhmablaaDoor
