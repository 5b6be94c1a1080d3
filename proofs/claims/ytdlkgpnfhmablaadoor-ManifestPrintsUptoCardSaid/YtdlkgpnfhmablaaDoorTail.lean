/- manifest.tail: which mark and which field stand behind the path. No condition. -/
import Derived.Test.YtdlkgpnfhmablaaDoorPrints
namespace Go.Proofs.YtdlkgpnfhmablaaDoor
open Go.RowKit
set_option linter.unusedVariables false
set_option linter.unusedSimpArgs false
attribute [local go_sem] cell?_over frozen?_over lt_over le_over

def tailMark (d : LineD) : List UInt8 := if d.peer.toList.isEmpty then (if d.data.length = 0 then (if d.kind = 3 then [45, 62] else []) else [58]) else [61]
def tailField (d : LineD) : ByteArray := if d.peer.toList.isEmpty then (if d.data.length = 0 then (if d.kind = 3 then d.target else ⟨#[]⟩) else ⟨d.data.toArray⟩) else d.peer
theorem isEmpty_nil (s : ByteArray) : s.toList.isEmpty = decide (s = ⟨#[]⟩) := by
  rw [Bool.eq_iff_iff, decide_eq_true_eq, List.isEmpty_iff, ByteArray.toList_eq]
  constructor
  · intro h; cases s with | mk a => simp at h; rw [h]
  · intro h; subst h; rfl
set_option maxHeartbeats 2000000 in
set_option maxRecDepth 100000 in
theorem tail (d : LineD) {cs : List Value} (w : World) (h : LineD.rd w (Old w) cs d) :
    Calls Tryd.prog 23 #[.agg cs.toArray] w fun e w' => e = .returned (.tuple #[strV (tailMark d), .string (tailField d)]) ∧ Below w.heap.size w w' := by
  obtain ⟨A, n, c, rfl, s0, i1, i2, i3, i4, i5, i6, hnc, hcm, hrow, s8, s9⟩ := h
  have hl := hrow.1
  unfold tailMark tailField
  by_cases hp : d.peer.toList.isEmpty = true
  · rw [if_pos hp, if_pos hp]
    by_cases hd : n = 0
    · have hd' : d.data.length = 0 := by omega
      rw [if_pos hd', if_pos hd']
      have hd0 : decide ((n : Int) > 0) = false := by simp; omega
      by_cases hk : d.kind = 3
      · rw [if_pos hk, if_pos hk]
        have hk0 : (d.kind == 3) = true := by simpa using hk
        go_enter Tryd.func23, Tryd.ntmps23
        go_wp2_with fail
        go_region
        all_goals (go_wp2; go_ret2; exact ⟨rfl, (below_alloc' w _).drew⟩)
      · rw [if_neg hk, if_neg hk]
        have hk0 : (d.kind == 3) = false := by simpa using hk
        go_enter Tryd.func23, Tryd.ntmps23
        go_wp2
        go_ret2
        exact ⟨rfl, below_alloc' w _⟩
    · have hd' : ¬ d.data.length = 0 := by omega
      rw [if_neg hd', if_neg hd']
      have hcv := run_str_of (P := Tryd.prog) 32 9 Tryd.underlying32 Tryd.underlying5 Tryd.underlying9 ((show SliceRd Shape.byte w (Old w) (.slice A n c) d.data from ⟨A, n, c, rfl, hnc, hcm, hrow⟩).keep (w' := (w.alloc (.cells #[.string d.path, .int .i64 d.kind, .int .i64 d.mode, .int .i64 d.uid, .int .i64 d.gid, .int .i64 d.mtime.sec, .int .i64 d.mtime.nano, .slice A n c, .string d.target, .string d.peer] 34)).drew) (Keeps.old_alloc w _))
      have HB := Lib.hid (below_alloc' w (.cells #[.string d.path, .int .i64 d.kind, .int .i64 d.mode, .int .i64 d.uid, .int .i64 d.gid, .int .i64 d.mtime.sec, .int .i64 d.mtime.nano, .slice A n c, .string d.target, .string d.peer] 34))
      have hd0 : decide ((n : Int) > 0) = true := by simp; omega
      go_enter Tryd.func23, Tryd.ntmps23
      go_wp2_with fail
      go_region
      all_goals (go_wp2; go_ret2; exact ⟨rfl, (below_alloc' w _).drew⟩)
  · rw [if_neg hp, if_neg hp]
    have hp0 : d.peer.toList.isEmpty = false := by simpa using hp
    go_enter Tryd.func23, Tryd.ntmps23
    go_wp2_with fail
    go_region
    all_goals (go_wp2; go_ret2; exact ⟨rfl, (below_alloc' w _).drew⟩)
end Go.Proofs.YtdlkgpnfhmablaaDoor
