/- slices.Clone at bytes. No condition but room. -/
import Derived.Test.YtfhfcipelgogjaaGreatDoorBaseAt
import Derived.Test.YtfhfcipelgogjaaGreatDoorEscAll
import Derived.Lib.SliceRun
namespace Go.Proofs.YtfhfcipelgogjaaGreatDoor
open Go.RowKit
set_option linter.unusedVariables false
set_option linter.unusedSimpArgs false
attribute [local go_sem] cell?_over frozen?_over lt_over le_over
set_option maxHeartbeats 1000000 in
set_option maxRecDepth 100000 in
theorem cloneB {A : Option Addr} {n c : Nat} {l : List UInt8} (w : World) (h : Row Shape.byte w (Old w) A n l) (hn : n ≤ 1000000000) :
    Calls Tryz.prog 36 #[.slice A n c] w fun e w' => ∃ v, e = .returned v ∧ Own Shape.byte 5 w' w.heap.size (fun _ => False) v l ∧ Below w.heap.size w w' := by
  have hl := h.1
  have qs : ∀ (w : World) (a : Option Addr) (n c n' c' : Nat), (binOp .eql 58 (.slice a n c) (.slice none n' c')).run Tryz.prog w = .ok (.bool a.isNone) w := fun w a n c n' c' => Lib.run_eql_slice_nil w _ _ a n c n' c' Tryz.underlying58
  cases A with
  | none =>
    rcases Nat.eq_zero_or_pos n with h0 | h0
    · subst h0
      obtain rfl : l = [] := List.eq_nil_of_length_eq_zero hl
      clear h hl
      go_enter Tryz.func36, Tryz.ntmps36
      go_wp2_with fail
      go_ret
      exact ⟨_, rfl, Own.start _ _ _ _, Below.refl _ _⟩
    · obtain ⟨_, _, e, _⟩ := h.2 h0
      cases e
  | some ad =>
    have hs := (Row.src (h.keep (Keeps.old_alloc w (.cells #[] 5)))).flat (M' := fun _ => False) flat_byte
    clear h
    go_enter Tryz.func36, Tryz.ntmps36
    go_wp2_with (first
      | (at_builtin
         go_loud (refine wpList_append_list (v := .slice (some ⟨w.heap.size, 0, none⟩) 0 0) rfl (.tmp 5) (.tmp 6) _ rfl elem_byte rfl (Own.made Shape.byte _ w _ (Nat.le_refl _)) rfl hs (fun _ h => h.elim) ?_ ?_ ?_ ?_)
         · first | (simp; done) | (simp; omega)
         · first | (simp [maxLen]; done) | (simp [maxLen]; omega)
         · simp
         intro v' w1 hown hg hat))
    go_ret
    exact ⟨_, rfl, by simpa using hown, ((Below.refl _ _).alloc (Nat.le_refl _) _).grown hg (by simp) (by simp [Value.ownBlock])⟩
end Go.Proofs.YtfhfcipelgogjaaGreatDoor
