/- overlay's number; the reference's sparse and Latest. No condition but room. -/
import Derived.Test.YtnadldcdckjifaaDoorOvParts
namespace Go.Proofs.YtnadldcdckjifaaDoor
open Go.RowKit
set_option linter.unusedVariables false
set_option linter.unusedSimpArgs false
attribute [local go_sem] cell?_over frozen?_over lt_over le_over
def numN (t : ByteArray) (plain : Int) : Int := if t.size = 0 then plain else decV t.data.toList
def numOk (t : ByteArray) (most : Int) : Bool := if t.size = 0 then true else (decide (decErr t.data.toList = 0) && decide (decV t.data.toList ≤ most))
def topT (t : ByteArray) : Option (ByteArray × Bool) := if t.size = 0 then none else some (t, false)
theorem getT {M : Nat → Prop} {p : Nat} {rows : List OvKv} (w : World) (k t : ByteArray) (h : lvS.At w M p rows) (h8 : rows.length ≤ 8) (ht : topKv rows k = topT t) :
    Calls Tryd.prog 40 #[.pointer (some ⟨p, 0, none⟩), .string k] w fun e w' => e = .returned (.tuple #[.string t, .bool (decide (t.size ≠ 0))]) ∧ ∃ δ, w' = over w δ := by
  have hg := lvS.get w k h h8
  rw [ht] at hg
  unfold topT at hg
  by_cases hz : t.size = 0
  · have e : t = ⟨#[]⟩ := by
      obtain ⟨d⟩ := t
      have : d = #[] := Array.eq_empty_of_size_eq_zero hz
      rw [this]
    subst e
    exact hg
  · rw [if_neg hz] at hg
    rw [decide_eq_true hz]
    exact hg
set_option maxHeartbeats 1000000 in
set_option maxRecDepth 100000 in
theorem ovNumber {M : Nat → Prop} {p : Nat} {rows : List OvKv} (w : World) (k t : ByteArray) (plain most : Int) (h : lvS.At w M p rows) (h8 : rows.length ≤ 8) (ht : topKv rows k = topT t) (hs : t.size ≤ 140737488355328) (hv : ErrRangeOk w) :
    Calls Tryd.prog 39 #[.pointer (some ⟨p, 0, none⟩), .string k, .int .i64 plain, .int .i64 most] w fun e w' => e = .returned (.tuple #[.int .i64 (numN t plain), .bool (numOk t most)]) ∧ Below w.heap.size w w' := by
  have HG := Lib.hid (getT w k t h h8 ht)
  clear ht h h8
  by_cases hz : t.size = 0
  · have hd : decide (t.size ≠ 0) = false := by simpa using hz
    rw [hd] at HG
    have HN := Lib.hid (show numN t plain = plain ∧ numOk t most = true by unfold numN numOk; rw [if_pos hz, if_pos hz]; exact ⟨rfl, rfl⟩)
    clear hd hz
    go_enter Tryd.func39, Tryd.ntmps39
    go_wp2_with fail
    refine HG.out.mono ?_
    rintro e w2 ⟨rfl, δ, rfl⟩
    go_wp2_with fail
    go_ret2
    rw [HN.out.1, HN.out.2]
    exact ⟨rfl, below_over _ _⟩
  · have hd : decide (t.size ≠ 0) = true := by simpa using hz
    rw [hd] at HG
    have HN := Lib.hid (show numN t plain = decV t.data.toList ∧ numOk t most = (decide (decErr t.data.toList = 0) && decide (decV t.data.toList ≤ most)) by unfold numN numOk; rw [if_neg hz, if_neg hz]; exact ⟨rfl, rfl⟩)
    clear hd hz
    go_enter Tryd.func39, Tryd.ntmps39
    go_wp2_with fail
    refine HG.out.mono ?_
    rintro e w2 ⟨rfl, δ, rfl⟩
    go_wp2_with fail
    refine (decimal t _ hs (hv.keep (below_over _ _))).mono ?_
    rintro e w3 ⟨rfl, hb3⟩
    have HB := Lib.hid (below_old (below_over w δ) hb3)
    clear hb3
    generalize decV t.data.toList = V at *
    generalize decErr t.data.toList = E at *
    rcases (by by_cases h : E = 0; exact .inl h; exact .inr h : E = 0 ∨ ¬ E = 0) with hE | hE
    · subst hE
      by_cases hm : V ≤ most
      · go_wp2_with fail
        go_ret2
        rw [HN.out.1, HN.out.2]
        exact ⟨by simp [hm], HB.out⟩
      · go_wp2_with fail
        go_ret2
        rw [HN.out.1, HN.out.2]
        exact ⟨by simp [hm], HB.out⟩
    · have hE2 : (E == 0) = false := by simpa using hE
      go_wp2_with fail
      go_ret2
      rw [HN.out.1, HN.out.2]
      exact ⟨by simp [hE], HB.out⟩
end Go.Proofs.YtnadldcdckjifaaDoor
