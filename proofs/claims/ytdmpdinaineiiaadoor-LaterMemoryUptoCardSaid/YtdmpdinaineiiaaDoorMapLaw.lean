/- Maps as lists of pairs: what is found behind a pair put. No condition. -/
import Derived.Test.YtdmpdinaineiiaaDoorMap
set_option linter.unusedSectionVars false
set_option linter.unusedVariables false
set_option linter.unusedSimpArgs false
namespace Go.Proofs.YtdmpdinaineiiaaDoor
open Go.RowKit
section
variable {κ V : Type} [DecidableEq κ]
theorem getKv_putKv (kv : List (κ × V)) (k k' : κ) (v : V) : getKv (putKv kv k v) k' = if k' = k then some v else getKv kv k' := by
  unfold putKv
  by_cases hh : hasKv kv k = true
  · rw [if_pos hh]
    by_cases e : k' = k
    · subst e
      rw [if_pos rfl]
      induction kv with
      | nil => simp [hasKv] at hh
      | cons p kv ih =>
        by_cases hp : p.1 = k'
        · simp [getKv, hp]
        · have : hasKv kv k' = true := by simpa [hasKv, hp] using hh
          have ih := ih this
          simp only [getKv, List.map_cons, hp, if_false] at ih ⊢
          simp only [List.find?_cons, hp, decide_false]
          exact ih
    · rw [if_neg e]
      clear hh
      induction kv with
      | nil => rfl
      | cons p kv ih =>
        by_cases hp : p.1 = k
        · have hp' : ¬ k = k' := fun h => e h.symm
          have hp2 : ¬ p.1 = k' := fun h => e (h.symm.trans hp)
          simp only [getKv, List.map_cons, hp, if_true, List.find?_cons, hp', hp2, decide_false] at ih ⊢
          exact ih
        · by_cases hp2 : p.1 = k'
          · simp [getKv, hp, hp2, e]
          · simp only [getKv, List.map_cons, hp, if_false, List.find?_cons, hp2, decide_false] at ih ⊢
            exact ih
  · rw [if_neg hh]
    have hnone : ∀ p ∈ kv, ¬ p.1 = k := by
      intro p hp he
      exact hh (by simp only [hasKv, List.any_eq_true]; exact ⟨p, hp, by simpa using he⟩)
    unfold getKv
    rw [List.find?_append]
    by_cases e : k' = k
    · subst e
      rw [if_pos rfl, List.find?_eq_none.2 (fun p hp => by simpa using hnone p hp)]
      simp
    · rw [if_neg e]
      have : ¬ k = k' := fun h => e h.symm
      simp [List.find?_cons, this]
end
end Go.Proofs.YtdmpdinaineiiaaDoor
