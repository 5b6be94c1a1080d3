/- stamp.Valid and the reference's Valid: the same plain test. No condition. -/
import Derived.Test.YtkpblhikndennaaGreatDoorBase
import Derived.Test.YtkpblhikndennaaGreatDoorDataT
namespace Go.Proofs.YtkpblhikndennaaGreatDoor
open Go.RowKit
set_option linter.unusedVariables false
set_option linter.unusedSimpArgs false

def stampOk (s n : Int) : Bool := decide (0 ≤ n ∧ n < 1000000000 ∧ -1099511627777 ≤ s ∧ s ≤ 1099511627776 ∧ (s ≠ -1099511627777 ∨ 0 < n))
theorem below_alloc_self (w : World) (o : Obj) : Below w.heap.size w (w.alloc o) :=
  ⟨rfl, rfl, rfl, by simp, fun n hn => Below.heap_alloc w o n hn⟩
set_option maxHeartbeats 600000 in
set_option maxRecDepth 100000 in
theorem stampValid (s n : Int) (w : World) :
    Calls Tryz.prog 87 #[.agg #[.int .i64 s, .int .i64 n]] w fun e w' => e = .returned (.bool (stampOk s n)) ∧ Below w.heap.size w w' := by
  unfold stampOk
  by_cases h0 : n < 0
  · have hd : decide (n < 0) = true := by simpa using h0
    go_enter Tryz.func87, Tryz.ntmps87
    go_wp2
    go_ret
    exact ⟨by simp <;> omega, below_alloc_self w _⟩
  have hd0 : decide (n < 0) = false := by simpa using h0
  by_cases h1 : 1000000000 ≤ n
  · have hd : decide (n ≥ 1000000000) = true := by simpa using h1
    go_enter Tryz.func87, Tryz.ntmps87
    go_wp2
    go_ret
    exact ⟨by simp <;> omega, below_alloc_self w _⟩
  have hd1 : decide (n ≥ 1000000000) = false := by simpa using h1
  by_cases h2 : s = -1099511627777
  · subst h2
    go_enter Tryz.func87, Tryz.ntmps87
    go_wp2
    go_ret
    exact ⟨by simp <;> omega, below_alloc_self w _⟩
  have hd2 : (s == -1099511627777) = false := by simpa using h2
  go_enter Tryz.func87, Tryz.ntmps87
  by_cases h3 : -1099511627777 < s
  · have hd3 : decide (s > -1099511627777) = true := by simpa using h3
    go_wp2
    go_ret
    exact ⟨by simp <;> omega, below_alloc_self w _⟩
  · have hd3 : decide (s > -1099511627777) = false := by simpa using h3
    go_wp2
    go_ret
    exact ⟨by simp <;> omega, below_alloc_self w _⟩
set_option maxHeartbeats 600000 in
set_option maxRecDepth 100000 in
theorem refValid (s n : Int) (w : World) :
    Calls Tryz.prog 72 #[.agg #[.int .i64 s, .int .i64 n]] w fun e w' => e = .returned (.bool (stampOk s n)) ∧ Below w.heap.size w w' := by
  unfold stampOk
  by_cases h0 : n < 0
  · have hd : decide (n < 0) = true := by simpa using h0
    go_enter Tryz.func72, Tryz.ntmps72
    go_wp2
    go_ret
    exact ⟨by simp <;> omega, below_alloc_self w _⟩
  have hd0 : decide (n < 0) = false := by simpa using h0
  by_cases h1 : 1000000000 ≤ n
  · have hd : decide (n ≥ 1000000000) = true := by simpa using h1
    go_enter Tryz.func72, Tryz.ntmps72
    go_wp2
    go_ret
    exact ⟨by simp <;> omega, below_alloc_self w _⟩
  have hd1 : decide (n ≥ 1000000000) = false := by simpa using h1
  by_cases h2 : 1099511627776 < s
  · have hd : decide (s > 1099511627776) = true := by simpa using h2
    go_enter Tryz.func72, Tryz.ntmps72
    go_wp2
    go_ret
    exact ⟨by simp <;> omega, below_alloc_self w _⟩
  have hd2 : decide (s > 1099511627776) = false := by simpa using h2
  by_cases h3 : s < -1099511627777
  · have hd : decide (s < -1099511627777) = true := by simpa using h3
    go_enter Tryz.func72, Tryz.ntmps72
    go_wp2
    go_ret
    exact ⟨by simp <;> omega, below_alloc_self w _⟩
  have hd3 : decide (s < -1099511627777) = false := by simpa using h3
  by_cases h4 : s = -1099511627777
  · subst h4
    by_cases h5 : n = 0
    · subst h5
      go_enter Tryz.func72, Tryz.ntmps72
      go_wp2
      go_ret
      exact ⟨by simp <;> omega, below_alloc_self w _⟩
    have hd5 : (n != 0) = true := by simpa using h5
    go_enter Tryz.func72, Tryz.ntmps72
    go_wp2
    go_ret
    exact ⟨by simp <;> omega, below_alloc_self w _⟩
  have hd4 : (s != -1099511627777) = true := by simpa using h4
  go_enter Tryz.func72, Tryz.ntmps72
  go_wp2
  go_ret
  exact ⟨by simp <;> omega, below_alloc_self w _⟩
end Go.Proofs.YtkpblhikndennaaGreatDoor
