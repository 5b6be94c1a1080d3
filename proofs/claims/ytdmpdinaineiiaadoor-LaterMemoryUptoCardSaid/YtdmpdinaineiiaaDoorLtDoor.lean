/- The worlds that hold what the rows of later list. No condition. -/
import Derived.Test.YtdmpdinaineiiaaDoorLtLib
import Derived.Test.YtdmpdinaineiiaaDoorCards
import Derived.Test.YtdmpdinaineiiaaDoorTie
import Derived.Deep.DeepHandedRow
import Derived.LaidMore
import Derived.LaidSub
import Derived.MakeChecks
namespace Go.Proofs.YtdmpdinaineiiaaDoor
open Go.RowKit
set_option linter.unusedVariables false
set_option linter.unusedSimpArgs false
def cellsOfD : Nat → DataW Unit → List Value
  | 0, _ => []
  | _ + 1, .lit (.int k n) => [.int k n]
  | f + 1, .agg l => l.flatMap (cellsOfD f)
  | _, _ => []
noncomputable def layAll : List (Nat × DataW Unit) → World → World
  | [], w => w
  | (g, d) :: r, w => layAll r { w with heap := w.heap.modify g fun
      | .cells _ t frozen => .cells (cellsOfD 4 d).toArray t frozen
      | o => o }
theorem gPowType : (Tryd.prog.globals[0]?).map (·.type) = some 144 := by kernel_rfl
theorem small_script {sc : List OpD} {m : Nat} (h : bulkAll Shape.OpD.bulk sc + 1 ≤ m) (hm : m ≤ 1048576) : ∀ o ∈ sc, sizeAll o.parts ≤ 1048576 := fun o ho => by
  have h1 := mem_bulk Shape.OpD.bulk ho
  have h2 : sizeAll o.parts ≤ Shape.OpD.bulk o := by
    simp only [Shape.OpD, Shape.slice, Shape.int]
    unfold sizeAll
    omega
  omega
end Go.Proofs.YtdmpdinaineiiaaDoor
