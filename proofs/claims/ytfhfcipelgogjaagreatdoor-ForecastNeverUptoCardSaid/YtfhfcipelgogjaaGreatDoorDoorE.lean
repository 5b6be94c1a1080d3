/- The world that holds what the row of ExtractDecides lists, and what its shape gives. No condition. -/
import Derived.Test.YtfhfcipelgogjaaGreatDoorPlanAll
import Derived.Test.YtfhfcipelgogjaaGreatDoorCards
import Derived.Test.YtfhfcipelgogjaaGreatDoorTie
import Derived.Deep.DeepHandedRow
import Derived.Deep.DeepWitnessRowRef
import Derived.LaidMore
import Derived.LaidSub
import Derived.MakeChecks
import Derived.Shelf.Vars
set_option linter.unusedVariables false
set_option linter.unusedSimpArgs false
namespace Go.Proofs.YtfhfcipelgogjaaGreatDoor
open Go.RowKit
theorem door_max {W:World} (h:W.ShapedOpen Tryz.prog):∃ n,W.cell? ⟨0,0,none⟩=some (.int .i64 n):=
 cell_of_shapedOpen_int (g:=0) (t:=3) (zero:=#[.int .i64 0]) (k:=.i64) h (by decide +kernel) (by kernel_rfl) rfl (by kernel_rfl) (by kernel_rfl) Tryz.underlying3
def cellsOfD:Nat→DataW Unit→List Value
 | 0,_=>[]
 | _+1,.lit (.int k n)=>[.int k n]
 | f+1,.agg l=>l.flatMap (cellsOfD f)
 | _,_=>[]
noncomputable def layAll:List (Nat×DataW Unit)→World→World
 | [],w=>w
 | (g,d) :: r,w=>layAll r { w with heap:=w.heap.modify g fun
   | .cells _ t frozen=>.cells (cellsOfD 4 d).toArray t frozen
   | o=>o }
noncomputable def laidWorld (os:Os):World:=layAll [(2,Rows.laid_unicode_utf8_first)] (World.doorLaid Tryz.prog 4000 os)
end Go.Proofs.YtfhfcipelgogjaaGreatDoor
