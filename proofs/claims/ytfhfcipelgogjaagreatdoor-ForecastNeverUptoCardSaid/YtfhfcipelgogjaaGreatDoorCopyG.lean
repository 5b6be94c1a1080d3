/- Copies of nodes and graphs. No condition but room. -/
import Derived.Test.YtfhfcipelgogjaaGreatDoorDataAll
import Derived.Test.YtfhfcipelgogjaaGreatDoorSameAll
import Derived.Test.YtfhfcipelgogjaaGreatDoorRooted
import Derived.Test.YtfhfcipelgogjaaGreatDoorBaseAt
set_option linter.unusedSectionVars false
set_option linter.unusedVariables false
set_option linter.unusedSimpArgs false
namespace Go.Proofs.YtfhfcipelgogjaaGreatDoor
open Go.RowKit
attribute [local go_sem] cell?_over frozen?_over lt_over le_over
theorem flat_EntD:Shape.EntD.Flat:=fun h=>h
theorem own_some {α:Type} {s:Shape α} {e:TypeId} {w:World} {base:Nat} {M:Nat→Prop} {v:Value} {l:List α} (h:Own s e w base M v l) (hl:l≠[]):∃ g cap,v=.slice (some ⟨g,0,none⟩) l.length cap∧l.length≤cap:=by
 rcases h.form with ⟨_,h0⟩ | ⟨g,cap,hv,_,_,h1,_⟩
 ·exact absurd h0 hl
 ·exact ⟨g,cap,hv,h1⟩
theorem whole_Graph:Whole Tryz.prog 24 1:=⟨by kernel_rfl,by kernel_rfl⟩
end Go.Proofs.YtfhfcipelgogjaaGreatDoor
