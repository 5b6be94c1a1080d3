/- The document's matches: the table of places. No condition but room. -/
import Derived.Test.YtfhfcipelgogjaaGreatDoorRfAll
import Derived.Test.YtfhfcipelgogjaaGreatDoorBaseAt
import Derived.Deep.DeepCutAuto
import Derived.Deep.CutRange
import Derived.Deep.CutBlock
set_option linter.unusedVariables false
set_option linter.unusedSimpArgs false
namespace Go.Proofs.YtfhfcipelgogjaaGreatDoor
open Go.RowKit
attribute [local go_sem] cell?_over frozen?_over lt_over le_over
abbrev BoolsB (w:World) (g:Nat) (l:List Bool):Prop:=Blk w g 4 (l.map Value.bool).toArray
theorem BoolsB.at_ {w:World} {g:Nat} {l:List Bool} (h:BoolsB w g l) {i:Nat} (hi:i<l.length):w.cell? ⟨g,i,none⟩=some (.bool (l.getD i false)):=by
 rw [h.cell i]
 simp only [List.getElem?_toArray,List.getElem?_map]
 rw [List.getElem?_eq_getElem hi]
 simp [List.getD_eq_getElem?_getD,List.getElem?_eq_getElem hi]
theorem BoolsB.put {w:World} {g:Nat} {l:List Bool} (h:BoolsB w g l) (i:Nat) (v:Bool):BoolsB (w.setCell ⟨g,i,none⟩ (.bool v)) g (l.set i v):=by
 have:=h.set_ i (.bool v)
 rwa [map_set_bool] at this
end Go.Proofs.YtfhfcipelgogjaaGreatDoor
