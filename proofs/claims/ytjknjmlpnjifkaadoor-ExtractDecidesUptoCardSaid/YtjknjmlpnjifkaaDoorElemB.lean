/- Byte lists: their elements. No condition. -/
import Derived.Test.YtjknjmlpnjifkaaDoorByt
import Derived.BigGuardPart
namespace Go.Proofs.YtjknjmlpnjifkaaDoor
open Go.RowKit
set_option linter.unusedVariables false
set_option linter.unusedSimpArgs false
theorem elem_byte : Elem Tryd.prog 24 5 Shape.byte 1 := ⟨Tryd.underlying24, by kernel_rfl⟩
end Go.Proofs.YtjknjmlpnjifkaaDoor
