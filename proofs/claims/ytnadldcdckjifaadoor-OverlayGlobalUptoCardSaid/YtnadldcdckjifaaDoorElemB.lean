/- Byte lists: their elements. No condition. -/
import Derived.Test.YtnadldcdckjifaaDoorByt
import Derived.BigGuardPart
namespace Go.Proofs.YtnadldcdckjifaaDoor
open Go.RowKit
set_option linter.unusedVariables false
set_option linter.unusedSimpArgs false
theorem elem_byte : Elem Tryd.prog 39 5 Shape.byte 1 := ⟨Tryd.underlying39, by kernel_rfl⟩
end Go.Proofs.YtnadldcdckjifaaDoor
