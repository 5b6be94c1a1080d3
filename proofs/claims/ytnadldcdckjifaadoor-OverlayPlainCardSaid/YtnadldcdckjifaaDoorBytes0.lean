/- Small lemmas on worlds and texts. No condition. -/
import Derived.Test.YtnadldcdckjifaaDoorOver
namespace Go.Proofs.YtnadldcdckjifaaDoor
open Go.RowKit
set_option linter.unusedVariables false
set_option linter.unusedSimpArgs false
theorem below_old {w wr w' : World} (h : Below w.heap.size w wr) (k : Below wr.heap.size wr w') : Below w.heap.size w w' := h.trans (k.mono h.size)
theorem str_ne {a b : ByteArray} (h : ¬ a = b) : (a.toList == b.toList) = false := by
  rw [beq_eq_false_iff_ne, ByteArray.toList_eq, ByteArray.toList_eq]
  intro e
  apply h
  cases a; cases b
  simp only [ByteArray.mk.injEq] at *
  exact Array.toList_inj.1 e
end Go.Proofs.YtnadldcdckjifaaDoor
