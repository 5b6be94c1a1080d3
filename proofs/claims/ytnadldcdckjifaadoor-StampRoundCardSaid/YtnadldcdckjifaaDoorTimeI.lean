/- A time that came in, opened, with its numbers' bounds. No condition. -/
import Derived.Test.YtnadldcdckjifaaDoorTime
import Derived.Test.YtnadldcdckjifaaDoorOpens
namespace Go.Proofs.YtnadldcdckjifaaDoor
open Go.ChangeShapes Go.WideShapes Go.RowKit Go.Joins
set_option maxRecDepth 100000 in
theorem open_timeI {H : Type} {enc : TypeId × Value → H} {w : World} {base : Nat} {spare : Nat → Bool} {held : Bool} {r : Reach} {b0 : Nat} {v : Value} {d : DataW H} {p : List MemPlace}
    (hv : Value.okWide Tryd.prog w r b0 24 v) (h : DataW.Trod enc Tryd.prog w base spare held 24 v d p) :
    ∃ s n : Int, v = .agg #[.int .i64 s, .int .i64 n] ∧ I64 s ∧ I64 n := by
  obtain ⟨c0, c1, y0, y1, m, rfl, rfl, rfl, hy0, hy1⟩ := open_agg2 Tryd.underlying24 (by kernel_rfl) cellsTime hv h
  obtain ⟨a, e0, -, w0⟩ := DataW.trod_int Tryd.underlying3 hy0
  obtain ⟨b, e1, -, w1⟩ := DataW.trod_int Tryd.underlying3 hy1
  simp at e0 e1
  subst e0 e1
  exact ⟨a, b, rfl, wf_I64 w0, wf_I64 w1⟩
end Go.Proofs.YtnadldcdckjifaaDoor
