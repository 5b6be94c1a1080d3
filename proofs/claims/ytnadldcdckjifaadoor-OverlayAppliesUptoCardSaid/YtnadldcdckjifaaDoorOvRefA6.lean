/- The reference's Apply: what it answers, whatever it is given. No condition but room. -/
import Derived.Test.YtnadldcdckjifaaDoorOvRefA2
import Derived.Test.YtnadldcdckjifaaDoorOvRefA4
import Derived.Test.YtnadldcdckjifaaDoorOvRefA5
import Derived.Test.YtnadldcdckjifaaDoorOvRefA7
import Derived.Test.YtnadldcdckjifaaDoorOvRefA8
namespace Go.Proofs.YtnadldcdckjifaaDoor
open Go.RowKit
theorem ovRef {x : ApIn} {A A' : Option Addr} {n c n' c' : Nat} (w : World) (ho : ApOk x w A A' n n') :
    Calls Tryd.prog 21 (x.args A A' n c n' c') w fun e w' => e = .returned x.res ∧ Below w.heap.size w w' := by
  cases hx : x.typeBad
  · cases hs : x.sparseBad
    · cases hn : x.numBad
      · by_cases hz : (x.v kMtime).size = 0
        · by_cases ht : (x.h.type.toNat : Int) ≤ 50
          · exact ovRef_m1a w ho hx hs (Lib.hid hn) (Lib.hid hz) (Lib.hid ht)
          · exact ovRef_m1b w ho hx hs (Lib.hid hn) (Lib.hid hz) (Lib.hid (by omega))
        · by_cases ht : (x.h.type.toNat : Int) ≤ 50
          · exact ovRef_m2a w ho hx hs (Lib.hid hn) (Lib.hid hz) (Lib.hid ht)
          · exact ovRef_m2b w ho hx hs (Lib.hid hn) (Lib.hid hz) (Lib.hid (by omega))
      · exact ovRef_bad w ho hx hs (Lib.hid hn)
    · refine (ovRef_sparse w ho hx hs).mono ?_
      rintro e w' ⟨rfl, hb⟩
      refine ⟨?_, hb⟩
      unfold ApIn.res
      rw [hx, hs]; rfl
  · refine (ovRef_type w hx).mono ?_
    rintro e w' ⟨rfl, hb⟩
    refine ⟨?_, hb⟩
    unfold ApIn.res
    rw [hx]; rfl
end Go.Proofs.YtnadldcdckjifaaDoor
