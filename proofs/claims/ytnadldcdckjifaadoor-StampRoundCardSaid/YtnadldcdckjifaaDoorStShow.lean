/- stamp.Show: what it returns. No condition but room. -/
import Derived.Test.YtnadldcdckjifaaDoorShow
import Derived.Lib.ItoaLen
namespace Go.Proofs.YtnadldcdckjifaaDoor
open Go.RowKit
attribute [local go_sem] cell?_over frozen?_over lt_over le_over
set_option linter.unusedVariables false
set_option linter.unusedSimpArgs false

def stSec (s n : Int) : Int := if s < 0 then (if 0 < n then -s - 1 else -s) else s
def stNano (s n : Int) : Int := if s < 0 ∧ 0 < n then 1000000000 - n else n
def stText (s n : Int) : List UInt8 :=
  (if s < 0 then [45] else []) ++ Lib.itoa (stSec s n) ++ (if 0 < stNano s n then 46 :: Lib.trimRightB ((Lib.itoa (1000000000 + stNano s n)).drop 1) 48 else [])
set_option maxHeartbeats 600000 in
set_option maxRecDepth 100000 in
theorem stampShow_bad (s n : Int) (w : World) (hb : stampOk s n = false) :
    Calls Tryd.prog 14 #[.agg #[.int .i64 s, .int .i64 n]] w fun e w' => e = .returned (.tuple #[.string ⟨#[]⟩, .int .i64 20]) ∧ Below w.heap.size w w' := by
  go_enter Tryd.func14, Tryd.ntmps14
  go_wp2_with (go_at_call 16; refine (stampValid s n _).mono ?_)
  rintro e w1 ⟨rfl, h1⟩
  rw [hb]
  have B1 := Lib.hid (((below_alloc_self w _).trans (h1.mono (by simp)) : Below w.heap.size w w1))
  clear h1
  go_wp2
  go_ret2
  exact ⟨rfl, B1.out⟩
set_option maxHeartbeats 600000 in
set_option maxRecDepth 100000 in
theorem stampShow_0 (s n : Int) (w : World) (hp : Pow10 w) (hs : I64 s) (hn : I64 n) (hb : stampOk s n = true) (h0 : decide (s < 0) = false) (h1 : decide (n > 0) = false) :
    Calls Tryd.prog 14 #[.agg #[.int .i64 s, .int .i64 n]] w fun e w' => e = .returned (.tuple #[.string (⟨#[]⟩ ++ ⟨(Lib.itoa s).toArray⟩), .int .i64 0]) ∧ Below w.heap.size w w' := by
  go_enter Tryd.func14, Tryd.ntmps14
  go_wp2_with (go_at_call 16; refine (stampValid s n _).mono ?_)
  rintro e w1 ⟨rfl, h1⟩
  rw [hb]
  have B1 := Lib.hid (((below_alloc_self w _).trans (h1.mono (by simp)) : Below w.heap.size w w1))
  have hlt : w.heap.size < w1.heap.size := by have := h1.size; simp at this; omega
  have k0 : w1.cell? ⟨w.heap.size, 0, none⟩ = some (.int .i64 s) := by rw [World.cell?_of_block (h1.block _ (by simp))]; go_simp
  have k1 : w1.cell? ⟨w.heap.size, 1, none⟩ = some (.int .i64 n) := by rw [World.cell?_of_block (h1.block _ (by simp))]; go_simp
  clear h1
  go_wp2_with fail
  refine wp_region_over_of (fun u => w.heap.size < u.heap.size ∧ u.cell? ⟨w.heap.size, 0, none⟩ = some (.int .i64 s) ∧ u.cell? ⟨w.heap.size, 1, none⟩ = some (.int .i64 n) ∧ Below w.heap.size w u) ⟨hlt, k0, k1, B1.out⟩ (by kernel_rfl) (by kernel_rfl) ?_
  rintro u ⟨g0, g1, g2, g3⟩
  repeat (go_big_quiet_step (fail))
  refine wpQuiet_nil ?_
  rintro _ ⟨δ', rfl⟩
  have hp2 := hp.keep (below_trans_over g3 (by omega) δ')
  have B2 := Lib.hid (below_trans_over g3 (by omega) δ')
  have HP := Lib.hid hp2
  clear hp2 g3
  have hl : ¬ 9223372036854775807 < (Lib.itoa s).length := by have := Lib.itoa_length_le s hs.1 hs.2; omega
  go_wp2_with (go_at_call 32; refine (numeralShow s hs _ HP.out).mono ?_)
  rintro e w3 ⟨rfl, h3⟩
  have B3 := Lib.hid (B2.out.trans (h3.mono B2.out.size))
  clear h3
  go_wp2
  go_ret2
  exact ⟨rfl, B3.out⟩
end Go.Proofs.YtnadldcdckjifaaDoor
