/- stamp.Show of a good stamp: its text. No condition but room. -/
import Derived.Test.YtnadldcdckjifaaDoorStShow3
namespace Go.Proofs.YtnadldcdckjifaaDoor
open Go.RowKit
set_option linter.unusedVariables false
set_option linter.unusedSimpArgs false
theorem stampShow (s n : Int) (w : World) (hp : Pow10 w) (hs : I64 s) (hn : I64 n) (hb : stampOk s n = true) :
    Calls Tryd.prog 14 #[.agg #[.int .i64 s, .int .i64 n]] w fun e w' => e = .returned (.tuple #[.string ⟨(stText s n).toArray⟩, .int .i64 0]) ∧ Below w.heap.size w w' := by
  by_cases h0 : s < 0 <;> by_cases h1 : n > 0
  · exact stampShow_3 s n w hp hs hn hb (by simpa using h0) (by simpa using h1)
  · refine (stampShow_2 s n w hp hs hn hb (by simpa using h0) (by simpa using h1)).mono ?_
    rintro e w' ⟨he, hB⟩
    refine ⟨he.trans (congrArg (fun b => Ending.returned (Value.tuple #[Value.string b, Value.int .i64 0])) ?_), hB⟩
    have hss : stSec s n = -s := by unfold stSec; rw [if_pos h0, if_neg h1]
    have hnn : stNano s n = n := by unfold stNano; rw [if_neg (fun h => h1 h.2)]
    unfold stText
    rw [hss, hnn, if_pos h0, if_neg h1]
    apply ByteArray.ext
    simp [ByteArray.data_append]
  · exact stampShow_1 s n w hp hs hn hb (by simpa using h0) (by simpa using h1)
  · refine (stampShow_0 s n w hp hs hn hb (by simpa using h0) (by simpa using h1)).mono ?_
    rintro e w' ⟨he, hB⟩
    refine ⟨he.trans (congrArg (fun b => Ending.returned (Value.tuple #[Value.string b, Value.int .i64 0])) ?_), hB⟩
    have hss : stSec s n = s := by unfold stSec; rw [if_neg h0]
    have hnn : stNano s n = n := by unfold stNano; rw [if_neg (fun h => h1 h.2)]
    unfold stText
    rw [hss, hnn, if_neg h0, if_neg h1]
    apply ByteArray.ext
    simp [ByteArray.data_append]
end Go.Proofs.YtnadldcdckjifaaDoor
