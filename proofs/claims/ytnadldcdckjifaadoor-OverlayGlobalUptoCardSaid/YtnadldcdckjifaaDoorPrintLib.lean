/- The library's part of printing: decimal numerals, joined texts, a trimmed text; each where the table of powers of ten is laid. No condition but room. -/
import Derived.Test.YtnadldcdckjifaaDoorLayPrint
import Derived.Test.YtnadldcdckjifaaDoorBase
import Derived.Lib.LaidTab
import Derived.Deep.DeepHandedRow
namespace Go.Proofs.YtnadldcdckjifaaDoor
open Go.RowKit
set_option linter.unusedVariables false
set_option linter.unusedSimpArgs false

/-- the table of powers of ten is laid in w -/
def Pow10 (w : World) : Prop := Lib.TabIs Tryd.prog w "internal/strconv.uint64pow10" .u64 Lib.pow10Tab
theorem gPow : Tryd.prog.globalNamed "internal/strconv.uint64pow10" = some 5 := by kernel_rfl
theorem below_grow (w : World) (k : Nat) (os : Array Obj) : Below w.heap.size w (Sort.grow (w.drewN k) os) :=
  ⟨rfl, rfl, rfl, by simp [Sort.grow, World.drewN], fun n hn => by
    simp only [Sort.grow]
    rw [Array.getElem?_append_left (by simpa [World.drewN] using hn)]
    rfl⟩
theorem itoa_calls (n : Int) (h : I64 n) (w : World) (hp : Pow10 w) :
    Calls Tryd.prog 34 #[.int .i64 n] w fun e w' => e = .returned (.string ⟨(Lib.itoa n).toArray⟩) ∧ Below w.heap.size w w' := by
  have := Any.strconv_Itoa Tryd.laysM171 n h.1 h.2 w hp
  change Calls Tryd.prog 34 _ _ _ at this
  refine this.mono ?_
  rintro e w' ⟨rfl, k, os, rfl⟩
  exact ⟨rfl, below_grow w k os⟩
theorem trimRight_calls (s : ByteArray) (c : UInt8) (hc : c.toNat < 128) (w : World) (hs : s.size ≤ 9223372036854775807) :
    Calls Tryd.prog 33 #[.string s, .string ⟨#[c]⟩] w fun e w' => e = .returned (.string ⟨(Lib.trimRightB s.data.toList c).toArray⟩) ∧ w' = w :=
  Any.strings_TrimRight_one Tryd.lays162 s c hc w hs
end Go.Proofs.YtnadldcdckjifaaDoor
