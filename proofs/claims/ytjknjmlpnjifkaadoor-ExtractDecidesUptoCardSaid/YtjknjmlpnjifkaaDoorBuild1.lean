/- A slice of one struct, built where the struct is not written out. No condition. -/
import Derived.Test.YtjknjmlpnjifkaaDoorBase
namespace Go.Proofs.YtjknjmlpnjifkaaDoor
open Go.RowKit
set_option linter.unusedVariables false
set_option linter.unusedSimpArgs false
theorem fold_set : ∀ (l : List Value) (k : Nat) (a : Array Value), k + l.length ≤ a.size → ((l.zipIdx k).foldl (fun cs x => cs.setIfInBounds x.2 x.1) a).toList = a.toList.take k ++ l ++ a.toList.drop (k + l.length)
  | [], k, a, _ => by simp
  | c :: l, k, a, h => by
    rw [List.zipIdx_cons, List.foldl_cons]
    have hl : k + (l.length + 1) ≤ a.size := by simpa using h
    have ih := fold_set l (k + 1) (a.setIfInBounds k c) (by simp; omega)
    rw [ih, Array.toList_setIfInBounds]
    have h1 : (a.toList.set k c).take (k + 1) = a.toList.take k ++ [c] := by
      apply List.ext_getElem?
      intro i
      by_cases hi : i < k
      · rw [List.getElem?_take_of_lt (by omega), List.getElem?_set_ne (by omega), List.getElem?_append_left (by simp; omega), List.getElem?_take_of_lt hi]
      · by_cases hi2 : i = k
        · subst hi2
          rw [List.getElem?_take_of_lt (by omega), List.getElem?_set_self (by simp; omega), List.getElem?_append_right (by simp [Nat.min_le_left])]
          have : i - (List.take i a.toList).length = 0 := by simp; omega
          rw [this]; rfl
        · rw [List.getElem?_eq_none (by simp; omega), List.getElem?_eq_none (by simp; omega)]
    have h2 : (a.toList.set k c).drop (k + 1 + l.length) = a.toList.drop (k + (c :: l).length) := by
      rw [List.drop_set_of_lt (by omega)]
      congr 1
      simp; omega
    rw [h1, h2]
    simp
theorem fill_one (z cs : Array Value) (n : Nat) (hz : z.size = n) (hc : cs.size = n) : Instr.fill (fun i => some (i * n, n)) z [(0, .agg cs)] = some cs := by
  have hcells : (Value.agg cs).cells = cs := rfl
  unfold Instr.fill
  simp only [hcells]
  rw [if_neg (by simp [hc, hz])]
  unfold Instr.fill
  congr 1
  apply Array.ext'
  rw [← Array.foldl_toList, Array.toList_zipIdx]
  have := fold_set cs.toList 0 z (by simp; omega)
  simp only [Nat.zero_mul, Nat.zero_add]
  rw [this]
  simp
  omega
theorem run_build_one {P : Program} {t e : TypeId} {i : TypeInfo} {z : Value} {n : Nat} (ht : P.underlying t = some (.slice e)) (hi : P.info? e = some i) (hz : i.zero = some z) (hs : i.size = n) (hzs : z.cells.size = n) (hn : 0 < n) (hn2 : n ≤ 16777216) (cs : Array Value) (hc : cs.size = n) (W : World) :
    (Instr.buildSlice t 1 #[(0, .agg cs)]).run P W = .ok (.slice (some ⟨W.heap.size, 0, none⟩) 1 1) (W.alloc (.cells cs e)) := by
  have hf := fill_one ((Array.range (1 * n)).map (z.cells[· % z.cells.size]!)) cs n (by simp) hc
  have h1 : ¬ (2 ^ 24 < 1 * n) := by omega
  have h2 : ¬ (1 * n = 0) := by omega
  simp only [Nat.one_mul] at hf h1 h2
  simp [Instr.buildSlice, run_underlying ht, sizeOf, typeInfo, hi, hs, zeroValue, hz, h1, h2, newRow]
  rw [hf]
  simp
theorem wpList_build_one {P : Program} {ops : Array Oper} {Q : Exit → Act → World → Prop} {o : Oper} {rest : List Oper} {a : Act} {w : World} (hgd : o.guard = none) (t : TypeId) (x : Operand) (ho : o.op = .buildSlice t 1 #[(0, x)]) {e : TypeId} {i : TypeInfo} {z : Value} {n : Nat} (ht : P.underlying t = some (.slice e)) (hi : P.info? e = some i) (hz : i.zero = some z) (hs : i.size = n) (hzs : z.cells.size = n) (hn : 0 < n) (hn2 : n ≤ 16777216) {cs : Array Value} (hx : a.eval x = .agg cs) (hc : cs.size = n)
    (h : wpList P ops Q rest (a.put o.dst (.slice (some ⟨w.heap.size, 0, none⟩) 1 1)) (w.alloc (.cells cs e))) : wpList P ops Q (o :: rest) a w := by
  refine wpList_plain hgd fun K' hK' => ?_
  unfold Oper.wp
  simp [execOp, ho, hx, run_build_one ht hi hz hs hzs hn hn2 cs hc, Result.andThen]
  exact hK' _ _ h
theorem at_build {P : Program} {ops : Array Oper} {Q : Exit → Act → World → Prop} {o : Oper} {rest : List Oper} {a : Act} {w : World} {t : TypeId} {x : Operand} (ho : o.op = .buildSlice t 1 #[(0, x)]) (h : wpList P ops Q (o :: rest) a w) : wpList P ops Q (o :: rest) a w := h
end Go.Proofs.YtjknjmlpnjifkaaDoor
