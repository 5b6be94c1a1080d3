/- Two doors that tell a load and a store of a struct from other operations. No condition. -/
import Derived.Test.YtjknjmlpnjifkaaDoorBase
import Derived.Laws.ResultCell
namespace Go.Proofs.YtjknjmlpnjifkaaDoor
open Go.RowKit
set_option linter.unusedVariables false
theorem at_load {P : Program} {ops : Array Oper} {Q : Exit → Act → World → Prop} {o : Oper} {rest : List Oper} {a : Act} {w : World} {ty : TypeId} {x : Operand} (ho : o.op = .load ty x) (h : wpList P ops Q (o :: rest) a w) : wpList P ops Q (o :: rest) a w := h
theorem at_store {P : Program} {ops : Array Oper} {Q : Exit → Act → World → Prop} {o : Oper} {rest : List Oper} {a : Act} {w : World} {ty : TypeId} {x y : Operand} (ho : o.op = .store ty x y) (h : wpList P ops Q (o :: rest) a w) : wpList P ops Q (o :: rest) a w := h
theorem ret_blk_tmp {P : Program} {a : Act} {w : World} {fn : Func} {R : Ending → World → Prop} {p u : Tmp} {ty : TypeId} {g : Nat} {t : TypeId} {cs : Array Value} (hres : fn.results = #[.cell p ty, .tmp u]) (hp : a.tmps.getD p undef = .pointer (some ⟨g, 0, none⟩))
    (hb : Blk w g t cs) (hw : Whole P ty cs.size) (hdef : a.defers = []) {v : Value} (hv : a.tmps.getD u undef = v) (hR : R (.returned (.tuple #[.agg cs, v])) w) : bodyPost P fn R .ret a w := by
  obtain ⟨d, hu, hd⟩ := hw.parts
  subst hv
  refine bodyPost_ret ?_ hdef hR
  rw [results_cell_tmp hres, hp]
  have hl := run_loadVar_row (P := P) w g t ty cs (0, 0) d hb hu (by revert hd; cases d <;> simp) hw.info
  simp only [asAddr, Sem.run_pure, Result.andThen_ok, hl]
/-- a text in a row of texts -/
theorem str_cell {w : World} {M : Nat → Prop} {A : Option Addr} {n : Nat} {l : List ByteArray} (h : Row Shape.str w M A n l) {i : Nat} (hi : i < n) : ∃ (b off : Nat) (hl : i < l.length), A = some ⟨b, off, none⟩ ∧ M b ∧ w.cell? ⟨b, off + i, none⟩ = some (.string l[i]) ∧ l[i].size ≤ maxLen := by
  obtain ⟨b, off, es, hl, hA, hb, hc, hc0, hrd⟩ := h.elem (Keeps.refl _ _) hi
  have e1 : Shape.str.size = 1 := rfl
  rw [e1, Nat.mul_one] at hc0
  obtain ⟨hes, hsz⟩ := hrd
  subst hes
  exact ⟨b, off, hl, hA, hb, hc0, hsz⟩
end Go.Proofs.YtjknjmlpnjifkaaDoor
