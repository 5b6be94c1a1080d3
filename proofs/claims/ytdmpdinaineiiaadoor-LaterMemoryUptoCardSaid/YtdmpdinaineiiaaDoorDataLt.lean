/- The data of the program as plain structures, and how they lie in memory. No condition. -/
import Derived.Test.YtdmpdinaineiiaaDoorBase
namespace Go.Proofs.YtdmpdinaineiiaaDoor
open Go.RowKit Go.ChangeShapes Go.WideShapes Go.Deep
set_option linter.unusedVariables false
set_option linter.unusedSimpArgs false
structure OpD where
  what : Int
  parts : List ByteArray
  v : Int
  deriving DecidableEq, Inhabited
def OpD.rd (w : World) (M : Nat → Prop) (cs : List Value) (d : OpD) : Prop :=
  ∃ (A1 : Option Addr) (n1 c1 : Nat), cs = [.int .i64 d.what, .slice A1 n1 c1, .int .i64 d.v] ∧ I64 d.what ∧ n1 ≤ c1 ∧ c1 ≤ maxLen ∧ Row Shape.str w M A1 n1 d.parts ∧ I64 d.v
def Shape.OpD : Shape OpD where
  size := 3
  pos := by decide
  rd := OpD.rd
  bulk d := Shape.int.bulk d.what + (Shape.slice Shape.str).bulk d.parts + Shape.int.bulk d.v + 1
  bpos _ := by omega
  len := fun {w M cs d} h => by obtain ⟨_, _, _, e, _, _, _, _, _⟩ := h; subst e; rfl
  keep := fun {w w' M cs d} h k => by obtain ⟨A1, n1, c1, e, h0, h1, h2, h3, h4⟩ := h; exact ⟨A1, n1, c1, e, h0, h1, h2, h3.keep k, h4⟩
  more := fun {w M M' cs d} h k => by obtain ⟨A1, n1, c1, e, h0, h1, h2, h3, h4⟩ := h; exact ⟨A1, n1, c1, e, h0, h1, h2, h3.more k, h4⟩
  one := fun {w M cs d} h v hv => by obtain ⟨_, _, _, e, _, _, _, _, _⟩ := h; subst e; simp only [List.mem_cons, List.not_mem_nil, or_false] at hv; rcases hv with rfl | rfl | rfl <;> rfl
set_option maxRecDepth 100000 in
theorem opens_OpD : Opens Tryd.prog Shape.OpD 32 := by
  refine ⟨by kernel_rfl, fun {H enc w fuel cs x} h => ?_⟩
  obtain ⟨xs, n, rfl, rfl, hlen, hxl, hf⟩ := DataW.trod_struct Tryd.underlying32 h
  have hl : cs.length = 3 := by rw [hlen]; kernel_rfl
  clear h hlen
  obtain ⟨y0, y1, y2, rfl⟩ : ∃ y0 y1 y2, cs = [y0, y1, y2] := by
    match cs, hl with | [y0, y1, y2], _ => exact ⟨y0, y1, y2, rfl⟩
  obtain ⟨x0, x1, x2, rfl⟩ : ∃ x0 x1 x2, xs = [x0, x1, x2] := by
    match xs, hxl with | [x0, x1, x2], _ => exact ⟨x0, x1, x2, rfl⟩
  have g0 : DataW.trod enc Tryd.prog w 0 (fun _ => true) true n 3 [y0] = some x0 := by
    have ck : Tryd.prog.cellsOf 3 = 1 := by kernel_rfl
    have g : DataW.trod enc Tryd.prog w 0 (fun _ => true) true n 3 (List.take (Tryd.prog.cellsOf 3) (List.drop 0 [y0, y1, y2])) = some x0 := hf 0 _ rfl
    rw [ck] at g; exact g
  have g1 : DataW.trod enc Tryd.prog w 0 (fun _ => true) true n 29 [y1] = some x1 := by
    have ck : Tryd.prog.cellsOf 29 = 1 := by kernel_rfl
    have g : DataW.trod enc Tryd.prog w 0 (fun _ => true) true n 29 (List.take (Tryd.prog.cellsOf 29) (List.drop 1 [y0, y1, y2])) = some x1 := hf 1 _ rfl
    rw [ck] at g; exact g
  have g2 : DataW.trod enc Tryd.prog w 0 (fun _ => true) true n 3 [y2] = some x2 := by
    have ck : Tryd.prog.cellsOf 3 = 1 := by kernel_rfl
    have g : DataW.trod enc Tryd.prog w 0 (fun _ => true) true n 3 (List.take (Tryd.prog.cellsOf 3) (List.drop 2 [y0, y1, y2])) = some x2 := hf 2 _ rfl
    rw [ck] at g; exact g
  clear hf hl hxl
  obtain ⟨a0, r0, b0⟩ := (opens_int (by kernel_rfl) Tryd.underlying3).2 g0
  obtain ⟨a1, r1, b1⟩ := (opens_slice (by kernel_rfl) Tryd.underlying29 (opens_str (by kernel_rfl) Tryd.underlying9)).2 g1
  obtain ⟨a2, r2, b2⟩ := (opens_int (by kernel_rfl) Tryd.underlying3).2 g2
  obtain ⟨e0, i0⟩ := r0
  simp only [List.cons.injEq, and_true] at e0
  subst e0
  obtain ⟨z1, e1, A1, n1, c1, rfl, i1, j1, k1⟩ := r1
  simp only [List.cons.injEq, and_true] at e1
  subst e1
  obtain ⟨e2, i2⟩ := r2
  simp only [List.cons.injEq, and_true] at e2
  subst e2
  refine ⟨⟨a0, a1, a2⟩, ⟨A1, n1, c1, rfl, i0, i1, j1, k1, i2⟩, ?_⟩
  simp only [Shape.OpD, List.map_cons, List.map_nil, Rows.uptoBulk, Rows.uptoBulkAll]
  omega
theorem elem_OpD : Elem Tryd.prog 22 32 Shape.OpD 40 := ⟨Tryd.underlying22, by kernel_rfl⟩
theorem whole_OpD : Whole Tryd.prog 32 3 := ⟨by kernel_rfl, by kernel_rfl⟩

structure ItemD where
  parts : List ByteArray
  v : Int
  deriving DecidableEq, Inhabited
def ItemD.rd (w : World) (M : Nat → Prop) (cs : List Value) (d : ItemD) : Prop :=
  ∃ (A1 : Option Addr) (n1 c1 : Nat), cs = [.slice A1 n1 c1, .int .i64 d.v] ∧ n1 ≤ c1 ∧ c1 ≤ maxLen ∧ Row Shape.str w M A1 n1 d.parts ∧ I64 d.v
def Shape.ItemD : Shape ItemD where
  size := 2
  pos := by decide
  rd := ItemD.rd
  bulk d := (Shape.slice Shape.str).bulk d.parts + Shape.int.bulk d.v + 1
  bpos _ := by omega
  len := fun {w M cs d} h => by obtain ⟨_, _, _, e, _, _, _, _⟩ := h; subst e; rfl
  keep := fun {w w' M cs d} h k => by obtain ⟨A1, n1, c1, e, h0, h1, h2, h3⟩ := h; exact ⟨A1, n1, c1, e, h0, h1, h2.keep k, h3⟩
  more := fun {w M M' cs d} h k => by obtain ⟨A1, n1, c1, e, h0, h1, h2, h3⟩ := h; exact ⟨A1, n1, c1, e, h0, h1, h2.more k, h3⟩
  one := fun {w M cs d} h v hv => by obtain ⟨_, _, _, e, _, _, _, _⟩ := h; subst e; simp only [List.mem_cons, List.not_mem_nil, or_false] at hv; rcases hv with rfl | rfl <;> rfl
set_option maxRecDepth 100000 in
theorem opens_ItemD : Opens Tryd.prog Shape.ItemD 66 := by
  refine ⟨by kernel_rfl, fun {H enc w fuel cs x} h => ?_⟩
  obtain ⟨xs, n, rfl, rfl, hlen, hxl, hf⟩ := DataW.trod_struct Tryd.underlying66 h
  have hl : cs.length = 2 := by rw [hlen]; kernel_rfl
  clear h hlen
  obtain ⟨y0, y1, rfl⟩ : ∃ y0 y1, cs = [y0, y1] := by
    match cs, hl with | [y0, y1], _ => exact ⟨y0, y1, rfl⟩
  obtain ⟨x0, x1, rfl⟩ : ∃ x0 x1, xs = [x0, x1] := by
    match xs, hxl with | [x0, x1], _ => exact ⟨x0, x1, rfl⟩
  have g0 : DataW.trod enc Tryd.prog w 0 (fun _ => true) true n 29 [y0] = some x0 := by
    have ck : Tryd.prog.cellsOf 29 = 1 := by kernel_rfl
    have g : DataW.trod enc Tryd.prog w 0 (fun _ => true) true n 29 (List.take (Tryd.prog.cellsOf 29) (List.drop 0 [y0, y1])) = some x0 := hf 0 _ rfl
    rw [ck] at g; exact g
  have g1 : DataW.trod enc Tryd.prog w 0 (fun _ => true) true n 3 [y1] = some x1 := by
    have ck : Tryd.prog.cellsOf 3 = 1 := by kernel_rfl
    have g : DataW.trod enc Tryd.prog w 0 (fun _ => true) true n 3 (List.take (Tryd.prog.cellsOf 3) (List.drop 1 [y0, y1])) = some x1 := hf 1 _ rfl
    rw [ck] at g; exact g
  clear hf hl hxl
  obtain ⟨a0, r0, b0⟩ := (opens_slice (by kernel_rfl) Tryd.underlying29 (opens_str (by kernel_rfl) Tryd.underlying9)).2 g0
  obtain ⟨a1, r1, b1⟩ := (opens_int (by kernel_rfl) Tryd.underlying3).2 g1
  obtain ⟨z0, e0, A0, n0, c0, rfl, i0, j0, k0⟩ := r0
  simp only [List.cons.injEq, and_true] at e0
  subst e0
  obtain ⟨e1, i1⟩ := r1
  simp only [List.cons.injEq, and_true] at e1
  subst e1
  refine ⟨⟨a0, a1⟩, ⟨A0, n0, c0, rfl, i0, j0, k0, i1⟩, ?_⟩
  simp only [Shape.ItemD, List.map_cons, List.map_nil, Rows.uptoBulk, Rows.uptoBulkAll]
  omega
theorem elem_ItemD : Elem Tryd.prog 26 66 Shape.ItemD 32 := ⟨Tryd.underlying26, by kernel_rfl⟩
theorem whole_ItemD : Whole Tryd.prog 66 2 := ⟨by kernel_rfl, by kernel_rfl⟩

end Go.Proofs.YtdmpdinaineiiaaDoor
