/- The data of the program as plain structures, and how they lie in memory. No condition. -/
import Derived.Test.YtjknjmlpnjifkaaDoorBase
namespace Go.Proofs.YtjknjmlpnjifkaaDoor
open Go.RowKit Go.ChangeShapes Go.WideShapes Go.Deep
set_option linter.unusedVariables false
set_option linter.unusedSimpArgs false
structure TimeD where
  sec : Int
  nano : Int
  deriving DecidableEq, Inhabited
def TimeD.rd (w : World) (M : Nat → Prop) (cs : List Value) (d : TimeD) : Prop :=
  cs = [.int .i64 d.sec, .int .i64 d.nano] ∧ I64 d.sec ∧ I64 d.nano
def Shape.TimeD : Shape TimeD where
  size := 2
  pos := by decide
  rd := TimeD.rd
  bulk d := Shape.int.bulk d.sec + Shape.int.bulk d.nano + 1
  bpos _ := by omega
  len := fun {w M cs d} h => by obtain ⟨e, _, _⟩ := h; subst e; rfl
  keep := fun {w w' M cs d} h _ => by obtain ⟨e, h0, h1⟩ := h; exact ⟨e, h0, h1⟩
  more := fun {w M M' cs d} h _ => by obtain ⟨e, h0, h1⟩ := h; exact ⟨e, h0, h1⟩
  one := fun {w M cs d} h v hv => by obtain ⟨e, _, _⟩ := h; subst e; simp only [List.mem_cons, List.not_mem_nil, or_false] at hv; rcases hv with rfl | rfl <;> rfl
set_option maxRecDepth 100000 in
theorem opens_TimeD : Opens Tryd.prog Shape.TimeD 23 := by
  refine ⟨by kernel_rfl, fun {H enc w fuel cs x} h => ?_⟩
  obtain ⟨xs, n, rfl, rfl, hlen, hxl, hf⟩ := DataW.trod_struct Tryd.underlying23 h
  have hl : cs.length = 2 := by rw [hlen]; kernel_rfl
  clear h hlen
  obtain ⟨y0, y1, rfl⟩ : ∃ y0 y1, cs = [y0, y1] := by
    match cs, hl with | [y0, y1], _ => exact ⟨y0, y1, rfl⟩
  obtain ⟨x0, x1, rfl⟩ : ∃ x0 x1, xs = [x0, x1] := by
    match xs, hxl with | [x0, x1], _ => exact ⟨x0, x1, rfl⟩
  have g0 : DataW.trod enc Tryd.prog w 0 (fun _ => true) true n 3 [y0] = some x0 := by
    have ck : Tryd.prog.cellsOf 3 = 1 := by kernel_rfl
    have g : DataW.trod enc Tryd.prog w 0 (fun _ => true) true n 3 (List.take (Tryd.prog.cellsOf 3) (List.drop 0 [y0, y1])) = some x0 := hf 0 _ rfl
    rw [ck] at g; exact g
  have g1 : DataW.trod enc Tryd.prog w 0 (fun _ => true) true n 3 [y1] = some x1 := by
    have ck : Tryd.prog.cellsOf 3 = 1 := by kernel_rfl
    have g : DataW.trod enc Tryd.prog w 0 (fun _ => true) true n 3 (List.take (Tryd.prog.cellsOf 3) (List.drop 1 [y0, y1])) = some x1 := hf 1 _ rfl
    rw [ck] at g; exact g
  clear hf hl hxl
  obtain ⟨a0, r0, b0⟩ := (opens_int (by kernel_rfl) Tryd.underlying3).2 g0
  obtain ⟨a1, r1, b1⟩ := (opens_int (by kernel_rfl) Tryd.underlying3).2 g1
  obtain ⟨e0, i0⟩ := r0
  simp only [List.cons.injEq, and_true] at e0
  subst e0
  obtain ⟨e1, i1⟩ := r1
  simp only [List.cons.injEq, and_true] at e1
  subst e1
  refine ⟨⟨a0, a1⟩, ⟨rfl, i0, i1⟩, ?_⟩
  simp only [Shape.TimeD, List.map_cons, List.map_nil, Rows.uptoBulk, Rows.uptoBulkAll]
  omega
theorem whole_TimeD : Whole Tryd.prog 23 2 := ⟨by kernel_rfl, by kernel_rfl⟩

end Go.Proofs.YtjknjmlpnjifkaaDoor
