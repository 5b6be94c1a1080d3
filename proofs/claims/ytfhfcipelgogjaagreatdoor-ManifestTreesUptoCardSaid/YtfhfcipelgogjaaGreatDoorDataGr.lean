/- The data of the program as plain structures, and how they lie in memory. No condition. -/
import Derived.Test.YtfhfcipelgogjaaGreatDoorDataAll
namespace Go.Proofs.YtfhfcipelgogjaaGreatDoor
open Go.RowKit Go.ChangeShapes Go.WideShapes Go.Deep
set_option linter.unusedVariables false
set_option linter.unusedSimpArgs false
structure GraphD where
  nodes : List NodeD
  deriving DecidableEq, Inhabited
def GraphD.rd (w : World) (M : Nat → Prop) (cs : List Value) (d : GraphD) : Prop :=
  ∃ (A1 : Option Addr) (n1 c1 : Nat), cs = [.slice A1 n1 c1] ∧ n1 ≤ c1 ∧ c1 ≤ maxLen ∧ Row Shape.NodeD w M A1 n1 d.nodes
def Shape.GraphD : Shape GraphD where
  size := 1
  pos := by decide
  rd := GraphD.rd
  bulk d := (Shape.slice Shape.NodeD).bulk d.nodes + 1
  bpos _ := by omega
  len := fun {w M cs d} h => by obtain ⟨_, _, _, e, _, _, _⟩ := h; subst e; rfl
  keep := fun {w w' M cs d} h k => by obtain ⟨A1, n1, c1, e, h0, h1, h2⟩ := h; exact ⟨A1, n1, c1, e, h0, h1, h2.keep k⟩
  more := fun {w M M' cs d} h k => by obtain ⟨A1, n1, c1, e, h0, h1, h2⟩ := h; exact ⟨A1, n1, c1, e, h0, h1, h2.more k⟩
  one := fun {w M cs d} h v hv => by obtain ⟨_, _, _, e, _, _, _⟩ := h; subst e; simp only [List.mem_cons, List.not_mem_nil, or_false] at hv; rcases hv with rfl <;> rfl
set_option maxRecDepth 100000 in
theorem opens_GraphD : Opens Tryz.prog Shape.GraphD 24 := by
  refine ⟨by kernel_rfl, fun {H enc w fuel cs x} h => ?_⟩
  obtain ⟨xs, n, rfl, rfl, hlen, hxl, hf⟩ := DataW.trod_struct Tryz.underlying24 h
  have hl : cs.length = 1 := by rw [hlen]; kernel_rfl
  clear h hlen
  obtain ⟨y0, rfl⟩ : ∃ y0, cs = [y0] := by
    match cs, hl with | [y0], _ => exact ⟨y0, rfl⟩
  obtain ⟨x0, rfl⟩ : ∃ x0, xs = [x0] := by
    match xs, hxl with | [x0], _ => exact ⟨x0, rfl⟩
  have g0 : DataW.trod enc Tryz.prog w 0 (fun _ => true) true n 22 [y0] = some x0 := by
    have ck : Tryz.prog.cellsOf 22 = 1 := by kernel_rfl
    have g : DataW.trod enc Tryz.prog w 0 (fun _ => true) true n 22 (List.take (Tryz.prog.cellsOf 22) (List.drop 0 [y0])) = some x0 := hf 0 _ rfl
    rw [ck] at g; exact g
  clear hf hl hxl
  obtain ⟨a0, r0, b0⟩ := (opens_slice (by kernel_rfl) Tryz.underlying22 opens_NodeD).2 g0
  obtain ⟨z0, e0, A0, n0, c0, rfl, i0, j0, k0⟩ := r0
  simp only [List.cons.injEq, and_true] at e0
  subst e0
  refine ⟨⟨a0⟩, ⟨A0, n0, c0, rfl, i0, j0, k0⟩, ?_⟩
  simp only [Shape.GraphD, List.map_cons, List.map_nil, Rows.uptoBulk, Rows.uptoBulkAll]
  omega
theorem whole_GraphD : Whole Tryz.prog 24 1 := ⟨by kernel_rfl, by kernel_rfl⟩

end Go.Proofs.YtfhfcipelgogjaaGreatDoor
