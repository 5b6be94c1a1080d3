/- The data of the program as plain structures, and how they lie in memory. No condition. The data of the program as plain structures, and how they lie in memory. No condition. stamp.Valid and the reference's Valid: the same plain test. No condition. The data of the program as plain structures, and how they lie in memory. No condition. -/
import Derived.Test.YtfhfcipelgogjaaGreatDoorBaseAt
namespace Go.Proofs.YtfhfcipelgogjaaGreatDoor
open Go.RowKit Go.ChangeShapes Go.WideShapes Go.Deep
set_option linter.unusedVariables false
set_option linter.unusedSimpArgs false
structure TimeD where
  sec : Int
  nano : Int
  deriving DecidableEq, Inhabited
def TimeD.rd (w : World) (M : Nat → Prop) (cs : List Value) (d : TimeD) : Prop :=
  cs = [.int .i64 d.sec, .int .i64 d.nano] ∧ I64 d.sec ∧ I64 d.nano
def Shape.TimeD : Shape TimeD where
  size := 2
  pos := by decide
  rd := TimeD.rd
  bulk d := Shape.int.bulk d.sec + Shape.int.bulk d.nano + 1
  bpos _ := by omega
  len := fun {w M cs d} h => by obtain ⟨e, _, _⟩ := h; subst e; rfl
  keep := fun {w w' M cs d} h _ => by obtain ⟨e, h0, h1⟩ := h; exact ⟨e, h0, h1⟩
  more := fun {w M M' cs d} h _ => by obtain ⟨e, h0, h1⟩ := h; exact ⟨e, h0, h1⟩
  one := fun {w M cs d} h v hv => by obtain ⟨e, _, _⟩ := h; subst e; simp only [List.mem_cons, List.not_mem_nil, or_false] at hv; rcases hv with rfl | rfl <;> rfl
set_option maxRecDepth 100000 in
theorem opens_TimeD : Opens Tryz.prog Shape.TimeD 44 := by
  refine ⟨by kernel_rfl, fun {H enc w fuel cs x} h => ?_⟩
  obtain ⟨xs, n, rfl, rfl, hlen, hxl, hf⟩ := DataW.trod_struct Tryz.underlying44 h
  have hl : cs.length = 2 := by rw [hlen]; kernel_rfl
  clear h hlen
  obtain ⟨y0, y1, rfl⟩ : ∃ y0 y1, cs = [y0, y1] := by
    match cs, hl with | [y0, y1], _ => exact ⟨y0, y1, rfl⟩
  obtain ⟨x0, x1, rfl⟩ : ∃ x0 x1, xs = [x0, x1] := by
    match xs, hxl with | [x0, x1], _ => exact ⟨x0, x1, rfl⟩
  have g0 : DataW.trod enc Tryz.prog w 0 (fun _ => true) true n 3 [y0] = some x0 := by
    have ck : Tryz.prog.cellsOf 3 = 1 := by kernel_rfl
    have g : DataW.trod enc Tryz.prog w 0 (fun _ => true) true n 3 (List.take (Tryz.prog.cellsOf 3) (List.drop 0 [y0, y1])) = some x0 := hf 0 _ rfl
    rw [ck] at g; exact g
  have g1 : DataW.trod enc Tryz.prog w 0 (fun _ => true) true n 3 [y1] = some x1 := by
    have ck : Tryz.prog.cellsOf 3 = 1 := by kernel_rfl
    have g : DataW.trod enc Tryz.prog w 0 (fun _ => true) true n 3 (List.take (Tryz.prog.cellsOf 3) (List.drop 1 [y0, y1])) = some x1 := hf 1 _ rfl
    rw [ck] at g; exact g
  clear hf hl hxl
  obtain ⟨a0, r0, b0⟩ := (opens_int (by kernel_rfl) Tryz.underlying3).2 g0
  obtain ⟨a1, r1, b1⟩ := (opens_int (by kernel_rfl) Tryz.underlying3).2 g1
  obtain ⟨e0, i0⟩ := r0
  simp only [List.cons.injEq, and_true] at e0
  subst e0
  obtain ⟨e1, i1⟩ := r1
  simp only [List.cons.injEq, and_true] at e1
  subst e1
  refine ⟨⟨a0, a1⟩, ⟨rfl, i0, i1⟩, ?_⟩
  simp only [Shape.TimeD, List.map_cons, List.map_nil, Rows.uptoBulk, Rows.uptoBulkAll]
  omega
theorem whole_TimeD : Whole Tryz.prog 44 2 := ⟨by kernel_rfl, by kernel_rfl⟩

end Go.Proofs.YtfhfcipelgogjaaGreatDoor
namespace Go.Proofs.YtfhfcipelgogjaaGreatDoor
open Go.RowKit Go.ChangeShapes Go.WideShapes Go.Deep
set_option linter.unusedVariables false
set_option linter.unusedSimpArgs false
structure EntD where
  name : ByteArray
  id : Int
  deriving DecidableEq, Inhabited
def EntD.rd (w : World) (M : Nat → Prop) (cs : List Value) (d : EntD) : Prop :=
  cs = [.string d.name, .int .i64 d.id] ∧ (d.name).size ≤ maxLen ∧ I64 d.id
def Shape.EntD : Shape EntD where
  size := 2
  pos := by decide
  rd := EntD.rd
  bulk d := Shape.str.bulk d.name + Shape.int.bulk d.id + 1
  bpos _ := by omega
  len := fun {w M cs d} h => by obtain ⟨e, _, _⟩ := h; subst e; rfl
  keep := fun {w w' M cs d} h _ => by obtain ⟨e, h0, h1⟩ := h; exact ⟨e, h0, h1⟩
  more := fun {w M M' cs d} h _ => by obtain ⟨e, h0, h1⟩ := h; exact ⟨e, h0, h1⟩
  one := fun {w M cs d} h v hv => by obtain ⟨e, _, _⟩ := h; subst e; simp only [List.mem_cons, List.not_mem_nil, or_false] at hv; rcases hv with rfl | rfl <;> rfl
set_option maxRecDepth 100000 in
theorem opens_EntD : Opens Tryz.prog Shape.EntD 103 := by
  refine ⟨by kernel_rfl, fun {H enc w fuel cs x} h => ?_⟩
  obtain ⟨xs, n, rfl, rfl, hlen, hxl, hf⟩ := DataW.trod_struct Tryz.underlying103 h
  have hl : cs.length = 2 := by rw [hlen]; kernel_rfl
  clear h hlen
  obtain ⟨y0, y1, rfl⟩ : ∃ y0 y1, cs = [y0, y1] := by
    match cs, hl with | [y0, y1], _ => exact ⟨y0, y1, rfl⟩
  obtain ⟨x0, x1, rfl⟩ : ∃ x0 x1, xs = [x0, x1] := by
    match xs, hxl with | [x0, x1], _ => exact ⟨x0, x1, rfl⟩
  have g0 : DataW.trod enc Tryz.prog w 0 (fun _ => true) true n 9 [y0] = some x0 := by
    have ck : Tryz.prog.cellsOf 9 = 1 := by kernel_rfl
    have g : DataW.trod enc Tryz.prog w 0 (fun _ => true) true n 9 (List.take (Tryz.prog.cellsOf 9) (List.drop 0 [y0, y1])) = some x0 := hf 0 _ rfl
    rw [ck] at g; exact g
  have g1 : DataW.trod enc Tryz.prog w 0 (fun _ => true) true n 3 [y1] = some x1 := by
    have ck : Tryz.prog.cellsOf 3 = 1 := by kernel_rfl
    have g : DataW.trod enc Tryz.prog w 0 (fun _ => true) true n 3 (List.take (Tryz.prog.cellsOf 3) (List.drop 1 [y0, y1])) = some x1 := hf 1 _ rfl
    rw [ck] at g; exact g
  clear hf hl hxl
  obtain ⟨a0, r0, b0⟩ := (opens_str (by kernel_rfl) Tryz.underlying9).2 g0
  obtain ⟨a1, r1, b1⟩ := (opens_int (by kernel_rfl) Tryz.underlying3).2 g1
  obtain ⟨e0, i0⟩ := r0
  simp only [List.cons.injEq, and_true] at e0
  subst e0
  obtain ⟨e1, i1⟩ := r1
  simp only [List.cons.injEq, and_true] at e1
  subst e1
  refine ⟨⟨a0, a1⟩, ⟨rfl, i0, i1⟩, ?_⟩
  simp only [Shape.EntD, List.map_cons, List.map_nil, Rows.uptoBulk, Rows.uptoBulkAll]
  omega
theorem elem_EntD : Elem Tryz.prog 77 103 Shape.EntD 24 := ⟨Tryz.underlying77, by kernel_rfl⟩
theorem whole_EntD : Whole Tryz.prog 103 2 := ⟨by kernel_rfl, by kernel_rfl⟩

structure NodeD where
  id : Int
  kind : Int
  mode : Int
  uid : Int
  gid : Int
  mtime : TimeD
  data : List UInt8
  target : ByteArray
  ents : List EntD
  deriving DecidableEq, Inhabited
def NodeD.rd (w : World) (M : Nat → Prop) (cs : List Value) (d : NodeD) : Prop :=
  ∃ (A1 : Option Addr) (n1 c1 : Nat) (A2 : Option Addr) (n2 c2 : Nat), cs = [.int .i64 d.id, .int .i64 d.kind, .int .i64 d.mode, .int .i64 d.uid, .int .i64 d.gid, .int .i64 d.mtime.sec, .int .i64 d.mtime.nano, .slice A1 n1 c1, .string d.target, .slice A2 n2 c2] ∧ I64 d.id ∧ I64 d.kind ∧ I64 d.mode ∧ I64 d.uid ∧ I64 d.gid ∧ I64 d.mtime.sec ∧ I64 d.mtime.nano ∧ n1 ≤ c1 ∧ c1 ≤ maxLen ∧ Row Shape.byte w M A1 n1 d.data ∧ (d.target).size ≤ maxLen ∧ n2 ≤ c2 ∧ c2 ≤ maxLen ∧ Row Shape.EntD w M A2 n2 d.ents
def Shape.NodeD : Shape NodeD where
  size := 10
  pos := by decide
  rd := NodeD.rd
  bulk d := Shape.int.bulk d.id + Shape.int.bulk d.kind + Shape.int.bulk d.mode + Shape.int.bulk d.uid + Shape.int.bulk d.gid + Shape.TimeD.bulk d.mtime + (Shape.slice Shape.byte).bulk d.data + Shape.str.bulk d.target + (Shape.slice Shape.EntD).bulk d.ents + 1
  bpos _ := by omega
  len := fun {w M cs d} h => by obtain ⟨_, _, _, _, _, _, e, _, _, _, _, _, _, _, _, _, _, _, _, _, _⟩ := h; subst e; rfl
  keep := fun {w w' M cs d} h k => by obtain ⟨A1, n1, c1, A2, n2, c2, e, h0, h1, h2, h3, h4, h5, h6, h7, h8, h9, h10, h11, h12, h13⟩ := h; exact ⟨A1, n1, c1, A2, n2, c2, e, h0, h1, h2, h3, h4, h5, h6, h7, h8, h9.keep k, h10, h11, h12, h13.keep k⟩
  more := fun {w M M' cs d} h k => by obtain ⟨A1, n1, c1, A2, n2, c2, e, h0, h1, h2, h3, h4, h5, h6, h7, h8, h9, h10, h11, h12, h13⟩ := h; exact ⟨A1, n1, c1, A2, n2, c2, e, h0, h1, h2, h3, h4, h5, h6, h7, h8, h9.more k, h10, h11, h12, h13.more k⟩
  one := fun {w M cs d} h v hv => by obtain ⟨_, _, _, _, _, _, e, _, _, _, _, _, _, _, _, _, _, _, _, _, _⟩ := h; subst e; simp only [List.mem_cons, List.not_mem_nil, or_false] at hv; rcases hv with rfl | rfl | rfl | rfl | rfl | rfl | rfl | rfl | rfl | rfl <;> rfl
set_option maxRecDepth 100000 in
theorem opens_NodeD : Opens Tryz.prog Shape.NodeD 79 := by
  refine ⟨by kernel_rfl, fun {H enc w fuel cs x} h => ?_⟩
  obtain ⟨xs, n, rfl, rfl, hlen, hxl, hf⟩ := DataW.trod_struct Tryz.underlying79 h
  have hl : cs.length = 10 := by rw [hlen]; kernel_rfl
  clear h hlen
  obtain ⟨y0, y1, y2, y3, y4, y5, y6, y7, y8, y9, rfl⟩ : ∃ y0 y1 y2 y3 y4 y5 y6 y7 y8 y9, cs = [y0, y1, y2, y3, y4, y5, y6, y7, y8, y9] := by
    match cs, hl with | [y0, y1, y2, y3, y4, y5, y6, y7, y8, y9], _ => exact ⟨y0, y1, y2, y3, y4, y5, y6, y7, y8, y9, rfl⟩
  obtain ⟨x0, x1, x2, x3, x4, x5, x6, x7, x8, rfl⟩ : ∃ x0 x1 x2 x3 x4 x5 x6 x7 x8, xs = [x0, x1, x2, x3, x4, x5, x6, x7, x8] := by
    match xs, hxl with | [x0, x1, x2, x3, x4, x5, x6, x7, x8], _ => exact ⟨x0, x1, x2, x3, x4, x5, x6, x7, x8, rfl⟩
  have g0 : DataW.trod enc Tryz.prog w 0 (fun _ => true) true n 3 [y0] = some x0 := by
    have ck : Tryz.prog.cellsOf 3 = 1 := by kernel_rfl
    have g : DataW.trod enc Tryz.prog w 0 (fun _ => true) true n 3 (List.take (Tryz.prog.cellsOf 3) (List.drop 0 [y0, y1, y2, y3, y4, y5, y6, y7, y8, y9])) = some x0 := hf 0 _ rfl
    rw [ck] at g; exact g
  have g1 : DataW.trod enc Tryz.prog w 0 (fun _ => true) true n 3 [y1] = some x1 := by
    have ck : Tryz.prog.cellsOf 3 = 1 := by kernel_rfl
    have g : DataW.trod enc Tryz.prog w 0 (fun _ => true) true n 3 (List.take (Tryz.prog.cellsOf 3) (List.drop 1 [y0, y1, y2, y3, y4, y5, y6, y7, y8, y9])) = some x1 := hf 1 _ rfl
    rw [ck] at g; exact g
  have g2 : DataW.trod enc Tryz.prog w 0 (fun _ => true) true n 3 [y2] = some x2 := by
    have ck : Tryz.prog.cellsOf 3 = 1 := by kernel_rfl
    have g : DataW.trod enc Tryz.prog w 0 (fun _ => true) true n 3 (List.take (Tryz.prog.cellsOf 3) (List.drop 2 [y0, y1, y2, y3, y4, y5, y6, y7, y8, y9])) = some x2 := hf 2 _ rfl
    rw [ck] at g; exact g
  have g3 : DataW.trod enc Tryz.prog w 0 (fun _ => true) true n 3 [y3] = some x3 := by
    have ck : Tryz.prog.cellsOf 3 = 1 := by kernel_rfl
    have g : DataW.trod enc Tryz.prog w 0 (fun _ => true) true n 3 (List.take (Tryz.prog.cellsOf 3) (List.drop 3 [y0, y1, y2, y3, y4, y5, y6, y7, y8, y9])) = some x3 := hf 3 _ rfl
    rw [ck] at g; exact g
  have g4 : DataW.trod enc Tryz.prog w 0 (fun _ => true) true n 3 [y4] = some x4 := by
    have ck : Tryz.prog.cellsOf 3 = 1 := by kernel_rfl
    have g : DataW.trod enc Tryz.prog w 0 (fun _ => true) true n 3 (List.take (Tryz.prog.cellsOf 3) (List.drop 4 [y0, y1, y2, y3, y4, y5, y6, y7, y8, y9])) = some x4 := hf 4 _ rfl
    rw [ck] at g; exact g
  have g5 : DataW.trod enc Tryz.prog w 0 (fun _ => true) true n 44 [y5, y6] = some x5 := by
    have ck : Tryz.prog.cellsOf 44 = 2 := by kernel_rfl
    have g : DataW.trod enc Tryz.prog w 0 (fun _ => true) true n 44 (List.take (Tryz.prog.cellsOf 44) (List.drop 5 [y0, y1, y2, y3, y4, y5, y6, y7, y8, y9])) = some x5 := hf 5 _ rfl
    rw [ck] at g; exact g
  have g6 : DataW.trod enc Tryz.prog w 0 (fun _ => true) true n 58 [y7] = some x6 := by
    have ck : Tryz.prog.cellsOf 58 = 1 := by kernel_rfl
    have g : DataW.trod enc Tryz.prog w 0 (fun _ => true) true n 58 (List.take (Tryz.prog.cellsOf 58) (List.drop 7 [y0, y1, y2, y3, y4, y5, y6, y7, y8, y9])) = some x6 := hf 6 _ rfl
    rw [ck] at g; exact g
  have g7 : DataW.trod enc Tryz.prog w 0 (fun _ => true) true n 9 [y8] = some x7 := by
    have ck : Tryz.prog.cellsOf 9 = 1 := by kernel_rfl
    have g : DataW.trod enc Tryz.prog w 0 (fun _ => true) true n 9 (List.take (Tryz.prog.cellsOf 9) (List.drop 8 [y0, y1, y2, y3, y4, y5, y6, y7, y8, y9])) = some x7 := hf 7 _ rfl
    rw [ck] at g; exact g
  have g8 : DataW.trod enc Tryz.prog w 0 (fun _ => true) true n 77 [y9] = some x8 := by
    have ck : Tryz.prog.cellsOf 77 = 1 := by kernel_rfl
    have g : DataW.trod enc Tryz.prog w 0 (fun _ => true) true n 77 (List.take (Tryz.prog.cellsOf 77) (List.drop 9 [y0, y1, y2, y3, y4, y5, y6, y7, y8, y9])) = some x8 := hf 8 _ rfl
    rw [ck] at g; exact g
  clear hf hl hxl
  obtain ⟨a0, r0, b0⟩ := (opens_int (by kernel_rfl) Tryz.underlying3).2 g0
  obtain ⟨a1, r1, b1⟩ := (opens_int (by kernel_rfl) Tryz.underlying3).2 g1
  obtain ⟨a2, r2, b2⟩ := (opens_int (by kernel_rfl) Tryz.underlying3).2 g2
  obtain ⟨a3, r3, b3⟩ := (opens_int (by kernel_rfl) Tryz.underlying3).2 g3
  obtain ⟨a4, r4, b4⟩ := (opens_int (by kernel_rfl) Tryz.underlying3).2 g4
  obtain ⟨a5, r5, b5⟩ := opens_TimeD.2 g5
  obtain ⟨a6, r6, b6⟩ := (opens_slice (by kernel_rfl) Tryz.underlying58 (opens_byte (by kernel_rfl) Tryz.underlying5)).2 g6
  obtain ⟨a7, r7, b7⟩ := (opens_str (by kernel_rfl) Tryz.underlying9).2 g7
  obtain ⟨a8, r8, b8⟩ := (opens_slice (by kernel_rfl) Tryz.underlying77 opens_EntD).2 g8
  obtain ⟨e0, i0⟩ := r0
  simp only [List.cons.injEq, and_true] at e0
  subst e0
  obtain ⟨e1, i1⟩ := r1
  simp only [List.cons.injEq, and_true] at e1
  subst e1
  obtain ⟨e2, i2⟩ := r2
  simp only [List.cons.injEq, and_true] at e2
  subst e2
  obtain ⟨e3, i3⟩ := r3
  simp only [List.cons.injEq, and_true] at e3
  subst e3
  obtain ⟨e4, i4⟩ := r4
  simp only [List.cons.injEq, and_true] at e4
  subst e4
  obtain ⟨e5, i5_0, i5_1⟩ := r5
  simp only [List.cons.injEq, and_true] at e5
  obtain ⟨rfl, rfl⟩ := e5
  obtain ⟨z6, e6, A6, n6, c6, rfl, i6, j6, k6⟩ := r6
  simp only [List.cons.injEq, and_true] at e6
  subst e6
  obtain ⟨e7, i7⟩ := r7
  simp only [List.cons.injEq, and_true] at e7
  subst e7
  obtain ⟨z8, e8, A8, n8, c8, rfl, i8, j8, k8⟩ := r8
  simp only [List.cons.injEq, and_true] at e8
  subst e8
  refine ⟨⟨a0, a1, a2, a3, a4, a5, a6, a7, a8⟩, ⟨A6, n6, c6, A8, n8, c8, rfl, i0, i1, i2, i3, i4, i5_0, i5_1, i6, j6, k6, i7, i8, j8, k8⟩, ?_⟩
  simp only [Shape.NodeD, List.map_cons, List.map_nil, Rows.uptoBulk, Rows.uptoBulkAll]
  omega
theorem elem_NodeD : Elem Tryz.prog 22 79 Shape.NodeD 120 := ⟨Tryz.underlying22, by kernel_rfl⟩
theorem whole_NodeD : Whole Tryz.prog 79 10 := ⟨by kernel_rfl, by kernel_rfl⟩

end Go.Proofs.YtfhfcipelgogjaaGreatDoor
namespace Go.Proofs.YtfhfcipelgogjaaGreatDoor
open Go.RowKit
set_option linter.unusedVariables false
set_option linter.unusedSimpArgs false

def stampOk (s n : Int) : Bool := decide (0 ≤ n ∧ n < 1000000000 ∧ -1099511627777 ≤ s ∧ s ≤ 1099511627776 ∧ (s ≠ -1099511627777 ∨ 0 < n))
theorem below_alloc_self (w : World) (o : Obj) : Below w.heap.size w (w.alloc o) :=
  ⟨rfl, rfl, rfl, by simp, fun n hn => Below.heap_alloc w o n hn⟩
set_option maxHeartbeats 600000 in
set_option maxRecDepth 100000 in
theorem stampValid (s n : Int) (w : World) :
    Calls Tryz.prog 73 #[.agg #[.int .i64 s, .int .i64 n]] w fun e w' => e = .returned (.bool (stampOk s n)) ∧ Below w.heap.size w w' := by
  unfold stampOk
  by_cases h0 : n < 0
  · have hd : decide (n < 0) = true := by simpa using h0
    go_enter Tryz.func73, Tryz.ntmps73
    go_wp2
    go_ret
    exact ⟨by simp <;> omega, below_alloc_self w _⟩
  have hd0 : decide (n < 0) = false := by simpa using h0
  by_cases h1 : 1000000000 ≤ n
  · have hd : decide (n ≥ 1000000000) = true := by simpa using h1
    go_enter Tryz.func73, Tryz.ntmps73
    go_wp2
    go_ret
    exact ⟨by simp <;> omega, below_alloc_self w _⟩
  have hd1 : decide (n ≥ 1000000000) = false := by simpa using h1
  by_cases h2 : s = -1099511627777
  · subst h2
    go_enter Tryz.func73, Tryz.ntmps73
    go_wp2
    go_ret
    exact ⟨by simp <;> omega, below_alloc_self w _⟩
  have hd2 : (s == -1099511627777) = false := by simpa using h2
  go_enter Tryz.func73, Tryz.ntmps73
  by_cases h3 : -1099511627777 < s
  · have hd3 : decide (s > -1099511627777) = true := by simpa using h3
    go_wp2
    go_ret
    exact ⟨by simp <;> omega, below_alloc_self w _⟩
  · have hd3 : decide (s > -1099511627777) = false := by simpa using h3
    go_wp2
    go_ret
    exact ⟨by simp <;> omega, below_alloc_self w _⟩
set_option maxHeartbeats 600000 in
set_option maxRecDepth 100000 in
theorem refValid (s n : Int) (w : World) :
    Calls Tryz.prog 47 #[.agg #[.int .i64 s, .int .i64 n]] w fun e w' => e = .returned (.bool (stampOk s n)) ∧ Below w.heap.size w w' := by
  unfold stampOk
  by_cases h0 : n < 0
  · have hd : decide (n < 0) = true := by simpa using h0
    go_enter Tryz.func47, Tryz.ntmps47
    go_wp2
    go_ret
    exact ⟨by simp <;> omega, below_alloc_self w _⟩
  have hd0 : decide (n < 0) = false := by simpa using h0
  by_cases h1 : 1000000000 ≤ n
  · have hd : decide (n ≥ 1000000000) = true := by simpa using h1
    go_enter Tryz.func47, Tryz.ntmps47
    go_wp2
    go_ret
    exact ⟨by simp <;> omega, below_alloc_self w _⟩
  have hd1 : decide (n ≥ 1000000000) = false := by simpa using h1
  by_cases h2 : 1099511627776 < s
  · have hd : decide (s > 1099511627776) = true := by simpa using h2
    go_enter Tryz.func47, Tryz.ntmps47
    go_wp2
    go_ret
    exact ⟨by simp <;> omega, below_alloc_self w _⟩
  have hd2 : decide (s > 1099511627776) = false := by simpa using h2
  by_cases h3 : s < -1099511627777
  · have hd : decide (s < -1099511627777) = true := by simpa using h3
    go_enter Tryz.func47, Tryz.ntmps47
    go_wp2
    go_ret
    exact ⟨by simp <;> omega, below_alloc_self w _⟩
  have hd3 : decide (s < -1099511627777) = false := by simpa using h3
  by_cases h4 : s = -1099511627777
  · subst h4
    by_cases h5 : n = 0
    · subst h5
      go_enter Tryz.func47, Tryz.ntmps47
      go_wp2
      go_ret
      exact ⟨by simp <;> omega, below_alloc_self w _⟩
    have hd5 : (n != 0) = true := by simpa using h5
    go_enter Tryz.func47, Tryz.ntmps47
    go_wp2
    go_ret
    exact ⟨by simp <;> omega, below_alloc_self w _⟩
  have hd4 : (s != -1099511627777) = true := by simpa using h4
  go_enter Tryz.func47, Tryz.ntmps47
  go_wp2
  go_ret
  exact ⟨by simp <;> omega, below_alloc_self w _⟩
end Go.Proofs.YtfhfcipelgogjaaGreatDoor
namespace Go.Proofs.YtfhfcipelgogjaaGreatDoor
open Go.RowKit Go.ChangeShapes Go.WideShapes Go.Deep
set_option linter.unusedVariables false
set_option linter.unusedSimpArgs false
structure LineD where
  path : ByteArray
  kind : Int
  mode : Int
  uid : Int
  gid : Int
  mtime : TimeD
  data : List UInt8
  target : ByteArray
  peer : ByteArray
  deriving DecidableEq, Inhabited
def LineD.rd (w : World) (M : Nat → Prop) (cs : List Value) (d : LineD) : Prop :=
  ∃ (A1 : Option Addr) (n1 c1 : Nat), cs = [.string d.path, .int .i64 d.kind, .int .i64 d.mode, .int .i64 d.uid, .int .i64 d.gid, .int .i64 d.mtime.sec, .int .i64 d.mtime.nano, .slice A1 n1 c1, .string d.target, .string d.peer] ∧ (d.path).size ≤ maxLen ∧ I64 d.kind ∧ I64 d.mode ∧ I64 d.uid ∧ I64 d.gid ∧ I64 d.mtime.sec ∧ I64 d.mtime.nano ∧ n1 ≤ c1 ∧ c1 ≤ maxLen ∧ Row Shape.byte w M A1 n1 d.data ∧ (d.target).size ≤ maxLen ∧ (d.peer).size ≤ maxLen
def Shape.LineD : Shape LineD where
  size := 10
  pos := by decide
  rd := LineD.rd
  bulk d := Shape.str.bulk d.path + Shape.int.bulk d.kind + Shape.int.bulk d.mode + Shape.int.bulk d.uid + Shape.int.bulk d.gid + Shape.TimeD.bulk d.mtime + (Shape.slice Shape.byte).bulk d.data + Shape.str.bulk d.target + Shape.str.bulk d.peer + 1
  bpos _ := by omega
  len := fun {w M cs d} h => by obtain ⟨_, _, _, e, _, _, _, _, _, _, _, _, _, _, _, _⟩ := h; subst e; rfl
  keep := fun {w w' M cs d} h k => by obtain ⟨A1, n1, c1, e, h0, h1, h2, h3, h4, h5, h6, h7, h8, h9, h10, h11⟩ := h; exact ⟨A1, n1, c1, e, h0, h1, h2, h3, h4, h5, h6, h7, h8, h9.keep k, h10, h11⟩
  more := fun {w M M' cs d} h k => by obtain ⟨A1, n1, c1, e, h0, h1, h2, h3, h4, h5, h6, h7, h8, h9, h10, h11⟩ := h; exact ⟨A1, n1, c1, e, h0, h1, h2, h3, h4, h5, h6, h7, h8, h9.more k, h10, h11⟩
  one := fun {w M cs d} h v hv => by obtain ⟨_, _, _, e, _, _, _, _, _, _, _, _, _, _, _, _⟩ := h; subst e; simp only [List.mem_cons, List.not_mem_nil, or_false] at hv; rcases hv with rfl | rfl | rfl | rfl | rfl | rfl | rfl | rfl | rfl | rfl <;> rfl
set_option maxRecDepth 100000 in
theorem opens_LineD : Opens Tryz.prog Shape.LineD 60 := by
  refine ⟨by kernel_rfl, fun {H enc w fuel cs x} h => ?_⟩
  obtain ⟨xs, n, rfl, rfl, hlen, hxl, hf⟩ := DataW.trod_struct Tryz.underlying60 h
  have hl : cs.length = 10 := by rw [hlen]; kernel_rfl
  clear h hlen
  obtain ⟨y0, y1, y2, y3, y4, y5, y6, y7, y8, y9, rfl⟩ : ∃ y0 y1 y2 y3 y4 y5 y6 y7 y8 y9, cs = [y0, y1, y2, y3, y4, y5, y6, y7, y8, y9] := by
    match cs, hl with | [y0, y1, y2, y3, y4, y5, y6, y7, y8, y9], _ => exact ⟨y0, y1, y2, y3, y4, y5, y6, y7, y8, y9, rfl⟩
  obtain ⟨x0, x1, x2, x3, x4, x5, x6, x7, x8, rfl⟩ : ∃ x0 x1 x2 x3 x4 x5 x6 x7 x8, xs = [x0, x1, x2, x3, x4, x5, x6, x7, x8] := by
    match xs, hxl with | [x0, x1, x2, x3, x4, x5, x6, x7, x8], _ => exact ⟨x0, x1, x2, x3, x4, x5, x6, x7, x8, rfl⟩
  have g0 : DataW.trod enc Tryz.prog w 0 (fun _ => true) true n 9 [y0] = some x0 := by
    have ck : Tryz.prog.cellsOf 9 = 1 := by kernel_rfl
    have g : DataW.trod enc Tryz.prog w 0 (fun _ => true) true n 9 (List.take (Tryz.prog.cellsOf 9) (List.drop 0 [y0, y1, y2, y3, y4, y5, y6, y7, y8, y9])) = some x0 := hf 0 _ rfl
    rw [ck] at g; exact g
  have g1 : DataW.trod enc Tryz.prog w 0 (fun _ => true) true n 3 [y1] = some x1 := by
    have ck : Tryz.prog.cellsOf 3 = 1 := by kernel_rfl
    have g : DataW.trod enc Tryz.prog w 0 (fun _ => true) true n 3 (List.take (Tryz.prog.cellsOf 3) (List.drop 1 [y0, y1, y2, y3, y4, y5, y6, y7, y8, y9])) = some x1 := hf 1 _ rfl
    rw [ck] at g; exact g
  have g2 : DataW.trod enc Tryz.prog w 0 (fun _ => true) true n 3 [y2] = some x2 := by
    have ck : Tryz.prog.cellsOf 3 = 1 := by kernel_rfl
    have g : DataW.trod enc Tryz.prog w 0 (fun _ => true) true n 3 (List.take (Tryz.prog.cellsOf 3) (List.drop 2 [y0, y1, y2, y3, y4, y5, y6, y7, y8, y9])) = some x2 := hf 2 _ rfl
    rw [ck] at g; exact g
  have g3 : DataW.trod enc Tryz.prog w 0 (fun _ => true) true n 3 [y3] = some x3 := by
    have ck : Tryz.prog.cellsOf 3 = 1 := by kernel_rfl
    have g : DataW.trod enc Tryz.prog w 0 (fun _ => true) true n 3 (List.take (Tryz.prog.cellsOf 3) (List.drop 3 [y0, y1, y2, y3, y4, y5, y6, y7, y8, y9])) = some x3 := hf 3 _ rfl
    rw [ck] at g; exact g
  have g4 : DataW.trod enc Tryz.prog w 0 (fun _ => true) true n 3 [y4] = some x4 := by
    have ck : Tryz.prog.cellsOf 3 = 1 := by kernel_rfl
    have g : DataW.trod enc Tryz.prog w 0 (fun _ => true) true n 3 (List.take (Tryz.prog.cellsOf 3) (List.drop 4 [y0, y1, y2, y3, y4, y5, y6, y7, y8, y9])) = some x4 := hf 4 _ rfl
    rw [ck] at g; exact g
  have g5 : DataW.trod enc Tryz.prog w 0 (fun _ => true) true n 44 [y5, y6] = some x5 := by
    have ck : Tryz.prog.cellsOf 44 = 2 := by kernel_rfl
    have g : DataW.trod enc Tryz.prog w 0 (fun _ => true) true n 44 (List.take (Tryz.prog.cellsOf 44) (List.drop 5 [y0, y1, y2, y3, y4, y5, y6, y7, y8, y9])) = some x5 := hf 5 _ rfl
    rw [ck] at g; exact g
  have g6 : DataW.trod enc Tryz.prog w 0 (fun _ => true) true n 58 [y7] = some x6 := by
    have ck : Tryz.prog.cellsOf 58 = 1 := by kernel_rfl
    have g : DataW.trod enc Tryz.prog w 0 (fun _ => true) true n 58 (List.take (Tryz.prog.cellsOf 58) (List.drop 7 [y0, y1, y2, y3, y4, y5, y6, y7, y8, y9])) = some x6 := hf 6 _ rfl
    rw [ck] at g; exact g
  have g7 : DataW.trod enc Tryz.prog w 0 (fun _ => true) true n 9 [y8] = some x7 := by
    have ck : Tryz.prog.cellsOf 9 = 1 := by kernel_rfl
    have g : DataW.trod enc Tryz.prog w 0 (fun _ => true) true n 9 (List.take (Tryz.prog.cellsOf 9) (List.drop 8 [y0, y1, y2, y3, y4, y5, y6, y7, y8, y9])) = some x7 := hf 7 _ rfl
    rw [ck] at g; exact g
  have g8 : DataW.trod enc Tryz.prog w 0 (fun _ => true) true n 9 [y9] = some x8 := by
    have ck : Tryz.prog.cellsOf 9 = 1 := by kernel_rfl
    have g : DataW.trod enc Tryz.prog w 0 (fun _ => true) true n 9 (List.take (Tryz.prog.cellsOf 9) (List.drop 9 [y0, y1, y2, y3, y4, y5, y6, y7, y8, y9])) = some x8 := hf 8 _ rfl
    rw [ck] at g; exact g
  clear hf hl hxl
  obtain ⟨a0, r0, b0⟩ := (opens_str (by kernel_rfl) Tryz.underlying9).2 g0
  obtain ⟨a1, r1, b1⟩ := (opens_int (by kernel_rfl) Tryz.underlying3).2 g1
  obtain ⟨a2, r2, b2⟩ := (opens_int (by kernel_rfl) Tryz.underlying3).2 g2
  obtain ⟨a3, r3, b3⟩ := (opens_int (by kernel_rfl) Tryz.underlying3).2 g3
  obtain ⟨a4, r4, b4⟩ := (opens_int (by kernel_rfl) Tryz.underlying3).2 g4
  obtain ⟨a5, r5, b5⟩ := opens_TimeD.2 g5
  obtain ⟨a6, r6, b6⟩ := (opens_slice (by kernel_rfl) Tryz.underlying58 (opens_byte (by kernel_rfl) Tryz.underlying5)).2 g6
  obtain ⟨a7, r7, b7⟩ := (opens_str (by kernel_rfl) Tryz.underlying9).2 g7
  obtain ⟨a8, r8, b8⟩ := (opens_str (by kernel_rfl) Tryz.underlying9).2 g8
  obtain ⟨e0, i0⟩ := r0
  simp only [List.cons.injEq, and_true] at e0
  subst e0
  obtain ⟨e1, i1⟩ := r1
  simp only [List.cons.injEq, and_true] at e1
  subst e1
  obtain ⟨e2, i2⟩ := r2
  simp only [List.cons.injEq, and_true] at e2
  subst e2
  obtain ⟨e3, i3⟩ := r3
  simp only [List.cons.injEq, and_true] at e3
  subst e3
  obtain ⟨e4, i4⟩ := r4
  simp only [List.cons.injEq, and_true] at e4
  subst e4
  obtain ⟨e5, i5_0, i5_1⟩ := r5
  simp only [List.cons.injEq, and_true] at e5
  obtain ⟨rfl, rfl⟩ := e5
  obtain ⟨z6, e6, A6, n6, c6, rfl, i6, j6, k6⟩ := r6
  simp only [List.cons.injEq, and_true] at e6
  subst e6
  obtain ⟨e7, i7⟩ := r7
  simp only [List.cons.injEq, and_true] at e7
  subst e7
  obtain ⟨e8, i8⟩ := r8
  simp only [List.cons.injEq, and_true] at e8
  subst e8
  refine ⟨⟨a0, a1, a2, a3, a4, a5, a6, a7, a8⟩, ⟨A6, n6, c6, rfl, i0, i1, i2, i3, i4, i5_0, i5_1, i6, j6, k6, i7, i8⟩, ?_⟩
  simp only [Shape.LineD, List.map_cons, List.map_nil, Rows.uptoBulk, Rows.uptoBulkAll]
  omega
theorem elem_LineD : Elem Tryz.prog 26 60 Shape.LineD 120 := ⟨Tryz.underlying26, by kernel_rfl⟩
theorem whole_LineD : Whole Tryz.prog 60 10 := ⟨by kernel_rfl, by kernel_rfl⟩

end Go.Proofs.YtfhfcipelgogjaaGreatDoor
