/- The data of the program as plain structures, and how they lie in memory. No condition. -/
import Derived.Test.YtphloeafgblmnaaOpens
namespace Go.Proofs.Ytphloeafgblmnaa
open Go.RowKit Go.ChangeShapes Go.WideShapes Go.Deep
set_option linter.unusedVariables false
set_option linter.unusedSimpArgs false
structure TimeD where
  sec : Int
  nano : Int
  deriving DecidableEq, Inhabited
def TimeD.rd (w : World) (M : Nat → Prop) (cs : List Value) (d : TimeD) : Prop :=
  cs = [.int .i64 d.sec, .int .i64 d.nano] ∧ I64 d.sec ∧ I64 d.nano
def Shape.TimeD : Shape TimeD where
  size := 2
  pos := by decide
  rd := TimeD.rd
  bulk d := Shape.int.bulk d.sec + Shape.int.bulk d.nano + 1
  bpos _ := by omega
  len := fun {w M cs d} h => by obtain ⟨e, _, _⟩ := h; subst e; rfl
  keep := fun {w w' M cs d} h _ => by obtain ⟨e, h0, h1⟩ := h; exact ⟨e, h0, h1⟩
  more := fun {w M M' cs d} h _ => by obtain ⟨e, h0, h1⟩ := h; exact ⟨e, h0, h1⟩
  one := fun {w M cs d} h v hv => by obtain ⟨e, _, _⟩ := h; subst e; simp only [List.mem_cons, List.not_mem_nil, or_false] at hv; rcases hv with rfl | rfl <;> rfl
set_option maxRecDepth 100000 in
theorem opens_TimeD : Opens Try.prog Shape.TimeD 30 := by
  refine ⟨by kernel_rfl, fun {H enc w fuel cs x} h => ?_⟩
  obtain ⟨xs, n, rfl, rfl, hlen, hxl, hf⟩ := DataW.trod_struct Try.underlying30 h
  have hl : cs.length = 2 := by rw [hlen]; kernel_rfl
  clear h hlen
  obtain ⟨y0, y1, rfl⟩ : ∃ y0 y1, cs = [y0, y1] := by
    match cs, hl with | [y0, y1], _ => exact ⟨y0, y1, rfl⟩
  obtain ⟨x0, x1, rfl⟩ : ∃ x0 x1, xs = [x0, x1] := by
    match xs, hxl with | [x0, x1], _ => exact ⟨x0, x1, rfl⟩
  have g0 : DataW.trod enc Try.prog w 0 (fun _ => true) true n 3 [y0] = some x0 := by
    have ck : Try.prog.cellsOf 3 = 1 := by kernel_rfl
    have g : DataW.trod enc Try.prog w 0 (fun _ => true) true n 3 (List.take (Try.prog.cellsOf 3) (List.drop 0 [y0, y1])) = some x0 := hf 0 _ rfl
    rw [ck] at g; exact g
  have g1 : DataW.trod enc Try.prog w 0 (fun _ => true) true n 3 [y1] = some x1 := by
    have ck : Try.prog.cellsOf 3 = 1 := by kernel_rfl
    have g : DataW.trod enc Try.prog w 0 (fun _ => true) true n 3 (List.take (Try.prog.cellsOf 3) (List.drop 1 [y0, y1])) = some x1 := hf 1 _ rfl
    rw [ck] at g; exact g
  clear hf hl hxl
  obtain ⟨a0, r0, b0⟩ := (opens_int (by kernel_rfl) Try.underlying3).2 g0
  obtain ⟨a1, r1, b1⟩ := (opens_int (by kernel_rfl) Try.underlying3).2 g1
  obtain ⟨e0, i0⟩ := r0
  simp only [List.cons.injEq, and_true] at e0
  subst e0
  obtain ⟨e1, i1⟩ := r1
  simp only [List.cons.injEq, and_true] at e1
  subst e1
  refine ⟨⟨a0, a1⟩, ⟨rfl, i0, i1⟩, ?_⟩
  simp only [Shape.TimeD, List.map_cons, List.map_nil, Rows.uptoBulk, Rows.uptoBulkAll]
  omega
theorem whole_TimeD : Whole Try.prog 30 2 := ⟨by kernel_rfl, by kernel_rfl⟩

structure CallD where
  op : Int
  handle : Int
  other : Int
  name : ByteArray
  text : ByteArray
  data : List UInt8
  mode : Int
  uid : Int
  gid : Int
  mtime : TimeD
  code : Int
  answer : Int
  deriving DecidableEq, Inhabited
def CallD.rd (w : World) (M : Nat → Prop) (cs : List Value) (d : CallD) : Prop :=
  ∃ (A1 : Option Addr) (n1 c1 : Nat), cs = [.int .i64 d.op, .int .i64 d.handle, .int .i64 d.other, .string d.name, .string d.text, .slice A1 n1 c1, .int .i64 d.mode, .int .i64 d.uid, .int .i64 d.gid, .int .i64 d.mtime.sec, .int .i64 d.mtime.nano, .int .i64 d.code, .int .i64 d.answer] ∧ I64 d.op ∧ I64 d.handle ∧ I64 d.other ∧ (d.name).size ≤ maxLen ∧ (d.text).size ≤ maxLen ∧ n1 ≤ c1 ∧ c1 ≤ maxLen ∧ Row Shape.byte w M A1 n1 d.data ∧ I64 d.mode ∧ I64 d.uid ∧ I64 d.gid ∧ I64 d.mtime.sec ∧ I64 d.mtime.nano ∧ I64 d.code ∧ I64 d.answer
def Shape.CallD : Shape CallD where
  size := 13
  pos := by decide
  rd := CallD.rd
  bulk d := Shape.int.bulk d.op + Shape.int.bulk d.handle + Shape.int.bulk d.other + Shape.str.bulk d.name + Shape.str.bulk d.text + (Shape.slice Shape.byte).bulk d.data + Shape.int.bulk d.mode + Shape.int.bulk d.uid + Shape.int.bulk d.gid + Shape.TimeD.bulk d.mtime + Shape.int.bulk d.code + Shape.int.bulk d.answer + 1
  bpos _ := by omega
  len := fun {w M cs d} h => by obtain ⟨_, _, _, e, _, _, _, _, _, _, _, _, _, _, _, _, _, _, _⟩ := h; subst e; rfl
  keep := fun {w w' M cs d} h k => by obtain ⟨A1, n1, c1, e, h0, h1, h2, h3, h4, h5, h6, h7, h8, h9, h10, h11, h12, h13, h14⟩ := h; exact ⟨A1, n1, c1, e, h0, h1, h2, h3, h4, h5, h6, h7.keep k, h8, h9, h10, h11, h12, h13, h14⟩
  more := fun {w M M' cs d} h k => by obtain ⟨A1, n1, c1, e, h0, h1, h2, h3, h4, h5, h6, h7, h8, h9, h10, h11, h12, h13, h14⟩ := h; exact ⟨A1, n1, c1, e, h0, h1, h2, h3, h4, h5, h6, h7.more k, h8, h9, h10, h11, h12, h13, h14⟩
  one := fun {w M cs d} h v hv => by obtain ⟨_, _, _, e, _, _, _, _, _, _, _, _, _, _, _, _, _, _, _⟩ := h; subst e; simp only [List.mem_cons, List.not_mem_nil, or_false] at hv; rcases hv with rfl | rfl | rfl | rfl | rfl | rfl | rfl | rfl | rfl | rfl | rfl | rfl | rfl <;> rfl
set_option maxRecDepth 100000 in
theorem opens_CallD : Opens Try.prog Shape.CallD 74 := by
  refine ⟨by kernel_rfl, fun {H enc w fuel cs x} h => ?_⟩
  obtain ⟨xs, n, rfl, rfl, hlen, hxl, hf⟩ := DataW.trod_struct Try.underlying74 h
  have hl : cs.length = 13 := by rw [hlen]; kernel_rfl
  clear h hlen
  obtain ⟨y0, y1, y2, y3, y4, y5, y6, y7, y8, y9, y10, y11, y12, rfl⟩ : ∃ y0 y1 y2 y3 y4 y5 y6 y7 y8 y9 y10 y11 y12, cs = [y0, y1, y2, y3, y4, y5, y6, y7, y8, y9, y10, y11, y12] := by
    match cs, hl with | [y0, y1, y2, y3, y4, y5, y6, y7, y8, y9, y10, y11, y12], _ => exact ⟨y0, y1, y2, y3, y4, y5, y6, y7, y8, y9, y10, y11, y12, rfl⟩
  obtain ⟨x0, x1, x2, x3, x4, x5, x6, x7, x8, x9, x10, x11, rfl⟩ : ∃ x0 x1 x2 x3 x4 x5 x6 x7 x8 x9 x10 x11, xs = [x0, x1, x2, x3, x4, x5, x6, x7, x8, x9, x10, x11] := by
    match xs, hxl with | [x0, x1, x2, x3, x4, x5, x6, x7, x8, x9, x10, x11], _ => exact ⟨x0, x1, x2, x3, x4, x5, x6, x7, x8, x9, x10, x11, rfl⟩
  have g0 : DataW.trod enc Try.prog w 0 (fun _ => true) true n 3 [y0] = some x0 := by
    have ck : Try.prog.cellsOf 3 = 1 := by kernel_rfl
    have g : DataW.trod enc Try.prog w 0 (fun _ => true) true n 3 (List.take (Try.prog.cellsOf 3) (List.drop 0 [y0, y1, y2, y3, y4, y5, y6, y7, y8, y9, y10, y11, y12])) = some x0 := hf 0 _ rfl
    rw [ck] at g; exact g
  have g1 : DataW.trod enc Try.prog w 0 (fun _ => true) true n 3 [y1] = some x1 := by
    have ck : Try.prog.cellsOf 3 = 1 := by kernel_rfl
    have g : DataW.trod enc Try.prog w 0 (fun _ => true) true n 3 (List.take (Try.prog.cellsOf 3) (List.drop 1 [y0, y1, y2, y3, y4, y5, y6, y7, y8, y9, y10, y11, y12])) = some x1 := hf 1 _ rfl
    rw [ck] at g; exact g
  have g2 : DataW.trod enc Try.prog w 0 (fun _ => true) true n 3 [y2] = some x2 := by
    have ck : Try.prog.cellsOf 3 = 1 := by kernel_rfl
    have g : DataW.trod enc Try.prog w 0 (fun _ => true) true n 3 (List.take (Try.prog.cellsOf 3) (List.drop 2 [y0, y1, y2, y3, y4, y5, y6, y7, y8, y9, y10, y11, y12])) = some x2 := hf 2 _ rfl
    rw [ck] at g; exact g
  have g3 : DataW.trod enc Try.prog w 0 (fun _ => true) true n 9 [y3] = some x3 := by
    have ck : Try.prog.cellsOf 9 = 1 := by kernel_rfl
    have g : DataW.trod enc Try.prog w 0 (fun _ => true) true n 9 (List.take (Try.prog.cellsOf 9) (List.drop 3 [y0, y1, y2, y3, y4, y5, y6, y7, y8, y9, y10, y11, y12])) = some x3 := hf 3 _ rfl
    rw [ck] at g; exact g
  have g4 : DataW.trod enc Try.prog w 0 (fun _ => true) true n 9 [y4] = some x4 := by
    have ck : Try.prog.cellsOf 9 = 1 := by kernel_rfl
    have g : DataW.trod enc Try.prog w 0 (fun _ => true) true n 9 (List.take (Try.prog.cellsOf 9) (List.drop 4 [y0, y1, y2, y3, y4, y5, y6, y7, y8, y9, y10, y11, y12])) = some x4 := hf 4 _ rfl
    rw [ck] at g; exact g
  have g5 : DataW.trod enc Try.prog w 0 (fun _ => true) true n 72 [y5] = some x5 := by
    have ck : Try.prog.cellsOf 72 = 1 := by kernel_rfl
    have g : DataW.trod enc Try.prog w 0 (fun _ => true) true n 72 (List.take (Try.prog.cellsOf 72) (List.drop 5 [y0, y1, y2, y3, y4, y5, y6, y7, y8, y9, y10, y11, y12])) = some x5 := hf 5 _ rfl
    rw [ck] at g; exact g
  have g6 : DataW.trod enc Try.prog w 0 (fun _ => true) true n 3 [y6] = some x6 := by
    have ck : Try.prog.cellsOf 3 = 1 := by kernel_rfl
    have g : DataW.trod enc Try.prog w 0 (fun _ => true) true n 3 (List.take (Try.prog.cellsOf 3) (List.drop 6 [y0, y1, y2, y3, y4, y5, y6, y7, y8, y9, y10, y11, y12])) = some x6 := hf 6 _ rfl
    rw [ck] at g; exact g
  have g7 : DataW.trod enc Try.prog w 0 (fun _ => true) true n 3 [y7] = some x7 := by
    have ck : Try.prog.cellsOf 3 = 1 := by kernel_rfl
    have g : DataW.trod enc Try.prog w 0 (fun _ => true) true n 3 (List.take (Try.prog.cellsOf 3) (List.drop 7 [y0, y1, y2, y3, y4, y5, y6, y7, y8, y9, y10, y11, y12])) = some x7 := hf 7 _ rfl
    rw [ck] at g; exact g
  have g8 : DataW.trod enc Try.prog w 0 (fun _ => true) true n 3 [y8] = some x8 := by
    have ck : Try.prog.cellsOf 3 = 1 := by kernel_rfl
    have g : DataW.trod enc Try.prog w 0 (fun _ => true) true n 3 (List.take (Try.prog.cellsOf 3) (List.drop 8 [y0, y1, y2, y3, y4, y5, y6, y7, y8, y9, y10, y11, y12])) = some x8 := hf 8 _ rfl
    rw [ck] at g; exact g
  have g9 : DataW.trod enc Try.prog w 0 (fun _ => true) true n 30 [y9, y10] = some x9 := by
    have ck : Try.prog.cellsOf 30 = 2 := by kernel_rfl
    have g : DataW.trod enc Try.prog w 0 (fun _ => true) true n 30 (List.take (Try.prog.cellsOf 30) (List.drop 9 [y0, y1, y2, y3, y4, y5, y6, y7, y8, y9, y10, y11, y12])) = some x9 := hf 9 _ rfl
    rw [ck] at g; exact g
  have g10 : DataW.trod enc Try.prog w 0 (fun _ => true) true n 51 [y11] = some x10 := by
    have ck : Try.prog.cellsOf 51 = 1 := by kernel_rfl
    have g : DataW.trod enc Try.prog w 0 (fun _ => true) true n 51 (List.take (Try.prog.cellsOf 51) (List.drop 11 [y0, y1, y2, y3, y4, y5, y6, y7, y8, y9, y10, y11, y12])) = some x10 := hf 10 _ rfl
    rw [ck] at g; exact g
  have g11 : DataW.trod enc Try.prog w 0 (fun _ => true) true n 3 [y12] = some x11 := by
    have ck : Try.prog.cellsOf 3 = 1 := by kernel_rfl
    have g : DataW.trod enc Try.prog w 0 (fun _ => true) true n 3 (List.take (Try.prog.cellsOf 3) (List.drop 12 [y0, y1, y2, y3, y4, y5, y6, y7, y8, y9, y10, y11, y12])) = some x11 := hf 11 _ rfl
    rw [ck] at g; exact g
  clear hf hl hxl
  obtain ⟨a0, r0, b0⟩ := (opens_int (by kernel_rfl) Try.underlying3).2 g0
  obtain ⟨a1, r1, b1⟩ := (opens_int (by kernel_rfl) Try.underlying3).2 g1
  obtain ⟨a2, r2, b2⟩ := (opens_int (by kernel_rfl) Try.underlying3).2 g2
  obtain ⟨a3, r3, b3⟩ := (opens_str (by kernel_rfl) Try.underlying9).2 g3
  obtain ⟨a4, r4, b4⟩ := (opens_str (by kernel_rfl) Try.underlying9).2 g4
  obtain ⟨a5, r5, b5⟩ := (opens_slice (by kernel_rfl) Try.underlying72 (opens_byte (by kernel_rfl) Try.underlying5)).2 g5
  obtain ⟨a6, r6, b6⟩ := (opens_int (by kernel_rfl) Try.underlying3).2 g6
  obtain ⟨a7, r7, b7⟩ := (opens_int (by kernel_rfl) Try.underlying3).2 g7
  obtain ⟨a8, r8, b8⟩ := (opens_int (by kernel_rfl) Try.underlying3).2 g8
  obtain ⟨a9, r9, b9⟩ := opens_TimeD.2 g9
  obtain ⟨a10, r10, b10⟩ := (opens_int (by kernel_rfl) Try.underlying51).2 g10
  obtain ⟨a11, r11, b11⟩ := (opens_int (by kernel_rfl) Try.underlying3).2 g11
  obtain ⟨e0, i0⟩ := r0
  simp only [List.cons.injEq, and_true] at e0
  subst e0
  obtain ⟨e1, i1⟩ := r1
  simp only [List.cons.injEq, and_true] at e1
  subst e1
  obtain ⟨e2, i2⟩ := r2
  simp only [List.cons.injEq, and_true] at e2
  subst e2
  obtain ⟨e3, i3⟩ := r3
  simp only [List.cons.injEq, and_true] at e3
  subst e3
  obtain ⟨e4, i4⟩ := r4
  simp only [List.cons.injEq, and_true] at e4
  subst e4
  obtain ⟨z5, e5, A5, n5, c5, rfl, i5, j5, k5⟩ := r5
  simp only [List.cons.injEq, and_true] at e5
  subst e5
  obtain ⟨e6, i6⟩ := r6
  simp only [List.cons.injEq, and_true] at e6
  subst e6
  obtain ⟨e7, i7⟩ := r7
  simp only [List.cons.injEq, and_true] at e7
  subst e7
  obtain ⟨e8, i8⟩ := r8
  simp only [List.cons.injEq, and_true] at e8
  subst e8
  obtain ⟨e9, i9_0, i9_1⟩ := r9
  simp only [List.cons.injEq, and_true] at e9
  obtain ⟨rfl, rfl⟩ := e9
  obtain ⟨e10, i10⟩ := r10
  simp only [List.cons.injEq, and_true] at e10
  subst e10
  obtain ⟨e11, i11⟩ := r11
  simp only [List.cons.injEq, and_true] at e11
  subst e11
  refine ⟨⟨a0, a1, a2, a3, a4, a5, a6, a7, a8, a9, a10, a11⟩, ⟨A5, n5, c5, rfl, i0, i1, i2, i3, i4, i5, j5, k5, i6, i7, i8, i9_0, i9_1, i10, i11⟩, ?_⟩
  simp only [Shape.CallD, List.map_cons, List.map_nil, Rows.uptoBulk, Rows.uptoBulkAll]
  omega
theorem elem_CallD : Elem Try.prog 22 74 Shape.CallD 136 := ⟨Try.underlying22, by kernel_rfl⟩
theorem whole_CallD : Whole Try.prog 74 13 := ⟨by kernel_rfl, by kernel_rfl⟩

structure OpD where
  what : Int
  level : Int
  key : ByteArray
  val : Int
  deriving DecidableEq, Inhabited
def OpD.rd (w : World) (M : Nat → Prop) (cs : List Value) (d : OpD) : Prop :=
  cs = [.int .i64 d.what, .int .i64 d.level, .string d.key, .int .i64 d.val] ∧ I64 d.what ∧ I64 d.level ∧ (d.key).size ≤ maxLen ∧ I64 d.val
def Shape.OpD : Shape OpD where
  size := 4
  pos := by decide
  rd := OpD.rd
  bulk d := Shape.int.bulk d.what + Shape.int.bulk d.level + Shape.str.bulk d.key + Shape.int.bulk d.val + 1
  bpos _ := by omega
  len := fun {w M cs d} h => by obtain ⟨e, _, _, _, _⟩ := h; subst e; rfl
  keep := fun {w w' M cs d} h _ => by obtain ⟨e, h0, h1, h2, h3⟩ := h; exact ⟨e, h0, h1, h2, h3⟩
  more := fun {w M M' cs d} h _ => by obtain ⟨e, h0, h1, h2, h3⟩ := h; exact ⟨e, h0, h1, h2, h3⟩
  one := fun {w M cs d} h v hv => by obtain ⟨e, _, _, _, _⟩ := h; subst e; simp only [List.mem_cons, List.not_mem_nil, or_false] at hv; rcases hv with rfl | rfl | rfl | rfl <;> rfl
set_option maxRecDepth 100000 in
theorem opens_OpD : Opens Try.prog Shape.OpD 56 := by
  refine ⟨by kernel_rfl, fun {H enc w fuel cs x} h => ?_⟩
  obtain ⟨xs, n, rfl, rfl, hlen, hxl, hf⟩ := DataW.trod_struct Try.underlying56 h
  have hl : cs.length = 4 := by rw [hlen]; kernel_rfl
  clear h hlen
  obtain ⟨y0, y1, y2, y3, rfl⟩ : ∃ y0 y1 y2 y3, cs = [y0, y1, y2, y3] := by
    match cs, hl with | [y0, y1, y2, y3], _ => exact ⟨y0, y1, y2, y3, rfl⟩
  obtain ⟨x0, x1, x2, x3, rfl⟩ : ∃ x0 x1 x2 x3, xs = [x0, x1, x2, x3] := by
    match xs, hxl with | [x0, x1, x2, x3], _ => exact ⟨x0, x1, x2, x3, rfl⟩
  have g0 : DataW.trod enc Try.prog w 0 (fun _ => true) true n 3 [y0] = some x0 := by
    have ck : Try.prog.cellsOf 3 = 1 := by kernel_rfl
    have g : DataW.trod enc Try.prog w 0 (fun _ => true) true n 3 (List.take (Try.prog.cellsOf 3) (List.drop 0 [y0, y1, y2, y3])) = some x0 := hf 0 _ rfl
    rw [ck] at g; exact g
  have g1 : DataW.trod enc Try.prog w 0 (fun _ => true) true n 3 [y1] = some x1 := by
    have ck : Try.prog.cellsOf 3 = 1 := by kernel_rfl
    have g : DataW.trod enc Try.prog w 0 (fun _ => true) true n 3 (List.take (Try.prog.cellsOf 3) (List.drop 1 [y0, y1, y2, y3])) = some x1 := hf 1 _ rfl
    rw [ck] at g; exact g
  have g2 : DataW.trod enc Try.prog w 0 (fun _ => true) true n 9 [y2] = some x2 := by
    have ck : Try.prog.cellsOf 9 = 1 := by kernel_rfl
    have g : DataW.trod enc Try.prog w 0 (fun _ => true) true n 9 (List.take (Try.prog.cellsOf 9) (List.drop 2 [y0, y1, y2, y3])) = some x2 := hf 2 _ rfl
    rw [ck] at g; exact g
  have g3 : DataW.trod enc Try.prog w 0 (fun _ => true) true n 3 [y3] = some x3 := by
    have ck : Try.prog.cellsOf 3 = 1 := by kernel_rfl
    have g : DataW.trod enc Try.prog w 0 (fun _ => true) true n 3 (List.take (Try.prog.cellsOf 3) (List.drop 3 [y0, y1, y2, y3])) = some x3 := hf 3 _ rfl
    rw [ck] at g; exact g
  clear hf hl hxl
  obtain ⟨a0, r0, b0⟩ := (opens_int (by kernel_rfl) Try.underlying3).2 g0
  obtain ⟨a1, r1, b1⟩ := (opens_int (by kernel_rfl) Try.underlying3).2 g1
  obtain ⟨a2, r2, b2⟩ := (opens_str (by kernel_rfl) Try.underlying9).2 g2
  obtain ⟨a3, r3, b3⟩ := (opens_int (by kernel_rfl) Try.underlying3).2 g3
  obtain ⟨e0, i0⟩ := r0
  simp only [List.cons.injEq, and_true] at e0
  subst e0
  obtain ⟨e1, i1⟩ := r1
  simp only [List.cons.injEq, and_true] at e1
  subst e1
  obtain ⟨e2, i2⟩ := r2
  simp only [List.cons.injEq, and_true] at e2
  subst e2
  obtain ⟨e3, i3⟩ := r3
  simp only [List.cons.injEq, and_true] at e3
  subst e3
  refine ⟨⟨a0, a1, a2, a3⟩, ⟨rfl, i0, i1, i2, i3⟩, ?_⟩
  simp only [Shape.OpD, List.map_cons, List.map_nil, Rows.uptoBulk, Rows.uptoBulkAll]
  omega
theorem elem_OpD : Elem Try.prog 48 56 Shape.OpD 40 := ⟨Try.underlying48, by kernel_rfl⟩
theorem whole_OpD : Whole Try.prog 56 4 := ⟨by kernel_rfl, by kernel_rfl⟩

end Go.Proofs.Ytphloeafgblmnaa
