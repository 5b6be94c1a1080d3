/- The data of the program as plain structures, and how they lie in memory. No condition. -/
import Derived.Test.YtnadldcdckjifaaDoorDataT
namespace Go.Proofs.YtnadldcdckjifaaDoor
open Go.RowKit Go.ChangeShapes Go.WideShapes Go.Deep
set_option linter.unusedVariables false
set_option linter.unusedSimpArgs false
structure PairD where
  key : ByteArray
  value : ByteArray
  deriving DecidableEq, Inhabited
def PairD.rd (w : World) (M : Nat → Prop) (cs : List Value) (d : PairD) : Prop :=
  cs = [.string d.key, .string d.value] ∧ (d.key).size ≤ maxLen ∧ (d.value).size ≤ maxLen
def Shape.PairD : Shape PairD where
  size := 2
  pos := by decide
  rd := PairD.rd
  bulk d := Shape.str.bulk d.key + Shape.str.bulk d.value + 1
  bpos _ := by omega
  len := fun {w M cs d} h => by obtain ⟨e, _, _⟩ := h; subst e; rfl
  keep := fun {w w' M cs d} h _ => by obtain ⟨e, h0, h1⟩ := h; exact ⟨e, h0, h1⟩
  more := fun {w M M' cs d} h _ => by obtain ⟨e, h0, h1⟩ := h; exact ⟨e, h0, h1⟩
  one := fun {w M cs d} h v hv => by obtain ⟨e, _, _⟩ := h; subst e; simp only [List.mem_cons, List.not_mem_nil, or_false] at hv; rcases hv with rfl | rfl <;> rfl
set_option maxRecDepth 100000 in
theorem opens_PairD : Opens Tryd.prog Shape.PairD 49 := by
  refine ⟨by kernel_rfl, fun {H enc w fuel cs x} h => ?_⟩
  obtain ⟨xs, n, rfl, rfl, hlen, hxl, hf⟩ := DataW.trod_struct Tryd.underlying49 h
  have hl : cs.length = 2 := by rw [hlen]; kernel_rfl
  clear h hlen
  obtain ⟨y0, y1, rfl⟩ : ∃ y0 y1, cs = [y0, y1] := by
    match cs, hl with | [y0, y1], _ => exact ⟨y0, y1, rfl⟩
  obtain ⟨x0, x1, rfl⟩ : ∃ x0 x1, xs = [x0, x1] := by
    match xs, hxl with | [x0, x1], _ => exact ⟨x0, x1, rfl⟩
  have g0 : DataW.trod enc Tryd.prog w 0 (fun _ => true) true n 9 [y0] = some x0 := by
    have ck : Tryd.prog.cellsOf 9 = 1 := by kernel_rfl
    have g : DataW.trod enc Tryd.prog w 0 (fun _ => true) true n 9 (List.take (Tryd.prog.cellsOf 9) (List.drop 0 [y0, y1])) = some x0 := hf 0 _ rfl
    rw [ck] at g; exact g
  have g1 : DataW.trod enc Tryd.prog w 0 (fun _ => true) true n 9 [y1] = some x1 := by
    have ck : Tryd.prog.cellsOf 9 = 1 := by kernel_rfl
    have g : DataW.trod enc Tryd.prog w 0 (fun _ => true) true n 9 (List.take (Tryd.prog.cellsOf 9) (List.drop 1 [y0, y1])) = some x1 := hf 1 _ rfl
    rw [ck] at g; exact g
  clear hf hl hxl
  obtain ⟨a0, r0, b0⟩ := (opens_str (by kernel_rfl) Tryd.underlying9).2 g0
  obtain ⟨a1, r1, b1⟩ := (opens_str (by kernel_rfl) Tryd.underlying9).2 g1
  obtain ⟨e0, i0⟩ := r0
  simp only [List.cons.injEq, and_true] at e0
  subst e0
  obtain ⟨e1, i1⟩ := r1
  simp only [List.cons.injEq, and_true] at e1
  subst e1
  refine ⟨⟨a0, a1⟩, ⟨rfl, i0, i1⟩, ?_⟩
  simp only [Shape.PairD, List.map_cons, List.map_nil, Rows.uptoBulk, Rows.uptoBulkAll]
  omega
theorem elem_PairD : Elem Tryd.prog 35 49 Shape.PairD 32 := ⟨Tryd.underlying35, by kernel_rfl⟩
theorem whole_PairD : Whole Tryd.prog 49 2 := ⟨by kernel_rfl, by kernel_rfl⟩

structure HeaderD where
  name : ByteArray
  link : ByteArray
  mode : Int
  uid : Int
  gid : Int
  size : Int
  mtime : Int
  type : UInt8
  user : ByteArray
  group : ByteArray
  major : Int
  minor : Int
  form : Int
  deriving DecidableEq, Inhabited
def HeaderD.rd (w : World) (M : Nat → Prop) (cs : List Value) (d : HeaderD) : Prop :=
  cs = [.string d.name, .string d.link, .int .i64 d.mode, .int .i64 d.uid, .int .i64 d.gid, .int .i64 d.size, .int .i64 d.mtime, .int .u8 (d.type).toNat, .string d.user, .string d.group, .int .i64 d.major, .int .i64 d.minor, .int .i64 d.form] ∧ (d.name).size ≤ maxLen ∧ (d.link).size ≤ maxLen ∧ I64 d.mode ∧ I64 d.uid ∧ I64 d.gid ∧ I64 d.size ∧ I64 d.mtime ∧ (d.user).size ≤ maxLen ∧ (d.group).size ≤ maxLen ∧ I64 d.major ∧ I64 d.minor ∧ I64 d.form
def Shape.HeaderD : Shape HeaderD where
  size := 13
  pos := by decide
  rd := HeaderD.rd
  bulk d := Shape.str.bulk d.name + Shape.str.bulk d.link + Shape.int.bulk d.mode + Shape.int.bulk d.uid + Shape.int.bulk d.gid + Shape.int.bulk d.size + Shape.int.bulk d.mtime + Shape.byte.bulk d.type + Shape.str.bulk d.user + Shape.str.bulk d.group + Shape.int.bulk d.major + Shape.int.bulk d.minor + Shape.int.bulk d.form + 1
  bpos _ := by omega
  len := fun {w M cs d} h => by obtain ⟨e, _, _, _, _, _, _, _, _, _, _, _, _⟩ := h; subst e; rfl
  keep := fun {w w' M cs d} h _ => by obtain ⟨e, h0, h1, h2, h3, h4, h5, h6, h7, h8, h9, h10, h11⟩ := h; exact ⟨e, h0, h1, h2, h3, h4, h5, h6, h7, h8, h9, h10, h11⟩
  more := fun {w M M' cs d} h _ => by obtain ⟨e, h0, h1, h2, h3, h4, h5, h6, h7, h8, h9, h10, h11⟩ := h; exact ⟨e, h0, h1, h2, h3, h4, h5, h6, h7, h8, h9, h10, h11⟩
  one := fun {w M cs d} h v hv => by obtain ⟨e, _, _, _, _, _, _, _, _, _, _, _, _⟩ := h; subst e; simp only [List.mem_cons, List.not_mem_nil, or_false] at hv; rcases hv with rfl | rfl | rfl | rfl | rfl | rfl | rfl | rfl | rfl | rfl | rfl | rfl | rfl <;> rfl
set_option maxRecDepth 100000 in
theorem opens_HeaderD : Opens Tryd.prog Shape.HeaderD 34 := by
  refine ⟨by kernel_rfl, fun {H enc w fuel cs x} h => ?_⟩
  obtain ⟨xs, n, rfl, rfl, hlen, hxl, hf⟩ := DataW.trod_struct Tryd.underlying34 h
  have hl : cs.length = 13 := by rw [hlen]; kernel_rfl
  clear h hlen
  obtain ⟨y0, y1, y2, y3, y4, y5, y6, y7, y8, y9, y10, y11, y12, rfl⟩ : ∃ y0 y1 y2 y3 y4 y5 y6 y7 y8 y9 y10 y11 y12, cs = [y0, y1, y2, y3, y4, y5, y6, y7, y8, y9, y10, y11, y12] := by
    match cs, hl with | [y0, y1, y2, y3, y4, y5, y6, y7, y8, y9, y10, y11, y12], _ => exact ⟨y0, y1, y2, y3, y4, y5, y6, y7, y8, y9, y10, y11, y12, rfl⟩
  obtain ⟨x0, x1, x2, x3, x4, x5, x6, x7, x8, x9, x10, x11, x12, rfl⟩ : ∃ x0 x1 x2 x3 x4 x5 x6 x7 x8 x9 x10 x11 x12, xs = [x0, x1, x2, x3, x4, x5, x6, x7, x8, x9, x10, x11, x12] := by
    match xs, hxl with | [x0, x1, x2, x3, x4, x5, x6, x7, x8, x9, x10, x11, x12], _ => exact ⟨x0, x1, x2, x3, x4, x5, x6, x7, x8, x9, x10, x11, x12, rfl⟩
  have g0 : DataW.trod enc Tryd.prog w 0 (fun _ => true) true n 9 [y0] = some x0 := by
    have ck : Tryd.prog.cellsOf 9 = 1 := by kernel_rfl
    have g : DataW.trod enc Tryd.prog w 0 (fun _ => true) true n 9 (List.take (Tryd.prog.cellsOf 9) (List.drop 0 [y0, y1, y2, y3, y4, y5, y6, y7, y8, y9, y10, y11, y12])) = some x0 := hf 0 _ rfl
    rw [ck] at g; exact g
  have g1 : DataW.trod enc Tryd.prog w 0 (fun _ => true) true n 9 [y1] = some x1 := by
    have ck : Tryd.prog.cellsOf 9 = 1 := by kernel_rfl
    have g : DataW.trod enc Tryd.prog w 0 (fun _ => true) true n 9 (List.take (Tryd.prog.cellsOf 9) (List.drop 1 [y0, y1, y2, y3, y4, y5, y6, y7, y8, y9, y10, y11, y12])) = some x1 := hf 1 _ rfl
    rw [ck] at g; exact g
  have g2 : DataW.trod enc Tryd.prog w 0 (fun _ => true) true n 3 [y2] = some x2 := by
    have ck : Tryd.prog.cellsOf 3 = 1 := by kernel_rfl
    have g : DataW.trod enc Tryd.prog w 0 (fun _ => true) true n 3 (List.take (Tryd.prog.cellsOf 3) (List.drop 2 [y0, y1, y2, y3, y4, y5, y6, y7, y8, y9, y10, y11, y12])) = some x2 := hf 2 _ rfl
    rw [ck] at g; exact g
  have g3 : DataW.trod enc Tryd.prog w 0 (fun _ => true) true n 3 [y3] = some x3 := by
    have ck : Tryd.prog.cellsOf 3 = 1 := by kernel_rfl
    have g : DataW.trod enc Tryd.prog w 0 (fun _ => true) true n 3 (List.take (Tryd.prog.cellsOf 3) (List.drop 3 [y0, y1, y2, y3, y4, y5, y6, y7, y8, y9, y10, y11, y12])) = some x3 := hf 3 _ rfl
    rw [ck] at g; exact g
  have g4 : DataW.trod enc Tryd.prog w 0 (fun _ => true) true n 3 [y4] = some x4 := by
    have ck : Tryd.prog.cellsOf 3 = 1 := by kernel_rfl
    have g : DataW.trod enc Tryd.prog w 0 (fun _ => true) true n 3 (List.take (Tryd.prog.cellsOf 3) (List.drop 4 [y0, y1, y2, y3, y4, y5, y6, y7, y8, y9, y10, y11, y12])) = some x4 := hf 4 _ rfl
    rw [ck] at g; exact g
  have g5 : DataW.trod enc Tryd.prog w 0 (fun _ => true) true n 3 [y5] = some x5 := by
    have ck : Tryd.prog.cellsOf 3 = 1 := by kernel_rfl
    have g : DataW.trod enc Tryd.prog w 0 (fun _ => true) true n 3 (List.take (Tryd.prog.cellsOf 3) (List.drop 5 [y0, y1, y2, y3, y4, y5, y6, y7, y8, y9, y10, y11, y12])) = some x5 := hf 5 _ rfl
    rw [ck] at g; exact g
  have g6 : DataW.trod enc Tryd.prog w 0 (fun _ => true) true n 3 [y6] = some x6 := by
    have ck : Tryd.prog.cellsOf 3 = 1 := by kernel_rfl
    have g : DataW.trod enc Tryd.prog w 0 (fun _ => true) true n 3 (List.take (Tryd.prog.cellsOf 3) (List.drop 6 [y0, y1, y2, y3, y4, y5, y6, y7, y8, y9, y10, y11, y12])) = some x6 := hf 6 _ rfl
    rw [ck] at g; exact g
  have g7 : DataW.trod enc Tryd.prog w 0 (fun _ => true) true n 5 [y7] = some x7 := by
    have ck : Tryd.prog.cellsOf 5 = 1 := by kernel_rfl
    have g : DataW.trod enc Tryd.prog w 0 (fun _ => true) true n 5 (List.take (Tryd.prog.cellsOf 5) (List.drop 7 [y0, y1, y2, y3, y4, y5, y6, y7, y8, y9, y10, y11, y12])) = some x7 := hf 7 _ rfl
    rw [ck] at g; exact g
  have g8 : DataW.trod enc Tryd.prog w 0 (fun _ => true) true n 9 [y8] = some x8 := by
    have ck : Tryd.prog.cellsOf 9 = 1 := by kernel_rfl
    have g : DataW.trod enc Tryd.prog w 0 (fun _ => true) true n 9 (List.take (Tryd.prog.cellsOf 9) (List.drop 8 [y0, y1, y2, y3, y4, y5, y6, y7, y8, y9, y10, y11, y12])) = some x8 := hf 8 _ rfl
    rw [ck] at g; exact g
  have g9 : DataW.trod enc Tryd.prog w 0 (fun _ => true) true n 9 [y9] = some x9 := by
    have ck : Tryd.prog.cellsOf 9 = 1 := by kernel_rfl
    have g : DataW.trod enc Tryd.prog w 0 (fun _ => true) true n 9 (List.take (Tryd.prog.cellsOf 9) (List.drop 9 [y0, y1, y2, y3, y4, y5, y6, y7, y8, y9, y10, y11, y12])) = some x9 := hf 9 _ rfl
    rw [ck] at g; exact g
  have g10 : DataW.trod enc Tryd.prog w 0 (fun _ => true) true n 3 [y10] = some x10 := by
    have ck : Tryd.prog.cellsOf 3 = 1 := by kernel_rfl
    have g : DataW.trod enc Tryd.prog w 0 (fun _ => true) true n 3 (List.take (Tryd.prog.cellsOf 3) (List.drop 10 [y0, y1, y2, y3, y4, y5, y6, y7, y8, y9, y10, y11, y12])) = some x10 := hf 10 _ rfl
    rw [ck] at g; exact g
  have g11 : DataW.trod enc Tryd.prog w 0 (fun _ => true) true n 3 [y11] = some x11 := by
    have ck : Tryd.prog.cellsOf 3 = 1 := by kernel_rfl
    have g : DataW.trod enc Tryd.prog w 0 (fun _ => true) true n 3 (List.take (Tryd.prog.cellsOf 3) (List.drop 11 [y0, y1, y2, y3, y4, y5, y6, y7, y8, y9, y10, y11, y12])) = some x11 := hf 11 _ rfl
    rw [ck] at g; exact g
  have g12 : DataW.trod enc Tryd.prog w 0 (fun _ => true) true n 3 [y12] = some x12 := by
    have ck : Tryd.prog.cellsOf 3 = 1 := by kernel_rfl
    have g : DataW.trod enc Tryd.prog w 0 (fun _ => true) true n 3 (List.take (Tryd.prog.cellsOf 3) (List.drop 12 [y0, y1, y2, y3, y4, y5, y6, y7, y8, y9, y10, y11, y12])) = some x12 := hf 12 _ rfl
    rw [ck] at g; exact g
  clear hf hl hxl
  obtain ⟨a0, r0, b0⟩ := (opens_str (by kernel_rfl) Tryd.underlying9).2 g0
  obtain ⟨a1, r1, b1⟩ := (opens_str (by kernel_rfl) Tryd.underlying9).2 g1
  obtain ⟨a2, r2, b2⟩ := (opens_int (by kernel_rfl) Tryd.underlying3).2 g2
  obtain ⟨a3, r3, b3⟩ := (opens_int (by kernel_rfl) Tryd.underlying3).2 g3
  obtain ⟨a4, r4, b4⟩ := (opens_int (by kernel_rfl) Tryd.underlying3).2 g4
  obtain ⟨a5, r5, b5⟩ := (opens_int (by kernel_rfl) Tryd.underlying3).2 g5
  obtain ⟨a6, r6, b6⟩ := (opens_int (by kernel_rfl) Tryd.underlying3).2 g6
  obtain ⟨a7, r7, b7⟩ := (opens_byte (by kernel_rfl) Tryd.underlying5).2 g7
  obtain ⟨a8, r8, b8⟩ := (opens_str (by kernel_rfl) Tryd.underlying9).2 g8
  obtain ⟨a9, r9, b9⟩ := (opens_str (by kernel_rfl) Tryd.underlying9).2 g9
  obtain ⟨a10, r10, b10⟩ := (opens_int (by kernel_rfl) Tryd.underlying3).2 g10
  obtain ⟨a11, r11, b11⟩ := (opens_int (by kernel_rfl) Tryd.underlying3).2 g11
  obtain ⟨a12, r12, b12⟩ := (opens_int (by kernel_rfl) Tryd.underlying3).2 g12
  obtain ⟨e0, i0⟩ := r0
  simp only [List.cons.injEq, and_true] at e0
  subst e0
  obtain ⟨e1, i1⟩ := r1
  simp only [List.cons.injEq, and_true] at e1
  subst e1
  obtain ⟨e2, i2⟩ := r2
  simp only [List.cons.injEq, and_true] at e2
  subst e2
  obtain ⟨e3, i3⟩ := r3
  simp only [List.cons.injEq, and_true] at e3
  subst e3
  obtain ⟨e4, i4⟩ := r4
  simp only [List.cons.injEq, and_true] at e4
  subst e4
  obtain ⟨e5, i5⟩ := r5
  simp only [List.cons.injEq, and_true] at e5
  subst e5
  obtain ⟨e6, i6⟩ := r6
  simp only [List.cons.injEq, and_true] at e6
  subst e6
  have e7 : [_] = [Value.int .u8 (a7.toNat : Int)] := r7
  simp only [List.cons.injEq, and_true] at e7
  subst e7
  obtain ⟨e8, i8⟩ := r8
  simp only [List.cons.injEq, and_true] at e8
  subst e8
  obtain ⟨e9, i9⟩ := r9
  simp only [List.cons.injEq, and_true] at e9
  subst e9
  obtain ⟨e10, i10⟩ := r10
  simp only [List.cons.injEq, and_true] at e10
  subst e10
  obtain ⟨e11, i11⟩ := r11
  simp only [List.cons.injEq, and_true] at e11
  subst e11
  obtain ⟨e12, i12⟩ := r12
  simp only [List.cons.injEq, and_true] at e12
  subst e12
  refine ⟨⟨a0, a1, a2, a3, a4, a5, a6, a7, a8, a9, a10, a11, a12⟩, ⟨rfl, i0, i1, i2, i3, i4, i5, i6, i8, i9, i10, i11, i12⟩, ?_⟩
  simp only [Shape.HeaderD, List.map_cons, List.map_nil, Rows.uptoBulk, Rows.uptoBulkAll]
  omega
theorem whole_HeaderD : Whole Tryd.prog 34 13 := ⟨by kernel_rfl, by kernel_rfl⟩

structure EntryD where
  kind : Int
  name : ByteArray
  link : ByteArray
  mode : Int
  uid : Int
  gid : Int
  user : ByteArray
  group : ByteArray
  mtime : TimeD
  data : List UInt8
  deriving DecidableEq, Inhabited
def EntryD.rd (w : World) (M : Nat → Prop) (cs : List Value) (d : EntryD) : Prop :=
  ∃ (A1 : Option Addr) (n1 c1 : Nat), cs = [.int .i64 d.kind, .string d.name, .string d.link, .int .i64 d.mode, .int .i64 d.uid, .int .i64 d.gid, .string d.user, .string d.group, .int .i64 d.mtime.sec, .int .i64 d.mtime.nano, .slice A1 n1 c1] ∧ I64 d.kind ∧ (d.name).size ≤ maxLen ∧ (d.link).size ≤ maxLen ∧ I64 d.mode ∧ I64 d.uid ∧ I64 d.gid ∧ (d.user).size ≤ maxLen ∧ (d.group).size ≤ maxLen ∧ I64 d.mtime.sec ∧ I64 d.mtime.nano ∧ n1 ≤ c1 ∧ c1 ≤ maxLen ∧ Row Shape.byte w M A1 n1 d.data
def Shape.EntryD : Shape EntryD where
  size := 11
  pos := by decide
  rd := EntryD.rd
  bulk d := Shape.int.bulk d.kind + Shape.str.bulk d.name + Shape.str.bulk d.link + Shape.int.bulk d.mode + Shape.int.bulk d.uid + Shape.int.bulk d.gid + Shape.str.bulk d.user + Shape.str.bulk d.group + Shape.TimeD.bulk d.mtime + (Shape.slice Shape.byte).bulk d.data + 1
  bpos _ := by omega
  len := fun {w M cs d} h => by obtain ⟨_, _, _, e, _, _, _, _, _, _, _, _, _, _, _, _, _⟩ := h; subst e; rfl
  keep := fun {w w' M cs d} h k => by obtain ⟨A1, n1, c1, e, h0, h1, h2, h3, h4, h5, h6, h7, h8, h9, h10, h11, h12⟩ := h; exact ⟨A1, n1, c1, e, h0, h1, h2, h3, h4, h5, h6, h7, h8, h9, h10, h11, h12.keep k⟩
  more := fun {w M M' cs d} h k => by obtain ⟨A1, n1, c1, e, h0, h1, h2, h3, h4, h5, h6, h7, h8, h9, h10, h11, h12⟩ := h; exact ⟨A1, n1, c1, e, h0, h1, h2, h3, h4, h5, h6, h7, h8, h9, h10, h11, h12.more k⟩
  one := fun {w M cs d} h v hv => by obtain ⟨_, _, _, e, _, _, _, _, _, _, _, _, _, _, _, _, _⟩ := h; subst e; simp only [List.mem_cons, List.not_mem_nil, or_false] at hv; rcases hv with rfl | rfl | rfl | rfl | rfl | rfl | rfl | rfl | rfl | rfl | rfl <;> rfl
set_option maxRecDepth 100000 in
theorem opens_EntryD : Opens Tryd.prog Shape.EntryD 41 := by
  refine ⟨by kernel_rfl, fun {H enc w fuel cs x} h => ?_⟩
  obtain ⟨xs, n, rfl, rfl, hlen, hxl, hf⟩ := DataW.trod_struct Tryd.underlying41 h
  have hl : cs.length = 11 := by rw [hlen]; kernel_rfl
  clear h hlen
  obtain ⟨y0, y1, y2, y3, y4, y5, y6, y7, y8, y9, y10, rfl⟩ : ∃ y0 y1 y2 y3 y4 y5 y6 y7 y8 y9 y10, cs = [y0, y1, y2, y3, y4, y5, y6, y7, y8, y9, y10] := by
    match cs, hl with | [y0, y1, y2, y3, y4, y5, y6, y7, y8, y9, y10], _ => exact ⟨y0, y1, y2, y3, y4, y5, y6, y7, y8, y9, y10, rfl⟩
  obtain ⟨x0, x1, x2, x3, x4, x5, x6, x7, x8, x9, rfl⟩ : ∃ x0 x1 x2 x3 x4 x5 x6 x7 x8 x9, xs = [x0, x1, x2, x3, x4, x5, x6, x7, x8, x9] := by
    match xs, hxl with | [x0, x1, x2, x3, x4, x5, x6, x7, x8, x9], _ => exact ⟨x0, x1, x2, x3, x4, x5, x6, x7, x8, x9, rfl⟩
  have g0 : DataW.trod enc Tryd.prog w 0 (fun _ => true) true n 3 [y0] = some x0 := by
    have ck : Tryd.prog.cellsOf 3 = 1 := by kernel_rfl
    have g : DataW.trod enc Tryd.prog w 0 (fun _ => true) true n 3 (List.take (Tryd.prog.cellsOf 3) (List.drop 0 [y0, y1, y2, y3, y4, y5, y6, y7, y8, y9, y10])) = some x0 := hf 0 _ rfl
    rw [ck] at g; exact g
  have g1 : DataW.trod enc Tryd.prog w 0 (fun _ => true) true n 9 [y1] = some x1 := by
    have ck : Tryd.prog.cellsOf 9 = 1 := by kernel_rfl
    have g : DataW.trod enc Tryd.prog w 0 (fun _ => true) true n 9 (List.take (Tryd.prog.cellsOf 9) (List.drop 1 [y0, y1, y2, y3, y4, y5, y6, y7, y8, y9, y10])) = some x1 := hf 1 _ rfl
    rw [ck] at g; exact g
  have g2 : DataW.trod enc Tryd.prog w 0 (fun _ => true) true n 9 [y2] = some x2 := by
    have ck : Tryd.prog.cellsOf 9 = 1 := by kernel_rfl
    have g : DataW.trod enc Tryd.prog w 0 (fun _ => true) true n 9 (List.take (Tryd.prog.cellsOf 9) (List.drop 2 [y0, y1, y2, y3, y4, y5, y6, y7, y8, y9, y10])) = some x2 := hf 2 _ rfl
    rw [ck] at g; exact g
  have g3 : DataW.trod enc Tryd.prog w 0 (fun _ => true) true n 3 [y3] = some x3 := by
    have ck : Tryd.prog.cellsOf 3 = 1 := by kernel_rfl
    have g : DataW.trod enc Tryd.prog w 0 (fun _ => true) true n 3 (List.take (Tryd.prog.cellsOf 3) (List.drop 3 [y0, y1, y2, y3, y4, y5, y6, y7, y8, y9, y10])) = some x3 := hf 3 _ rfl
    rw [ck] at g; exact g
  have g4 : DataW.trod enc Tryd.prog w 0 (fun _ => true) true n 3 [y4] = some x4 := by
    have ck : Tryd.prog.cellsOf 3 = 1 := by kernel_rfl
    have g : DataW.trod enc Tryd.prog w 0 (fun _ => true) true n 3 (List.take (Tryd.prog.cellsOf 3) (List.drop 4 [y0, y1, y2, y3, y4, y5, y6, y7, y8, y9, y10])) = some x4 := hf 4 _ rfl
    rw [ck] at g; exact g
  have g5 : DataW.trod enc Tryd.prog w 0 (fun _ => true) true n 3 [y5] = some x5 := by
    have ck : Tryd.prog.cellsOf 3 = 1 := by kernel_rfl
    have g : DataW.trod enc Tryd.prog w 0 (fun _ => true) true n 3 (List.take (Tryd.prog.cellsOf 3) (List.drop 5 [y0, y1, y2, y3, y4, y5, y6, y7, y8, y9, y10])) = some x5 := hf 5 _ rfl
    rw [ck] at g; exact g
  have g6 : DataW.trod enc Tryd.prog w 0 (fun _ => true) true n 9 [y6] = some x6 := by
    have ck : Tryd.prog.cellsOf 9 = 1 := by kernel_rfl
    have g : DataW.trod enc Tryd.prog w 0 (fun _ => true) true n 9 (List.take (Tryd.prog.cellsOf 9) (List.drop 6 [y0, y1, y2, y3, y4, y5, y6, y7, y8, y9, y10])) = some x6 := hf 6 _ rfl
    rw [ck] at g; exact g
  have g7 : DataW.trod enc Tryd.prog w 0 (fun _ => true) true n 9 [y7] = some x7 := by
    have ck : Tryd.prog.cellsOf 9 = 1 := by kernel_rfl
    have g : DataW.trod enc Tryd.prog w 0 (fun _ => true) true n 9 (List.take (Tryd.prog.cellsOf 9) (List.drop 7 [y0, y1, y2, y3, y4, y5, y6, y7, y8, y9, y10])) = some x7 := hf 7 _ rfl
    rw [ck] at g; exact g
  have g8 : DataW.trod enc Tryd.prog w 0 (fun _ => true) true n 24 [y8, y9] = some x8 := by
    have ck : Tryd.prog.cellsOf 24 = 2 := by kernel_rfl
    have g : DataW.trod enc Tryd.prog w 0 (fun _ => true) true n 24 (List.take (Tryd.prog.cellsOf 24) (List.drop 8 [y0, y1, y2, y3, y4, y5, y6, y7, y8, y9, y10])) = some x8 := hf 8 _ rfl
    rw [ck] at g; exact g
  have g9 : DataW.trod enc Tryd.prog w 0 (fun _ => true) true n 39 [y10] = some x9 := by
    have ck : Tryd.prog.cellsOf 39 = 1 := by kernel_rfl
    have g : DataW.trod enc Tryd.prog w 0 (fun _ => true) true n 39 (List.take (Tryd.prog.cellsOf 39) (List.drop 10 [y0, y1, y2, y3, y4, y5, y6, y7, y8, y9, y10])) = some x9 := hf 9 _ rfl
    rw [ck] at g; exact g
  clear hf hl hxl
  obtain ⟨a0, r0, b0⟩ := (opens_int (by kernel_rfl) Tryd.underlying3).2 g0
  obtain ⟨a1, r1, b1⟩ := (opens_str (by kernel_rfl) Tryd.underlying9).2 g1
  obtain ⟨a2, r2, b2⟩ := (opens_str (by kernel_rfl) Tryd.underlying9).2 g2
  obtain ⟨a3, r3, b3⟩ := (opens_int (by kernel_rfl) Tryd.underlying3).2 g3
  obtain ⟨a4, r4, b4⟩ := (opens_int (by kernel_rfl) Tryd.underlying3).2 g4
  obtain ⟨a5, r5, b5⟩ := (opens_int (by kernel_rfl) Tryd.underlying3).2 g5
  obtain ⟨a6, r6, b6⟩ := (opens_str (by kernel_rfl) Tryd.underlying9).2 g6
  obtain ⟨a7, r7, b7⟩ := (opens_str (by kernel_rfl) Tryd.underlying9).2 g7
  obtain ⟨a8, r8, b8⟩ := opens_TimeD.2 g8
  obtain ⟨a9, r9, b9⟩ := (opens_slice (by kernel_rfl) Tryd.underlying39 (opens_byte (by kernel_rfl) Tryd.underlying5)).2 g9
  obtain ⟨e0, i0⟩ := r0
  simp only [List.cons.injEq, and_true] at e0
  subst e0
  obtain ⟨e1, i1⟩ := r1
  simp only [List.cons.injEq, and_true] at e1
  subst e1
  obtain ⟨e2, i2⟩ := r2
  simp only [List.cons.injEq, and_true] at e2
  subst e2
  obtain ⟨e3, i3⟩ := r3
  simp only [List.cons.injEq, and_true] at e3
  subst e3
  obtain ⟨e4, i4⟩ := r4
  simp only [List.cons.injEq, and_true] at e4
  subst e4
  obtain ⟨e5, i5⟩ := r5
  simp only [List.cons.injEq, and_true] at e5
  subst e5
  obtain ⟨e6, i6⟩ := r6
  simp only [List.cons.injEq, and_true] at e6
  subst e6
  obtain ⟨e7, i7⟩ := r7
  simp only [List.cons.injEq, and_true] at e7
  subst e7
  obtain ⟨e8, i8_0, i8_1⟩ := r8
  simp only [List.cons.injEq, and_true] at e8
  obtain ⟨rfl, rfl⟩ := e8
  obtain ⟨z9, e9, A9, n9, c9, rfl, i9, j9, k9⟩ := r9
  simp only [List.cons.injEq, and_true] at e9
  subst e9
  refine ⟨⟨a0, a1, a2, a3, a4, a5, a6, a7, a8, a9⟩, ⟨A9, n9, c9, rfl, i0, i1, i2, i3, i4, i5, i6, i7, i8_0, i8_1, i9, j9, k9⟩, ?_⟩
  simp only [Shape.EntryD, List.map_cons, List.map_nil, Rows.uptoBulk, Rows.uptoBulkAll]
  omega
theorem whole_EntryD : Whole Tryd.prog 41 11 := ⟨by kernel_rfl, by kernel_rfl⟩

structure GivenD where
  h : HeaderD
  global : List PairD
  local_ : List PairD
  longName : ByteArray
  longLink : ByteArray
  deriving DecidableEq, Inhabited
def GivenD.rd (w : World) (M : Nat → Prop) (cs : List Value) (d : GivenD) : Prop :=
  ∃ (A1 : Option Addr) (n1 c1 : Nat) (A2 : Option Addr) (n2 c2 : Nat), cs = [.string d.h.name, .string d.h.link, .int .i64 d.h.mode, .int .i64 d.h.uid, .int .i64 d.h.gid, .int .i64 d.h.size, .int .i64 d.h.mtime, .int .u8 (d.h.type).toNat, .string d.h.user, .string d.h.group, .int .i64 d.h.major, .int .i64 d.h.minor, .int .i64 d.h.form, .slice A1 n1 c1, .slice A2 n2 c2, .string d.longName, .string d.longLink] ∧ (d.h.name).size ≤ maxLen ∧ (d.h.link).size ≤ maxLen ∧ I64 d.h.mode ∧ I64 d.h.uid ∧ I64 d.h.gid ∧ I64 d.h.size ∧ I64 d.h.mtime ∧ (d.h.user).size ≤ maxLen ∧ (d.h.group).size ≤ maxLen ∧ I64 d.h.major ∧ I64 d.h.minor ∧ I64 d.h.form ∧ n1 ≤ c1 ∧ c1 ≤ maxLen ∧ Row Shape.PairD w M A1 n1 d.global ∧ n2 ≤ c2 ∧ c2 ≤ maxLen ∧ Row Shape.PairD w M A2 n2 d.local_ ∧ (d.longName).size ≤ maxLen ∧ (d.longLink).size ≤ maxLen
def Shape.GivenD : Shape GivenD where
  size := 17
  pos := by decide
  rd := GivenD.rd
  bulk d := Shape.HeaderD.bulk d.h + (Shape.slice Shape.PairD).bulk d.global + (Shape.slice Shape.PairD).bulk d.local_ + Shape.str.bulk d.longName + Shape.str.bulk d.longLink + 1
  bpos _ := by omega
  len := fun {w M cs d} h => by obtain ⟨_, _, _, _, _, _, e, _, _, _, _, _, _, _, _, _, _, _, _, _, _, _, _, _, _, _, _⟩ := h; subst e; rfl
  keep := fun {w w' M cs d} h k => by obtain ⟨A1, n1, c1, A2, n2, c2, e, h0, h1, h2, h3, h4, h5, h6, h7, h8, h9, h10, h11, h12, h13, h14, h15, h16, h17, h18, h19⟩ := h; exact ⟨A1, n1, c1, A2, n2, c2, e, h0, h1, h2, h3, h4, h5, h6, h7, h8, h9, h10, h11, h12, h13, h14.keep k, h15, h16, h17.keep k, h18, h19⟩
  more := fun {w M M' cs d} h k => by obtain ⟨A1, n1, c1, A2, n2, c2, e, h0, h1, h2, h3, h4, h5, h6, h7, h8, h9, h10, h11, h12, h13, h14, h15, h16, h17, h18, h19⟩ := h; exact ⟨A1, n1, c1, A2, n2, c2, e, h0, h1, h2, h3, h4, h5, h6, h7, h8, h9, h10, h11, h12, h13, h14.more k, h15, h16, h17.more k, h18, h19⟩
  one := fun {w M cs d} h v hv => by obtain ⟨_, _, _, _, _, _, e, _, _, _, _, _, _, _, _, _, _, _, _, _, _, _, _, _, _, _, _⟩ := h; subst e; simp only [List.mem_cons, List.not_mem_nil, or_false] at hv; rcases hv with rfl | rfl | rfl | rfl | rfl | rfl | rfl | rfl | rfl | rfl | rfl | rfl | rfl | rfl | rfl | rfl | rfl <;> rfl
set_option maxRecDepth 100000 in
theorem opens_GivenD : Opens Tryd.prog Shape.GivenD 37 := by
  refine ⟨by kernel_rfl, fun {H enc w fuel cs x} h => ?_⟩
  obtain ⟨xs, n, rfl, rfl, hlen, hxl, hf⟩ := DataW.trod_struct Tryd.underlying37 h
  have hl : cs.length = 17 := by rw [hlen]; kernel_rfl
  clear h hlen
  obtain ⟨y0, y1, y2, y3, y4, y5, y6, y7, y8, y9, y10, y11, y12, y13, y14, y15, y16, rfl⟩ : ∃ y0 y1 y2 y3 y4 y5 y6 y7 y8 y9 y10 y11 y12 y13 y14 y15 y16, cs = [y0, y1, y2, y3, y4, y5, y6, y7, y8, y9, y10, y11, y12, y13, y14, y15, y16] := by
    match cs, hl with | [y0, y1, y2, y3, y4, y5, y6, y7, y8, y9, y10, y11, y12, y13, y14, y15, y16], _ => exact ⟨y0, y1, y2, y3, y4, y5, y6, y7, y8, y9, y10, y11, y12, y13, y14, y15, y16, rfl⟩
  obtain ⟨x0, x1, x2, x3, x4, rfl⟩ : ∃ x0 x1 x2 x3 x4, xs = [x0, x1, x2, x3, x4] := by
    match xs, hxl with | [x0, x1, x2, x3, x4], _ => exact ⟨x0, x1, x2, x3, x4, rfl⟩
  have g0 : DataW.trod enc Tryd.prog w 0 (fun _ => true) true n 34 [y0, y1, y2, y3, y4, y5, y6, y7, y8, y9, y10, y11, y12] = some x0 := by
    have ck : Tryd.prog.cellsOf 34 = 13 := by kernel_rfl
    have g : DataW.trod enc Tryd.prog w 0 (fun _ => true) true n 34 (List.take (Tryd.prog.cellsOf 34) (List.drop 0 [y0, y1, y2, y3, y4, y5, y6, y7, y8, y9, y10, y11, y12, y13, y14, y15, y16])) = some x0 := hf 0 _ rfl
    rw [ck] at g; exact g
  have g1 : DataW.trod enc Tryd.prog w 0 (fun _ => true) true n 35 [y13] = some x1 := by
    have ck : Tryd.prog.cellsOf 35 = 1 := by kernel_rfl
    have g : DataW.trod enc Tryd.prog w 0 (fun _ => true) true n 35 (List.take (Tryd.prog.cellsOf 35) (List.drop 13 [y0, y1, y2, y3, y4, y5, y6, y7, y8, y9, y10, y11, y12, y13, y14, y15, y16])) = some x1 := hf 1 _ rfl
    rw [ck] at g; exact g
  have g2 : DataW.trod enc Tryd.prog w 0 (fun _ => true) true n 35 [y14] = some x2 := by
    have ck : Tryd.prog.cellsOf 35 = 1 := by kernel_rfl
    have g : DataW.trod enc Tryd.prog w 0 (fun _ => true) true n 35 (List.take (Tryd.prog.cellsOf 35) (List.drop 14 [y0, y1, y2, y3, y4, y5, y6, y7, y8, y9, y10, y11, y12, y13, y14, y15, y16])) = some x2 := hf 2 _ rfl
    rw [ck] at g; exact g
  have g3 : DataW.trod enc Tryd.prog w 0 (fun _ => true) true n 9 [y15] = some x3 := by
    have ck : Tryd.prog.cellsOf 9 = 1 := by kernel_rfl
    have g : DataW.trod enc Tryd.prog w 0 (fun _ => true) true n 9 (List.take (Tryd.prog.cellsOf 9) (List.drop 15 [y0, y1, y2, y3, y4, y5, y6, y7, y8, y9, y10, y11, y12, y13, y14, y15, y16])) = some x3 := hf 3 _ rfl
    rw [ck] at g; exact g
  have g4 : DataW.trod enc Tryd.prog w 0 (fun _ => true) true n 9 [y16] = some x4 := by
    have ck : Tryd.prog.cellsOf 9 = 1 := by kernel_rfl
    have g : DataW.trod enc Tryd.prog w 0 (fun _ => true) true n 9 (List.take (Tryd.prog.cellsOf 9) (List.drop 16 [y0, y1, y2, y3, y4, y5, y6, y7, y8, y9, y10, y11, y12, y13, y14, y15, y16])) = some x4 := hf 4 _ rfl
    rw [ck] at g; exact g
  clear hf hl hxl
  obtain ⟨a0, r0, b0⟩ := opens_HeaderD.2 g0
  obtain ⟨a1, r1, b1⟩ := (opens_slice (by kernel_rfl) Tryd.underlying35 opens_PairD).2 g1
  obtain ⟨a2, r2, b2⟩ := (opens_slice (by kernel_rfl) Tryd.underlying35 opens_PairD).2 g2
  obtain ⟨a3, r3, b3⟩ := (opens_str (by kernel_rfl) Tryd.underlying9).2 g3
  obtain ⟨a4, r4, b4⟩ := (opens_str (by kernel_rfl) Tryd.underlying9).2 g4
  obtain ⟨e0, i0_0, i0_1, i0_2, i0_3, i0_4, i0_5, i0_6, i0_7, i0_8, i0_9, i0_10, i0_11⟩ := r0
  simp only [List.cons.injEq, and_true] at e0
  obtain ⟨rfl, rfl, rfl, rfl, rfl, rfl, rfl, rfl, rfl, rfl, rfl, rfl, rfl⟩ := e0
  obtain ⟨z1, e1, A1, n1, c1, rfl, i1, j1, k1⟩ := r1
  simp only [List.cons.injEq, and_true] at e1
  subst e1
  obtain ⟨z2, e2, A2, n2, c2, rfl, i2, j2, k2⟩ := r2
  simp only [List.cons.injEq, and_true] at e2
  subst e2
  obtain ⟨e3, i3⟩ := r3
  simp only [List.cons.injEq, and_true] at e3
  subst e3
  obtain ⟨e4, i4⟩ := r4
  simp only [List.cons.injEq, and_true] at e4
  subst e4
  refine ⟨⟨a0, a1, a2, a3, a4⟩, ⟨A1, n1, c1, A2, n2, c2, rfl, i0_0, i0_1, i0_2, i0_3, i0_4, i0_5, i0_6, i0_7, i0_8, i0_9, i0_10, i0_11, i1, j1, k1, i2, j2, k2, i3, i4⟩, ?_⟩
  simp only [Shape.GivenD, List.map_cons, List.map_nil, Rows.uptoBulk, Rows.uptoBulkAll]
  omega
theorem whole_GivenD : Whole Tryd.prog 37 17 := ⟨by kernel_rfl, by kernel_rfl⟩

end Go.Proofs.YtnadldcdckjifaaDoor
