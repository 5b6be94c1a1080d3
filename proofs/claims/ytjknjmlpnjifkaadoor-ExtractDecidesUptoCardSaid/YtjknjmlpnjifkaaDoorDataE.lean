/- An entry and a policy as plain structures, and how they lie in memory. No condition. -/
import Derived.Test.YtjknjmlpnjifkaaDoorDataT
namespace Go.Proofs.YtjknjmlpnjifkaaDoor
open Go.RowKit Go.ChangeShapes Go.WideShapes Go.Deep
set_option linter.unusedVariables false
set_option linter.unusedSimpArgs false
structure EntryD where
  kind : Int
  name : ByteArray
  link : ByteArray
  mode : Int
  uid : Int
  gid : Int
  user : ByteArray
  group : ByteArray
  mtime : TimeD
  data : List UInt8
  deriving DecidableEq, Inhabited
def EntryD.rd (w : World) (M : Nat → Prop) (cs : List Value) (d : EntryD) : Prop :=
  ∃ (A1 : Option Addr) (n1 c1 : Nat), cs = [.int .i64 d.kind, .string d.name, .string d.link, .int .i64 d.mode, .int .i64 d.uid, .int .i64 d.gid, .string d.user, .string d.group, .int .i64 d.mtime.sec, .int .i64 d.mtime.nano, .slice A1 n1 c1] ∧ I64 d.kind ∧ (d.name).size ≤ maxLen ∧ (d.link).size ≤ maxLen ∧ I64 d.mode ∧ I64 d.uid ∧ I64 d.gid ∧ (d.user).size ≤ maxLen ∧ (d.group).size ≤ maxLen ∧ I64 d.mtime.sec ∧ I64 d.mtime.nano ∧ n1 ≤ c1 ∧ c1 ≤ maxLen ∧ Row Shape.byte w M A1 n1 d.data
def Shape.EntryD : Shape EntryD where
  size := 11
  pos := by decide
  rd := EntryD.rd
  bulk d := Shape.int.bulk d.kind + Shape.str.bulk d.name + Shape.str.bulk d.link + Shape.int.bulk d.mode + Shape.int.bulk d.uid + Shape.int.bulk d.gid + Shape.str.bulk d.user + Shape.str.bulk d.group + Shape.TimeD.bulk d.mtime + (Shape.slice Shape.byte).bulk d.data + 1
  bpos _ := by omega
  len := fun {w M cs d} h => by obtain ⟨_, _, _, e, _, _, _, _, _, _, _, _, _, _, _, _, _⟩ := h; subst e; rfl
  keep := fun {w w' M cs d} h k => by obtain ⟨A1, n1, c1, e, h0, h1, h2, h3, h4, h5, h6, h7, h8, h9, h10, h11, h12⟩ := h; exact ⟨A1, n1, c1, e, h0, h1, h2, h3, h4, h5, h6, h7, h8, h9, h10, h11, h12.keep k⟩
  more := fun {w M M' cs d} h k => by obtain ⟨A1, n1, c1, e, h0, h1, h2, h3, h4, h5, h6, h7, h8, h9, h10, h11, h12⟩ := h; exact ⟨A1, n1, c1, e, h0, h1, h2, h3, h4, h5, h6, h7, h8, h9, h10, h11, h12.more k⟩
  one := fun {w M cs d} h v hv => by obtain ⟨_, _, _, e, _, _, _, _, _, _, _, _, _, _, _, _, _⟩ := h; subst e; simp only [List.mem_cons, List.not_mem_nil, or_false] at hv; rcases hv with rfl | rfl | rfl | rfl | rfl | rfl | rfl | rfl | rfl | rfl | rfl <;> rfl
set_option maxRecDepth 100000 in
theorem opens_EntryD : Opens Tryd.prog Shape.EntryD 26 := by
  refine ⟨by kernel_rfl, fun {H enc w fuel cs x} h => ?_⟩
  obtain ⟨xs, n, rfl, rfl, hlen, hxl, hf⟩ := DataW.trod_struct Tryd.underlying26 h
  have hl : cs.length = 11 := by rw [hlen]; kernel_rfl
  clear h hlen
  obtain ⟨y0, y1, y2, y3, y4, y5, y6, y7, y8, y9, y10, rfl⟩ : ∃ y0 y1 y2 y3 y4 y5 y6 y7 y8 y9 y10, cs = [y0, y1, y2, y3, y4, y5, y6, y7, y8, y9, y10] := by
    match cs, hl with | [y0, y1, y2, y3, y4, y5, y6, y7, y8, y9, y10], _ => exact ⟨y0, y1, y2, y3, y4, y5, y6, y7, y8, y9, y10, rfl⟩
  obtain ⟨x0, x1, x2, x3, x4, x5, x6, x7, x8, x9, rfl⟩ : ∃ x0 x1 x2 x3 x4 x5 x6 x7 x8 x9, xs = [x0, x1, x2, x3, x4, x5, x6, x7, x8, x9] := by
    match xs, hxl with | [x0, x1, x2, x3, x4, x5, x6, x7, x8, x9], _ => exact ⟨x0, x1, x2, x3, x4, x5, x6, x7, x8, x9, rfl⟩
  have g0 : DataW.trod enc Tryd.prog w 0 (fun _ => true) true n 3 [y0] = some x0 := by
    have ck : Tryd.prog.cellsOf 3 = 1 := by kernel_rfl
    have g : DataW.trod enc Tryd.prog w 0 (fun _ => true) true n 3 (List.take (Tryd.prog.cellsOf 3) (List.drop 0 [y0, y1, y2, y3, y4, y5, y6, y7, y8, y9, y10])) = some x0 := hf 0 _ rfl
    rw [ck] at g; exact g
  have g1 : DataW.trod enc Tryd.prog w 0 (fun _ => true) true n 9 [y1] = some x1 := by
    have ck : Tryd.prog.cellsOf 9 = 1 := by kernel_rfl
    have g : DataW.trod enc Tryd.prog w 0 (fun _ => true) true n 9 (List.take (Tryd.prog.cellsOf 9) (List.drop 1 [y0, y1, y2, y3, y4, y5, y6, y7, y8, y9, y10])) = some x1 := hf 1 _ rfl
    rw [ck] at g; exact g
  have g2 : DataW.trod enc Tryd.prog w 0 (fun _ => true) true n 9 [y2] = some x2 := by
    have ck : Tryd.prog.cellsOf 9 = 1 := by kernel_rfl
    have g : DataW.trod enc Tryd.prog w 0 (fun _ => true) true n 9 (List.take (Tryd.prog.cellsOf 9) (List.drop 2 [y0, y1, y2, y3, y4, y5, y6, y7, y8, y9, y10])) = some x2 := hf 2 _ rfl
    rw [ck] at g; exact g
  have g3 : DataW.trod enc Tryd.prog w 0 (fun _ => true) true n 3 [y3] = some x3 := by
    have ck : Tryd.prog.cellsOf 3 = 1 := by kernel_rfl
    have g : DataW.trod enc Tryd.prog w 0 (fun _ => true) true n 3 (List.take (Tryd.prog.cellsOf 3) (List.drop 3 [y0, y1, y2, y3, y4, y5, y6, y7, y8, y9, y10])) = some x3 := hf 3 _ rfl
    rw [ck] at g; exact g
  have g4 : DataW.trod enc Tryd.prog w 0 (fun _ => true) true n 3 [y4] = some x4 := by
    have ck : Tryd.prog.cellsOf 3 = 1 := by kernel_rfl
    have g : DataW.trod enc Tryd.prog w 0 (fun _ => true) true n 3 (List.take (Tryd.prog.cellsOf 3) (List.drop 4 [y0, y1, y2, y3, y4, y5, y6, y7, y8, y9, y10])) = some x4 := hf 4 _ rfl
    rw [ck] at g; exact g
  have g5 : DataW.trod enc Tryd.prog w 0 (fun _ => true) true n 3 [y5] = some x5 := by
    have ck : Tryd.prog.cellsOf 3 = 1 := by kernel_rfl
    have g : DataW.trod enc Tryd.prog w 0 (fun _ => true) true n 3 (List.take (Tryd.prog.cellsOf 3) (List.drop 5 [y0, y1, y2, y3, y4, y5, y6, y7, y8, y9, y10])) = some x5 := hf 5 _ rfl
    rw [ck] at g; exact g
  have g6 : DataW.trod enc Tryd.prog w 0 (fun _ => true) true n 9 [y6] = some x6 := by
    have ck : Tryd.prog.cellsOf 9 = 1 := by kernel_rfl
    have g : DataW.trod enc Tryd.prog w 0 (fun _ => true) true n 9 (List.take (Tryd.prog.cellsOf 9) (List.drop 6 [y0, y1, y2, y3, y4, y5, y6, y7, y8, y9, y10])) = some x6 := hf 6 _ rfl
    rw [ck] at g; exact g
  have g7 : DataW.trod enc Tryd.prog w 0 (fun _ => true) true n 9 [y7] = some x7 := by
    have ck : Tryd.prog.cellsOf 9 = 1 := by kernel_rfl
    have g : DataW.trod enc Tryd.prog w 0 (fun _ => true) true n 9 (List.take (Tryd.prog.cellsOf 9) (List.drop 7 [y0, y1, y2, y3, y4, y5, y6, y7, y8, y9, y10])) = some x7 := hf 7 _ rfl
    rw [ck] at g; exact g
  have g8 : DataW.trod enc Tryd.prog w 0 (fun _ => true) true n 23 [y8, y9] = some x8 := by
    have ck : Tryd.prog.cellsOf 23 = 2 := by kernel_rfl
    have g : DataW.trod enc Tryd.prog w 0 (fun _ => true) true n 23 (List.take (Tryd.prog.cellsOf 23) (List.drop 8 [y0, y1, y2, y3, y4, y5, y6, y7, y8, y9, y10])) = some x8 := hf 8 _ rfl
    rw [ck] at g; exact g
  have g9 : DataW.trod enc Tryd.prog w 0 (fun _ => true) true n 24 [y10] = some x9 := by
    have ck : Tryd.prog.cellsOf 24 = 1 := by kernel_rfl
    have g : DataW.trod enc Tryd.prog w 0 (fun _ => true) true n 24 (List.take (Tryd.prog.cellsOf 24) (List.drop 10 [y0, y1, y2, y3, y4, y5, y6, y7, y8, y9, y10])) = some x9 := hf 9 _ rfl
    rw [ck] at g; exact g
  clear hf hl hxl
  obtain ⟨a0, r0, b0⟩ := (opens_int (by kernel_rfl) Tryd.underlying3).2 g0
  obtain ⟨a1, r1, b1⟩ := (opens_str (by kernel_rfl) Tryd.underlying9).2 g1
  obtain ⟨a2, r2, b2⟩ := (opens_str (by kernel_rfl) Tryd.underlying9).2 g2
  obtain ⟨a3, r3, b3⟩ := (opens_int (by kernel_rfl) Tryd.underlying3).2 g3
  obtain ⟨a4, r4, b4⟩ := (opens_int (by kernel_rfl) Tryd.underlying3).2 g4
  obtain ⟨a5, r5, b5⟩ := (opens_int (by kernel_rfl) Tryd.underlying3).2 g5
  obtain ⟨a6, r6, b6⟩ := (opens_str (by kernel_rfl) Tryd.underlying9).2 g6
  obtain ⟨a7, r7, b7⟩ := (opens_str (by kernel_rfl) Tryd.underlying9).2 g7
  obtain ⟨a8, r8, b8⟩ := opens_TimeD.2 g8
  obtain ⟨a9, r9, b9⟩ := (opens_slice (by kernel_rfl) Tryd.underlying24 (opens_byte (by kernel_rfl) Tryd.underlying5)).2 g9
  obtain ⟨e0, i0⟩ := r0
  simp only [List.cons.injEq, and_true] at e0
  subst e0
  obtain ⟨e1, i1⟩ := r1
  simp only [List.cons.injEq, and_true] at e1
  subst e1
  obtain ⟨e2, i2⟩ := r2
  simp only [List.cons.injEq, and_true] at e2
  subst e2
  obtain ⟨e3, i3⟩ := r3
  simp only [List.cons.injEq, and_true] at e3
  subst e3
  obtain ⟨e4, i4⟩ := r4
  simp only [List.cons.injEq, and_true] at e4
  subst e4
  obtain ⟨e5, i5⟩ := r5
  simp only [List.cons.injEq, and_true] at e5
  subst e5
  obtain ⟨e6, i6⟩ := r6
  simp only [List.cons.injEq, and_true] at e6
  subst e6
  obtain ⟨e7, i7⟩ := r7
  simp only [List.cons.injEq, and_true] at e7
  subst e7
  obtain ⟨e8, i8_0, i8_1⟩ := r8
  simp only [List.cons.injEq, and_true] at e8
  obtain ⟨rfl, rfl⟩ := e8
  obtain ⟨z9, e9, A9, n9, c9, rfl, i9, j9, k9⟩ := r9
  simp only [List.cons.injEq, and_true] at e9
  subst e9
  refine ⟨⟨a0, a1, a2, a3, a4, a5, a6, a7, a8, a9⟩, ⟨A9, n9, c9, rfl, i0, i1, i2, i3, i4, i5, i6, i7, i8_0, i8_1, i9, j9, k9⟩, ?_⟩
  simp only [Shape.EntryD, List.map_cons, List.map_nil, Rows.uptoBulk, Rows.uptoBulkAll]
  omega
theorem whole_EntryD : Whole Tryd.prog 26 11 := ⟨by kernel_rfl, by kernel_rfl⟩

structure ConfigD where
  maxEntries : Int
  maxBytes : Int
  maxDepth : Int
  maxName : Int
  maxPax : Int
  strip : Int
  links : Int
  replace : Int
  umask : Int
  keepSetid : Bool
  keepIds : Bool
  include_ : List ByteArray
  exclude : List ByteArray
  deriving DecidableEq, Inhabited
def ConfigD.rd (w : World) (M : Nat → Prop) (cs : List Value) (d : ConfigD) : Prop :=
  ∃ (A1 : Option Addr) (n1 c1 : Nat) (A2 : Option Addr) (n2 c2 : Nat), cs = [.int .i64 d.maxEntries, .int .i64 d.maxBytes, .int .i64 d.maxDepth, .int .i64 d.maxName, .int .i64 d.maxPax, .int .i64 d.strip, .int .i64 d.links, .int .i64 d.replace, .int .i64 d.umask, .bool d.keepSetid, .bool d.keepIds, .slice A1 n1 c1, .slice A2 n2 c2] ∧ I64 d.maxEntries ∧ I64 d.maxBytes ∧ I64 d.maxDepth ∧ I64 d.maxName ∧ I64 d.maxPax ∧ I64 d.strip ∧ I64 d.links ∧ I64 d.replace ∧ I64 d.umask ∧ n1 ≤ c1 ∧ c1 ≤ maxLen ∧ Row Shape.str w M A1 n1 d.include_ ∧ n2 ≤ c2 ∧ c2 ≤ maxLen ∧ Row Shape.str w M A2 n2 d.exclude
def Shape.ConfigD : Shape ConfigD where
  size := 13
  pos := by decide
  rd := ConfigD.rd
  bulk d := Shape.int.bulk d.maxEntries + Shape.int.bulk d.maxBytes + Shape.int.bulk d.maxDepth + Shape.int.bulk d.maxName + Shape.int.bulk d.maxPax + Shape.int.bulk d.strip + Shape.int.bulk d.links + Shape.int.bulk d.replace + Shape.int.bulk d.umask + Shape.bool.bulk d.keepSetid + Shape.bool.bulk d.keepIds + (Shape.slice Shape.str).bulk d.include_ + (Shape.slice Shape.str).bulk d.exclude + 1
  bpos _ := by omega
  len := fun {w M cs d} h => by obtain ⟨_, _, _, _, _, _, e, _, _, _, _, _, _, _, _, _, _, _, _, _, _, _⟩ := h; subst e; rfl
  keep := fun {w w' M cs d} h k => by obtain ⟨A1, n1, c1, A2, n2, c2, e, h0, h1, h2, h3, h4, h5, h6, h7, h8, h9, h10, h11, h12, h13, h14⟩ := h; exact ⟨A1, n1, c1, A2, n2, c2, e, h0, h1, h2, h3, h4, h5, h6, h7, h8, h9, h10, h11.keep k, h12, h13, h14.keep k⟩
  more := fun {w M M' cs d} h k => by obtain ⟨A1, n1, c1, A2, n2, c2, e, h0, h1, h2, h3, h4, h5, h6, h7, h8, h9, h10, h11, h12, h13, h14⟩ := h; exact ⟨A1, n1, c1, A2, n2, c2, e, h0, h1, h2, h3, h4, h5, h6, h7, h8, h9, h10, h11.more k, h12, h13, h14.more k⟩
  one := fun {w M cs d} h v hv => by obtain ⟨_, _, _, _, _, _, e, _, _, _, _, _, _, _, _, _, _, _, _, _, _, _⟩ := h; subst e; simp only [List.mem_cons, List.not_mem_nil, or_false] at hv; rcases hv with rfl | rfl | rfl | rfl | rfl | rfl | rfl | rfl | rfl | rfl | rfl | rfl | rfl <;> rfl
set_option maxRecDepth 100000 in
theorem opens_ConfigD : Opens Tryd.prog Shape.ConfigD 29 := by
  refine ⟨by kernel_rfl, fun {H enc w fuel cs x} h => ?_⟩
  obtain ⟨xs, n, rfl, rfl, hlen, hxl, hf⟩ := DataW.trod_struct Tryd.underlying29 h
  have hl : cs.length = 13 := by rw [hlen]; kernel_rfl
  clear h hlen
  obtain ⟨y0, y1, y2, y3, y4, y5, y6, y7, y8, y9, y10, y11, y12, rfl⟩ : ∃ y0 y1 y2 y3 y4 y5 y6 y7 y8 y9 y10 y11 y12, cs = [y0, y1, y2, y3, y4, y5, y6, y7, y8, y9, y10, y11, y12] := by
    match cs, hl with | [y0, y1, y2, y3, y4, y5, y6, y7, y8, y9, y10, y11, y12], _ => exact ⟨y0, y1, y2, y3, y4, y5, y6, y7, y8, y9, y10, y11, y12, rfl⟩
  obtain ⟨x0, x1, x2, x3, x4, x5, x6, x7, x8, x9, x10, x11, x12, rfl⟩ : ∃ x0 x1 x2 x3 x4 x5 x6 x7 x8 x9 x10 x11 x12, xs = [x0, x1, x2, x3, x4, x5, x6, x7, x8, x9, x10, x11, x12] := by
    match xs, hxl with | [x0, x1, x2, x3, x4, x5, x6, x7, x8, x9, x10, x11, x12], _ => exact ⟨x0, x1, x2, x3, x4, x5, x6, x7, x8, x9, x10, x11, x12, rfl⟩
  have g0 : DataW.trod enc Tryd.prog w 0 (fun _ => true) true n 3 [y0] = some x0 := by
    have ck : Tryd.prog.cellsOf 3 = 1 := by kernel_rfl
    have g : DataW.trod enc Tryd.prog w 0 (fun _ => true) true n 3 (List.take (Tryd.prog.cellsOf 3) (List.drop 0 [y0, y1, y2, y3, y4, y5, y6, y7, y8, y9, y10, y11, y12])) = some x0 := hf 0 _ rfl
    rw [ck] at g; exact g
  have g1 : DataW.trod enc Tryd.prog w 0 (fun _ => true) true n 3 [y1] = some x1 := by
    have ck : Tryd.prog.cellsOf 3 = 1 := by kernel_rfl
    have g : DataW.trod enc Tryd.prog w 0 (fun _ => true) true n 3 (List.take (Tryd.prog.cellsOf 3) (List.drop 1 [y0, y1, y2, y3, y4, y5, y6, y7, y8, y9, y10, y11, y12])) = some x1 := hf 1 _ rfl
    rw [ck] at g; exact g
  have g2 : DataW.trod enc Tryd.prog w 0 (fun _ => true) true n 3 [y2] = some x2 := by
    have ck : Tryd.prog.cellsOf 3 = 1 := by kernel_rfl
    have g : DataW.trod enc Tryd.prog w 0 (fun _ => true) true n 3 (List.take (Tryd.prog.cellsOf 3) (List.drop 2 [y0, y1, y2, y3, y4, y5, y6, y7, y8, y9, y10, y11, y12])) = some x2 := hf 2 _ rfl
    rw [ck] at g; exact g
  have g3 : DataW.trod enc Tryd.prog w 0 (fun _ => true) true n 3 [y3] = some x3 := by
    have ck : Tryd.prog.cellsOf 3 = 1 := by kernel_rfl
    have g : DataW.trod enc Tryd.prog w 0 (fun _ => true) true n 3 (List.take (Tryd.prog.cellsOf 3) (List.drop 3 [y0, y1, y2, y3, y4, y5, y6, y7, y8, y9, y10, y11, y12])) = some x3 := hf 3 _ rfl
    rw [ck] at g; exact g
  have g4 : DataW.trod enc Tryd.prog w 0 (fun _ => true) true n 3 [y4] = some x4 := by
    have ck : Tryd.prog.cellsOf 3 = 1 := by kernel_rfl
    have g : DataW.trod enc Tryd.prog w 0 (fun _ => true) true n 3 (List.take (Tryd.prog.cellsOf 3) (List.drop 4 [y0, y1, y2, y3, y4, y5, y6, y7, y8, y9, y10, y11, y12])) = some x4 := hf 4 _ rfl
    rw [ck] at g; exact g
  have g5 : DataW.trod enc Tryd.prog w 0 (fun _ => true) true n 3 [y5] = some x5 := by
    have ck : Tryd.prog.cellsOf 3 = 1 := by kernel_rfl
    have g : DataW.trod enc Tryd.prog w 0 (fun _ => true) true n 3 (List.take (Tryd.prog.cellsOf 3) (List.drop 5 [y0, y1, y2, y3, y4, y5, y6, y7, y8, y9, y10, y11, y12])) = some x5 := hf 5 _ rfl
    rw [ck] at g; exact g
  have g6 : DataW.trod enc Tryd.prog w 0 (fun _ => true) true n 3 [y6] = some x6 := by
    have ck : Tryd.prog.cellsOf 3 = 1 := by kernel_rfl
    have g : DataW.trod enc Tryd.prog w 0 (fun _ => true) true n 3 (List.take (Tryd.prog.cellsOf 3) (List.drop 6 [y0, y1, y2, y3, y4, y5, y6, y7, y8, y9, y10, y11, y12])) = some x6 := hf 6 _ rfl
    rw [ck] at g; exact g
  have g7 : DataW.trod enc Tryd.prog w 0 (fun _ => true) true n 3 [y7] = some x7 := by
    have ck : Tryd.prog.cellsOf 3 = 1 := by kernel_rfl
    have g : DataW.trod enc Tryd.prog w 0 (fun _ => true) true n 3 (List.take (Tryd.prog.cellsOf 3) (List.drop 7 [y0, y1, y2, y3, y4, y5, y6, y7, y8, y9, y10, y11, y12])) = some x7 := hf 7 _ rfl
    rw [ck] at g; exact g
  have g8 : DataW.trod enc Tryd.prog w 0 (fun _ => true) true n 3 [y8] = some x8 := by
    have ck : Tryd.prog.cellsOf 3 = 1 := by kernel_rfl
    have g : DataW.trod enc Tryd.prog w 0 (fun _ => true) true n 3 (List.take (Tryd.prog.cellsOf 3) (List.drop 8 [y0, y1, y2, y3, y4, y5, y6, y7, y8, y9, y10, y11, y12])) = some x8 := hf 8 _ rfl
    rw [ck] at g; exact g
  have g9 : DataW.trod enc Tryd.prog w 0 (fun _ => true) true n 4 [y9] = some x9 := by
    have ck : Tryd.prog.cellsOf 4 = 1 := by kernel_rfl
    have g : DataW.trod enc Tryd.prog w 0 (fun _ => true) true n 4 (List.take (Tryd.prog.cellsOf 4) (List.drop 9 [y0, y1, y2, y3, y4, y5, y6, y7, y8, y9, y10, y11, y12])) = some x9 := hf 9 _ rfl
    rw [ck] at g; exact g
  have g10 : DataW.trod enc Tryd.prog w 0 (fun _ => true) true n 4 [y10] = some x10 := by
    have ck : Tryd.prog.cellsOf 4 = 1 := by kernel_rfl
    have g : DataW.trod enc Tryd.prog w 0 (fun _ => true) true n 4 (List.take (Tryd.prog.cellsOf 4) (List.drop 10 [y0, y1, y2, y3, y4, y5, y6, y7, y8, y9, y10, y11, y12])) = some x10 := hf 10 _ rfl
    rw [ck] at g; exact g
  have g11 : DataW.trod enc Tryd.prog w 0 (fun _ => true) true n 27 [y11] = some x11 := by
    have ck : Tryd.prog.cellsOf 27 = 1 := by kernel_rfl
    have g : DataW.trod enc Tryd.prog w 0 (fun _ => true) true n 27 (List.take (Tryd.prog.cellsOf 27) (List.drop 11 [y0, y1, y2, y3, y4, y5, y6, y7, y8, y9, y10, y11, y12])) = some x11 := hf 11 _ rfl
    rw [ck] at g; exact g
  have g12 : DataW.trod enc Tryd.prog w 0 (fun _ => true) true n 27 [y12] = some x12 := by
    have ck : Tryd.prog.cellsOf 27 = 1 := by kernel_rfl
    have g : DataW.trod enc Tryd.prog w 0 (fun _ => true) true n 27 (List.take (Tryd.prog.cellsOf 27) (List.drop 12 [y0, y1, y2, y3, y4, y5, y6, y7, y8, y9, y10, y11, y12])) = some x12 := hf 12 _ rfl
    rw [ck] at g; exact g
  clear hf hl hxl
  obtain ⟨a0, r0, b0⟩ := (opens_int (by kernel_rfl) Tryd.underlying3).2 g0
  obtain ⟨a1, r1, b1⟩ := (opens_int (by kernel_rfl) Tryd.underlying3).2 g1
  obtain ⟨a2, r2, b2⟩ := (opens_int (by kernel_rfl) Tryd.underlying3).2 g2
  obtain ⟨a3, r3, b3⟩ := (opens_int (by kernel_rfl) Tryd.underlying3).2 g3
  obtain ⟨a4, r4, b4⟩ := (opens_int (by kernel_rfl) Tryd.underlying3).2 g4
  obtain ⟨a5, r5, b5⟩ := (opens_int (by kernel_rfl) Tryd.underlying3).2 g5
  obtain ⟨a6, r6, b6⟩ := (opens_int (by kernel_rfl) Tryd.underlying3).2 g6
  obtain ⟨a7, r7, b7⟩ := (opens_int (by kernel_rfl) Tryd.underlying3).2 g7
  obtain ⟨a8, r8, b8⟩ := (opens_int (by kernel_rfl) Tryd.underlying3).2 g8
  obtain ⟨a9, r9, b9⟩ := (opens_bool (by kernel_rfl) Tryd.underlying4).2 g9
  obtain ⟨a10, r10, b10⟩ := (opens_bool (by kernel_rfl) Tryd.underlying4).2 g10
  obtain ⟨a11, r11, b11⟩ := (opens_slice (by kernel_rfl) Tryd.underlying27 (opens_str (by kernel_rfl) Tryd.underlying9)).2 g11
  obtain ⟨a12, r12, b12⟩ := (opens_slice (by kernel_rfl) Tryd.underlying27 (opens_str (by kernel_rfl) Tryd.underlying9)).2 g12
  obtain ⟨e0, i0⟩ := r0
  simp only [List.cons.injEq, and_true] at e0
  subst e0
  obtain ⟨e1, i1⟩ := r1
  simp only [List.cons.injEq, and_true] at e1
  subst e1
  obtain ⟨e2, i2⟩ := r2
  simp only [List.cons.injEq, and_true] at e2
  subst e2
  obtain ⟨e3, i3⟩ := r3
  simp only [List.cons.injEq, and_true] at e3
  subst e3
  obtain ⟨e4, i4⟩ := r4
  simp only [List.cons.injEq, and_true] at e4
  subst e4
  obtain ⟨e5, i5⟩ := r5
  simp only [List.cons.injEq, and_true] at e5
  subst e5
  obtain ⟨e6, i6⟩ := r6
  simp only [List.cons.injEq, and_true] at e6
  subst e6
  obtain ⟨e7, i7⟩ := r7
  simp only [List.cons.injEq, and_true] at e7
  subst e7
  obtain ⟨e8, i8⟩ := r8
  simp only [List.cons.injEq, and_true] at e8
  subst e8
  have e9 : [_] = [Value.bool a9] := r9
  simp only [List.cons.injEq, and_true] at e9
  subst e9
  have e10 : [_] = [Value.bool a10] := r10
  simp only [List.cons.injEq, and_true] at e10
  subst e10
  obtain ⟨z11, e11, A11, n11, c11, rfl, i11, j11, k11⟩ := r11
  simp only [List.cons.injEq, and_true] at e11
  subst e11
  obtain ⟨z12, e12, A12, n12, c12, rfl, i12, j12, k12⟩ := r12
  simp only [List.cons.injEq, and_true] at e12
  subst e12
  refine ⟨⟨a0, a1, a2, a3, a4, a5, a6, a7, a8, a9, a10, a11, a12⟩, ⟨A11, n11, c11, A12, n12, c12, rfl, i0, i1, i2, i3, i4, i5, i6, i7, i8, i11, j11, k11, i12, j12, k12⟩, ?_⟩
  simp only [Shape.ConfigD, List.map_cons, List.map_nil, Rows.uptoBulk, Rows.uptoBulkAll]
  omega
theorem whole_ConfigD : Whole Tryd.prog 29 13 := ⟨by kernel_rfl, by kernel_rfl⟩

end Go.Proofs.YtjknjmlpnjifkaaDoor
