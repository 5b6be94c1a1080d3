/- The state of an Apply under way, and its answer. No condition. -/
import Derived.Test.YtnadldcdckjifaaDoorOvLay
import Derived.Test.YtnadldcdckjifaaDoorOvRef
import Derived.Test.YtnadldcdckjifaaDoorStParse5
namespace Go.Proofs.YtnadldcdckjifaaDoor
open Go.RowKit
set_option linter.unusedVariables false
set_option linter.unusedSimpArgs false
theorem results_cell_tmp2 {fn : Func} {p u v : Tmp} {ty : TypeId} (h : fn.results = #[.cell p ty, .tmp u, .tmp v]) (tmps : Array Value) (P : Program) (w : World) :
    (results fn tmps).run P w =
      ((asAddr (tmps.getD p undef)).run P w).andThen fun a w₁ => ((loadVar ty a).run P w₁).andThen fun x w₂ => .ok (.tuple #[x, tmps.getD u undef, tmps.getD v undef]) w₂ := by
  simp only [results, h]
  simp [Sem.run_bind, Result.andThen]
theorem ret_blk_tmp2 {P : Program} {a : Act} {w : World} {fn : Func} {R : Ending → World → Prop} {p u1 u2 : Tmp} {ty : TypeId} {g : Nat} {t : TypeId} {cs : Array Value} (hres : fn.results = #[.cell p ty, .tmp u1, .tmp u2]) (hp : a.tmps.getD p undef = .pointer (some ⟨g, 0, none⟩))
    (hb : Blk w g t cs) (hw : Whole P ty cs.size) (hdef : a.defers = []) {v1 v2 : Value} (hv1 : a.tmps.getD u1 undef = v1) (hv2 : a.tmps.getD u2 undef = v2) (hR : R (.returned (.tuple #[.agg cs, v1, v2])) w) : bodyPost P fn R .ret a w := by
  obtain ⟨d, hu, hd⟩ := hw.parts
  subst hv1 hv2
  refine bodyPost_ret ?_ hdef hR
  rw [results_cell_tmp2 hres, hp]
  have hl := run_loadVar_row (P := P) w g t ty cs (0, 0) d hb hu (by revert hd; cases d <;> simp) hw.info
  simp only [asAddr, Sem.run_pure, Result.andThen_ok, hl]
theorem _root_.Go.Proofs.YtnadldcdckjifaaDoor.Blk.chg' {w w' : World} {M : Nat → Prop} {g : Nat} {t : TypeId} {cs : Array Value} (h : Blk w g t cs) (hc : Chg M w w') (hg : ¬ M g) : Blk w' g t cs := (hc.block g h.lt hg).trans h
/-- the table in the midst of an Apply: the world since w0; the table's blocks, all from B on -/
structure OvTab (w0 : World) (B : Nat) (M : Nat → Prop) (p : Nat) (rows : List OvKv) (w : World) : Prop where
  bel : Below w0.heap.size w0 w
  at_ : lvS.At w M p rows
  lt : ∀ n, M n → n < w.heap.size
  ge : ∀ n, M n → B ≤ n
  b0 : w0.heap.size ≤ B
  bw : B ≤ w.heap.size
section
variable {w0 w w' : World} {B p : Nat} {M : Nat → Prop} {rows rows' : List OvKv}
theorem OvTab.keep (h : OvTab w0 B M p rows w) (hb : Below w.heap.size w w') : OvTab w0 B M p rows w' :=
  ⟨below_old h.bel hb, h.at_.keep fun n hn => hb.block n (h.lt n hn), fun n hn => Nat.lt_of_lt_of_le (h.lt n hn) hb.size, h.ge, h.b0, Nat.le_trans h.bw hb.size⟩
theorem OvTab.chg (h : OvTab w0 B M p rows w) (hc : Chg M w w') (ha : lvS.At w' M p rows') : OvTab w0 B M p rows' w' :=
  ⟨h.bel.trans (hc.below h.bel.size fun n hn => Nat.le_trans h.b0 (h.ge n hn)), ha, fun n hn => Nat.lt_of_lt_of_le (h.lt n hn) hc.size, h.ge, h.b0, Nat.le_trans h.bw hc.size⟩
theorem OvTab.set_ (h : OvTab w0 B M p rows w) {g i : Nat} (hg : w0.heap.size ≤ g) (hM : ¬ M g) (u : Value) : OvTab w0 B M p rows (w.setCell ⟨g, i, none⟩ u) :=
  ⟨h.bel.setCell (p := ⟨g, i, none⟩) hg u, h.at_.keep (Keeps.set w ⟨g, i, none⟩ u fun n hn e => hM (by have e' : n = g := e; exact e' ▸ hn)), fun n hn => by have := h.lt n hn; simpa using this, h.ge, h.b0, by have := h.bw; simpa using this⟩
theorem OvTab.alloc (h : OvTab w0 B M p rows w) (o : Obj) : OvTab w0 B M p rows (w.alloc o) := h.keep (below_alloc' w o)
theorem OvTab.grown {g : Nat} (h : OvTab w0 B M p rows w) (hg : w.grownBy w' (some g)) (h0 : w0.heap.size ≤ g) (hM : ¬ M g) : OvTab w0 B M p rows w' :=
  ⟨h.bel.grown hg h.bel.size (fun k hk => by injection hk with hk; omega), h.at_.keep (Keeps.grown hg fun n hn => ⟨h.lt n hn, fun e => hM (by injection e with e; exact e ▸ hn)⟩), fun n hn => Nat.lt_of_lt_of_le (h.lt n hn) hg.size, h.ge, h.b0, Nat.le_trans h.bw hg.size⟩
end
/-! ### the answer -/
def kPath : ByteArray := ⟨#[112, 97, 116, 104]⟩
def kLink : ByteArray := ⟨#[108, 105, 110, 107, 112, 97, 116, 104]⟩
def kUname : ByteArray := ⟨#[117, 110, 97, 109, 101]⟩
def kGname : ByteArray := ⟨#[103, 110, 97, 109, 101]⟩
def kSize : ByteArray := ⟨#[115, 105, 122, 101]⟩
def kUid : ByteArray := ⟨#[117, 105, 100]⟩
def kGid : ByteArray := ⟨#[103, 105, 100]⟩
def kMtime : ByteArray := ⟨#[109, 116, 105, 109, 101]⟩
def noB : ByteArray := ⟨#[]⟩
structure ApIn where
  h : HeaderD
  g : List PairD
  l : List PairD
  ln : ByteArray
  ll : ByteArray
namespace ApIn
variable (x : ApIn)
def typeBad : Bool := decide (x.h.type.toNat < 48) || decide (54 < x.h.type.toNat)
def sparseBad : Bool := sparseL x.g || sparseL x.l
def v (k : ByteArray) : ByteArray := foundV x.g x.l k
def numBad : Bool := !(numOk (x.v kSize) 9223372036854775807) || !(numOk (x.v kUid) 2147483647) || !(numOk (x.v kGid) 2147483647)
def timeBad : Bool := decide ((x.v kMtime).size ≠ 0) && decide (stErr (x.v kMtime).data.toList ≠ 0)
def name : ByteArray := textOf x.g x.l kPath x.ln x.h.name
def user : ByteArray := textOf x.g x.l kUname noB x.h.user
def group : ByteArray := textOf x.g x.l kGname noB x.h.group
def link : ByteArray := if x.h.type = 49 ∨ x.h.type = 50 then textOf x.g x.l kLink x.ll x.h.link else noB
def kind : Int := kindV x.h.type x.name
def sec : Int := if (x.v kMtime).size = 0 then x.h.mtime else stS (x.v kMtime).data.toList
def nano : Int := if (x.v kMtime).size = 0 then 0 else stN (x.v kMtime).data.toList
def size : Int := if x.h.type = 48 then numN (x.v kSize) x.h.size else 0
def mode : Int := bits .and .i64 x.h.mode 4095
end ApIn
def entCells (kind : Int) (name link : ByteArray) (mode uid gid : Int) (user group : ByteArray) (sec nano : Int) : Array Value :=
  #[.int .i64 kind, .string name, .string link, .int .i64 mode, .int .i64 uid, .int .i64 gid, .string user, .string group, .int .i64 sec, .int .i64 nano, .slice none 0 0]
def ent0 : Array Value := entCells 0 noB noB 0 0 0 noB noB 0 0
def ApIn.ent (x : ApIn) : Array Value := entCells x.kind x.name x.link x.mode (numN (x.v kUid) x.h.uid) (numN (x.v kGid) x.h.gid) x.user x.group x.sec x.nano
def ApIn.res (x : ApIn) : Value :=
  if x.typeBad then .tuple #[.agg ent0, .int .i64 0, .int .i64 73] else if x.sparseBad then .tuple #[.agg ent0, .int .i64 0, .int .i64 61] else if x.numBad then .tuple #[.agg ent0, .int .i64 0, .int .i64 60]
  else if x.timeBad then .tuple #[.agg ent0, .int .i64 0, .int .i64 60] else .tuple #[.agg x.ent, .int .i64 x.size, .int .i64 0]
def HeaderD.cells (h : HeaderD) : Array Value := #[.string h.name, .string h.link, .int .i64 h.mode, .int .i64 h.uid, .int .i64 h.gid, .int .i64 h.size, .int .i64 h.mtime, .int .u8 h.type.toNat, .string h.user, .string h.group, .int .i64 h.major, .int .i64 h.minor, .int .i64 h.form]
theorem whole_Ent : Whole Tryd.prog 41 11 := ⟨by kernel_rfl, by kernel_rfl⟩
theorem rows_top (h lg g l : List PairD) (k : ByteArray) : topKv (ovRows h lg g l) k = topT (textOf g l k (latD lg k) (latD h k)) := ov_top h lg g l k
theorem lat_hd (n k u g : ByteArray) : latD (hdPairs n k u g) kPath = n ∧ latD (hdPairs n k u g) kLink = k ∧ latD (hdPairs n k u g) kUname = u ∧ latD (hdPairs n k u g) kGname = g ∧
    latD (hdPairs n k u g) kSize = noB ∧ latD (hdPairs n k u g) kUid = noB ∧ latD (hdPairs n k u g) kGid = noB ∧ latD (hdPairs n k u g) kMtime = noB := ⟨rfl, rfl, rfl, rfl, rfl, rfl, rfl, rfl⟩
theorem lat_lg (n k : ByteArray) : latD (lgPairs n k) kPath = n ∧ latD (lgPairs n k) kLink = k ∧ latD (lgPairs n k) kUname = noB ∧ latD (lgPairs n k) kGname = noB ∧
    latD (lgPairs n k) kSize = noB ∧ latD (lgPairs n k) kUid = noB ∧ latD (lgPairs n k) kGid = noB ∧ latD (lgPairs n k) kMtime = noB := ⟨rfl, rfl, rfl, rfl, rfl, rfl, rfl, rfl⟩
theorem noB_size : noB.size = 0 := rfl
theorem foundL_empty {g l : List PairD} {k : ByteArray} (h : foundL l k = true) : (foundV g l k).size ≠ 0 := by
  unfold foundL at h
  unfold foundV
  cases hl : latest l k with
  | none => rw [hl] at h; cases h
  | some v => rw [hl] at h; simpa using h
theorem textOf_plain (g l : List PairD) (k : ByteArray) : textOf g l k noB noB = if (foundV g l k).size = 0 then noB else foundV g l k := by
  unfold textOf
  have h0 : ¬ noB.size ≠ 0 := by rw [noB_size]; decide
  rw [if_neg h0]
  cases h : foundL l k
  · by_cases h2 : (foundV g l k).size = 0 <;> simp [h2]
  · simp only [if_true]
    rw [if_neg (foundL_empty h)]
theorem empty_noB {b : ByteArray} (h : b.size = 0) : b = noB := by
  obtain ⟨d⟩ := b
  have : d = #[] := Array.eq_empty_of_size_eq_zero h
  rw [this]; rfl
theorem textOf_found (g l : List PairD) (k : ByteArray) : textOf g l k noB noB = foundV g l k := by
  rw [textOf_plain]
  split
  · rename_i h; exact (empty_noB h).symm
  · rfl
section
variable (x : ApIn)
def ApIn.rows : List OvKv := ovRows (hdPairs x.h.name x.h.link x.h.user x.h.group) (lgPairs x.ln x.ll) x.g x.l
theorem ApIn.top_path : topKv x.rows kPath = topT x.name := (rows_top ..).trans rfl
theorem ApIn.top_link : topKv x.rows kLink = topT (textOf x.g x.l kLink x.ll x.h.link) := (rows_top ..).trans rfl
theorem ApIn.top_uname : topKv x.rows kUname = topT x.user := (rows_top ..).trans rfl
theorem ApIn.top_gname : topKv x.rows kGname = topT x.group := (rows_top ..).trans rfl
theorem ApIn.top_size : topKv x.rows kSize = topT (x.v kSize) := (rows_top ..).trans (congrArg topT (textOf_found x.g x.l kSize))
theorem ApIn.top_uid : topKv x.rows kUid = topT (x.v kUid) := (rows_top ..).trans (congrArg topT (textOf_found x.g x.l kUid))
theorem ApIn.top_gid : topKv x.rows kGid = topT (x.v kGid) := (rows_top ..).trans (congrArg topT (textOf_found x.g x.l kGid))
theorem ApIn.top_mtime : topKv x.rows kMtime = topT (x.v kMtime) := (rows_top ..).trans (congrArg topT (textOf_found x.g x.l kMtime))
end
end Go.Proofs.YtnadldcdckjifaaDoor
