/- overlay.Apply where a type or a sparse key is refused. No condition but room. overlay.Apply: its beginning, and what it refuses for a sparse key. No condition but room. overlay.Apply: what it answers. No condition but room and what the library's variables hold. -/
import Derived.Test.YtnadldcdckjifaaDoorOvSt
namespace Go.Proofs.YtnadldcdckjifaaDoor
open Go.RowKit
set_option linter.unusedVariables false
set_option linter.unusedSimpArgs false
attribute [local go_sem] cell?_over frozen?_over lt_over le_over lt2 lt3 lt4
structure ApOk (x : ApIn) (w : World) (A A' : Option Addr) (n n' : Nat) : Prop where
  g : Row Shape.PairD w (Old w) A n x.g
  l : Row Shape.PairD w (Old w) A' n' x.l
  n : n ≤ 140737488355328
  n' : n' ≤ 140737488355328
  v : ∀ k, (x.v k).size ≤ 140737488355328
  name : x.name.size ≤ 9223372036854775807
  i : I64 x.h.mode ∧ I64 x.h.uid ∧ I64 x.h.gid ∧ I64 x.h.size ∧ I64 x.h.mtime
theorem ApOk.keep {x : ApIn} {w w' : World} {A A' : Option Addr} {n n' : Nat} (h : ApOk x w A A' n n') (hb : Below w.heap.size w w') : ApOk x w' A A' n n' :=
  ⟨h.g.below hb, h.l.below hb, h.n, h.n', h.v, h.name, h.i⟩
def ApIn.args (x : ApIn) (A A' : Option Addr) (n c n' c' : Nat) : Array Value := #[.agg x.h.cells, .slice A n c, .slice A' n' c', .string x.ln, .string x.ll]
theorem blk_second (w : World) (t1 t2 : TypeId) (c1 c2 : Array Value) : Blk ((w.alloc (.cells c1 t1)).alloc (.cells c2 t2)) (w.heap.size + 1) t2 c2 := by
  have := Blk.new (w.alloc (.cells c1 t1)) t2 c2; simpa using this
set_option maxHeartbeats 1000000 in
set_option maxRecDepth 100000 in
theorem ovApply_type {x : ApIn} {A A' : Option Addr} {n c n' c' : Nat} (w : World) (hx : x.typeBad = true) :
    Calls Tryd.prog 20 (x.args A A' n c n' c') w fun e w' => e = .returned (.tuple #[.agg ent0, .int .i64 0, .int .i64 73]) ∧ Below w.heap.size w w' := by
  obtain ⟨h, g, l, ln, ll⟩ := x
  unfold ApIn.args HeaderD.cells
  unfold ApIn.typeBad at hx
  simp only [Bool.or_eq_true, decide_eq_true_eq] at hx
  have HA := Lib.hid (show Below w.heap.size w ((w.alloc (.cells #[.string h.name, .string h.link, .int .i64 h.mode, .int .i64 h.uid, .int .i64 h.gid, .int .i64 h.size, .int .i64 h.mtime, .int .u8 h.type.toNat, .string h.user, .string h.group, .int .i64 h.major, .int .i64 h.minor, .int .i64 h.form] 34)).alloc (.cells #[.int .i64 0, .string ⟨#[]⟩, .string ⟨#[]⟩, .int .i64 0, .int .i64 0, .int .i64 0, .string ⟨#[]⟩, .string ⟨#[]⟩, .int .i64 0, .int .i64 0, .slice none 0 0] 41)) by go_grown)
  have HBk := Lib.hid (blk_second w 34 41 #[.string h.name, .string h.link, .int .i64 h.mode, .int .i64 h.uid, .int .i64 h.gid, .int .i64 h.size, .int .i64 h.mtime, .int .u8 h.type.toNat, .string h.user, .string h.group, .int .i64 h.major, .int .i64 h.minor, .int .i64 h.form] #[.int .i64 0, .string ⟨#[]⟩, .string ⟨#[]⟩, .int .i64 0, .int .i64 0, .int .i64 0, .string ⟨#[]⟩, .string ⟨#[]⟩, .int .i64 0, .int .i64 0, .slice none 0 0])
  rcases hx with hx | hx
  · have h1 : ((h.type.toNat : Nat) : Int) < 48 := by omega
    clear hx
    go_enter Tryd.func20, Tryd.ntmps20
    go_wp2_with (first | (refine wpList_store_blk rfl 41 (.tmp 10) (.tmp 32) rfl _ rfl HBk.out rfl (by kernel_rfl) rfl rfl ?_; intro u2 b3 hg3; replace HBk := Lib.hid b3; replace HA := Lib.hid (HA.out.grown hg3 HA.out.size (fun k hk => by injection hk with hk; omega)); clear b3 hg3))
    refine ret_blk_tmp2 (cs := ent0) rfl rfl HBk.out whole_Ent rfl rfl rfl ⟨rfl, HA.out⟩
  · have h1 : ¬ ((h.type.toNat : Nat) : Int) < 48 := by omega
    have h2 : (54 : Int) < ((h.type.toNat : Nat) : Int) := by omega
    clear hx
    go_enter Tryd.func20, Tryd.ntmps20
    go_wp2_with (first | (refine wpList_store_blk rfl 41 (.tmp 10) (.tmp 32) rfl _ rfl HBk.out rfl (by kernel_rfl) rfl rfl ?_; intro u2 b3 hg3; replace HBk := Lib.hid b3; replace HA := Lib.hid (HA.out.grown hg3 HA.out.size (fun k hk => by injection hk with hk; omega)); clear b3 hg3))
    refine ret_blk_tmp2 (cs := ent0) rfl rfl HBk.out whole_Ent rfl rfl rfl ⟨rfl, HA.out⟩
end Go.Proofs.YtnadldcdckjifaaDoor
namespace Go.Proofs.YtnadldcdckjifaaDoor
open Go.RowKit
set_option linter.unusedVariables false
set_option linter.unusedSimpArgs false
attribute [local go_sem] cell?_over frozen?_over lt_over le_over lt2 lt3 lt4
theorem type_ok {x : ApIn} (h : x.typeBad = false) : ¬ ((x.h.type.toNat : Nat) : Int) < 48 ∧ ¬ (54 : Int) < ((x.h.type.toNat : Nat) : Int) := by
  unfold ApIn.typeBad at h
  simp only [Bool.or_eq_false_iff, decide_eq_false_iff_not] at h
  omega
set_option maxHeartbeats 1000000 in
set_option maxRecDepth 100000 in
theorem ovApply_sparse {x : ApIn} {A A' : Option Addr} {n c n' c' : Nat} (w : World) (ho : ApOk x w A A' n n') (hx : x.typeBad = false) (hs : x.sparseBad = true) :
    Calls Tryd.prog 20 (x.args A A' n c n' c') w fun e w' => e = .returned (.tuple #[.agg ent0, .int .i64 0, .int .i64 61]) ∧ Below w.heap.size w w' := by
  have h12 := type_ok hx
  obtain ⟨h1, h2⟩ := h12
  unfold ApIn.sparseBad at hs
  obtain ⟨h, g, l, ln, ll⟩ := x
  unfold ApIn.args HeaderD.cells
  simp only at h1 h2 hs
  rcases (by cases hg : sparseL g <;> simp [hg] at hs ⊢ <;> exact hs : sparseL g = true ∨ (sparseL g = false ∧ sparseL l = true)) with hg | ⟨hg, hl⟩
  · clear hs hx
    go_enter Tryd.func20, Tryd.ntmps20
    go_wp2_with fail
    refine (isSparse _ (ho.g.below (show Below w.heap.size w ((w.alloc (.cells #[.string h.name, .string h.link, .int .i64 h.mode, .int .i64 h.uid, .int .i64 h.gid, .int .i64 h.size, .int .i64 h.mtime, .int .u8 h.type.toNat, .string h.user, .string h.group, .int .i64 h.major, .int .i64 h.minor, .int .i64 h.form] 34)).alloc (.cells #[.int .i64 0, .string ⟨#[]⟩, .string ⟨#[]⟩, .int .i64 0, .int .i64 0, .int .i64 0, .string ⟨#[]⟩, .string ⟨#[]⟩, .int .i64 0, .int .i64 0, .slice none 0 0] 41)) by go_grown)) ho.n).mono ?_
    rintro e w1 ⟨rfl, hb1⟩
    rw [hg]
    obtain ⟨bT, bR, hbw1, hsz1⟩ := blks2 hb1
    have HBk := Lib.hid bR; have HA := Lib.hid hbw1
    clear hb1 bT bR hbw1 hg
    go_wp2_with (first | (refine wpList_store_blk rfl 41 (.tmp 10) (.tmp 39) rfl _ rfl HBk.out rfl (by kernel_rfl) rfl rfl ?_; intro u2 b3 hg3; replace HBk := Lib.hid b3; replace HA := Lib.hid (HA.out.grown hg3 HA.out.size (fun k hk => by injection hk with hk; omega)); clear b3 hg3))
    refine ret_blk_tmp2 (cs := ent0) rfl rfl HBk.out whole_Ent rfl rfl rfl ⟨rfl, HA.out⟩
  · clear hs hx
    go_enter Tryd.func20, Tryd.ntmps20
    go_wp2_with fail
    refine (isSparse _ (ho.g.below (show Below w.heap.size w ((w.alloc (.cells #[.string h.name, .string h.link, .int .i64 h.mode, .int .i64 h.uid, .int .i64 h.gid, .int .i64 h.size, .int .i64 h.mtime, .int .u8 h.type.toNat, .string h.user, .string h.group, .int .i64 h.major, .int .i64 h.minor, .int .i64 h.form] 34)).alloc (.cells #[.int .i64 0, .string ⟨#[]⟩, .string ⟨#[]⟩, .int .i64 0, .int .i64 0, .int .i64 0, .string ⟨#[]⟩, .string ⟨#[]⟩, .int .i64 0, .int .i64 0, .slice none 0 0] 41)) by go_grown)) ho.n).mono ?_
    rintro e w1 ⟨rfl, hb1⟩
    rw [hg]
    obtain ⟨bT, bR, hbw1, hsz1⟩ := blks2 hb1
    have HBk := Lib.hid bR; have HA := Lib.hid hbw1
    clear hb1 bT bR hbw1 hg
    go_wp2_with fail
    refine (isSparse _ (ho.l.below HA.out) ho.n').mono ?_
    rintro e w2 ⟨rfl, hb2⟩
    rw [hl]
    replace HBk := Lib.hid (HBk.out.below hb2 HBk.out.lt); replace HA := Lib.hid (below_old HA.out hb2)
    clear hb2 hl
    go_wp2_with (first | (refine wpList_store_blk rfl 41 (.tmp 10) (.tmp 39) rfl _ rfl HBk.out rfl (by kernel_rfl) rfl rfl ?_; intro u2 b3 hg3; replace HBk := Lib.hid b3; replace HA := Lib.hid (HA.out.grown hg3 HA.out.size (fun k hk => by injection hk with hk; omega)); clear b3 hg3))
    refine ret_blk_tmp2 (cs := ent0) rfl rfl HBk.out whole_Ent rfl rfl rfl ⟨rfl, HA.out⟩
end Go.Proofs.YtnadldcdckjifaaDoor
namespace Go.Proofs.YtnadldcdckjifaaDoor
open Go.RowKit
set_option linter.unusedVariables false
set_option linter.unusedSimpArgs false
attribute [local go_sem] cell?_over frozen?_over lt_over le_over lt2 lt3 lt4
def StopQ (p : Prop) : Prop := p
theorem StopQ.mk {p : Prop} (h : StopQ p) : p := h
def pairCells (xs : List PairD) : List Value := xs.flatMap fun p => [.string p.key, .string p.value]
theorem cells_pairs {w : World} {M : Nat → Prop} : ∀ (xs : List PairD), (∀ p ∈ xs, p.key.size ≤ maxLen ∧ p.value.size ≤ maxLen) → Cells Shape.PairD w M (pairCells xs) xs
  | [], _ => rfl
  | p :: xs, h => ⟨[.string p.key, .string p.value], pairCells xs, rfl, ⟨rfl, (h p (List.mem_cons_self ..)).1, (h p (List.mem_cons_self ..)).2⟩, cells_pairs xs fun q hq => h q (List.mem_cons_of_mem _ hq)⟩
theorem row_pairs (w : World) (T : TypeId) (xs : List PairD) (h : ∀ p ∈ xs, p.key.size ≤ maxLen ∧ p.value.size ≤ maxLen) :
    Row Shape.PairD (w.alloc (.cells (pairCells xs).toArray T)) (fun n => n = w.heap.size) (some ⟨w.heap.size, 0, none⟩) xs.length xs := by
  refine Cells.row (cells_pairs xs h) rfl ?_
  intro j u hj
  rw [Nat.zero_add, World.cell?_alloc_new]
  simpa using hj
theorem keys_len : kPath.size ≤ maxLen ∧ kLink.size ≤ maxLen ∧ kUname.size ≤ maxLen ∧ kGname.size ≤ maxLen := by decide
theorem row_hd (w : World) (T : TypeId) {a b c d : ByteArray} (h : a.size ≤ maxLen ∧ b.size ≤ maxLen ∧ c.size ≤ maxLen ∧ d.size ≤ maxLen) :
    Row Shape.PairD (w.alloc (.cells #[.string kPath, .string a, .string kLink, .string b, .string kUname, .string c, .string kGname, .string d] T)) (fun n => n = w.heap.size) (some ⟨w.heap.size, 0, none⟩) 4 (hdPairs a b c d) :=
  row_pairs w T (hdPairs a b c d) (by
    intro p hp
    simp only [hdPairs, List.mem_cons, List.not_mem_nil, or_false] at hp
    rcases hp with rfl | rfl | rfl | rfl
    · exact ⟨keys_len.1, h.1⟩
    · exact ⟨keys_len.2.1, h.2.1⟩
    · exact ⟨keys_len.2.2.1, h.2.2.1⟩
    · exact ⟨keys_len.2.2.2, h.2.2.2⟩)
theorem row_lg (w : World) (T : TypeId) {a b : ByteArray} (h : a.size ≤ maxLen ∧ b.size ≤ maxLen) :
    Row Shape.PairD (w.alloc (.cells #[.string kPath, .string a, .string kLink, .string b] T)) (fun n => n = w.heap.size) (some ⟨w.heap.size, 0, none⟩) 2 (lgPairs a b) :=
  row_pairs w T (lgPairs a b) (by
    intro p hp
    simp only [lgPairs, List.mem_cons, List.not_mem_nil, or_false] at hp
    rcases hp with rfl | rfl
    · exact ⟨keys_len.1, h.1⟩
    · exact ⟨keys_len.2.1, h.2⟩)
theorem hd_cells {w : World} {g : Nat} {t : TypeId} {x : ApIn} (h : Blk w g t #[.string x.h.name, .string x.h.link, .int .i64 x.h.mode, .int .i64 x.h.uid, .int .i64 x.h.gid, .int .i64 x.h.size, .int .i64 x.h.mtime, .int .u8 x.h.type.toNat, .string x.h.user, .string x.h.group, .int .i64 x.h.major, .int .i64 x.h.minor, .int .i64 x.h.form]) :
    w.cell? ⟨g, 0, none⟩ = some (.string x.h.name) ∧ w.cell? ⟨g, 1, none⟩ = some (.string x.h.link) ∧ w.cell? ⟨g, 2, none⟩ = some (.int .i64 x.h.mode) ∧ w.cell? ⟨g, 3, none⟩ = some (.int .i64 x.h.uid) ∧ w.cell? ⟨g, 4, none⟩ = some (.int .i64 x.h.gid) ∧
    w.cell? ⟨g, 5, none⟩ = some (.int .i64 x.h.size) ∧ w.cell? ⟨g, 6, none⟩ = some (.int .i64 x.h.mtime) ∧ w.cell? ⟨g, 7, none⟩ = some (.int .u8 x.h.type.toNat) ∧ w.cell? ⟨g, 8, none⟩ = some (.string x.h.user) ∧ w.cell? ⟨g, 9, none⟩ = some (.string x.h.group) :=
  ⟨h.cell 0, h.cell 1, h.cell 2, h.cell 3, h.cell 4, h.cell 5, h.cell 6, h.cell 7, h.cell 8, h.cell 9⟩
theorem size_ent {n : Nat} (h : n = 11) : (Tryd.prog.info? 41).map (·.size) = some n := by subst h; kernel_rfl
structure ApStr (x : ApIn) : Prop where
  hd : x.h.name.size ≤ maxLen ∧ x.h.link.size ≤ maxLen ∧ x.h.user.size ≤ maxLen ∧ x.h.group.size ≤ maxLen
  lg : x.ln.size ≤ maxLen ∧ x.ll.size ≤ maxLen
end Go.Proofs.YtnadldcdckjifaaDoor
