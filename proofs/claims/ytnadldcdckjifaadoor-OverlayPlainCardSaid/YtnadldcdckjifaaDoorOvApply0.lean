/- overlay.Apply where a type or a sparse key is refused. No condition but room. -/
import Derived.Test.YtnadldcdckjifaaDoorOvSt
namespace Go.Proofs.YtnadldcdckjifaaDoor
open Go.RowKit
set_option linter.unusedVariables false
set_option linter.unusedSimpArgs false
attribute [local go_sem] cell?_over frozen?_over lt_over le_over lt2 lt3 lt4
structure ApOk (x : ApIn) (w : World) (A A' : Option Addr) (n n' : Nat) : Prop where
  g : Row Shape.PairD w (Old w) A n x.g
  l : Row Shape.PairD w (Old w) A' n' x.l
  n : n ≤ 140737488355328
  n' : n' ≤ 140737488355328
  v : ∀ k, (x.v k).size ≤ 140737488355328
  name : x.name.size ≤ 9223372036854775807
  i : I64 x.h.mode ∧ I64 x.h.uid ∧ I64 x.h.gid ∧ I64 x.h.size ∧ I64 x.h.mtime
theorem ApOk.keep {x : ApIn} {w w' : World} {A A' : Option Addr} {n n' : Nat} (h : ApOk x w A A' n n') (hb : Below w.heap.size w w') : ApOk x w' A A' n n' :=
  ⟨h.g.below hb, h.l.below hb, h.n, h.n', h.v, h.name, h.i⟩
def ApIn.args (x : ApIn) (A A' : Option Addr) (n c n' c' : Nat) : Array Value := #[.agg x.h.cells, .slice A n c, .slice A' n' c', .string x.ln, .string x.ll]
theorem blk_second (w : World) (t1 t2 : TypeId) (c1 c2 : Array Value) : Blk ((w.alloc (.cells c1 t1)).alloc (.cells c2 t2)) (w.heap.size + 1) t2 c2 := by
  have := Blk.new (w.alloc (.cells c1 t1)) t2 c2; simpa using this
set_option maxHeartbeats 1000000 in
set_option maxRecDepth 100000 in
theorem ovApply_type {x : ApIn} {A A' : Option Addr} {n c n' c' : Nat} (w : World) (hx : x.typeBad = true) :
    Calls Tryd.prog 20 (x.args A A' n c n' c') w fun e w' => e = .returned (.tuple #[.agg ent0, .int .i64 0, .int .i64 73]) ∧ Below w.heap.size w w' := by
  obtain ⟨h, g, l, ln, ll⟩ := x
  unfold ApIn.args HeaderD.cells
  unfold ApIn.typeBad at hx
  simp only [Bool.or_eq_true, decide_eq_true_eq] at hx
  have HA := Lib.hid (show Below w.heap.size w ((w.alloc (.cells #[.string h.name, .string h.link, .int .i64 h.mode, .int .i64 h.uid, .int .i64 h.gid, .int .i64 h.size, .int .i64 h.mtime, .int .u8 h.type.toNat, .string h.user, .string h.group, .int .i64 h.major, .int .i64 h.minor, .int .i64 h.form] 34)).alloc (.cells #[.int .i64 0, .string ⟨#[]⟩, .string ⟨#[]⟩, .int .i64 0, .int .i64 0, .int .i64 0, .string ⟨#[]⟩, .string ⟨#[]⟩, .int .i64 0, .int .i64 0, .slice none 0 0] 41)) by go_grown)
  have HBk := Lib.hid (blk_second w 34 41 #[.string h.name, .string h.link, .int .i64 h.mode, .int .i64 h.uid, .int .i64 h.gid, .int .i64 h.size, .int .i64 h.mtime, .int .u8 h.type.toNat, .string h.user, .string h.group, .int .i64 h.major, .int .i64 h.minor, .int .i64 h.form] #[.int .i64 0, .string ⟨#[]⟩, .string ⟨#[]⟩, .int .i64 0, .int .i64 0, .int .i64 0, .string ⟨#[]⟩, .string ⟨#[]⟩, .int .i64 0, .int .i64 0, .slice none 0 0])
  rcases hx with hx | hx
  · have h1 : ((h.type.toNat : Nat) : Int) < 48 := by omega
    clear hx
    go_enter Tryd.func20, Tryd.ntmps20
    go_wp2_with (first | (refine wpList_store_blk rfl 41 (.tmp 10) (.tmp 32) rfl _ rfl HBk.out rfl (by kernel_rfl) rfl rfl ?_; intro u2 b3 hg3; replace HBk := Lib.hid b3; replace HA := Lib.hid (HA.out.grown hg3 HA.out.size (fun k hk => by injection hk with hk; omega)); clear b3 hg3))
    refine ret_blk_tmp2 (cs := ent0) rfl rfl HBk.out whole_Ent rfl rfl rfl ⟨rfl, HA.out⟩
  · have h1 : ¬ ((h.type.toNat : Nat) : Int) < 48 := by omega
    have h2 : (54 : Int) < ((h.type.toNat : Nat) : Int) := by omega
    clear hx
    go_enter Tryd.func20, Tryd.ntmps20
    go_wp2_with (first | (refine wpList_store_blk rfl 41 (.tmp 10) (.tmp 32) rfl _ rfl HBk.out rfl (by kernel_rfl) rfl rfl ?_; intro u2 b3 hg3; replace HBk := Lib.hid b3; replace HA := Lib.hid (HA.out.grown hg3 HA.out.size (fun k hk => by injection hk with hk; omega)); clear b3 hg3))
    refine ret_blk_tmp2 (cs := ent0) rfl rfl HBk.out whole_Ent rfl rfl rfl ⟨rfl, HA.out⟩
end Go.Proofs.YtnadldcdckjifaaDoor
