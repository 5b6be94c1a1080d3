/- overlay.Apply: its beginning, and what it refuses for a sparse key. No condition but room. -/
import Derived.Test.YtnadldcdckjifaaDoorOvApply0
namespace Go.Proofs.YtnadldcdckjifaaDoor
open Go.RowKit
set_option linter.unusedVariables false
set_option linter.unusedSimpArgs false
attribute [local go_sem] cell?_over frozen?_over lt_over le_over lt2 lt3 lt4
theorem type_ok {x : ApIn} (h : x.typeBad = false) : ¬ ((x.h.type.toNat : Nat) : Int) < 48 ∧ ¬ (54 : Int) < ((x.h.type.toNat : Nat) : Int) := by
  unfold ApIn.typeBad at h
  simp only [Bool.or_eq_false_iff, decide_eq_false_iff_not] at h
  omega
set_option maxHeartbeats 1000000 in
set_option maxRecDepth 100000 in
theorem ovApply_sparse {x : ApIn} {A A' : Option Addr} {n c n' c' : Nat} (w : World) (ho : ApOk x w A A' n n') (hx : x.typeBad = false) (hs : x.sparseBad = true) :
    Calls Tryd.prog 20 (x.args A A' n c n' c') w fun e w' => e = .returned (.tuple #[.agg ent0, .int .i64 0, .int .i64 61]) ∧ Below w.heap.size w w' := by
  have h12 := type_ok hx
  obtain ⟨h1, h2⟩ := h12
  unfold ApIn.sparseBad at hs
  obtain ⟨h, g, l, ln, ll⟩ := x
  unfold ApIn.args HeaderD.cells
  simp only at h1 h2 hs
  rcases (by cases hg : sparseL g <;> simp [hg] at hs ⊢ <;> exact hs : sparseL g = true ∨ (sparseL g = false ∧ sparseL l = true)) with hg | ⟨hg, hl⟩
  · clear hs hx
    go_enter Tryd.func20, Tryd.ntmps20
    go_wp2_with fail
    refine (isSparse _ (ho.g.below (show Below w.heap.size w ((w.alloc (.cells #[.string h.name, .string h.link, .int .i64 h.mode, .int .i64 h.uid, .int .i64 h.gid, .int .i64 h.size, .int .i64 h.mtime, .int .u8 h.type.toNat, .string h.user, .string h.group, .int .i64 h.major, .int .i64 h.minor, .int .i64 h.form] 34)).alloc (.cells #[.int .i64 0, .string ⟨#[]⟩, .string ⟨#[]⟩, .int .i64 0, .int .i64 0, .int .i64 0, .string ⟨#[]⟩, .string ⟨#[]⟩, .int .i64 0, .int .i64 0, .slice none 0 0] 41)) by go_grown)) ho.n).mono ?_
    rintro e w1 ⟨rfl, hb1⟩
    rw [hg]
    obtain ⟨bT, bR, hbw1, hsz1⟩ := blks2 hb1
    have HBk := Lib.hid bR; have HA := Lib.hid hbw1
    clear hb1 bT bR hbw1 hg
    go_wp2_with (first | (refine wpList_store_blk rfl 41 (.tmp 10) (.tmp 39) rfl _ rfl HBk.out rfl (by kernel_rfl) rfl rfl ?_; intro u2 b3 hg3; replace HBk := Lib.hid b3; replace HA := Lib.hid (HA.out.grown hg3 HA.out.size (fun k hk => by injection hk with hk; omega)); clear b3 hg3))
    refine ret_blk_tmp2 (cs := ent0) rfl rfl HBk.out whole_Ent rfl rfl rfl ⟨rfl, HA.out⟩
  · clear hs hx
    go_enter Tryd.func20, Tryd.ntmps20
    go_wp2_with fail
    refine (isSparse _ (ho.g.below (show Below w.heap.size w ((w.alloc (.cells #[.string h.name, .string h.link, .int .i64 h.mode, .int .i64 h.uid, .int .i64 h.gid, .int .i64 h.size, .int .i64 h.mtime, .int .u8 h.type.toNat, .string h.user, .string h.group, .int .i64 h.major, .int .i64 h.minor, .int .i64 h.form] 34)).alloc (.cells #[.int .i64 0, .string ⟨#[]⟩, .string ⟨#[]⟩, .int .i64 0, .int .i64 0, .int .i64 0, .string ⟨#[]⟩, .string ⟨#[]⟩, .int .i64 0, .int .i64 0, .slice none 0 0] 41)) by go_grown)) ho.n).mono ?_
    rintro e w1 ⟨rfl, hb1⟩
    rw [hg]
    obtain ⟨bT, bR, hbw1, hsz1⟩ := blks2 hb1
    have HBk := Lib.hid bR; have HA := Lib.hid hbw1
    clear hb1 bT bR hbw1 hg
    go_wp2_with fail
    refine (isSparse _ (ho.l.below HA.out) ho.n').mono ?_
    rintro e w2 ⟨rfl, hb2⟩
    rw [hl]
    replace HBk := Lib.hid (HBk.out.below hb2 HBk.out.lt); replace HA := Lib.hid (below_old HA.out hb2)
    clear hb2 hl
    go_wp2_with (first | (refine wpList_store_blk rfl 41 (.tmp 10) (.tmp 39) rfl _ rfl HBk.out rfl (by kernel_rfl) rfl rfl ?_; intro u2 b3 hg3; replace HBk := Lib.hid b3; replace HA := Lib.hid (HA.out.grown hg3 HA.out.size (fun k hk => by injection hk with hk; omega)); clear b3 hg3))
    refine ret_blk_tmp2 (cs := ent0) rfl rfl HBk.out whole_Ent rfl rfl rfl ⟨rfl, HA.out⟩
end Go.Proofs.YtnadldcdckjifaaDoor
