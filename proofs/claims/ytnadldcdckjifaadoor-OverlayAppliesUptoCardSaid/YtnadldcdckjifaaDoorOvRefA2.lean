/- The reference's Apply: what it refuses for a type or a sparse key. No condition but room. The reference's Apply where a number is refused. No condition but room. -/
import Derived.Test.YtnadldcdckjifaaDoorOvApply2
namespace Go.Proofs.YtnadldcdckjifaaDoor
open Go.RowKit
set_option linter.unusedVariables false
set_option linter.unusedSimpArgs false
attribute [local go_sem] cell?_over frozen?_over lt_over le_over lt2 lt3 lt4

set_option maxHeartbeats 4000000 in
set_option maxRecDepth 100000 in
theorem ovRef_type {x : ApIn} {A A' : Option Addr} {n c n' c' : Nat} (w : World) (hx : x.typeBad = true) :
    Calls Tryd.prog 21 (x.args A A' n c n' c') w fun e w' => e = .returned (.tuple #[.agg ent0, .int .i64 0, .int .i64 73]) ∧ Below w.heap.size w w' := by
  unfold ApIn.typeBad at hx
  simp only [Bool.or_eq_true, decide_eq_true_eq] at hx
  unfold ApIn.args HeaderD.cells
  have HT := Lib.hid ((Blk.new w 34 #[.string x.h.name, .string x.h.link, .int .i64 x.h.mode, .int .i64 x.h.uid, .int .i64 x.h.gid, .int .i64 x.h.size, .int .i64 x.h.mtime, .int .u8 x.h.type.toNat, .string x.h.user, .string x.h.group, .int .i64 x.h.major, .int .i64 x.h.minor, .int .i64 x.h.form]).alloc (.cells #[.int .i64 0, .string ⟨#[]⟩, .string ⟨#[]⟩, .int .i64 0, .int .i64 0, .int .i64 0, .string ⟨#[]⟩, .string ⟨#[]⟩, .int .i64 0, .int .i64 0, .slice none 0 0] 41))
  have HBk := Lib.hid (blk_second w 34 41 #[.string x.h.name, .string x.h.link, .int .i64 x.h.mode, .int .i64 x.h.uid, .int .i64 x.h.gid, .int .i64 x.h.size, .int .i64 x.h.mtime, .int .u8 x.h.type.toNat, .string x.h.user, .string x.h.group, .int .i64 x.h.major, .int .i64 x.h.minor, .int .i64 x.h.form] #[.int .i64 0, .string ⟨#[]⟩, .string ⟨#[]⟩, .int .i64 0, .int .i64 0, .int .i64 0, .string ⟨#[]⟩, .string ⟨#[]⟩, .int .i64 0, .int .i64 0, .slice none 0 0])
  have HA := Lib.hid (show Below w.heap.size w ((w.alloc (.cells #[.string x.h.name, .string x.h.link, .int .i64 x.h.mode, .int .i64 x.h.uid, .int .i64 x.h.gid, .int .i64 x.h.size, .int .i64 x.h.mtime, .int .u8 x.h.type.toNat, .string x.h.user, .string x.h.group, .int .i64 x.h.major, .int .i64 x.h.minor, .int .i64 x.h.form] 34)).alloc (.cells #[.int .i64 0, .string ⟨#[]⟩, .string ⟨#[]⟩, .int .i64 0, .int .i64 0, .int .i64 0, .string ⟨#[]⟩, .string ⟨#[]⟩, .int .i64 0, .int .i64 0, .slice none 0 0] 41)) by go_grown)
  rcases hx with hx | hx
  · have h1 : ((x.h.type.toNat : Nat) : Int) < 48 := by omega
    clear hx
    go_enter Tryd.func21, Tryd.ntmps21
    go_wp2_with (first | (refine wpList_store_blk rfl 41 (.tmp 10) (.tmp 34) rfl _ rfl HBk.out rfl (by kernel_rfl) rfl rfl ?_; intro u2 b3 hg3; replace HBk := Lib.hid b3; replace HA := Lib.hid (HA.out.grown hg3 HA.out.size (fun k hk => by injection hk with hk; omega)); clear b3 hg3))
    refine ret_blk_tmp2 (cs := ent0) rfl rfl HBk.out whole_Ent rfl rfl rfl ⟨rfl, HA.out⟩
  · have h1 : ¬ ((x.h.type.toNat : Nat) : Int) < 48 := by omega
    have h2 : (54 : Int) < ((x.h.type.toNat : Nat) : Int) := by omega
    clear hx
    go_enter Tryd.func21, Tryd.ntmps21
    go_wp2_with (first | (refine wpList_store_blk rfl 41 (.tmp 10) (.tmp 34) rfl _ rfl HBk.out rfl (by kernel_rfl) rfl rfl ?_; intro u2 b3 hg3; replace HBk := Lib.hid b3; replace HA := Lib.hid (HA.out.grown hg3 HA.out.size (fun k hk => by injection hk with hk; omega)); clear b3 hg3))
    refine ret_blk_tmp2 (cs := ent0) rfl rfl HBk.out whole_Ent rfl rfl rfl ⟨rfl, HA.out⟩
set_option maxHeartbeats 4000000 in
set_option maxRecDepth 100000 in
theorem ovRef_sparse {x : ApIn} {A A' : Option Addr} {n c n' c' : Nat} (w : World) (ho : ApOk x w A A' n n') (hx : x.typeBad = false) (hs : x.sparseBad = true) :
    Calls Tryd.prog 21 (x.args A A' n c n' c') w fun e w' => e = .returned (.tuple #[.agg ent0, .int .i64 0, .int .i64 61]) ∧ Below w.heap.size w w' := by
  have h12 := type_ok hx
  obtain ⟨h1, h2⟩ := h12
  unfold ApIn.sparseBad at hs
  rcases (by cases hg : sparseL x.g <;> simp [hg] at hs ⊢ <;> exact hs : sparseL x.g = true ∨ (sparseL x.g = false ∧ sparseL x.l = true)) with hg | ⟨hg, hl⟩
  · clear hs hx
    unfold ApIn.args HeaderD.cells
    have HT := Lib.hid ((Blk.new w 34 #[.string x.h.name, .string x.h.link, .int .i64 x.h.mode, .int .i64 x.h.uid, .int .i64 x.h.gid, .int .i64 x.h.size, .int .i64 x.h.mtime, .int .u8 x.h.type.toNat, .string x.h.user, .string x.h.group, .int .i64 x.h.major, .int .i64 x.h.minor, .int .i64 x.h.form]).alloc (.cells #[.int .i64 0, .string ⟨#[]⟩, .string ⟨#[]⟩, .int .i64 0, .int .i64 0, .int .i64 0, .string ⟨#[]⟩, .string ⟨#[]⟩, .int .i64 0, .int .i64 0, .slice none 0 0] 41))
    have HBk := Lib.hid (blk_second w 34 41 #[.string x.h.name, .string x.h.link, .int .i64 x.h.mode, .int .i64 x.h.uid, .int .i64 x.h.gid, .int .i64 x.h.size, .int .i64 x.h.mtime, .int .u8 x.h.type.toNat, .string x.h.user, .string x.h.group, .int .i64 x.h.major, .int .i64 x.h.minor, .int .i64 x.h.form] #[.int .i64 0, .string ⟨#[]⟩, .string ⟨#[]⟩, .int .i64 0, .int .i64 0, .int .i64 0, .string ⟨#[]⟩, .string ⟨#[]⟩, .int .i64 0, .int .i64 0, .slice none 0 0])
    have HA := Lib.hid (show Below w.heap.size w ((w.alloc (.cells #[.string x.h.name, .string x.h.link, .int .i64 x.h.mode, .int .i64 x.h.uid, .int .i64 x.h.gid, .int .i64 x.h.size, .int .i64 x.h.mtime, .int .u8 x.h.type.toNat, .string x.h.user, .string x.h.group, .int .i64 x.h.major, .int .i64 x.h.minor, .int .i64 x.h.form] 34)).alloc (.cells #[.int .i64 0, .string ⟨#[]⟩, .string ⟨#[]⟩, .int .i64 0, .int .i64 0, .int .i64 0, .string ⟨#[]⟩, .string ⟨#[]⟩, .int .i64 0, .int .i64 0, .slice none 0 0] 41)) by go_grown)
    go_enter Tryd.func21, Tryd.ntmps21
    go_wp2_with fail
    have hsz2 : ((w.alloc (.cells #[.string x.h.name, .string x.h.link, .int .i64 x.h.mode, .int .i64 x.h.uid, .int .i64 x.h.gid, .int .i64 x.h.size, .int .i64 x.h.mtime, .int .u8 x.h.type.toNat, .string x.h.user, .string x.h.group, .int .i64 x.h.major, .int .i64 x.h.minor, .int .i64 x.h.form] 34)).alloc (.cells #[.int .i64 0, .string ⟨#[]⟩, .string ⟨#[]⟩, .int .i64 0, .int .i64 0, .int .i64 0, .string ⟨#[]⟩, .string ⟨#[]⟩, .int .i64 0, .int .i64 0, .slice none 0 0] 41)).heap.size = w.heap.size + 2 := by simp
    have HSZ2 := Lib.hid hsz2
    clear hsz2
    generalize ((w.alloc (.cells #[.string x.h.name, .string x.h.link, .int .i64 x.h.mode, .int .i64 x.h.uid, .int .i64 x.h.gid, .int .i64 x.h.size, .int .i64 x.h.mtime, .int .u8 x.h.type.toNat, .string x.h.user, .string x.h.group, .int .i64 x.h.major, .int .i64 x.h.minor, .int .i64 x.h.form] 34)).alloc (.cells #[.int .i64 0, .string ⟨#[]⟩, .string ⟨#[]⟩, .int .i64 0, .int .i64 0, .int .i64 0, .string ⟨#[]⟩, .string ⟨#[]⟩, .int .i64 0, .int .i64 0, .slice none 0 0] 41)) = w2 at *
    refine (refSparse _ (ho.g.below HA.out) ho.n).mono ?_
    rintro e w3 ⟨rfl, rfl⟩
    rw [hg]
    clear hg
    go_wp2_with (first | (refine wpList_store_blk rfl 41 (.tmp 10) (.tmp 41) rfl _ rfl HBk.out rfl (by kernel_rfl) rfl rfl ?_; intro u2 b3 hg3; replace HBk := Lib.hid b3; replace HA := Lib.hid (HA.out.grown hg3 HA.out.size (fun k hk => by injection hk with hk; omega)); clear b3 hg3))
    refine ret_blk_tmp2 (cs := ent0) rfl rfl HBk.out whole_Ent rfl rfl rfl ⟨rfl, HA.out⟩
  · clear hs hx
    unfold ApIn.args HeaderD.cells
    have HT := Lib.hid ((Blk.new w 34 #[.string x.h.name, .string x.h.link, .int .i64 x.h.mode, .int .i64 x.h.uid, .int .i64 x.h.gid, .int .i64 x.h.size, .int .i64 x.h.mtime, .int .u8 x.h.type.toNat, .string x.h.user, .string x.h.group, .int .i64 x.h.major, .int .i64 x.h.minor, .int .i64 x.h.form]).alloc (.cells #[.int .i64 0, .string ⟨#[]⟩, .string ⟨#[]⟩, .int .i64 0, .int .i64 0, .int .i64 0, .string ⟨#[]⟩, .string ⟨#[]⟩, .int .i64 0, .int .i64 0, .slice none 0 0] 41))
    have HBk := Lib.hid (blk_second w 34 41 #[.string x.h.name, .string x.h.link, .int .i64 x.h.mode, .int .i64 x.h.uid, .int .i64 x.h.gid, .int .i64 x.h.size, .int .i64 x.h.mtime, .int .u8 x.h.type.toNat, .string x.h.user, .string x.h.group, .int .i64 x.h.major, .int .i64 x.h.minor, .int .i64 x.h.form] #[.int .i64 0, .string ⟨#[]⟩, .string ⟨#[]⟩, .int .i64 0, .int .i64 0, .int .i64 0, .string ⟨#[]⟩, .string ⟨#[]⟩, .int .i64 0, .int .i64 0, .slice none 0 0])
    have HA := Lib.hid (show Below w.heap.size w ((w.alloc (.cells #[.string x.h.name, .string x.h.link, .int .i64 x.h.mode, .int .i64 x.h.uid, .int .i64 x.h.gid, .int .i64 x.h.size, .int .i64 x.h.mtime, .int .u8 x.h.type.toNat, .string x.h.user, .string x.h.group, .int .i64 x.h.major, .int .i64 x.h.minor, .int .i64 x.h.form] 34)).alloc (.cells #[.int .i64 0, .string ⟨#[]⟩, .string ⟨#[]⟩, .int .i64 0, .int .i64 0, .int .i64 0, .string ⟨#[]⟩, .string ⟨#[]⟩, .int .i64 0, .int .i64 0, .slice none 0 0] 41)) by go_grown)
    go_enter Tryd.func21, Tryd.ntmps21
    go_wp2_with fail
    have hsz2 : ((w.alloc (.cells #[.string x.h.name, .string x.h.link, .int .i64 x.h.mode, .int .i64 x.h.uid, .int .i64 x.h.gid, .int .i64 x.h.size, .int .i64 x.h.mtime, .int .u8 x.h.type.toNat, .string x.h.user, .string x.h.group, .int .i64 x.h.major, .int .i64 x.h.minor, .int .i64 x.h.form] 34)).alloc (.cells #[.int .i64 0, .string ⟨#[]⟩, .string ⟨#[]⟩, .int .i64 0, .int .i64 0, .int .i64 0, .string ⟨#[]⟩, .string ⟨#[]⟩, .int .i64 0, .int .i64 0, .slice none 0 0] 41)).heap.size = w.heap.size + 2 := by simp
    have HSZ2 := Lib.hid hsz2
    clear hsz2
    generalize ((w.alloc (.cells #[.string x.h.name, .string x.h.link, .int .i64 x.h.mode, .int .i64 x.h.uid, .int .i64 x.h.gid, .int .i64 x.h.size, .int .i64 x.h.mtime, .int .u8 x.h.type.toNat, .string x.h.user, .string x.h.group, .int .i64 x.h.major, .int .i64 x.h.minor, .int .i64 x.h.form] 34)).alloc (.cells #[.int .i64 0, .string ⟨#[]⟩, .string ⟨#[]⟩, .int .i64 0, .int .i64 0, .int .i64 0, .string ⟨#[]⟩, .string ⟨#[]⟩, .int .i64 0, .int .i64 0, .slice none 0 0] 41)) = w2 at *
    refine (refSparse _ (ho.g.below HA.out) ho.n).mono ?_
    rintro e w3 ⟨rfl, rfl⟩
    rw [hg]
    clear hg
    go_wp2_with fail
    refine (refSparse _ (ho.l.below HA.out) ho.n').mono ?_
    rintro e w4 ⟨rfl, rfl⟩
    rw [hl]
    clear hl
    go_wp2_with (first | (refine wpList_store_blk rfl 41 (.tmp 10) (.tmp 41) rfl _ rfl HBk.out rfl (by kernel_rfl) rfl rfl ?_; intro u2 b3 hg3; replace HBk := Lib.hid b3; replace HA := Lib.hid (HA.out.grown hg3 HA.out.size (fun k hk => by injection hk with hk; omega)); clear b3 hg3))
    refine ret_blk_tmp2 (cs := ent0) rfl rfl HBk.out whole_Ent rfl rfl rfl ⟨rfl, HA.out⟩
/-- the kind that a type alone says -/
def kindT (t : UInt8) : Int := if t = 48 then 1 else if t = 49 then 4 else if t = 50 then 3 else if t = 53 then 2 else 5
theorem kindV_dir {t : UInt8} {name : ByteArray} (h : t = 48) (h2 : Lib.hasSuffix name.data.toList [47] = true) : kindV t name = 2 := by unfold kindV; rw [if_pos h, if_pos h2]
theorem kindV_file {t : UInt8} {name : ByteArray} (h : t = 48) (h2 : Lib.hasSuffix name.data.toList [47] = false) : kindV t name = 1 := by unfold kindV; rw [if_pos h, h2]; rfl
theorem kindV_else {t : UInt8} {name : ByteArray} (h : t ≠ 48) : kindV t name = kindT t := by unfold kindV kindT; rw [if_neg h, if_neg h]
theorem kinds_at {t : UInt8} (h1 : (48 : Int) ≤ ((t.toNat : Nat) : Int)) (h2 : ((t.toNat : Nat) : Int) ≤ 54) :
    (#[Value.int .i64 1, .int .i64 4, .int .i64 3, .int .i64 5, .int .i64 5, .int .i64 2, .int .i64 5] : Array Value)[((t.toNat : Int) - 48).toNat]? = some (.int .i64 (kindT t)) := by
  have h := all_u8 (fun t => decide (t.toNat < 48 ∨ 54 < t.toNat ∨ ((#[1, 4, 3, 5, 5, 2, 5] : Array Int)[t.toNat - 48]? = some (kindT t)))) (by decide +kernel) t
  simp only [decide_eq_true_eq] at h
  rcases h with h | h | h
  · omega
  · omega
  · have e : ((t.toNat : Int) - 48).toNat = t.toNat - 48 := by omega
    rw [e]
    have e2 : (#[Value.int .i64 1, .int .i64 4, .int .i64 3, .int .i64 5, .int .i64 5, .int .i64 2, .int .i64 5] : Array Value) = (#[1, 4, 3, 5, 5, 2, 5] : Array Int).map (fun n => .int .i64 n) := by simp
    rw [e2, Array.getElem?_map, h]; rfl
theorem ref_S {u : World} {gT g19 g24 : Nat} {x : ApIn} {S N : Int} (hT : Blk u gT 34 #[.string x.h.name, .string x.h.link, .int .i64 x.h.mode, .int .i64 x.h.uid, .int .i64 x.h.gid, .int .i64 x.h.size, .int .i64 x.h.mtime, .int .u8 x.h.type.toNat, .string x.h.user, .string x.h.group, .int .i64 x.h.major, .int .i64 x.h.minor, .int .i64 x.h.form]) (h19 : Blk u g19 24 #[.int .i64 S, .int .i64 N]) (hA : Blk u g24 73 #[.int .i64 1, .int .i64 4, .int .i64 3, .int .i64 5, .int .i64 5, .int .i64 2, .int .i64 5])
    (h1 : (48 : Int) ≤ ((x.h.type.toNat : Nat) : Int)) (h2 : ((x.h.type.toNat : Nat) : Int) ≤ 54) :
    u.cell? ⟨gT, 7, none⟩ = some (.int .u8 x.h.type.toNat) ∧ u.cell? ⟨gT, 2, none⟩ = some (.int .i64 x.h.mode) ∧ u.cell? ⟨g19, 0, none⟩ = some (.int .i64 S) ∧ u.cell? ⟨g19, 1, none⟩ = some (.int .i64 N) ∧ u.cell? ⟨g24, ((x.h.type.toNat : Int) - 48).toNat, none⟩ = some (.int .i64 (kindT x.h.type)) :=
  ⟨hT.cell 7, hT.cell 2, h19.cell 0, h19.cell 1, (hA.cell _).trans (kinds_at h1 h2)⟩
theorem idx7 (g : Nat) (J : Int) (w : World) (h0 : 0 ≤ J) (h1 : J < 7) : (Instr.indexAt 73 (.pointer (some ⟨g, 0, none⟩)) (.int .i64 J)).run Tryd.prog w = .ok (.pointer (some ⟨g, J.toNat, none⟩)) w := by
  simp [Instr.indexAt, Sem.run_bind, go_sem, h0, h1]
theorem ref_Sj {u : World} {gT g19 g24 : Nat} {x : ApIn} {S N : Int} (j : Nat) (K : Int) (hT : Blk u gT 34 #[.string x.h.name, .string x.h.link, .int .i64 x.h.mode, .int .i64 x.h.uid, .int .i64 x.h.gid, .int .i64 x.h.size, .int .i64 x.h.mtime, .int .u8 x.h.type.toNat, .string x.h.user, .string x.h.group, .int .i64 x.h.major, .int .i64 x.h.minor, .int .i64 x.h.form]) (h19 : Blk u g19 24 #[.int .i64 S, .int .i64 N]) (hA : u.cell? ⟨g24, j, none⟩ = some (.int .i64 K)) :
    u.cell? ⟨gT, 7, none⟩ = some (.int .u8 x.h.type.toNat) ∧ u.cell? ⟨gT, 2, none⟩ = some (.int .i64 x.h.mode) ∧ u.cell? ⟨g19, 0, none⟩ = some (.int .i64 S) ∧ u.cell? ⟨g19, 1, none⟩ = some (.int .i64 N) ∧ u.cell? ⟨g24, j, none⟩ = some (.int .i64 K) :=
  ⟨hT.cell 7, hT.cell 2, h19.cell 0, h19.cell 1, hA⟩
theorem ref_S6 {a b c d e f : Prop} (h : a ∧ b ∧ c ∧ d ∧ e) (h' : f) : a ∧ b ∧ c ∧ d ∧ e ∧ f := ⟨h.1, h.2.1, h.2.2.1, h.2.2.2.1, h.2.2.2.2, h'⟩
theorem wp_one {P : Program} {c : Code} {w : World} {a : Act} {Q : Exit → Act → World → Prop} {A : Act} {U : World} (hone : c.wp P (fun e b u => e = Exit.normal ∧ b = A ∧ u = U) a w) (kone : Q .normal A U) : c.wp P Q a w :=
  Code.wp_mono (fun e b u h => by obtain ⟨rfl, rfl, rfl⟩ := h; exact kone) hone
theorem refName {A A' : Option Addr} {n c n' c' : Nat} (x : ApIn) (w : World) (h : Row Shape.PairD w (Old w) A n x.g) (h' : Row Shape.PairD w (Old w) A' n' x.l) (hn : n ≤ 140737488355328) (hn' : n' ≤ 140737488355328) :
    Calls Tryd.prog 45 #[.slice A n c, .slice A' n' c', .string kPath, .string x.ln, .string x.h.name] w fun e w' => e = .returned (.string x.name) ∧ w' = w := refText kPath x.ln x.h.name w h h' hn hn'
theorem refUser {A A' : Option Addr} {n c n' c' : Nat} (x : ApIn) (w : World) (h : Row Shape.PairD w (Old w) A n x.g) (h' : Row Shape.PairD w (Old w) A' n' x.l) (hn : n ≤ 140737488355328) (hn' : n' ≤ 140737488355328) :
    Calls Tryd.prog 45 #[.slice A n c, .slice A' n' c', .string kUname, .string noB, .string x.h.user] w fun e w' => e = .returned (.string x.user) ∧ w' = w := refText kUname noB x.h.user w h h' hn hn'
theorem refGroup {A A' : Option Addr} {n c n' c' : Nat} (x : ApIn) (w : World) (h : Row Shape.PairD w (Old w) A n x.g) (h' : Row Shape.PairD w (Old w) A' n' x.l) (hn : n ≤ 140737488355328) (hn' : n' ≤ 140737488355328) :
    Calls Tryd.prog 45 #[.slice A n c, .slice A' n' c', .string kGname, .string noB, .string x.h.group] w fun e w' => e = .returned (.string x.group) ∧ w' = w := refText kGname noB x.h.group w h h' hn hn'
theorem at_load {P : Program} {ops : Array Oper} {Q : Exit → Act → World → Prop} {o : Oper} {rest : List Oper} {a : Act} {w : World} {ty : TypeId} {x : Operand} (ho : o.op = .load ty x) (h : wpList P ops Q (o :: rest) a w) : wpList P ops Q (o :: rest) a w := h
theorem at_store {P : Program} {ops : Array Oper} {Q : Exit → Act → World → Prop} {o : Oper} {rest : List Oper} {a : Act} {w : World} {ty : TypeId} {x y : Operand} (ho : o.op = .store ty x y) (h : wpList P ops Q (o :: rest) a w) : wpList P ops Q (o :: rest) a w := h
set_option maxRecDepth 100000 in
theorem store_kind {w : World} {g : Nat} {t : TypeId} {cs : Array Value} (hb : Blk w g t cs) (hi : 0 < cs.size) : (Instr.storeAt 3 (.pointer (some ⟨g, 0, none⟩)) (.int .i64 2)).run Tryd.prog w = .ok () (w.setCell ⟨g, 0, none⟩ (.int .i64 2)) := by
  have h0 : w.cell? ⟨g, 0, none⟩ = some cs[0] := by rw [hb.cell, Array.getElem?_eq_getElem hi]
  have h1 := hb.frozen 0
  have h2 := hb.lt
  go_simp
set_option maxRecDepth 100000 in
theorem wpList_store_kind {ops : Array Oper} {Q : Exit → Act → World → Prop} {o : Oper} {rest : List Oper} {a : Act} {w : World} {g : Nat} {t : TypeId} {cs : Array Value} (hgd : o.guard = none) (x : Operand) (ho : o.op = .store 3 x (.const (.int .i64 2))) (hx : a.eval x = .pointer (some ⟨g, 0, none⟩)) (hb : Blk w g t cs) (hi : 0 < cs.size)
    (h : ∀ w', Blk w' g t (cs.setIfInBounds 0 (.int .i64 2)) → w.grownBy w' (some g) → wpList Tryd.prog ops Q rest (a.put o.dst undef) w') : wpList Tryd.prog ops Q (o :: rest) a w := by
  refine wpList_plain hgd fun K' hK' => ?_
  have hrun := store_kind hb hi
  have hy : a.eval (.const (.int .i64 2)) = .int .i64 2 := rfl
  unfold Oper.wp
  simp [execOp, ho, hx, hy, hrun, Result.andThen]
  exact hK' _ _ (h _ (hb.set_ 0 _) ⟨rfl, rfl, rfl, by simp, fun n _ hn => Below.heap_setCell w ⟨g, 0, none⟩ _ n (fun e => hn (by rw [e]))⟩)
theorem suff_nil : Lib.hasSuffix [] [47] = false := rfl
theorem suff_last {l : List UInt8} (h : 0 < l.length) : Lib.hasSuffix l [47] = decide (l[l.length - 1]'(by omega) = 47) := by
  unfold Lib.hasSuffix
  have e : l = l.dropLast ++ [l[l.length - 1]'(by omega)] := by
    have := List.dropLast_concat_getLast (List.ne_nil_of_length_pos h)
    rw [List.getLast_eq_getElem] at this
    exact this.symm
  rw [Bool.eq_iff_iff, List.isSuffixOf_iff_suffix, decide_eq_true_eq]
  constructor
  · rintro ⟨t, ht⟩
    have : l.getLast? = some 47 := by rw [← ht]; simp
    rw [List.getLast?_eq_getElem?, List.getElem?_eq_getElem (by omega)] at this
    injection this
  · intro h2
    rw [h2] at e
    exact ⟨l.dropLast, e.symm⟩
end Go.Proofs.YtnadldcdckjifaaDoor
namespace Go.Proofs.YtnadldcdckjifaaDoor
open Go.RowKit
set_option linter.unusedVariables false
set_option linter.unusedSimpArgs false
attribute [local go_sem] cell?_over frozen?_over lt_over le_over lt2 lt3 lt4

set_option maxHeartbeats 4000000 in
set_option maxRecDepth 100000 in
theorem ovRef_bad {x : ApIn} {A A' : Option Addr} {n c n' c' : Nat} (w : World) (ho : ApOk x w A A' n n') (hx : x.typeBad = false) (hs : x.sparseBad = false) (hnum : Hid (x.numBad = true)) :
    Calls Tryd.prog 21 (x.args A A' n c n' c') w fun e w' => e = .returned x.res ∧ Below w.heap.size w w' := by
  have h12 := type_ok hx
  obtain ⟨h1, h2⟩ := h12
  have hgs : sparseL x.g = false := by unfold ApIn.sparseBad at hs; simp only [Bool.or_eq_false_iff] at hs; exact hs.1
  have hls : sparseL x.l = false := by unfold ApIn.sparseBad at hs; simp only [Bool.or_eq_false_iff] at hs; exact hs.2
  have HGS := Lib.hid hgs; have HLS := Lib.hid hls
  have HRES := Lib.hid (show x.res = if x.numBad then .tuple #[.agg ent0, .int .i64 0, .int .i64 60] else if x.timeBad then .tuple #[.agg ent0, .int .i64 0, .int .i64 60] else .tuple #[.agg x.ent, .int .i64 x.size, .int .i64 0] by unfold ApIn.res; rw [hx, hs]; rfl)
  clear hgs hls hx hs
  unfold ApIn.args HeaderD.cells
  have HT := Lib.hid ((Blk.new w 34 #[.string x.h.name, .string x.h.link, .int .i64 x.h.mode, .int .i64 x.h.uid, .int .i64 x.h.gid, .int .i64 x.h.size, .int .i64 x.h.mtime, .int .u8 x.h.type.toNat, .string x.h.user, .string x.h.group, .int .i64 x.h.major, .int .i64 x.h.minor, .int .i64 x.h.form]).alloc (.cells #[.int .i64 0, .string ⟨#[]⟩, .string ⟨#[]⟩, .int .i64 0, .int .i64 0, .int .i64 0, .string ⟨#[]⟩, .string ⟨#[]⟩, .int .i64 0, .int .i64 0, .slice none 0 0] 41))
  have HBk := Lib.hid (blk_second w 34 41 #[.string x.h.name, .string x.h.link, .int .i64 x.h.mode, .int .i64 x.h.uid, .int .i64 x.h.gid, .int .i64 x.h.size, .int .i64 x.h.mtime, .int .u8 x.h.type.toNat, .string x.h.user, .string x.h.group, .int .i64 x.h.major, .int .i64 x.h.minor, .int .i64 x.h.form] #[.int .i64 0, .string ⟨#[]⟩, .string ⟨#[]⟩, .int .i64 0, .int .i64 0, .int .i64 0, .string ⟨#[]⟩, .string ⟨#[]⟩, .int .i64 0, .int .i64 0, .slice none 0 0])
  have HA := Lib.hid (show Below w.heap.size w ((w.alloc (.cells #[.string x.h.name, .string x.h.link, .int .i64 x.h.mode, .int .i64 x.h.uid, .int .i64 x.h.gid, .int .i64 x.h.size, .int .i64 x.h.mtime, .int .u8 x.h.type.toNat, .string x.h.user, .string x.h.group, .int .i64 x.h.major, .int .i64 x.h.minor, .int .i64 x.h.form] 34)).alloc (.cells #[.int .i64 0, .string ⟨#[]⟩, .string ⟨#[]⟩, .int .i64 0, .int .i64 0, .int .i64 0, .string ⟨#[]⟩, .string ⟨#[]⟩, .int .i64 0, .int .i64 0, .slice none 0 0] 41)) by go_grown)
  go_enter Tryd.func21, Tryd.ntmps21
  go_wp2_with fail
  have hsz2 : ((w.alloc (.cells #[.string x.h.name, .string x.h.link, .int .i64 x.h.mode, .int .i64 x.h.uid, .int .i64 x.h.gid, .int .i64 x.h.size, .int .i64 x.h.mtime, .int .u8 x.h.type.toNat, .string x.h.user, .string x.h.group, .int .i64 x.h.major, .int .i64 x.h.minor, .int .i64 x.h.form] 34)).alloc (.cells #[.int .i64 0, .string ⟨#[]⟩, .string ⟨#[]⟩, .int .i64 0, .int .i64 0, .int .i64 0, .string ⟨#[]⟩, .string ⟨#[]⟩, .int .i64 0, .int .i64 0, .slice none 0 0] 41)).heap.size = w.heap.size + 2 := by simp
  have HSZ2 := Lib.hid hsz2
  clear hsz2
  generalize ((w.alloc (.cells #[.string x.h.name, .string x.h.link, .int .i64 x.h.mode, .int .i64 x.h.uid, .int .i64 x.h.gid, .int .i64 x.h.size, .int .i64 x.h.mtime, .int .u8 x.h.type.toNat, .string x.h.user, .string x.h.group, .int .i64 x.h.major, .int .i64 x.h.minor, .int .i64 x.h.form] 34)).alloc (.cells #[.int .i64 0, .string ⟨#[]⟩, .string ⟨#[]⟩, .int .i64 0, .int .i64 0, .int .i64 0, .string ⟨#[]⟩, .string ⟨#[]⟩, .int .i64 0, .int .i64 0, .slice none 0 0] 41)) = w2 at *
  refine (refSparse _ (ho.g.below HA.out) ho.n).mono ?_
  rintro e w3 ⟨rfl, rfl⟩
  rw [HGS.out]
  go_wp2_with fail
  refine (refSparse _ (ho.l.below HA.out) ho.n').mono ?_
  rintro e w4 ⟨rfl, rfl⟩
  rw [HLS.out]
  have kk := hd_cells HT.out
  obtain ⟨k0, k1, k2, k3, k4, k5, k6, k7, k8, k9⟩ := kk
  have ltT := HT.out.lt
  go_wp2_with fail
  refine (refNumber kSize x.h.size _ _ (ho.g.below HA.out) (ho.l.below HA.out) ho.n ho.n' (ho.v _)).mono ?_
  rintro e w5 ⟨rfl, rfl⟩
  go_wp2_with fail
  refine (refNumber kUid x.h.uid _ _ (ho.g.below HA.out) (ho.l.below HA.out) ho.n ho.n' (ho.v _)).mono ?_
  rintro e w5 ⟨rfl, rfl⟩
  go_wp2_with fail
  refine (refNumber kGid x.h.gid _ _ (ho.g.below HA.out) (ho.l.below HA.out) ho.n ho.n' (ho.v _)).mono ?_
  rintro e w5 ⟨rfl, rfl⟩
  have HNB : Hid (x.numBad = (!(numOk (x.v kSize) 9223372036854775807) || !(numOk (x.v kUid) 2147483647) || !(numOk (x.v kGid) 2147483647))) := Lib.hid rfl
  have HENT : Hid (x.ent = entCells x.kind x.name x.link x.mode (numN (x.v kUid) x.h.uid) (numN (x.v kGid) x.h.gid) x.user x.group x.sec x.nano) := Lib.hid rfl
  have HSIZ : Hid (x.size = if x.h.type = 48 then numN (x.v kSize) x.h.size else 0) := Lib.hid rfl
  have eV : ∀ k, foundV x.g x.l k = x.v k := fun _ => rfl
  simp only [eV]
  clear eV
  generalize numN (x.v kSize) x.h.size = N1 at *
  generalize numN (x.v kUid) x.h.uid = N2 at *
  generalize numN (x.v kGid) x.h.gid = N3 at *
  generalize numOk (x.v kSize) 9223372036854775807 = B1 at *
  generalize numOk (x.v kUid) 2147483647 = B2 at *
  generalize numOk (x.v kGid) 2147483647 = B3 at *
  rcases B1 with _ | _
  · go_wp2_with (first | (refine wpList_store_blk rfl 41 (.tmp 10) (.tmp 76) rfl _ rfl HBk.out rfl (by kernel_rfl) rfl rfl ?_; intro u2 b3 hg3; replace HBk := Lib.hid b3; replace HA := Lib.hid (HA.out.grown hg3 HA.out.size (fun k hk => by injection hk with hk; omega)); clear b3 hg3))
    refine ret_blk_tmp2 (cs := ent0) rfl rfl HBk.out whole_Ent rfl rfl rfl ⟨by rw [HRES.out, HNB.out]; rfl, HA.out⟩
  rcases B2 with _ | _
  · go_wp2_with (first | (refine wpList_store_blk rfl 41 (.tmp 10) (.tmp 76) rfl _ rfl HBk.out rfl (by kernel_rfl) rfl rfl ?_; intro u2 b3 hg3; replace HBk := Lib.hid b3; replace HA := Lib.hid (HA.out.grown hg3 HA.out.size (fun k hk => by injection hk with hk; omega)); clear b3 hg3))
    refine ret_blk_tmp2 (cs := ent0) rfl rfl HBk.out whole_Ent rfl rfl rfl ⟨by rw [HRES.out, HNB.out]; rfl, HA.out⟩
  rcases B3 with _ | _
  · go_wp2_with (first | (refine wpList_store_blk rfl 41 (.tmp 10) (.tmp 76) rfl _ rfl HBk.out rfl (by kernel_rfl) rfl rfl ?_; intro u2 b3 hg3; replace HBk := Lib.hid b3; replace HA := Lib.hid (HA.out.grown hg3 HA.out.size (fun k hk => by injection hk with hk; omega)); clear b3 hg3))
    refine ret_blk_tmp2 (cs := ent0) rfl rfl HBk.out whole_Ent rfl rfl rfl ⟨by rw [HRES.out, HNB.out]; rfl, HA.out⟩
  have := HNB.out
  rw [hnum.out] at this
  cases this
end Go.Proofs.YtnadldcdckjifaaDoor
