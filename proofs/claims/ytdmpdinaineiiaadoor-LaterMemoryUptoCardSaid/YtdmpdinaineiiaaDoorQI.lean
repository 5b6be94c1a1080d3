/- A queue of later's, its values int: New, Len, Put, Get. No condition but room and the table of powers of ten. -/
import Derived.Test.YtdmpdinaineiiaaDoorQueue
namespace Go.Proofs.YtdmpdinaineiiaaDoor
open Go.RowKit
set_option linter.unusedVariables false
set_option linter.unusedSimpArgs false
attribute [local go_sem] cell?_over frozen?_over lt_over le_over
def cvI (x : QV) : Value := .agg #[.slice x.A x.n x.c, .int .i64 x.d.v]
abbrev QuI (w : World) (X : List Nat) (q b : Nat) (kv : KV) : Prop := Qu cvI 63 w X q b kv
def NewI (w : World) (e : Ending) (w' : World) : Prop := ∃ q b, e = .returned (.pointer (some ⟨q, 0, none⟩)) ∧ Below w.heap.size w w' ∧ QuI w' [b] q b [] ∧ w.heap.size ≤ b ∧ w.heap.size ≤ q
theorem newI (w : World) : Calls Tryd.prog 8 #[] w (NewI w) := by
  have hmm := @run_makeMap Tryd.prog
  go_enter Tryd.func8, Tryd.ntmps8
  go_wp2_with fail
  go_ret
  have e1 : (w.alloc (.map #[] 0)).heap.size = w.heap.size + 1 := by simp
  have hb := Blk.new (w.alloc (.map #[] 0)) 63 #[.map (some w.heap.size)]
  rw [e1] at hb
  have hmp := (IsMap.new keyK cvI w).alloc (.cells #[.map (some w.heap.size)] 63)
  refine ⟨w.heap.size + 1, w.heap.size, by first | rfl | simp, ?_, ⟨hb, hmp, (fun p hp => by cases hp), (by simp), fun k hk => ?_⟩, Nat.le_refl _, by omega⟩
  · go_grown
  · rw [List.mem_singleton] at hk; subst hk; simp; omega
theorem undI : Tryd.prog.underlying 61 = some (.map keyK.ty 38) := Tryd.underlying61
theorem lenI {w : World} {X : List Nat} {q b : Nat} {kv : KV} (h : QuI w X q b kv) :
    Calls Tryd.prog 19 #[.pointer (some ⟨q, 0, none⟩)] w fun e w' => e = .returned (.int .i64 kv.length) ∧ w = w' := by
  have c0 : w.cell? ⟨q, 0, none⟩ = some (.map (some b)) := h.blk.cell 0
  have ltq := h.blk.lt
  have HM := Lib.hid h.map
  clear h
  have hlen := run_len_map (ty := 3) undI HM.out
  go_enter Tryd.func19, Tryd.ntmps19
  go_wp2_with fail
  go_ret
  exact ⟨by simp, rfl⟩
def PutI (w : World) (X : List Nat) (q b : Nat) (kv : KV) (d : ItemD) (e : Ending) (w' : World) : Prop := ∃ x : QV, x.d = d ∧ e = .returned (.tuple #[]) ∧ w.grownBy w' (some b) ∧ QuI w' X q b (putKv kv (keyS d.parts) x)
set_option maxHeartbeats 1000000 in
set_option maxRecDepth 100000 in
theorem putI {w : World} {X : List Nat} {q b : Nat} {kv : KV} (hq : QuI w X q b kv) {A : Option Addr} {n c : Nat} {l : List ByteArray} (v : Int) (h : Row Shape.str w (Old w) A n l) (hs : sizeAll l ≤ 1048576) (hi : I64 v) (hp : Pow10 w) :
    Calls Tryd.prog 10 #[.pointer (some ⟨q, 0, none⟩), .slice A n c, .int .i64 v] w (PutI w X q b kv ⟨l, v⟩) := by
  have hn : n ≤ 1048576 := by have := len_bulk Shape.str l; have := h.1; unfold sizeAll at hs; omega
  have HQ := Lib.hid hq
  have R := Lib.hid h
  clear h hq
  go_enter Tryd.func10, Tryd.ntmps10
  go_wp2_with fail
  obtain ⟨u, hu⟩ : ∃ u, u = w := ⟨_, rfl⟩
  have hbw : Below w.heap.size w u := by rw [hu]; exact Below.refl _ _
  rw [← hu]
  have HU := Lib.hid hu
  clear hu
  replace R := Lib.hid (R.out.below hbw)
  replace HQ := Lib.hid (HQ.out.below hbw)
  have P1 := Lib.hid (hp.keep hbw)
  have c0 : u.cell? ⟨q, 0, none⟩ = some (.map (some b)) := HQ.out.blk.cell 0
  have ltq := HQ.out.blk.lt
  have ltb := HQ.out.map.lt
  have HBW := Lib.hid hbw
  clear hbw hp
  refine wp_region_grow_t [(5, Made.one (.string (keyS l))), (7, madeTxt l u.heap.size)] 10 _ rfl (by kernel_rfl) [5, 7] rfl (by kernel_rfl) (stays_cons (one_stays _) (stays_cons (txt_stays _ _) stays_nil)) ?_
  simp only [List.take_succ_cons, List.take_zero, List.drop_succ_cons, List.drop_zero]
  repeat (first
    | (refine g_w rfl ?_ (fun W => ?_) ?_; rotate_left; (focus (go_simp; (try with_reducible rfl); done)); simp only [Act.put, List.setIfInBounds_toArray, List.set_cons_zero, List.set_cons_succ])
    | (refine g_d rfl (by kernel_rfl) ?_ (fun δ => ?_) ?_; rotate_left; (focus (go_simp; (try with_reducible rfl); done)); simp only [Act.put, List.setIfInBounds_toArray, List.set_cons_zero, List.set_cons_succ]))
  refine g_call rfl ?_ ?_ (fun W => ?_) ?_ ?_
  rotate_left 2
  · go_simp; (constructor <;> with_reducible rfl)
  · intro δ hF
    refine (keyT _ (R.out.below (below_over u δ)) hs (P1.out.keep (below_over u δ))).mono ?_
    rintro e w' ⟨rfl, hb⟩
    exact ⟨(), rfl, hb, trivial⟩
  rintro ⟨⟩
  simp only [Act.put, List.setIfInBounds_toArray, List.set_cons_zero, List.set_cons_succ, enc_one, enc_txt]
  repeat (first
    | (refine g_w rfl ?_ (fun W => ?_) ?_; rotate_left; (focus (go_simp; (try with_reducible rfl); done)); simp only [Act.put, List.setIfInBounds_toArray, List.set_cons_zero, List.set_cons_succ])
    | (refine g_d rfl (by kernel_rfl) ?_ (fun δ => ?_) ?_; rotate_left; (focus (go_simp; (try with_reducible rfl); done)); simp only [Act.put, List.setIfInBounds_toArray, List.set_cons_zero, List.set_cons_succ]))
  refine g_call rfl ?_ ?_ (fun W => ?_) ?_ ?_
  rotate_left 2
  · go_simp; (constructor <;> with_reducible rfl)
  · intro δ hF
    refine (cloneTexts _ (R.out.below (below_over u δ)) (by omega)).mono ?_
    rintro e u4 ⟨v4, δ4, rfl, hw4, hown4⟩
    obtain ⟨x, rfl, hx⟩ := txt_of_own (n := u.heap.size) hown4 (size_over_le _ _)
    exact ⟨x, rfl, below_of hw4, hx⟩
  rintro ⟨A4, c4⟩
  simp only [Act.put, List.setIfInBounds_toArray, List.set_cons_zero, List.set_cons_succ, enc_one, enc_txt]
  repeat (first
    | (refine g_w rfl ?_ (fun W => ?_) ?_; rotate_left; (focus (go_simp; (try with_reducible rfl); done)); simp only [Act.put, List.setIfInBounds_toArray, List.set_cons_zero, List.set_cons_succ])
    | (refine g_d rfl (by kernel_rfl) ?_ (fun δ => ?_) ?_; rotate_left; (focus (go_simp; (try with_reducible rfl); done)); simp only [Act.put, List.setIfInBounds_toArray, List.set_cons_zero, List.set_cons_succ]))
  refine g_end fun δ hF => ?_
  have h7 : l.length ≤ c4 ∧ c4 ≤ maxLen ∧ Row Shape.str (over u δ) (From u.heap.size (over u δ)) A4 l.length l := hF 7
  have HQ2 := Lib.hid (HQ.out.below (below_over u δ))
  clear hF
  refine endT_mapUpdate _ _ _ 61 rfl undI HQ2.out.map (keyS l) ⟨A4, l.length, c4, ⟨l, v⟩⟩ rfl rfl rfl (fun w' hm' ho => ?_)
  simp only [Act.put, List.setIfInBounds_toArray, List.set_cons_zero, List.set_cons_succ]
  repeat (refine g_tail ?_ ?_ ?_; rotate_left; (focus (go_simp; (try with_reducible rfl); done)); simp only [Act.put, List.setIfInBounds_toArray, List.set_cons_zero, List.set_cons_succ])
  refine g_tail_end ?_
  have hx : QV.ok ⟨A4, l.length, c4, ⟨l, v⟩⟩ (over u δ) (Out X (over u δ)) :=
    ⟨h7.2.2.more fun n hn => ⟨hn.2, fun e => by have := HQ.out.low n e; have := hn.1; omega⟩, h7.1, h7.2.1, hi, hs⟩
  have HQ3 := Lib.hid (HQ2.out.put ho hm' rfl hx HQ2.out.qb)
  have hg : w.grownBy w' (some b) := ⟨ho.os.trans ((below_old HBW.out (below_over u δ)).os), ho.tape.trans ((below_old HBW.out (below_over u δ)).tape), ho.output.trans ((below_old HBW.out (below_over u δ)).output), Nat.le_trans ((below_old HBW.out (below_over u δ)).size) (Nat.le_of_eq ho.size.symm), fun k hk hne => (ho.block k (fun e => hne (by rw [e]))).trans ((below_old HBW.out (below_over u δ)).block k hk)⟩
  have HG := Lib.hid hg
  clear hg hx h7 hm' ho
  go_wp2_with fail
  go_end0
  try (obtain rfl := HU.out)
  exact ⟨⟨A4, l.length, c4, ⟨l, v⟩⟩, rfl, by first | rfl | simp, HG.out, HQ3.out⟩
set_option maxHeartbeats 1000000 in
set_option maxRecDepth 100000 in
theorem getI_some {w : World} {X : List Nat} {q b : Nat} {kv : KV} (hq : QuI w X q b kv) {A : Option Addr} {n c : Nat} {l : List ByteArray} {y : QV} (hgv : getKv kv (keyS l) = some y) (h : Row Shape.str w (Old w) A n l) (hs : sizeAll l ≤ 1048576) (hp : Pow10 w) :
    Calls Tryd.prog 15 #[.pointer (some ⟨q, 0, none⟩), .slice A n c] w fun e w' => e = .returned (.tuple #[.int .i64 y.d.v, .bool true]) ∧ Below w.heap.size w w' := by
  replace hgv := Lib.hid hgv
  have HQ := Lib.hid hq
  have R := Lib.hid h
  clear h hq
  go_enter Tryd.func15, Tryd.ntmps15
  go_wp2_with fail
  obtain ⟨u, hu⟩ : ∃ u, u = w := ⟨_, rfl⟩
  have hbw : Below w.heap.size w u := by rw [hu]; exact Below.refl _ _
  rw [← hu]
  have HU := Lib.hid hu
  clear hu
  replace R := Lib.hid (R.out.below hbw)
  replace HQ := Lib.hid (HQ.out.below hbw)
  have P1 := Lib.hid (hp.keep hbw)
  have c0 : u.cell? ⟨q, 0, none⟩ = some (.map (some b)) := HQ.out.blk.cell 0
  have ltq := HQ.out.blk.lt
  have HBW := Lib.hid hbw
  clear hbw hp
  refine wp_region_grow_t [(5, Made.one (.string (keyS l))), (10, Made.blk 38 #[.slice none 0 0, .int .i64 0] u.heap.size)] 11 _ rfl (by kernel_rfl) [5, 10] rfl (by kernel_rfl) (stays_cons (one_stays _) (stays_cons (blk_stays _ _ _) stays_nil)) ?_
  simp only [List.take_succ_cons, List.take_zero, List.drop_succ_cons, List.drop_zero]
  repeat (first
    | (refine g_w rfl ?_ (fun W => ?_) ?_; rotate_left; (focus (go_simp; (try with_reducible rfl); done)); simp only [Act.put, List.setIfInBounds_toArray, List.set_cons_zero, List.set_cons_succ])
    | (refine g_d rfl (by kernel_rfl) ?_ (fun δ => ?_) ?_; rotate_left; (focus (go_simp; (try with_reducible rfl); done)); simp only [Act.put, List.setIfInBounds_toArray, List.set_cons_zero, List.set_cons_succ]))
  refine g_call rfl ?_ ?_ (fun W => ?_) ?_ ?_
  rotate_left 2
  · go_simp; (constructor <;> with_reducible rfl)
  · intro δ hF
    refine (keyT _ (R.out.below (below_over u δ)) hs (P1.out.keep (below_over u δ))).mono ?_
    rintro e w' ⟨rfl, hb⟩
    exact ⟨(), rfl, hb, trivial⟩
  rintro ⟨⟩
  simp only [Act.put, List.setIfInBounds_toArray, List.set_cons_zero, List.set_cons_succ, enc_one, enc_txt]
  refine g_d rfl (by kernel_rfl) (.tuple #[.agg #[.slice y.A y.n y.c, .int .i64 y.d.v], .bool true]) (fun δ => ?_) ?_
  · have hl := run_lookup_ok undI (HQ.out.map.over_ δ) (keyS l) (z := .agg #[.slice none 0 0, .int .i64 0]) (by kernel_rfl)
    rw [hgv.out] at hl
    have hl' : (Instr.lookup 61 (.map (some b)) (.string (keyS l)) true).run Tryd.prog (over u δ) = .ok (.tuple #[.agg #[.slice y.A y.n y.c, .int .i64 y.d.v], .bool true]) (over u δ) := hl
    clear hl
    go_simp
  simp only [Act.put, List.setIfInBounds_toArray, List.set_cons_zero, List.set_cons_succ, enc_one, enc_txt]
  repeat (first
    | (refine g_w rfl ?_ (fun W => ?_) ?_; rotate_left; (focus (go_simp; (try with_reducible rfl); done)); simp only [Act.put, List.setIfInBounds_toArray, List.set_cons_zero, List.set_cons_succ])
    | (refine g_d rfl (by kernel_rfl) ?_ (fun δ => ?_) ?_; rotate_left; (focus (go_simp; (try with_reducible rfl); done)); simp only [Act.put, List.setIfInBounds_toArray, List.set_cons_zero, List.set_cons_succ]))
  refine g_alloc rfl (Nat.le_refl _) (fun W => ?_) (fun gE => ?_)
  · go_simp
  simp only [Act.put, List.setIfInBounds_toArray, List.set_cons_zero, List.set_cons_succ, enc_one, enc_txt]
  repeat (first
    | (refine g_w rfl ?_ (fun W => ?_) ?_; rotate_left; (focus (go_simp; (try with_reducible rfl); done)); simp only [Act.put, List.setIfInBounds_toArray, List.set_cons_zero, List.set_cons_succ])
    | (refine g_d rfl (by kernel_rfl) ?_ (fun δ => ?_) ?_; rotate_left; (focus (go_simp; (try with_reducible rfl); done)); simp only [Act.put, List.setIfInBounds_toArray, List.set_cons_zero, List.set_cons_succ]))
  refine g_end fun δ hF => ?_
  have h10 : Blk (over u δ) gE 38 #[.slice none 0 0, .int .i64 0] ∧ u.heap.size ≤ gE := hF 10
  clear hF
  refine endT_store 38 _ _ rfl gE rfl h10.1 rfl (by kernel_rfl) rfl rfl (fun w5 hE hgr hsz => ?_)
  simp only [Act.put, List.setIfInBounds_toArray, List.set_cons_zero, List.set_cons_succ]
  repeat (refine g_tail ?_ ?_ ?_; rotate_left; (focus (go_simp; (try with_reducible rfl); done)); simp only [Act.put, List.setIfInBounds_toArray, List.set_cons_zero, List.set_cons_succ])
  refine g_tail_end ?_
  have hb5 : Below u.heap.size u w5 := ((below_over u δ).grown hgr (size_over_le _ _) (fun m hm => by injection hm with hm; subst hm; exact h10.2))
  have HB5 := Lib.hid (below_old HBW.out hb5)
  have HEE := Lib.hid hE
  have x1 : w5.cell? ⟨gE, 1, none⟩ = some (.int .i64 y.d.v) := HEE.out.cell 1
  have ltE := HEE.out.lt
  clear hE hgr hsz h10 c0 ltq
  go_wp2_with fail
  go_ret2
  obtain rfl := HU.out
  exact ⟨by first | rfl | simp, HB5.out⟩
set_option maxHeartbeats 1000000 in
set_option maxRecDepth 100000 in
theorem getI_none {w : World} {X : List Nat} {q b : Nat} {kv : KV} (hq : QuI w X q b kv) {A : Option Addr} {n c : Nat} {l : List ByteArray} (hgv : getKv kv (keyS l) = none) (h : Row Shape.str w (Old w) A n l) (hs : sizeAll l ≤ 1048576) (hp : Pow10 w) :
    Calls Tryd.prog 15 #[.pointer (some ⟨q, 0, none⟩), .slice A n c] w fun e w' => e = .returned (.tuple #[.int .i64 0, .bool false]) ∧ Below w.heap.size w w' := by
  replace hgv := Lib.hid hgv
  have HQ := Lib.hid hq
  have R := Lib.hid h
  clear h hq
  go_enter Tryd.func15, Tryd.ntmps15
  go_wp2_with fail
  obtain ⟨u, hu⟩ : ∃ u, u = w := ⟨_, rfl⟩
  have hbw : Below w.heap.size w u := by rw [hu]; exact Below.refl _ _
  rw [← hu]
  have HU := Lib.hid hu
  clear hu
  replace R := Lib.hid (R.out.below hbw)
  replace HQ := Lib.hid (HQ.out.below hbw)
  have P1 := Lib.hid (hp.keep hbw)
  have c0 : u.cell? ⟨q, 0, none⟩ = some (.map (some b)) := HQ.out.blk.cell 0
  have ltq := HQ.out.blk.lt
  have HBW := Lib.hid hbw
  clear hbw hp
  refine wp_region_grow_t [(5, Made.one (.string (keyS l))), (10, Made.blk 38 #[.slice none 0 0, .int .i64 0] u.heap.size)] 11 _ rfl (by kernel_rfl) [5, 10] rfl (by kernel_rfl) (stays_cons (one_stays _) (stays_cons (blk_stays _ _ _) stays_nil)) ?_
  simp only [List.take_succ_cons, List.take_zero, List.drop_succ_cons, List.drop_zero]
  repeat (first
    | (refine g_w rfl ?_ (fun W => ?_) ?_; rotate_left; (focus (go_simp; (try with_reducible rfl); done)); simp only [Act.put, List.setIfInBounds_toArray, List.set_cons_zero, List.set_cons_succ])
    | (refine g_d rfl (by kernel_rfl) ?_ (fun δ => ?_) ?_; rotate_left; (focus (go_simp; (try with_reducible rfl); done)); simp only [Act.put, List.setIfInBounds_toArray, List.set_cons_zero, List.set_cons_succ]))
  refine g_call rfl ?_ ?_ (fun W => ?_) ?_ ?_
  rotate_left 2
  · go_simp; (constructor <;> with_reducible rfl)
  · intro δ hF
    refine (keyT _ (R.out.below (below_over u δ)) hs (P1.out.keep (below_over u δ))).mono ?_
    rintro e w' ⟨rfl, hb⟩
    exact ⟨(), rfl, hb, trivial⟩
  rintro ⟨⟩
  simp only [Act.put, List.setIfInBounds_toArray, List.set_cons_zero, List.set_cons_succ, enc_one, enc_txt]
  refine g_d rfl (by kernel_rfl) (.tuple #[.agg #[.slice none 0 0, .int .i64 0], .bool false]) (fun δ => ?_) ?_
  · have hl := run_lookup_ok undI (HQ.out.map.over_ δ) (keyS l) (z := .agg #[.slice none 0 0, .int .i64 0]) (by kernel_rfl)
    rw [hgv.out] at hl
    have hl' : (Instr.lookup 61 (.map (some b)) (.string (keyS l)) true).run Tryd.prog (over u δ) = .ok (.tuple #[.agg #[.slice none 0 0, .int .i64 0], .bool false]) (over u δ) := hl
    clear hl
    go_simp
  simp only [Act.put, List.setIfInBounds_toArray, List.set_cons_zero, List.set_cons_succ, enc_one, enc_txt]
  repeat (first
    | (refine g_w rfl ?_ (fun W => ?_) ?_; rotate_left; (focus (go_simp; (try with_reducible rfl); done)); simp only [Act.put, List.setIfInBounds_toArray, List.set_cons_zero, List.set_cons_succ])
    | (refine g_d rfl (by kernel_rfl) ?_ (fun δ => ?_) ?_; rotate_left; (focus (go_simp; (try with_reducible rfl); done)); simp only [Act.put, List.setIfInBounds_toArray, List.set_cons_zero, List.set_cons_succ]))
  refine g_alloc rfl (Nat.le_refl _) (fun W => ?_) (fun gE => ?_)
  · go_simp
  simp only [Act.put, List.setIfInBounds_toArray, List.set_cons_zero, List.set_cons_succ, enc_one, enc_txt]
  repeat (first
    | (refine g_w rfl ?_ (fun W => ?_) ?_; rotate_left; (focus (go_simp; (try with_reducible rfl); done)); simp only [Act.put, List.setIfInBounds_toArray, List.set_cons_zero, List.set_cons_succ])
    | (refine g_d rfl (by kernel_rfl) ?_ (fun δ => ?_) ?_; rotate_left; (focus (go_simp; (try with_reducible rfl); done)); simp only [Act.put, List.setIfInBounds_toArray, List.set_cons_zero, List.set_cons_succ]))
  refine g_end fun δ hF => ?_
  have h10 : Blk (over u δ) gE 38 #[.slice none 0 0, .int .i64 0] ∧ u.heap.size ≤ gE := hF 10
  clear hF
  refine endT_store 38 _ _ rfl gE rfl h10.1 rfl (by kernel_rfl) rfl rfl (fun w5 hE hgr hsz => ?_)
  simp only [Act.put, List.setIfInBounds_toArray, List.set_cons_zero, List.set_cons_succ]
  repeat (refine g_tail ?_ ?_ ?_; rotate_left; (focus (go_simp; (try with_reducible rfl); done)); simp only [Act.put, List.setIfInBounds_toArray, List.set_cons_zero, List.set_cons_succ])
  refine g_tail_end ?_
  have hb5 : Below u.heap.size u w5 := ((below_over u δ).grown hgr (size_over_le _ _) (fun m hm => by injection hm with hm; subst hm; exact h10.2))
  have HB5 := Lib.hid (below_old HBW.out hb5)
  have HEE := Lib.hid hE
  have x1 : w5.cell? ⟨gE, 1, none⟩ = some (.int .i64 0) := HEE.out.cell 1
  have ltE := HEE.out.lt
  clear hE hgr hsz h10 c0 ltq
  go_wp2_with fail
  go_ret2
  obtain rfl := HU.out
  exact ⟨by first | rfl | simp, HB5.out⟩
end Go.Proofs.YtdmpdinaineiiaaDoor
