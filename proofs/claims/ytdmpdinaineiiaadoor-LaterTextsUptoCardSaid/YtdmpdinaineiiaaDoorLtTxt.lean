/- LaterTexts: its walk. No condition but room and the table of powers of ten. -/
import Derived.Test.YtdmpdinaineiiaaDoorLtLib
import Derived.Test.YtdmpdinaineiiaaDoorDM
import Derived.Test.YtdmpdinaineiiaaDoorDS
import Derived.Test.YtdmpdinaineiiaaDoorTM
namespace Go.Proofs.YtdmpdinaineiiaaDoor
open Go.RowKit
set_option linter.unusedVariables false
set_option linter.unusedSimpArgs false
attribute [local go_sem] cell?_over frozen?_over lt_over le_over
theorem SliceRd.row_of {α : Type} {s : Shape α} {w : World} {M : Nat → Prop} {A : Option Addr} {n c : Nat} {l : List α} (h : SliceRd s w M (.slice A n c) l) : Row s w M A n l := by
  obtain ⟨A', n', c', e, _, _, hr⟩ := h
  injection e with e1 e2 e3
  subst e1 e2
  exact hr
theorem qu_nil {cv : QV → Value} {qt : TypeId} {w : World} {X : List Nat} {q b g : Nat} (h : Qu cv qt w X q b []) (hg : g < w.heap.size) : Qu cv qt w (X ++ [g]) q b [] :=
  ⟨h.blk, h.map, (fun p hp => by cases hp), List.mem_append_left _ h.bX, fun k hk => by
    rcases List.mem_append.1 hk with hk | hk
    · exact h.low k hk
    · rw [List.mem_singleton] at hk; subst hk; exact hg⟩
theorem row_own_ne {w : World} {base g c b : Nat} {l : List ByteArray} (h : Own Shape.str 9 w base (fun _ => False) (.slice (some ⟨g, 0, none⟩) l.length c) l) (hb : g ≠ b) : Row Shape.str w (Out [b] w) (some ⟨g, 0, none⟩) l.length l := by
  obtain ⟨A', n', c', e, _, _, hr⟩ := h.rd
  injection e with e1 e2 e3
  subst e1 e2
  have hlt := (h.lt g rfl).2
  refine hr.more fun n hn => ?_
  rcases hn with hn | hn
  · exact hn.elim
  · injection hn with hn
    subst hn
    exact ⟨hlt, by rw [List.mem_singleton]; exact hb⟩
def StopX (p : Prop) : Prop := p
theorem StopX.mk {p : Prop} (h : StopX p) : p := h
set_option maxHeartbeats 20000000 in
set_option maxRecDepth 100000 in
theorem ltTxt_law {A : Option Addr} {n c : Nat} {sc : List OpD} (w : World) (h : Row Shape.OpD w (Old w) A n sc) (hnc : n ≤ c) (hcm : c ≤ maxLen) (hs : ∀ o ∈ sc, sizeAll o.parts ≤ 1048576) (hp : Pow10 w) :
    Calls Tryd.prog 5 #[.slice A n c] w fun e w' => e = .returned (.bool true) ∧ Below w.heap.size w w' := by
  have H := Lib.hid h
  have HP := Lib.hid hp
  clear h hp
  go_enter Tryd.func5, Tryd.ntmps5
  go_wp2_with fail
  refine (alive21 w HP.out).mono ?_
  rintro e w1 ⟨rfl, hb1⟩
  have HB1 := Lib.hid hb1
  clear hb1
  go_wp2_with fail
  refine (newM w1).mono ?_
  rintro e w2 ⟨q, b, rfl, hb2, hQ2, hbb, hqq⟩
  have HB2 := Lib.hid (below_old HB1.out hb2)
  have hwb : w.heap.size ≤ b := Nat.le_trans HB1.out.size hbb
  have hwq : w.heap.size ≤ q := Nat.le_trans HB1.out.size hqq
  have hqb := hQ2.qb
  have Q2 := Lib.hid hQ2
  clear hb2 hQ2 HB1 hbb hqq
  go_wp2_with fail
  refine (newS w2).mono ?_
  rintro e w3 ⟨p, d, rfl, hb3, hQ3, hdd, hpp⟩
  have hbl2 := Q2.out.map.lt
  have hql2 := Q2.out.blk.lt
  have hwd : w.heap.size ≤ d := Nat.le_trans HB2.out.size hdd
  have hwp : w.heap.size ≤ p := Nat.le_trans HB2.out.size hpp
  have hpd := hQ3.qb
  have hdl3 := hQ3.map.lt
  have hbd : b ≠ d := by omega
  have hqd : q ≠ d := by omega
  have hpb : p ≠ b := by omega
  have Q2' := Lib.hid (Q2.out.excl hb3 hdd hdl3)
  have Q3 := Lib.hid (qu_nil (g := b) hQ3 (by omega))
  have HB3 := Lib.hid (below_old HB2.out hb3)
  clear hb3 hQ3 HB2 Q2 hdd hpp hbl2 hql2 hdl3
  go_wp2_with fail
  have hb4 := below_alloc' w3 (.cells #[] 66)
  refine (cutOps _ (H.out.below (below_old HB3.out hb4)) hnc hcm).mono ?_
  rintro e w4 ⟨n', c', rfl, hn300, hnn, hnc', hcm', hrow, rfl⟩
  have QM0 := Lib.hid (Q2'.out.below hb4)
  have QS0 := Lib.hid (Q3.out.below hb4)
  have HB4 := Lib.hid (below_old HB3.out hb4)
  have HR := Lib.hid (H.out.take hnn)
  have hss : ∀ o ∈ sc.take n', sizeAll o.parts ≤ 1048576 := fun o ho => hs o (List.mem_of_mem_take ho)
  have HS := Lib.hid hss
  clear hb4 hrow hs hss Q2' Q3 HB3
  generalize sc.take n' = sc' at HR HS
  obtain ⟨A0, hA0⟩ : ∃ A0 : Option Addr, A0 = some ⟨w3.heap.size, 0, none⟩ := ⟨_, rfl⟩
  have L3 : Hid (LRow [d, b] (w3.alloc (.cells #[] 66)) A0 0 0 []) := Lib.hid ⟨Row.nil, Nat.le_refl _, by simp [maxLen]⟩
  rw [← hA0]
  clear hA0
  generalize w3.alloc (.cells #[] 66) = w4 at *
  go_wp2_with fail
  go_loopw [5, 6] (fun v5 i wr => ∃ k : Nat, k ≤ n' ∧ i = .int .i64 k ∧ ∃ (kv kv2 : KV) (r : List ItemD) (A5 : Option Addr) (n5 c5 : Nat), v5 = .slice A5 n5 c5 ∧ LRow [d, b] wr A5 n5 c5 r ∧ QuM wr [d, b] q b kv ∧ QuS wr [d, b] p d kv2 ∧ Rep kv r ∧ Rep kv2 r ∧ SmallI r ∧ r.length ≤ k ∧ Below w.heap.size w wr) (fun _ i _ => n' - (intOf i).toNat)
  case atStart => exact ⟨0, Nat.zero_le _, rfl, [], [], [], A0, 0, 0, rfl, L3.out, QM0.out, QS0.out, Rep.nil, Rep.nil, (fun x hx => by cases hx), Nat.le_refl _, HB4.out⟩
  case round =>
    clear L3 QM0 QS0 HB4
    obtain ⟨wq, rfl⟩ : ∃ wq : World, wq = wr := ⟨_, rfl⟩
    obtain ⟨k, hk, rfl, kv, kv2, r, A5, n5, c5, rfl, hL, hQM, hQS, hrep1, hrep2, hsm, hlen, hbel⟩ := hrel
    have RL := Lib.hid hL; have QM := Lib.hid hQM; have QS := Lib.hid hQS; have REP1 := Lib.hid hrep1; have REP2 := Lib.hid hrep2; have SM := Lib.hid hsm; have HB := Lib.hid hbel
    have hn5 := hL.row.1
    have hwr := HB.out.size
    have hbltr := QM.out.map.lt
    have hqltr := QM.out.blk.lt
    have hdltr := QS.out.map.lt
    have hpltr := QS.out.blk.lt
    clear hL hQM hQS hrep1 hrep2 hsm hbel
    by_cases hlt : k < n'
    · obtain ⟨bs, offs, es, hkl, hAe, hbs, hc, hr⟩ := HR.out.at_ hlt
      subst hAe
      obtain ⟨A1, n1, c1, rfl, i0, p1, p2, p3, i2⟩ := hr
      have hl1 := HS.out sc'[k] (List.getElem_mem hkl)
      have e13 : Shape.OpD.size = 3 := rfl
      have x0 := hc 0 (by decide)
      have x1 := hc 1 (by decide)
      have x2 := hc 2 (by decide)
      simp only [e13, Nat.add_zero, List.getElem?_cons_zero, List.getElem?_cons_succ] at x0 x1 x2
      rw [← HB.out.cell (p := ⟨bs, offs + k * 3, none⟩) hbs] at x0
      rw [← HB.out.cell (p := ⟨bs, offs + k * 3 + 1, none⟩) hbs] at x1
      rw [← HB.out.cell (p := ⟨bs, offs + k * 3 + 2, none⟩) hbs] at x2
      have hb2 : bs < wq.heap.size := Nat.lt_of_lt_of_le hbs HB.out.size
      have hks : (k : Int) < n' := by omega
      have hpl := p3.1
      subst hpl
      have RP0 := Lib.hid p3
      obtain ⟨l, hl⟩ : ∃ l, l = sc'[k].parts := ⟨_, rfl⟩
      obtain ⟨W, hW⟩ : ∃ W, W = sc'[k].what := ⟨_, rfl⟩
      obtain ⟨V, hV⟩ : ∃ V, V = sc'[k].v := ⟨_, rfl⟩
      rw [← hl] at x1 p1 RP0 hl1
      rw [← hW] at x0
      rw [← hV] at x2 i2
      have I2 := Lib.hid i2
      have hnl := small_n RP0.out hl1
      have HL1 := Lib.hid hl1
      have LEN := Lib.hid (show r.length ≤ k + 1 by omega)
      clear hc e13 p3 hl hW hV i0 i2 p2 hbs hl1
      by_cases hW1 : W = 1
      · subst hW1
        go_wp2_with fail
        have hbu := below_alloc' wq (.cells #[.int .i64 1, .slice A1 l.length c1, .int .i64 V] 32)
        obtain ⟨u, hu⟩ : ∃ u, u = wq.alloc (.cells #[.int .i64 1, .slice A1 l.length c1, .int .i64 V] 32) := ⟨_, rfl⟩
        have HT : Hid (Blk u wq.heap.size 32 #[.int .i64 1, .slice A1 l.length c1, .int .i64 V]) := Lib.hid (hu ▸ Blk.new wq _ _)
        rw [← hu] at hbu ⊢
        have RP : Hid (Row Shape.str u (Old w) A1 l.length l) := Lib.hid (RP0.out.keep (Keeps.of_below (below_old HB.out hbu)))
        replace HB := Lib.hid (below_old HB.out hbu)
        replace QM := Lib.hid (QM.out.below hbu)
        replace QS := Lib.hid (QS.out.below hbu)
        replace RL := Lib.hid (RL.out.below hbu)
        clear hu x0 x1 x2 hb2 hbu RP0
        have z0 : u.cell? ⟨wq.heap.size, 0, none⟩ = some (.int .i64 1) := HT.out.cell 0
        have z1 : u.cell? ⟨wq.heap.size, 1, none⟩ = some (.slice A1 l.length c1) := HT.out.cell 1
        have z2 : u.cell? ⟨wq.heap.size, 2, none⟩ = some (.int .i64 V) := HT.out.cell 2
        have zl := HT.out.lt
        refine wp_region_grow_t [(3, madeTxt l u.heap.size)] 7 _ rfl (by kernel_rfl) [3] rfl (by kernel_rfl) (stays_cons (txt_stays _ _) stays_nil) ?_
        simp only [List.take_succ_cons, List.take_zero, List.drop_succ_cons, List.drop_zero]
        repeat (first
          | (refine g_w rfl ?_ (fun W => ?_) ?_; rotate_left; (focus (go_simp; (try with_reducible rfl); done)); simp only [Act.put, List.setIfInBounds_toArray, List.set_cons_zero, List.set_cons_succ])
          | (refine g_d rfl (by kernel_rfl) ?_ (fun δ => ?_) ?_; rotate_left; (focus (go_simp; (try with_reducible rfl); done)); simp only [Act.put, List.setIfInBounds_toArray, List.set_cons_zero, List.set_cons_succ]))
        refine g_call rfl ?_ ?_ (fun W => ?_) ?_ ?_
        rotate_left 2
        · go_simp; (constructor <;> with_reducible rfl)
        · intro δ hF
          refine (copyTexts (c := c1) _ ((RP.out.keep ((Keeps.of_below (below_over u δ)).mono fun n hn => Nat.lt_of_lt_of_le hn HB.out.size)).more fun n hn => Nat.lt_of_lt_of_le hn (below_old HB.out (below_over u δ)).size) (by omega)).mono ?_
          rintro e u4 ⟨v4, δ4, rfl, hw4, hown4⟩
          obtain ⟨x, rfl, hx⟩ := txt_of_own (n := u.heap.size) hown4 (size_over_le _ _)
          exact ⟨x, rfl, below_of hw4, hx⟩
        rintro ⟨A4, c4⟩
        simp only [Act.put, List.setIfInBounds_toArray, List.set_cons_zero, List.set_cons_succ, enc_txt]
        repeat (first
          | (refine g_w rfl ?_ (fun W => ?_) ?_; rotate_left; (focus (go_simp; (try with_reducible rfl); done)); simp only [Act.put, List.setIfInBounds_toArray, List.set_cons_zero, List.set_cons_succ])
          | (refine g_d rfl (by kernel_rfl) ?_ (fun δ => ?_) ?_; rotate_left; (focus (go_simp; (try with_reducible rfl); done)); simp only [Act.put, List.setIfInBounds_toArray, List.set_cons_zero, List.set_cons_succ]))
        refine g_end fun δ hF => ?_
        have h6 : l.length ≤ c4 ∧ c4 ≤ maxLen ∧ Row Shape.str (over u δ) (From u.heap.size (over u δ)) A4 l.length l := hF 3
        clear hF
        have hbo := below_over u δ
        refine endT_call ?_ ?_ (fun W => ?_) ?_
        rotate_left 2
        · go_simp; (constructor <;> with_reducible rfl)
        clear z0 z1 z2 zl
        replace HT := Lib.hid (HT.out.below hbo HT.out.lt)
        replace QM := Lib.hid (QM.out.below hbo)
        replace QS := Lib.hid (QS.out.below hbo)
        replace RL := Lib.hid (RL.out.below hbo)
        replace RP := Lib.hid (RP.out.keep ((Keeps.of_below hbo).mono fun n hn => Nat.lt_of_lt_of_le hn HB.out.size))
        replace HB := Lib.hid (below_old HB.out hbo)
        clear hbo
        refine (putM QM.out V (h6.2.2.more fun n hn => hn.2) HL1.out I2.out (HP.out.keep HB.out)).mono ?_
        rintro e w5 ⟨x, hx, rfl, hg5, hQ5⟩
        refine ⟨_, rfl, ?_⟩
        simp only [Act.put]
        refine g_tail_end ?_
        replace REP1 := Lib.hid (REP1.out.put (QM.out.keyed) x)
        rw [hx] at REP1
        simp only at REP1
        replace QM := Lib.hid hQ5
        obtain ⟨kv', hkv'⟩ : ∃ kv', kv' = putKv kv (keyS l) x := ⟨_, rfl⟩
        rw [← hkv'] at QM REP1
        clear hkv' hx hQ5 h6 kv
        obtain ⟨kv, rfl⟩ : ∃ kv : KV, kv = kv' := ⟨_, rfl⟩
        replace HT := Lib.hid (HT.out.grown hg5 (fun e => by injection e with e; omega))
        replace QS := Lib.hid (QS.out.grown hg5 (fun k e => by injection e with e; rw [← e]; simp) (fun e => by injection e with e; omega) (fun e => by injection e with e; omega))
        replace RL := Lib.hid (RL.out.grown hg5 (fun k e => by injection e with e; rw [← e]; simp))
        replace RP := Lib.hid (RP.out.keep ((Keeps.of_grown hg5).mono fun n hn => ⟨Nat.lt_of_lt_of_le hn HB.out.size, fun e => by injection e with e; have : n < w.heap.size := hn; omega⟩))
        replace HB := Lib.hid (HB.out.grown hg5 HB.out.size (fun n hn => by injection hn with hn; omega))
        clear hg5
        have z0 : w5.cell? ⟨wq.heap.size, 0, none⟩ = some (.int .i64 1) := HT.out.cell 0
        have z1 : w5.cell? ⟨wq.heap.size, 1, none⟩ = some (.slice A1 l.length c1) := HT.out.cell 1
        have z2 : w5.cell? ⟨wq.heap.size, 2, none⟩ = some (.int .i64 V) := HT.out.cell 2
        have zl := HT.out.lt
        go_wp2_with fail
        clear z0 z1 z2 zl
        refine (copyTextsG (c := c1) w5 (RP.out.more fun n hn => Nat.lt_of_lt_of_le hn HB.out.size) (by omega)).mono ?_
        rintro e w6 ⟨g, c7, rfl, hbc, hownc⟩
        have hgl := hownc.lt g rfl
        have ROWG := Lib.hid (hownc.rd_old.row_of)
        replace HT := Lib.hid (HT.out.below hbc HT.out.lt)
        replace QM := Lib.hid (QM.out.below hbc)
        replace QS := Lib.hid (QS.out.below hbc)
        replace RL := Lib.hid (RL.out.below hbc)
        replace RP := Lib.hid (RP.out.keep ((Keeps.of_below hbc).mono fun n hn => Nat.lt_of_lt_of_le hn HB.out.size))
        replace HB := Lib.hid (below_old HB.out hbc)
        clear hbc hownc hgl
        have z0 : w6.cell? ⟨wq.heap.size, 0, none⟩ = some (.int .i64 1) := HT.out.cell 0
        have z1 : w6.cell? ⟨wq.heap.size, 1, none⟩ = some (.slice A1 l.length c1) := HT.out.cell 1
        have z2 : w6.cell? ⟨wq.heap.size, 2, none⟩ = some (.int .i64 V) := HT.out.cell 2
        have zl := HT.out.lt
        go_wp2_with fail
        clear z0 z1 z2 zl
        refine (putS QS.out V ROWG.out HL1.out I2.out (HP.out.keep HB.out)).mono ?_
        rintro e w7 ⟨x, hx, rfl, hg7, hQ7⟩
        replace REP2 := Lib.hid (REP2.out.put (QS.out.keyed) x)
        rw [hx] at REP2
        simp only at REP2
        replace QS := Lib.hid hQ7
        obtain ⟨kv2', hkv'⟩ : ∃ kv2', kv2' = putKv kv2 (keyS l) x := ⟨_, rfl⟩
        rw [← hkv'] at QS REP2
        clear hkv' hx hQ7 kv2 ROWG
        obtain ⟨kv2, rfl⟩ : ∃ kv2 : KV, kv2 = kv2' := ⟨_, rfl⟩
        replace HT := Lib.hid (HT.out.grown hg7 (fun e => by injection e with e; omega))
        replace QM := Lib.hid (QM.out.grown hg7 (fun k e => by injection e with e; rw [← e]; simp) (fun e => by injection e with e; omega) (fun e => by injection e with e; omega))
        replace RL := Lib.hid (RL.out.grown hg7 (fun k e => by injection e with e; rw [← e]; simp))
        replace RP := Lib.hid (RP.out.keep ((Keeps.of_grown hg7).mono fun n hn => ⟨Nat.lt_of_lt_of_le hn HB.out.size, fun e => by injection e with e; have : n < w.heap.size := hn; omega⟩))
        replace HB := Lib.hid (HB.out.grown hg7 HB.out.size (fun n hn => by injection hn with hn; omega))
        clear hg7
        have z0 : w7.cell? ⟨wq.heap.size, 0, none⟩ = some (.int .i64 1) := HT.out.cell 0
        have z1 : w7.cell? ⟨wq.heap.size, 1, none⟩ = some (.slice A1 l.length c1) := HT.out.cell 1
        have z2 : w7.cell? ⟨wq.heap.size, 2, none⟩ = some (.int .i64 V) := HT.out.cell 2
        have zl := HT.out.lt
        go_wp2_with fail
        clear z0 z1 z2 zl
        refine (refPut (X := [d, b]) (c := c5) (c' := c1) V w7 RL.out.row (RP.out.more fun n hn => Nat.lt_of_lt_of_le hn HB.out.size) QM.out.low SM.out HL1.out I2.out (by omega)).mono ?_
        rintro e w8 ⟨v8, rfl, hsl, hb8⟩
        replace LEN := Lib.hid (show (putI' r ⟨l, V⟩).length ≤ k + 1 by have := len_put r ⟨l, V⟩; omega)
        replace SM := Lib.hid (small_put SM.out (d := ⟨l, V⟩) HL1.out)
        replace HT := Lib.hid (HT.out.below hb8 HT.out.lt)
        replace QM := Lib.hid (QM.out.below hb8)
        replace QS := Lib.hid (QS.out.below hb8)
        replace RL := Lib.hid (RL.out.below hb8)
        replace RP := Lib.hid (RP.out.keep ((Keeps.of_below hb8).mono fun n hn => Nat.lt_of_lt_of_le hn HB.out.size))
        replace HB := Lib.hid (below_old HB.out hb8)
        obtain ⟨A6, n6, c6, rfl, hnc6, hcm6, hrow6⟩ := hsl
        have hn6 := hrow6.1
        replace RL := Lib.hid (LRow.mk hrow6 hnc6 hcm6)
        generalize putI' r ⟨l, V⟩ = r' at *
        clear hb8 hrow6 hnc6 hcm6 hn5 hlen r
        obtain ⟨r, rfl⟩ : ∃ r : List ItemD, r = r' := ⟨_, rfl⟩
        have hl6 := LEN.out
        have hn6' : n6 ≤ 1000 := by omega
        clear hl6 hn6
        have z0 : w8.cell? ⟨wq.heap.size, 0, none⟩ = some (.int .i64 1) := HT.out.cell 0
        have z1 : w8.cell? ⟨wq.heap.size, 1, none⟩ = some (.slice A1 l.length c1) := HT.out.cell 1
        have z2 : w8.cell? ⟨wq.heap.size, 2, none⟩ = some (.int .i64 V) := HT.out.cell 2
        have zl := HT.out.lt
        go_wp2_with fail
        clear z0 z1 z2 zl
        refine (copyTextsG (c := c1) w8 (RP.out.more fun n hn => Nat.lt_of_lt_of_le hn HB.out.size) (by omega)).mono ?_
        rintro e wa ⟨g, c7, rfl, hbc, hownc⟩
        have hgl := hownc.lt g rfl
        have ROWG := Lib.hid (hownc.rd_old.row_of)
        replace HT := Lib.hid (HT.out.below hbc HT.out.lt)
        replace QM := Lib.hid (QM.out.below hbc)
        replace QS := Lib.hid (QS.out.below hbc)
        replace RL := Lib.hid (RL.out.below hbc)
        replace RP := Lib.hid (RP.out.keep ((Keeps.of_below hbc).mono fun n hn => Nat.lt_of_lt_of_le hn HB.out.size))
        replace HB := Lib.hid (below_old HB.out hbc)
        clear hbc hownc hgl
        cases hgr : getI' r l with
        | some v =>
          obtain ⟨y, hy, hyv⟩ : ∃ y, getKv kv (keyS l) = some y ∧ y.d.v = v := by
            have h1 := REP1.out.get QM.out.keyed l
            rw [hgr] at h1
            cases hg : getKv kv (keyS l) with
            | none => rw [hg] at h1; cases h1
            | some y => rw [hg] at h1; injection h1 with h1; exact ⟨y, rfl, h1⟩
          obtain ⟨z, hz, hzv⟩ : ∃ z, getKv kv2 (keyS l) = some z ∧ z.d.v = v := by
            have h1 := REP2.out.get QS.out.keyed l
            rw [hgr] at h1
            cases hg : getKv kv2 (keyS l) with
            | none => rw [hg] at h1; cases h1
            | some z => rw [hg] at h1; injection h1 with h1; exact ⟨z, rfl, h1⟩
          have HY := Lib.hid hy; have HZ := Lib.hid hz; have HYV := Lib.hid hyv; have HGR := Lib.hid hgr
          clear hy hz hyv hzv hgr
          go_wp2_with fail
          refine (getM_some QM.out HY.out ROWG.out HL1.out (HP.out.keep HB.out)).mono ?_
          rintro e wb ⟨rfl, hbb⟩
          rw [HYV.out]
          replace HT := Lib.hid (HT.out.below hbb HT.out.lt)
          replace QM := Lib.hid (QM.out.below hbb)
          replace QS := Lib.hid (QS.out.below hbb)
          replace RL := Lib.hid (RL.out.below hbb)
          replace RP := Lib.hid (RP.out.keep ((Keeps.of_below hbb).mono fun n hn => Nat.lt_of_lt_of_le hn HB.out.size))
          replace HB := Lib.hid (below_old HB.out hbb)
          clear hbb ROWG
          have z0 : wb.cell? ⟨wq.heap.size, 0, none⟩ = some (.int .i64 1) := HT.out.cell 0
          have z1 : wb.cell? ⟨wq.heap.size, 1, none⟩ = some (.slice A1 l.length c1) := HT.out.cell 1
          have z2 : wb.cell? ⟨wq.heap.size, 2, none⟩ = some (.int .i64 V) := HT.out.cell 2
          have zl := HT.out.lt
          go_wp2_with fail
          clear z0 z1 z2 zl
          have hbm := below_alloc' wb (.cells #[.string ⟨#[109]⟩, .int .i64 v] 50)
          obtain ⟨um, hum⟩ : ∃ um, um = wb.alloc (.cells #[.string ⟨#[109]⟩, .int .i64 v] 50) := ⟨_, rfl⟩
          have HM : Hid (Blk um wb.heap.size 50 #[.string ⟨#[109]⟩, .int .i64 v]) := Lib.hid (hum ▸ Blk.new wb _ _)
          rw [← hum] at hbm ⊢
          clear hum
          replace HT := Lib.hid (HT.out.below hbm HT.out.lt)
          replace QM := Lib.hid (QM.out.below hbm)
          replace QS := Lib.hid (QS.out.below hbm)
          replace RL := Lib.hid (RL.out.below hbm)
          replace RP := Lib.hid (RP.out.keep ((Keeps.of_below hbm).mono fun n hn => Nat.lt_of_lt_of_le hn HB.out.size))
          replace HB := Lib.hid (below_old HB.out hbm)
          clear hbm
          refine (copyTextsG (c := c1) um (RP.out.more fun n hn => Nat.lt_of_lt_of_le hn HB.out.size) (by omega)).mono ?_
          rintro e wc ⟨g, c7, rfl, hbc, hownc⟩
          have hgl := hownc.lt g rfl
          have ROWG := Lib.hid (hownc.rd_old.row_of)
          replace HT := Lib.hid (HT.out.below hbc HT.out.lt)
          replace HM := Lib.hid (HM.out.below hbc HM.out.lt)
          replace QM := Lib.hid (QM.out.below hbc)
          replace QS := Lib.hid (QS.out.below hbc)
          replace RL := Lib.hid (RL.out.below hbc)
          replace RP := Lib.hid (RP.out.keep ((Keeps.of_below hbc).mono fun n hn => Nat.lt_of_lt_of_le hn HB.out.size))
          replace HB := Lib.hid (below_old HB.out hbc)
          clear hbc hownc hgl
          have z0 : wc.cell? ⟨wq.heap.size, 0, none⟩ = some (.int .i64 1) := HT.out.cell 0
          have z1 : wc.cell? ⟨wq.heap.size, 1, none⟩ = some (.slice A1 l.length c1) := HT.out.cell 1
          have z2 : wc.cell? ⟨wq.heap.size, 2, none⟩ = some (.int .i64 V) := HT.out.cell 2
          have zl := HT.out.lt
          go_wp2_with fail
          clear z0 z1 z2 zl
          refine (getS_some QS.out HZ.out ROWG.out HL1.out (HP.out.keep HB.out)).mono ?_
          rintro e wd ⟨rfl, hbd⟩
          replace HT := Lib.hid (HT.out.below hbd HT.out.lt)
          replace HM := Lib.hid (HM.out.below hbd HM.out.lt)
          replace QM := Lib.hid (QM.out.below hbd)
          replace QS := Lib.hid (QS.out.below hbd)
          replace RL := Lib.hid (RL.out.below hbd)
          replace RP := Lib.hid (RP.out.keep ((Keeps.of_below hbd).mono fun n hn => Nat.lt_of_lt_of_le hn HB.out.size))
          replace HB := Lib.hid (below_old HB.out hbd)
          clear hbd ROWG
          have z0 : wd.cell? ⟨wq.heap.size, 0, none⟩ = some (.int .i64 1) := HT.out.cell 0
          have z1 : wd.cell? ⟨wq.heap.size, 1, none⟩ = some (.slice A1 l.length c1) := HT.out.cell 1
          have z2 : wd.cell? ⟨wq.heap.size, 2, none⟩ = some (.int .i64 V) := HT.out.cell 2
          have zl := HT.out.lt
          go_wp2_with fail
          clear z0 z1 z2 zl
          have hG := refGet (c := c6) (c' := c1) wd RL.out.old (RP.out.more fun n hn => Nat.lt_of_lt_of_le hn HB.out.size) SM.out HL1.out (by omega)
          rw [HGR.out] at hG
          simp only [Option.getD_some, Option.isSome_some] at hG
          refine hG.mono ?_
          rintro e we ⟨rfl, hbe⟩
          clear hG
          replace HT := Lib.hid (HT.out.below hbe HT.out.lt)
          replace HM := Lib.hid (HM.out.below hbe HM.out.lt)
          replace QM := Lib.hid (QM.out.below hbe)
          replace QS := Lib.hid (QS.out.below hbe)
          replace RL := Lib.hid (RL.out.below hbe)
          replace RP := Lib.hid (RP.out.keep ((Keeps.of_below hbe).mono fun n hn => Nat.lt_of_lt_of_le hn HB.out.size))
          replace HB := Lib.hid (below_old HB.out hbe)
          clear hbe
          have m0 : we.cell? ⟨wb.heap.size, 0, none⟩ = some (.string ⟨#[109]⟩) := HM.out.cell 0
          have m1 : we.cell? ⟨wb.heap.size, 1, none⟩ = some (.int .i64 v) := HM.out.cell 1
          have ml := HM.out.lt
          have hvv : (v != v) = false := by simp
          go_wp2_with fail
          go_roundw
          case rel => exact ⟨k + 1, by omega, by go_num, kv, kv2, r, _, _, _, rfl, RL.out, QM.out, QS.out, REP1.out, REP2.out, SM.out, LEN.out, HB.out⟩
          case measure => simp [intOf]; omega
        | none =>
          have hy : getKv kv (keyS l) = none := by
            have h1 := REP1.out.get QM.out.keyed l
            rw [hgr] at h1
            cases hg : getKv kv (keyS l) with
            | none => rfl
            | some y => rw [hg] at h1; cases h1
          have hz : getKv kv2 (keyS l) = none := by
            have h1 := REP2.out.get QS.out.keyed l
            rw [hgr] at h1
            cases hg : getKv kv2 (keyS l) with
            | none => rfl
            | some y => rw [hg] at h1; cases h1
          have HY := Lib.hid hy; have HZ := Lib.hid hz; have HGR := Lib.hid hgr
          clear hy hz hgr
          go_wp2_with fail
          refine (getM_none QM.out HY.out ROWG.out HL1.out (HP.out.keep HB.out)).mono ?_
          rintro e wb ⟨rfl, hbb⟩
          replace HT := Lib.hid (HT.out.below hbb HT.out.lt)
          replace QM := Lib.hid (QM.out.below hbb)
          replace QS := Lib.hid (QS.out.below hbb)
          replace RL := Lib.hid (RL.out.below hbb)
          replace RP := Lib.hid (RP.out.keep ((Keeps.of_below hbb).mono fun n hn => Nat.lt_of_lt_of_le hn HB.out.size))
          replace HB := Lib.hid (below_old HB.out hbb)
          clear hbb ROWG
          have z0 : wb.cell? ⟨wq.heap.size, 0, none⟩ = some (.int .i64 1) := HT.out.cell 0
          have z1 : wb.cell? ⟨wq.heap.size, 1, none⟩ = some (.slice A1 l.length c1) := HT.out.cell 1
          have z2 : wb.cell? ⟨wq.heap.size, 2, none⟩ = some (.int .i64 V) := HT.out.cell 2
          have zl := HT.out.lt
          go_wp2_with fail
          clear z0 z1 z2 zl
          have hbm := below_alloc' wb (.cells #[.string ⟨#[]⟩, .int .i64 0] 50)
          obtain ⟨um, hum⟩ : ∃ um, um = wb.alloc (.cells #[.string ⟨#[]⟩, .int .i64 0] 50) := ⟨_, rfl⟩
          have HM : Hid (Blk um wb.heap.size 50 #[.string ⟨#[]⟩, .int .i64 0]) := Lib.hid (hum ▸ Blk.new wb _ _)
          rw [← hum] at hbm ⊢
          clear hum
          replace HT := Lib.hid (HT.out.below hbm HT.out.lt)
          replace QM := Lib.hid (QM.out.below hbm)
          replace QS := Lib.hid (QS.out.below hbm)
          replace RL := Lib.hid (RL.out.below hbm)
          replace RP := Lib.hid (RP.out.keep ((Keeps.of_below hbm).mono fun n hn => Nat.lt_of_lt_of_le hn HB.out.size))
          replace HB := Lib.hid (below_old HB.out hbm)
          clear hbm
          refine (copyTextsG (c := c1) um (RP.out.more fun n hn => Nat.lt_of_lt_of_le hn HB.out.size) (by omega)).mono ?_
          rintro e wc ⟨g, c7, rfl, hbc, hownc⟩
          have hgl := hownc.lt g rfl
          have ROWG := Lib.hid (hownc.rd_old.row_of)
          replace HT := Lib.hid (HT.out.below hbc HT.out.lt)
          replace HM := Lib.hid (HM.out.below hbc HM.out.lt)
          replace QM := Lib.hid (QM.out.below hbc)
          replace QS := Lib.hid (QS.out.below hbc)
          replace RL := Lib.hid (RL.out.below hbc)
          replace RP := Lib.hid (RP.out.keep ((Keeps.of_below hbc).mono fun n hn => Nat.lt_of_lt_of_le hn HB.out.size))
          replace HB := Lib.hid (below_old HB.out hbc)
          clear hbc hownc hgl
          have z0 : wc.cell? ⟨wq.heap.size, 0, none⟩ = some (.int .i64 1) := HT.out.cell 0
          have z1 : wc.cell? ⟨wq.heap.size, 1, none⟩ = some (.slice A1 l.length c1) := HT.out.cell 1
          have z2 : wc.cell? ⟨wq.heap.size, 2, none⟩ = some (.int .i64 V) := HT.out.cell 2
          have zl := HT.out.lt
          go_wp2_with fail
          clear z0 z1 z2 zl
          refine (getS_none QS.out HZ.out ROWG.out HL1.out (HP.out.keep HB.out)).mono ?_
          rintro e wd ⟨rfl, hbd⟩
          replace HT := Lib.hid (HT.out.below hbd HT.out.lt)
          replace HM := Lib.hid (HM.out.below hbd HM.out.lt)
          replace QM := Lib.hid (QM.out.below hbd)
          replace QS := Lib.hid (QS.out.below hbd)
          replace RL := Lib.hid (RL.out.below hbd)
          replace RP := Lib.hid (RP.out.keep ((Keeps.of_below hbd).mono fun n hn => Nat.lt_of_lt_of_le hn HB.out.size))
          replace HB := Lib.hid (below_old HB.out hbd)
          clear hbd ROWG
          have z0 : wd.cell? ⟨wq.heap.size, 0, none⟩ = some (.int .i64 1) := HT.out.cell 0
          have z1 : wd.cell? ⟨wq.heap.size, 1, none⟩ = some (.slice A1 l.length c1) := HT.out.cell 1
          have z2 : wd.cell? ⟨wq.heap.size, 2, none⟩ = some (.int .i64 V) := HT.out.cell 2
          have zl := HT.out.lt
          go_wp2_with fail
          clear z0 z1 z2 zl
          have hG := refGet (c := c6) (c' := c1) wd RL.out.old (RP.out.more fun n hn => Nat.lt_of_lt_of_le hn HB.out.size) SM.out HL1.out (by omega)
          rw [HGR.out] at hG
          simp only [Option.getD_none, Option.isSome_none] at hG
          refine hG.mono ?_
          rintro e we ⟨rfl, hbe⟩
          clear hG
          replace HT := Lib.hid (HT.out.below hbe HT.out.lt)
          replace HM := Lib.hid (HM.out.below hbe HM.out.lt)
          replace QM := Lib.hid (QM.out.below hbe)
          replace QS := Lib.hid (QS.out.below hbe)
          replace RL := Lib.hid (RL.out.below hbe)
          replace RP := Lib.hid (RP.out.keep ((Keeps.of_below hbe).mono fun n hn => Nat.lt_of_lt_of_le hn HB.out.size))
          replace HB := Lib.hid (below_old HB.out hbe)
          clear hbe
          have m0 : we.cell? ⟨wb.heap.size, 0, none⟩ = some (.string ⟨#[]⟩) := HM.out.cell 0
          have m1 : we.cell? ⟨wb.heap.size, 1, none⟩ = some (.int .i64 0) := HM.out.cell 1
          have ml := HM.out.lt
          go_wp2_with fail
          go_roundw
          case rel => exact ⟨k + 1, by omega, by go_num, kv, kv2, r, _, _, _, rfl, RL.out, QM.out, QS.out, REP1.out, REP2.out, SM.out, LEN.out, HB.out⟩
          case measure => simp [intOf]; omega
      by_cases hW3 : W = 3
      · subst hW3
        clear hW1
        go_wp2_with fail
        have hbu := below_alloc' wq (.cells #[.int .i64 3, .slice A1 l.length c1, .int .i64 V] 32)
        obtain ⟨u, hu⟩ : ∃ u, u = wq.alloc (.cells #[.int .i64 3, .slice A1 l.length c1, .int .i64 V] 32) := ⟨_, rfl⟩
        have HT : Hid (Blk u wq.heap.size 32 #[.int .i64 3, .slice A1 l.length c1, .int .i64 V]) := Lib.hid (hu ▸ Blk.new wq _ _)
        rw [← hu] at hbu ⊢
        have RP : Hid (Row Shape.str u (Old w) A1 l.length l) := Lib.hid (RP0.out.keep (Keeps.of_below (below_old HB.out hbu)))
        replace HB := Lib.hid (below_old HB.out hbu)
        replace QM := Lib.hid (QM.out.below hbu)
        replace QS := Lib.hid (QS.out.below hbu)
        replace RL := Lib.hid (RL.out.below hbu)
        clear hu x0 x1 x2 hb2 hbu RP0
        refine (refDrop (X := [d, b]) (c := c5) (c' := c1) u RL.out.row (RP.out.more fun n hn => Nat.lt_of_lt_of_le hn HB.out.size) QM.out.low SM.out HL1.out (by omega)).mono ?_
        rintro e w5 ⟨v5, rfl, hsl, hb5⟩
        replace HT := Lib.hid (HT.out.below hb5 HT.out.lt)
        replace QM := Lib.hid (QM.out.below hb5)
        replace QS := Lib.hid (QS.out.below hb5)
        replace RL := Lib.hid (RL.out.below hb5)
        replace RP := Lib.hid (RP.out.keep ((Keeps.of_below hb5).mono fun n hn => Nat.lt_of_lt_of_le hn HB.out.size))
        replace HB := Lib.hid (below_old HB.out hb5)
        obtain ⟨A6, n6, c6, rfl, hnc6, hcm6, hrow6⟩ := hsl
        have hn6 := hrow6.1
        have RL8 := Lib.hid (LRow.mk hrow6 hnc6 hcm6)
        clear hb5 hrow6 hnc6 hcm6
        have z0 : w5.cell? ⟨wq.heap.size, 0, none⟩ = some (.int .i64 3) := HT.out.cell 0
        have z1 : w5.cell? ⟨wq.heap.size, 1, none⟩ = some (.slice A1 l.length c1) := HT.out.cell 1
        have z2 : w5.cell? ⟨wq.heap.size, 2, none⟩ = some (.int .i64 V) := HT.out.cell 2
        have zl := HT.out.lt
        go_wp2_with fail
        clear z0 z1 z2 zl
        refine (copyTextsG (c := c1) w5 (RP.out.more fun n hn => Nat.lt_of_lt_of_le hn HB.out.size) (by omega)).mono ?_
        rintro e w6 ⟨g, c7, rfl, hbc, hownc⟩
        have hgl := hownc.lt g rfl
        have hrd := row_own_ne hownc (b := b) (by have h1 := hgl.1; have h2 := QM.out.map.lt; omega)
        have ROWG := Lib.hid hrd
        replace HT := Lib.hid (HT.out.below hbc HT.out.lt)
        replace RL8 := Lib.hid (RL8.out.below hbc)
        replace QM := Lib.hid (QM.out.below hbc)
        replace QS := Lib.hid (QS.out.below hbc)
        replace RL := Lib.hid (RL.out.below hbc)
        replace RP := Lib.hid (RP.out.keep ((Keeps.of_below hbc).mono fun n hn => Nat.lt_of_lt_of_le hn HB.out.size))
        replace HB := Lib.hid (below_old HB.out hbc)
        clear hbc hownc hgl hrd
        have z0 : w6.cell? ⟨wq.heap.size, 0, none⟩ = some (.int .i64 3) := HT.out.cell 0
        have z1 : w6.cell? ⟨wq.heap.size, 1, none⟩ = some (.slice A1 l.length c1) := HT.out.cell 1
        have z2 : w6.cell? ⟨wq.heap.size, 2, none⟩ = some (.int .i64 V) := HT.out.cell 2
        have zl := HT.out.lt
        go_wp2_with fail
        clear z0 z1 z2 zl
        have hkl4 := REP1.out.length
        refine (dropM (c := c7) QM.out ROWG.out (by omega) (by omega)).mono ?_
        rintro e w7 ⟨kv', hp6, rfl, hg6, hQ6⟩
        obtain ⟨hrep6, hcnt⟩ := REP1.out.drop hp6
        replace REP1 := Lib.hid hrep6
        replace QM := Lib.hid hQ6
        obtain ⟨cnt, hcnt'⟩ : ∃ cnt, cnt = (kv.filter (wi l)).length := ⟨_, rfl⟩
        rw [← hcnt'] at hcnt ⊢
        clear ROWG hrep6 hp6 hkl4 hQ6 hcnt' kv
        obtain ⟨kv, rfl⟩ : ∃ kv : KV, kv = kv' := ⟨_, rfl⟩
        replace HT := Lib.hid (HT.out.grown hg6 (fun e => by injection e with e; omega))
        replace QS := Lib.hid (QS.out.grown hg6 (fun k e => by injection e with e; rw [← e]; simp) (fun e => by injection e with e; omega) (fun e => by injection e with e; omega))
        replace RL := Lib.hid (RL.out.grown hg6 (fun k e => by injection e with e; rw [← e]; simp))
        replace RL8 := Lib.hid (RL8.out.grown hg6 (fun k e => by injection e with e; rw [← e]; simp))
        replace RP := Lib.hid (RP.out.keep ((Keeps.of_grown hg6).mono fun n hn => ⟨Nat.lt_of_lt_of_le hn HB.out.size, fun e => by injection e with e; have : n < w.heap.size := hn; omega⟩))
        replace HB := Lib.hid (HB.out.grown hg6 HB.out.size (fun n hn => by injection hn with hn; omega))
        clear hg6
        have hs1 : (cnt : Int) = (n5 : Int) - n6 := by omega
        have hs2 : (n6 : Int) ≤ n5 := by omega
        have hs3 : (n5 : Int) ≤ 1000 := by omega
        have hsub : ((cnt : Int) != (n5 : Int) - n6) = false := by rw [← hs1]; simp
        clear hs1
        have z0 : w7.cell? ⟨wq.heap.size, 0, none⟩ = some (.int .i64 3) := HT.out.cell 0
        have z1 : w7.cell? ⟨wq.heap.size, 1, none⟩ = some (.slice A1 l.length c1) := HT.out.cell 1
        have z2 : w7.cell? ⟨wq.heap.size, 2, none⟩ = some (.int .i64 V) := HT.out.cell 2
        have zl := HT.out.lt
        go_wp2_with fail
        clear z0 z1 z2 zl
        refine (copyTextsG (c := c1) w7 (RP.out.more fun n hn => Nat.lt_of_lt_of_le hn HB.out.size) (by omega)).mono ?_
        rintro e w8 ⟨g, c7, rfl, hbc, hownc⟩
        have hgl := hownc.lt g rfl
        have hrd := row_own_ne hownc (b := d) (by have h1 := hgl.1; have h2 := QS.out.map.lt; omega)
        have ROWG := Lib.hid hrd
        replace HT := Lib.hid (HT.out.below hbc HT.out.lt)
        replace RL8 := Lib.hid (RL8.out.below hbc)
        replace QM := Lib.hid (QM.out.below hbc)
        replace QS := Lib.hid (QS.out.below hbc)
        replace RL := Lib.hid (RL.out.below hbc)
        replace RP := Lib.hid (RP.out.keep ((Keeps.of_below hbc).mono fun n hn => Nat.lt_of_lt_of_le hn HB.out.size))
        replace HB := Lib.hid (below_old HB.out hbc)
        clear hbc hownc hgl hrd hsub
        have z0 : w8.cell? ⟨wq.heap.size, 0, none⟩ = some (.int .i64 3) := HT.out.cell 0
        have z1 : w8.cell? ⟨wq.heap.size, 1, none⟩ = some (.slice A1 l.length c1) := HT.out.cell 1
        have z2 : w8.cell? ⟨wq.heap.size, 2, none⟩ = some (.int .i64 V) := HT.out.cell 2
        have zl := HT.out.lt
        go_wp2_with fail
        clear z0 z1 z2 zl
        have hkl4 := REP2.out.length
        refine (dropS (c := c7) QS.out ROWG.out (by omega) (by omega)).mono ?_
        rintro e w9 ⟨kv', hp6, rfl, hg6, hQ6⟩
        obtain ⟨hrep6, hcnt2⟩ := REP2.out.drop hp6
        replace REP2 := Lib.hid hrep6
        replace QS := Lib.hid hQ6
        obtain ⟨cnt2, hcnt'⟩ : ∃ cnt2, cnt2 = (kv2.filter (wi l)).length := ⟨_, rfl⟩
        rw [← hcnt'] at hcnt2 ⊢
        clear ROWG hrep6 hp6 hkl4 hQ6 hcnt' kv2
        obtain ⟨kv2, rfl⟩ : ∃ kv2 : KV, kv2 = kv' := ⟨_, rfl⟩
        replace HT := Lib.hid (HT.out.grown hg6 (fun e => by injection e with e; omega))
        replace QM := Lib.hid (QM.out.grown hg6 (fun k e => by injection e with e; rw [← e]; simp) (fun e => by injection e with e; omega) (fun e => by injection e with e; omega))
        replace RL := Lib.hid (RL.out.grown hg6 (fun k e => by injection e with e; rw [← e]; simp))
        replace RL8 := Lib.hid (RL8.out.grown hg6 (fun k e => by injection e with e; rw [← e]; simp))
        replace RP := Lib.hid (RP.out.keep ((Keeps.of_grown hg6).mono fun n hn => ⟨Nat.lt_of_lt_of_le hn HB.out.size, fun e => by injection e with e; have : n < w.heap.size := hn; omega⟩))
        replace HB := Lib.hid (HB.out.grown hg6 HB.out.size (fun n hn => by injection hn with hn; omega))
        clear hg6
        have hs1 : (cnt2 : Int) = (n5 : Int) - n6 := by omega
        have hsub : ((cnt2 : Int) != (n5 : Int) - n6) = false := by rw [← hs1]; simp
        replace LEN := Lib.hid (show (dropI' r l).length ≤ k + 1 by have := len_drop r l; omega)
        replace SM := Lib.hid (small_drop SM.out l)
        clear hs1 hcnt hcnt2 RL
        have z0 : w9.cell? ⟨wq.heap.size, 0, none⟩ = some (.int .i64 3) := HT.out.cell 0
        have z1 : w9.cell? ⟨wq.heap.size, 1, none⟩ = some (.slice A1 l.length c1) := HT.out.cell 1
        have z2 : w9.cell? ⟨wq.heap.size, 2, none⟩ = some (.int .i64 V) := HT.out.cell 2
        have zl := HT.out.lt
        go_wp2_with fail
        clear z0 z1 z2 zl
        have RL := RL8
        clear RL8 hs2 hs3 hsub
        generalize dropI' r l = r' at *
        clear hn5 hlen r
        obtain ⟨r, rfl⟩ : ∃ r : List ItemD, r = r' := ⟨_, rfl⟩
        have hl6 := LEN.out
        have hn6' : n6 ≤ 1000 := by omega
        clear hl6 hn6
        obtain ⟨A5', hA5⟩ : ∃ A5' : Option Addr, A5' = A5 := ⟨_, rfl⟩
        refine (copyTextsG (c := c1) w9 (RP.out.more fun n hn => Nat.lt_of_lt_of_le hn HB.out.size) (by omega)).mono ?_
        rintro e wa ⟨g, c7, rfl, hbc, hownc⟩
        have hgl := hownc.lt g rfl
        have ROWG := Lib.hid (hownc.rd_old.row_of)
        replace HT := Lib.hid (HT.out.below hbc HT.out.lt)
        replace QM := Lib.hid (QM.out.below hbc)
        replace QS := Lib.hid (QS.out.below hbc)
        replace RL := Lib.hid (RL.out.below hbc)
        replace RP := Lib.hid (RP.out.keep ((Keeps.of_below hbc).mono fun n hn => Nat.lt_of_lt_of_le hn HB.out.size))
        replace HB := Lib.hid (below_old HB.out hbc)
        clear hbc hownc hgl
        cases hgr : getI' r l with
        | some v =>
          obtain ⟨y, hy, hyv⟩ : ∃ y, getKv kv (keyS l) = some y ∧ y.d.v = v := by
            have h1 := REP1.out.get QM.out.keyed l
            rw [hgr] at h1
            cases hg : getKv kv (keyS l) with
            | none => rw [hg] at h1; cases h1
            | some y => rw [hg] at h1; injection h1 with h1; exact ⟨y, rfl, h1⟩
          obtain ⟨z, hz, hzv⟩ : ∃ z, getKv kv2 (keyS l) = some z ∧ z.d.v = v := by
            have h1 := REP2.out.get QS.out.keyed l
            rw [hgr] at h1
            cases hg : getKv kv2 (keyS l) with
            | none => rw [hg] at h1; cases h1
            | some z => rw [hg] at h1; injection h1 with h1; exact ⟨z, rfl, h1⟩
          have HY := Lib.hid hy; have HZ := Lib.hid hz; have HYV := Lib.hid hyv; have HGR := Lib.hid hgr
          clear hy hz hyv hzv hgr
          go_wp2_with fail
          refine (getM_some QM.out HY.out ROWG.out HL1.out (HP.out.keep HB.out)).mono ?_
          rintro e wb ⟨rfl, hbb⟩
          rw [HYV.out]
          replace HT := Lib.hid (HT.out.below hbb HT.out.lt)
          replace QM := Lib.hid (QM.out.below hbb)
          replace QS := Lib.hid (QS.out.below hbb)
          replace RL := Lib.hid (RL.out.below hbb)
          replace RP := Lib.hid (RP.out.keep ((Keeps.of_below hbb).mono fun n hn => Nat.lt_of_lt_of_le hn HB.out.size))
          replace HB := Lib.hid (below_old HB.out hbb)
          clear hbb ROWG
          have z0 : wb.cell? ⟨wq.heap.size, 0, none⟩ = some (.int .i64 3) := HT.out.cell 0
          have z1 : wb.cell? ⟨wq.heap.size, 1, none⟩ = some (.slice A1 l.length c1) := HT.out.cell 1
          have z2 : wb.cell? ⟨wq.heap.size, 2, none⟩ = some (.int .i64 V) := HT.out.cell 2
          have zl := HT.out.lt
          go_wp2_with fail
          clear z0 z1 z2 zl
          have hbm := below_alloc' wb (.cells #[.string ⟨#[109]⟩, .int .i64 v] 50)
          obtain ⟨um, hum⟩ : ∃ um, um = wb.alloc (.cells #[.string ⟨#[109]⟩, .int .i64 v] 50) := ⟨_, rfl⟩
          have HM : Hid (Blk um wb.heap.size 50 #[.string ⟨#[109]⟩, .int .i64 v]) := Lib.hid (hum ▸ Blk.new wb _ _)
          rw [← hum] at hbm ⊢
          clear hum
          replace HT := Lib.hid (HT.out.below hbm HT.out.lt)
          replace QM := Lib.hid (QM.out.below hbm)
          replace QS := Lib.hid (QS.out.below hbm)
          replace RL := Lib.hid (RL.out.below hbm)
          replace RP := Lib.hid (RP.out.keep ((Keeps.of_below hbm).mono fun n hn => Nat.lt_of_lt_of_le hn HB.out.size))
          replace HB := Lib.hid (below_old HB.out hbm)
          clear hbm
          refine (copyTextsG (c := c1) um (RP.out.more fun n hn => Nat.lt_of_lt_of_le hn HB.out.size) (by omega)).mono ?_
          rintro e wc ⟨g, c7, rfl, hbc, hownc⟩
          have hgl := hownc.lt g rfl
          have ROWG := Lib.hid (hownc.rd_old.row_of)
          replace HT := Lib.hid (HT.out.below hbc HT.out.lt)
          replace HM := Lib.hid (HM.out.below hbc HM.out.lt)
          replace QM := Lib.hid (QM.out.below hbc)
          replace QS := Lib.hid (QS.out.below hbc)
          replace RL := Lib.hid (RL.out.below hbc)
          replace RP := Lib.hid (RP.out.keep ((Keeps.of_below hbc).mono fun n hn => Nat.lt_of_lt_of_le hn HB.out.size))
          replace HB := Lib.hid (below_old HB.out hbc)
          clear hbc hownc hgl
          have z0 : wc.cell? ⟨wq.heap.size, 0, none⟩ = some (.int .i64 3) := HT.out.cell 0
          have z1 : wc.cell? ⟨wq.heap.size, 1, none⟩ = some (.slice A1 l.length c1) := HT.out.cell 1
          have z2 : wc.cell? ⟨wq.heap.size, 2, none⟩ = some (.int .i64 V) := HT.out.cell 2
          have zl := HT.out.lt
          go_wp2_with fail
          clear z0 z1 z2 zl
          refine (getS_some QS.out HZ.out ROWG.out HL1.out (HP.out.keep HB.out)).mono ?_
          rintro e wd ⟨rfl, hbd⟩
          replace HT := Lib.hid (HT.out.below hbd HT.out.lt)
          replace HM := Lib.hid (HM.out.below hbd HM.out.lt)
          replace QM := Lib.hid (QM.out.below hbd)
          replace QS := Lib.hid (QS.out.below hbd)
          replace RL := Lib.hid (RL.out.below hbd)
          replace RP := Lib.hid (RP.out.keep ((Keeps.of_below hbd).mono fun n hn => Nat.lt_of_lt_of_le hn HB.out.size))
          replace HB := Lib.hid (below_old HB.out hbd)
          clear hbd ROWG
          have z0 : wd.cell? ⟨wq.heap.size, 0, none⟩ = some (.int .i64 3) := HT.out.cell 0
          have z1 : wd.cell? ⟨wq.heap.size, 1, none⟩ = some (.slice A1 l.length c1) := HT.out.cell 1
          have z2 : wd.cell? ⟨wq.heap.size, 2, none⟩ = some (.int .i64 V) := HT.out.cell 2
          have zl := HT.out.lt
          go_wp2_with fail
          clear z0 z1 z2 zl
          have hG := refGet (c := c6) (c' := c1) wd RL.out.old (RP.out.more fun n hn => Nat.lt_of_lt_of_le hn HB.out.size) SM.out HL1.out (by omega)
          rw [HGR.out] at hG
          simp only [Option.getD_some, Option.isSome_some] at hG
          refine hG.mono ?_
          rintro e we ⟨rfl, hbe⟩
          clear hG
          replace HT := Lib.hid (HT.out.below hbe HT.out.lt)
          replace HM := Lib.hid (HM.out.below hbe HM.out.lt)
          replace QM := Lib.hid (QM.out.below hbe)
          replace QS := Lib.hid (QS.out.below hbe)
          replace RL := Lib.hid (RL.out.below hbe)
          replace RP := Lib.hid (RP.out.keep ((Keeps.of_below hbe).mono fun n hn => Nat.lt_of_lt_of_le hn HB.out.size))
          replace HB := Lib.hid (below_old HB.out hbe)
          clear hbe
          have m0 : we.cell? ⟨wb.heap.size, 0, none⟩ = some (.string ⟨#[109]⟩) := HM.out.cell 0
          have m1 : we.cell? ⟨wb.heap.size, 1, none⟩ = some (.int .i64 v) := HM.out.cell 1
          have ml := HM.out.lt
          have hvv : (v != v) = false := by simp
          go_wp2_with fail
          go_roundw
          case rel => exact ⟨k + 1, by omega, by go_num, kv, kv2, r, _, _, _, rfl, RL.out, QM.out, QS.out, REP1.out, REP2.out, SM.out, LEN.out, HB.out⟩
          case measure => simp [intOf]; omega
        | none =>
          have hy : getKv kv (keyS l) = none := by
            have h1 := REP1.out.get QM.out.keyed l
            rw [hgr] at h1
            cases hg : getKv kv (keyS l) with
            | none => rfl
            | some y => rw [hg] at h1; cases h1
          have hz : getKv kv2 (keyS l) = none := by
            have h1 := REP2.out.get QS.out.keyed l
            rw [hgr] at h1
            cases hg : getKv kv2 (keyS l) with
            | none => rfl
            | some y => rw [hg] at h1; cases h1
          have HY := Lib.hid hy; have HZ := Lib.hid hz; have HGR := Lib.hid hgr
          clear hy hz hgr
          go_wp2_with fail
          refine (getM_none QM.out HY.out ROWG.out HL1.out (HP.out.keep HB.out)).mono ?_
          rintro e wb ⟨rfl, hbb⟩
          replace HT := Lib.hid (HT.out.below hbb HT.out.lt)
          replace QM := Lib.hid (QM.out.below hbb)
          replace QS := Lib.hid (QS.out.below hbb)
          replace RL := Lib.hid (RL.out.below hbb)
          replace RP := Lib.hid (RP.out.keep ((Keeps.of_below hbb).mono fun n hn => Nat.lt_of_lt_of_le hn HB.out.size))
          replace HB := Lib.hid (below_old HB.out hbb)
          clear hbb ROWG
          have z0 : wb.cell? ⟨wq.heap.size, 0, none⟩ = some (.int .i64 3) := HT.out.cell 0
          have z1 : wb.cell? ⟨wq.heap.size, 1, none⟩ = some (.slice A1 l.length c1) := HT.out.cell 1
          have z2 : wb.cell? ⟨wq.heap.size, 2, none⟩ = some (.int .i64 V) := HT.out.cell 2
          have zl := HT.out.lt
          go_wp2_with fail
          clear z0 z1 z2 zl
          have hbm := below_alloc' wb (.cells #[.string ⟨#[]⟩, .int .i64 0] 50)
          obtain ⟨um, hum⟩ : ∃ um, um = wb.alloc (.cells #[.string ⟨#[]⟩, .int .i64 0] 50) := ⟨_, rfl⟩
          have HM : Hid (Blk um wb.heap.size 50 #[.string ⟨#[]⟩, .int .i64 0]) := Lib.hid (hum ▸ Blk.new wb _ _)
          rw [← hum] at hbm ⊢
          clear hum
          replace HT := Lib.hid (HT.out.below hbm HT.out.lt)
          replace QM := Lib.hid (QM.out.below hbm)
          replace QS := Lib.hid (QS.out.below hbm)
          replace RL := Lib.hid (RL.out.below hbm)
          replace RP := Lib.hid (RP.out.keep ((Keeps.of_below hbm).mono fun n hn => Nat.lt_of_lt_of_le hn HB.out.size))
          replace HB := Lib.hid (below_old HB.out hbm)
          clear hbm
          refine (copyTextsG (c := c1) um (RP.out.more fun n hn => Nat.lt_of_lt_of_le hn HB.out.size) (by omega)).mono ?_
          rintro e wc ⟨g, c7, rfl, hbc, hownc⟩
          have hgl := hownc.lt g rfl
          have ROWG := Lib.hid (hownc.rd_old.row_of)
          replace HT := Lib.hid (HT.out.below hbc HT.out.lt)
          replace HM := Lib.hid (HM.out.below hbc HM.out.lt)
          replace QM := Lib.hid (QM.out.below hbc)
          replace QS := Lib.hid (QS.out.below hbc)
          replace RL := Lib.hid (RL.out.below hbc)
          replace RP := Lib.hid (RP.out.keep ((Keeps.of_below hbc).mono fun n hn => Nat.lt_of_lt_of_le hn HB.out.size))
          replace HB := Lib.hid (below_old HB.out hbc)
          clear hbc hownc hgl
          have z0 : wc.cell? ⟨wq.heap.size, 0, none⟩ = some (.int .i64 3) := HT.out.cell 0
          have z1 : wc.cell? ⟨wq.heap.size, 1, none⟩ = some (.slice A1 l.length c1) := HT.out.cell 1
          have z2 : wc.cell? ⟨wq.heap.size, 2, none⟩ = some (.int .i64 V) := HT.out.cell 2
          have zl := HT.out.lt
          go_wp2_with fail
          clear z0 z1 z2 zl
          refine (getS_none QS.out HZ.out ROWG.out HL1.out (HP.out.keep HB.out)).mono ?_
          rintro e wd ⟨rfl, hbd⟩
          replace HT := Lib.hid (HT.out.below hbd HT.out.lt)
          replace HM := Lib.hid (HM.out.below hbd HM.out.lt)
          replace QM := Lib.hid (QM.out.below hbd)
          replace QS := Lib.hid (QS.out.below hbd)
          replace RL := Lib.hid (RL.out.below hbd)
          replace RP := Lib.hid (RP.out.keep ((Keeps.of_below hbd).mono fun n hn => Nat.lt_of_lt_of_le hn HB.out.size))
          replace HB := Lib.hid (below_old HB.out hbd)
          clear hbd ROWG
          have z0 : wd.cell? ⟨wq.heap.size, 0, none⟩ = some (.int .i64 3) := HT.out.cell 0
          have z1 : wd.cell? ⟨wq.heap.size, 1, none⟩ = some (.slice A1 l.length c1) := HT.out.cell 1
          have z2 : wd.cell? ⟨wq.heap.size, 2, none⟩ = some (.int .i64 V) := HT.out.cell 2
          have zl := HT.out.lt
          go_wp2_with fail
          clear z0 z1 z2 zl
          have hG := refGet (c := c6) (c' := c1) wd RL.out.old (RP.out.more fun n hn => Nat.lt_of_lt_of_le hn HB.out.size) SM.out HL1.out (by omega)
          rw [HGR.out] at hG
          simp only [Option.getD_none, Option.isSome_none] at hG
          refine hG.mono ?_
          rintro e we ⟨rfl, hbe⟩
          clear hG
          replace HT := Lib.hid (HT.out.below hbe HT.out.lt)
          replace HM := Lib.hid (HM.out.below hbe HM.out.lt)
          replace QM := Lib.hid (QM.out.below hbe)
          replace QS := Lib.hid (QS.out.below hbe)
          replace RL := Lib.hid (RL.out.below hbe)
          replace RP := Lib.hid (RP.out.keep ((Keeps.of_below hbe).mono fun n hn => Nat.lt_of_lt_of_le hn HB.out.size))
          replace HB := Lib.hid (below_old HB.out hbe)
          clear hbe
          have m0 : we.cell? ⟨wb.heap.size, 0, none⟩ = some (.string ⟨#[]⟩) := HM.out.cell 0
          have m1 : we.cell? ⟨wb.heap.size, 1, none⟩ = some (.int .i64 0) := HM.out.cell 1
          have ml := HM.out.lt
          go_wp2_with fail
          go_roundw
          case rel => exact ⟨k + 1, by omega, by go_num, kv, kv2, r, _, _, _, rfl, RL.out, QM.out, QS.out, REP1.out, REP2.out, SM.out, LEN.out, HB.out⟩
          case measure => simp [intOf]; omega
      have k1 : (W == 1) = false := by simpa using hW1
      have k3 : (W == 3) = false := by simpa using hW3
      clear hW1 hW3
      go_wp2_with fail
      have hbu := below_alloc' wq (.cells #[.int .i64 W, .slice A1 l.length c1, .int .i64 V] 32)
      obtain ⟨u, hu⟩ : ∃ u, u = wq.alloc (.cells #[.int .i64 W, .slice A1 l.length c1, .int .i64 V] 32) := ⟨_, rfl⟩
      have HT : Hid (Blk u wq.heap.size 32 #[.int .i64 W, .slice A1 l.length c1, .int .i64 V]) := Lib.hid (hu ▸ Blk.new wq _ _)
      rw [← hu] at hbu ⊢
      have RP : Hid (Row Shape.str u (Old w) A1 l.length l) := Lib.hid (RP0.out.keep (Keeps.of_below (below_old HB.out hbu)))
      replace HB := Lib.hid (below_old HB.out hbu)
      replace QM := Lib.hid (QM.out.below hbu)
      replace QS := Lib.hid (QS.out.below hbu)
      replace RL := Lib.hid (RL.out.below hbu)
      clear hu x0 x1 x2 hb2 hbu RP0
      refine (copyTextsG (c := c1) u (RP.out.more fun n hn => Nat.lt_of_lt_of_le hn HB.out.size) (by omega)).mono ?_
      rintro e wa ⟨g, c7, rfl, hbc, hownc⟩
      have hgl := hownc.lt g rfl
      have ROWG := Lib.hid (hownc.rd_old.row_of)
      replace HT := Lib.hid (HT.out.below hbc HT.out.lt)
      replace QM := Lib.hid (QM.out.below hbc)
      replace QS := Lib.hid (QS.out.below hbc)
      replace RL := Lib.hid (RL.out.below hbc)
      replace RP := Lib.hid (RP.out.keep ((Keeps.of_below hbc).mono fun n hn => Nat.lt_of_lt_of_le hn HB.out.size))
      replace HB := Lib.hid (below_old HB.out hbc)
      clear hbc hownc hgl
      cases hgr : getI' r l with
      | some v =>
        obtain ⟨y, hy, hyv⟩ : ∃ y, getKv kv (keyS l) = some y ∧ y.d.v = v := by
          have h1 := REP1.out.get QM.out.keyed l
          rw [hgr] at h1
          cases hg : getKv kv (keyS l) with
          | none => rw [hg] at h1; cases h1
          | some y => rw [hg] at h1; injection h1 with h1; exact ⟨y, rfl, h1⟩
        obtain ⟨z, hz, hzv⟩ : ∃ z, getKv kv2 (keyS l) = some z ∧ z.d.v = v := by
          have h1 := REP2.out.get QS.out.keyed l
          rw [hgr] at h1
          cases hg : getKv kv2 (keyS l) with
          | none => rw [hg] at h1; cases h1
          | some z => rw [hg] at h1; injection h1 with h1; exact ⟨z, rfl, h1⟩
        have HY := Lib.hid hy; have HZ := Lib.hid hz; have HYV := Lib.hid hyv; have HGR := Lib.hid hgr
        clear hy hz hyv hzv hgr
        go_wp2_with fail
        refine (getM_some QM.out HY.out ROWG.out HL1.out (HP.out.keep HB.out)).mono ?_
        rintro e wb ⟨rfl, hbb⟩
        rw [HYV.out]
        replace HT := Lib.hid (HT.out.below hbb HT.out.lt)
        replace QM := Lib.hid (QM.out.below hbb)
        replace QS := Lib.hid (QS.out.below hbb)
        replace RL := Lib.hid (RL.out.below hbb)
        replace RP := Lib.hid (RP.out.keep ((Keeps.of_below hbb).mono fun n hn => Nat.lt_of_lt_of_le hn HB.out.size))
        replace HB := Lib.hid (below_old HB.out hbb)
        clear hbb ROWG
        have z0 : wb.cell? ⟨wq.heap.size, 0, none⟩ = some (.int .i64 W) := HT.out.cell 0
        have z1 : wb.cell? ⟨wq.heap.size, 1, none⟩ = some (.slice A1 l.length c1) := HT.out.cell 1
        have z2 : wb.cell? ⟨wq.heap.size, 2, none⟩ = some (.int .i64 V) := HT.out.cell 2
        have zl := HT.out.lt
        go_wp2_with fail
        clear z0 z1 z2 zl
        have hbm := below_alloc' wb (.cells #[.string ⟨#[109]⟩, .int .i64 v] 50)
        obtain ⟨um, hum⟩ : ∃ um, um = wb.alloc (.cells #[.string ⟨#[109]⟩, .int .i64 v] 50) := ⟨_, rfl⟩
        have HM : Hid (Blk um wb.heap.size 50 #[.string ⟨#[109]⟩, .int .i64 v]) := Lib.hid (hum ▸ Blk.new wb _ _)
        rw [← hum] at hbm ⊢
        clear hum
        replace HT := Lib.hid (HT.out.below hbm HT.out.lt)
        replace QM := Lib.hid (QM.out.below hbm)
        replace QS := Lib.hid (QS.out.below hbm)
        replace RL := Lib.hid (RL.out.below hbm)
        replace RP := Lib.hid (RP.out.keep ((Keeps.of_below hbm).mono fun n hn => Nat.lt_of_lt_of_le hn HB.out.size))
        replace HB := Lib.hid (below_old HB.out hbm)
        clear hbm
        refine (copyTextsG (c := c1) um (RP.out.more fun n hn => Nat.lt_of_lt_of_le hn HB.out.size) (by omega)).mono ?_
        rintro e wc ⟨g, c7, rfl, hbc, hownc⟩
        have hgl := hownc.lt g rfl
        have ROWG := Lib.hid (hownc.rd_old.row_of)
        replace HT := Lib.hid (HT.out.below hbc HT.out.lt)
        replace HM := Lib.hid (HM.out.below hbc HM.out.lt)
        replace QM := Lib.hid (QM.out.below hbc)
        replace QS := Lib.hid (QS.out.below hbc)
        replace RL := Lib.hid (RL.out.below hbc)
        replace RP := Lib.hid (RP.out.keep ((Keeps.of_below hbc).mono fun n hn => Nat.lt_of_lt_of_le hn HB.out.size))
        replace HB := Lib.hid (below_old HB.out hbc)
        clear hbc hownc hgl
        have z0 : wc.cell? ⟨wq.heap.size, 0, none⟩ = some (.int .i64 W) := HT.out.cell 0
        have z1 : wc.cell? ⟨wq.heap.size, 1, none⟩ = some (.slice A1 l.length c1) := HT.out.cell 1
        have z2 : wc.cell? ⟨wq.heap.size, 2, none⟩ = some (.int .i64 V) := HT.out.cell 2
        have zl := HT.out.lt
        go_wp2_with fail
        clear z0 z1 z2 zl
        refine (getS_some QS.out HZ.out ROWG.out HL1.out (HP.out.keep HB.out)).mono ?_
        rintro e wd ⟨rfl, hbd⟩
        replace HT := Lib.hid (HT.out.below hbd HT.out.lt)
        replace HM := Lib.hid (HM.out.below hbd HM.out.lt)
        replace QM := Lib.hid (QM.out.below hbd)
        replace QS := Lib.hid (QS.out.below hbd)
        replace RL := Lib.hid (RL.out.below hbd)
        replace RP := Lib.hid (RP.out.keep ((Keeps.of_below hbd).mono fun n hn => Nat.lt_of_lt_of_le hn HB.out.size))
        replace HB := Lib.hid (below_old HB.out hbd)
        clear hbd ROWG
        have z0 : wd.cell? ⟨wq.heap.size, 0, none⟩ = some (.int .i64 W) := HT.out.cell 0
        have z1 : wd.cell? ⟨wq.heap.size, 1, none⟩ = some (.slice A1 l.length c1) := HT.out.cell 1
        have z2 : wd.cell? ⟨wq.heap.size, 2, none⟩ = some (.int .i64 V) := HT.out.cell 2
        have zl := HT.out.lt
        go_wp2_with fail
        clear z0 z1 z2 zl
        have hG := refGet (c := c5) (c' := c1) wd RL.out.old (RP.out.more fun n hn => Nat.lt_of_lt_of_le hn HB.out.size) SM.out HL1.out (by omega)
        rw [HGR.out] at hG
        simp only [Option.getD_some, Option.isSome_some] at hG
        refine hG.mono ?_
        rintro e we ⟨rfl, hbe⟩
        clear hG
        replace HT := Lib.hid (HT.out.below hbe HT.out.lt)
        replace HM := Lib.hid (HM.out.below hbe HM.out.lt)
        replace QM := Lib.hid (QM.out.below hbe)
        replace QS := Lib.hid (QS.out.below hbe)
        replace RL := Lib.hid (RL.out.below hbe)
        replace RP := Lib.hid (RP.out.keep ((Keeps.of_below hbe).mono fun n hn => Nat.lt_of_lt_of_le hn HB.out.size))
        replace HB := Lib.hid (below_old HB.out hbe)
        clear hbe
        have m0 : we.cell? ⟨wb.heap.size, 0, none⟩ = some (.string ⟨#[109]⟩) := HM.out.cell 0
        have m1 : we.cell? ⟨wb.heap.size, 1, none⟩ = some (.int .i64 v) := HM.out.cell 1
        have ml := HM.out.lt
        have hvv : (v != v) = false := by simp
        go_wp2_with fail
        go_roundw
        case rel => exact ⟨k + 1, by omega, by go_num, kv, kv2, r, A5, n5, c5, rfl, RL.out, QM.out, QS.out, REP1.out, REP2.out, SM.out, LEN.out, HB.out⟩
        case measure => simp [intOf]; omega
      | none =>
        have hy : getKv kv (keyS l) = none := by
          have h1 := REP1.out.get QM.out.keyed l
          rw [hgr] at h1
          cases hg : getKv kv (keyS l) with
          | none => rfl
          | some y => rw [hg] at h1; cases h1
        have hz : getKv kv2 (keyS l) = none := by
          have h1 := REP2.out.get QS.out.keyed l
          rw [hgr] at h1
          cases hg : getKv kv2 (keyS l) with
          | none => rfl
          | some y => rw [hg] at h1; cases h1
        have HY := Lib.hid hy; have HZ := Lib.hid hz; have HGR := Lib.hid hgr
        clear hy hz hgr
        go_wp2_with fail
        refine (getM_none QM.out HY.out ROWG.out HL1.out (HP.out.keep HB.out)).mono ?_
        rintro e wb ⟨rfl, hbb⟩
        replace HT := Lib.hid (HT.out.below hbb HT.out.lt)
        replace QM := Lib.hid (QM.out.below hbb)
        replace QS := Lib.hid (QS.out.below hbb)
        replace RL := Lib.hid (RL.out.below hbb)
        replace RP := Lib.hid (RP.out.keep ((Keeps.of_below hbb).mono fun n hn => Nat.lt_of_lt_of_le hn HB.out.size))
        replace HB := Lib.hid (below_old HB.out hbb)
        clear hbb ROWG
        have z0 : wb.cell? ⟨wq.heap.size, 0, none⟩ = some (.int .i64 W) := HT.out.cell 0
        have z1 : wb.cell? ⟨wq.heap.size, 1, none⟩ = some (.slice A1 l.length c1) := HT.out.cell 1
        have z2 : wb.cell? ⟨wq.heap.size, 2, none⟩ = some (.int .i64 V) := HT.out.cell 2
        have zl := HT.out.lt
        go_wp2_with fail
        clear z0 z1 z2 zl
        have hbm := below_alloc' wb (.cells #[.string ⟨#[]⟩, .int .i64 0] 50)
        obtain ⟨um, hum⟩ : ∃ um, um = wb.alloc (.cells #[.string ⟨#[]⟩, .int .i64 0] 50) := ⟨_, rfl⟩
        have HM : Hid (Blk um wb.heap.size 50 #[.string ⟨#[]⟩, .int .i64 0]) := Lib.hid (hum ▸ Blk.new wb _ _)
        rw [← hum] at hbm ⊢
        clear hum
        replace HT := Lib.hid (HT.out.below hbm HT.out.lt)
        replace QM := Lib.hid (QM.out.below hbm)
        replace QS := Lib.hid (QS.out.below hbm)
        replace RL := Lib.hid (RL.out.below hbm)
        replace RP := Lib.hid (RP.out.keep ((Keeps.of_below hbm).mono fun n hn => Nat.lt_of_lt_of_le hn HB.out.size))
        replace HB := Lib.hid (below_old HB.out hbm)
        clear hbm
        refine (copyTextsG (c := c1) um (RP.out.more fun n hn => Nat.lt_of_lt_of_le hn HB.out.size) (by omega)).mono ?_
        rintro e wc ⟨g, c7, rfl, hbc, hownc⟩
        have hgl := hownc.lt g rfl
        have ROWG := Lib.hid (hownc.rd_old.row_of)
        replace HT := Lib.hid (HT.out.below hbc HT.out.lt)
        replace HM := Lib.hid (HM.out.below hbc HM.out.lt)
        replace QM := Lib.hid (QM.out.below hbc)
        replace QS := Lib.hid (QS.out.below hbc)
        replace RL := Lib.hid (RL.out.below hbc)
        replace RP := Lib.hid (RP.out.keep ((Keeps.of_below hbc).mono fun n hn => Nat.lt_of_lt_of_le hn HB.out.size))
        replace HB := Lib.hid (below_old HB.out hbc)
        clear hbc hownc hgl
        have z0 : wc.cell? ⟨wq.heap.size, 0, none⟩ = some (.int .i64 W) := HT.out.cell 0
        have z1 : wc.cell? ⟨wq.heap.size, 1, none⟩ = some (.slice A1 l.length c1) := HT.out.cell 1
        have z2 : wc.cell? ⟨wq.heap.size, 2, none⟩ = some (.int .i64 V) := HT.out.cell 2
        have zl := HT.out.lt
        go_wp2_with fail
        clear z0 z1 z2 zl
        refine (getS_none QS.out HZ.out ROWG.out HL1.out (HP.out.keep HB.out)).mono ?_
        rintro e wd ⟨rfl, hbd⟩
        replace HT := Lib.hid (HT.out.below hbd HT.out.lt)
        replace HM := Lib.hid (HM.out.below hbd HM.out.lt)
        replace QM := Lib.hid (QM.out.below hbd)
        replace QS := Lib.hid (QS.out.below hbd)
        replace RL := Lib.hid (RL.out.below hbd)
        replace RP := Lib.hid (RP.out.keep ((Keeps.of_below hbd).mono fun n hn => Nat.lt_of_lt_of_le hn HB.out.size))
        replace HB := Lib.hid (below_old HB.out hbd)
        clear hbd ROWG
        have z0 : wd.cell? ⟨wq.heap.size, 0, none⟩ = some (.int .i64 W) := HT.out.cell 0
        have z1 : wd.cell? ⟨wq.heap.size, 1, none⟩ = some (.slice A1 l.length c1) := HT.out.cell 1
        have z2 : wd.cell? ⟨wq.heap.size, 2, none⟩ = some (.int .i64 V) := HT.out.cell 2
        have zl := HT.out.lt
        go_wp2_with fail
        clear z0 z1 z2 zl
        have hG := refGet (c := c5) (c' := c1) wd RL.out.old (RP.out.more fun n hn => Nat.lt_of_lt_of_le hn HB.out.size) SM.out HL1.out (by omega)
        rw [HGR.out] at hG
        simp only [Option.getD_none, Option.isSome_none] at hG
        refine hG.mono ?_
        rintro e we ⟨rfl, hbe⟩
        clear hG
        replace HT := Lib.hid (HT.out.below hbe HT.out.lt)
        replace HM := Lib.hid (HM.out.below hbe HM.out.lt)
        replace QM := Lib.hid (QM.out.below hbe)
        replace QS := Lib.hid (QS.out.below hbe)
        replace RL := Lib.hid (RL.out.below hbe)
        replace RP := Lib.hid (RP.out.keep ((Keeps.of_below hbe).mono fun n hn => Nat.lt_of_lt_of_le hn HB.out.size))
        replace HB := Lib.hid (below_old HB.out hbe)
        clear hbe
        have m0 : we.cell? ⟨wb.heap.size, 0, none⟩ = some (.string ⟨#[]⟩) := HM.out.cell 0
        have m1 : we.cell? ⟨wb.heap.size, 1, none⟩ = some (.int .i64 0) := HM.out.cell 1
        have ml := HM.out.lt
        go_wp2_with fail
        go_roundw
        case rel => exact ⟨k + 1, by omega, by go_num, kv, kv2, r, A5, n5, c5, rfl, RL.out, QM.out, QS.out, REP1.out, REP2.out, SM.out, LEN.out, HB.out⟩
        case measure => simp [intOf]; omega
    · have hkn : k = n' := by omega
      subst hkn
      have hk1 : kv.length = n5 := by rw [REP1.out.length]; exact hn5
      have hk2 : kv2.length = n5 := by rw [REP2.out.length]; exact hn5
      go_wp2_with fail
      refine (lenM QM.out).mono ?_
      rintro e w5 ⟨rfl, rfl⟩
      rw [hk1]
      go_wp2_with fail
      refine (lenS QS.out).mono ?_
      rintro e w5 ⟨rfl, rfl⟩
      rw [hk2]
      go_wp2_with fail
      refine (itemsM QM.out (by omega)).mono ?_
      rintro e w6 ⟨vv, lo, rfl, hown6, hperm6, hpair6, hb6, _, _, _⟩
      obtain ⟨A8, n8, c8, rfl, _, _, hrow8⟩ := hown6.rd_old
      have hn8 : n8 = n5 := by have h1 := hperm6.length_eq; rw [List.length_map, List.length_map] at h1; have h2 := hrow8.1; omega
      subst hn8
      have HB6 := Lib.hid (below_old HB.out hb6)
      clear hown6 hperm6 hpair6 hb6 hrow8
      go_wp2_with fail
      go_ret
      exact ⟨by first | rfl | simp, HB6.out⟩
end Go.Proofs.YtdmpdinaineiiaaDoor
