/- LaterNumbers: its walk. No condition but room and the table of powers of ten. -/
import Derived.Test.YtdmpdinaineiiaaDoorLtLib
namespace Go.Proofs.YtdmpdinaineiiaaDoor
open Go.RowKit
set_option linter.unusedVariables false
set_option linter.unusedSimpArgs false
attribute [local go_sem] cell?_over frozen?_over lt_over le_over
theorem SliceRd.row_of {α : Type} {s : Shape α} {w : World} {M : Nat → Prop} {A : Option Addr} {n c : Nat} {l : List α} (h : SliceRd s w M (.slice A n c) l) : Row s w M A n l := by
  obtain ⟨A', n', c', e, _, _, hr⟩ := h
  injection e with e1 e2 e3
  subst e1 e2
  exact hr
set_option maxHeartbeats 20000000 in
set_option maxRecDepth 100000 in
theorem ltNum_law {A : Option Addr} {n c : Nat} {sc : List OpD} (w : World) (h : Row Shape.OpD w (Old w) A n sc) (hnc : n ≤ c) (hcm : c ≤ maxLen) (hs : ∀ o ∈ sc, sizeAll o.parts ≤ 1048576) (hp : Pow10 w) :
    Calls Tryd.prog 4 #[.slice A n c] w fun e w' => e = .returned (.bool true) ∧ Below w.heap.size w w' := by
  have H := Lib.hid h
  have HP := Lib.hid hp
  clear h hp
  go_enter Tryd.func4, Tryd.ntmps4
  go_wp2_with fail
  refine (alive21 w HP.out).mono ?_
  rintro e w1 ⟨rfl, hb1⟩
  have HB1 := Lib.hid hb1
  clear hb1
  go_wp2_with fail
  refine (newI w1).mono ?_
  rintro e w2 ⟨q, b, rfl, hb2, hQ2, hbb, hqq⟩
  have HB2 := Lib.hid (below_old HB1.out hb2)
  have Q2 := Lib.hid hQ2
  have hwb : w.heap.size ≤ b := Nat.le_trans HB1.out.size hbb
  have hwq : w.heap.size ≤ q := Nat.le_trans HB1.out.size hqq
  have hqb := hQ2.qb
  clear hb2 hQ2 HB1 hbb hqq
  go_wp2_with fail
  have hb3 := below_alloc' w2 (.cells #[] 66)
  refine (cutOps _ (H.out.below (below_old HB2.out hb3)) hnc hcm).mono ?_
  rintro e w3 ⟨n', c', rfl, hn300, hnn, hnc', hcm', hrow, rfl⟩
  have Q3 := Lib.hid (Q2.out.below hb3)
  have HB3 := Lib.hid (below_old HB2.out hb3)
  have HR := Lib.hid (H.out.take hnn)
  have hss : ∀ o ∈ sc.take n', sizeAll o.parts ≤ 1048576 := fun o ho => hs o (List.mem_of_mem_take ho)
  have HS := Lib.hid hss
  clear hb3 hrow hs hss Q2 HB2
  generalize sc.take n' = sc' at HR HS
  obtain ⟨A0, hA0⟩ : ∃ A0 : Option Addr, A0 = some ⟨w2.heap.size, 0, none⟩ := ⟨_, rfl⟩
  have L3 : Hid (LRow [b] (w2.alloc (.cells #[] 66)) A0 0 0 []) := Lib.hid ⟨Row.nil, Nat.le_refl _, by simp [maxLen]⟩
  rw [← hA0]
  clear hA0
  generalize w2.alloc (.cells #[] 66) = w4 at *
  go_wp2_with fail
  go_loopw [4, 5] (fun v4 i wr => ∃ k : Nat, k ≤ n' ∧ i = .int .i64 k ∧ ∃ (kv : KV) (r : List ItemD) (A4 : Option Addr) (n4 c4 : Nat), v4 = .slice A4 n4 c4 ∧ LRow [b] wr A4 n4 c4 r ∧ QuI wr [b] q b kv ∧ Rep kv r ∧ SmallI r ∧ r.length ≤ k ∧ Below w.heap.size w wr) (fun _ i _ => n' - (intOf i).toNat)
  case atStart => exact ⟨0, Nat.zero_le _, rfl, [], [], A0, 0, 0, rfl, L3.out, Q3.out, Rep.nil, (fun x hx => by cases hx), Nat.le_refl _, HB3.out⟩
  case round =>
    clear L3 Q3 HB3
    obtain ⟨wq, rfl⟩ : ∃ wq : World, wq = wr := ⟨_, rfl⟩
    obtain ⟨k, hk, rfl, kv, r, A4, n4, c4, rfl, hL, hQ, hrep, hsm, hlen, hbel⟩ := hrel
    have RL := Lib.hid hL; have QL := Lib.hid hQ; have REP := Lib.hid hrep; have SM := Lib.hid hsm; have HB := Lib.hid hbel
    have hn4 := hL.row.1
    have hwr := HB.out.size
    have hbltr := QL.out.map.lt
    have hqltr := QL.out.blk.lt
    clear hL hQ hrep hsm hbel
    by_cases hlt : k < n'
    · obtain ⟨bs, offs, es, hkl, hAe, hbs, hc, hr⟩ := HR.out.at_ hlt
      subst hAe
      obtain ⟨A1, n1, c1, rfl, i0, p1, p2, p3, i2⟩ := hr
      have hl1 := HS.out sc'[k] (List.getElem_mem hkl)
      have e13 : Shape.OpD.size = 3 := rfl
      have x0 := hc 0 (by decide)
      have x1 := hc 1 (by decide)
      have x2 := hc 2 (by decide)
      simp only [e13, Nat.add_zero, List.getElem?_cons_zero, List.getElem?_cons_succ] at x0 x1 x2
      rw [← HB.out.cell (p := ⟨bs, offs + k * 3, none⟩) hbs] at x0
      rw [← HB.out.cell (p := ⟨bs, offs + k * 3 + 1, none⟩) hbs] at x1
      rw [← HB.out.cell (p := ⟨bs, offs + k * 3 + 2, none⟩) hbs] at x2
      have hb2 : bs < wq.heap.size := Nat.lt_of_lt_of_le hbs HB.out.size
      have hks : (k : Int) < n' := by omega
      have hpl := p3.1
      subst hpl
      have RP0 := Lib.hid p3
      obtain ⟨l, hl⟩ : ∃ l, l = sc'[k].parts := ⟨_, rfl⟩
      obtain ⟨W, hW⟩ : ∃ W, W = sc'[k].what := ⟨_, rfl⟩
      obtain ⟨V, hV⟩ : ∃ V, V = sc'[k].v := ⟨_, rfl⟩
      rw [← hl] at x1 p1 RP0 hl1
      rw [← hW] at x0
      rw [← hV] at x2 i2
      have I2 := Lib.hid i2
      have hnl := small_n RP0.out hl1
      have HL1 := Lib.hid hl1
      clear hc e13 p3 hl hW hV i0 i2 p2 hbs hl1
      go_wp2_with fail
      have hbu := below_alloc' wq (.cells #[.int .i64 W, .slice A1 l.length c1, .int .i64 V] 32)
      obtain ⟨u, hu⟩ : ∃ u, u = wq.alloc (.cells #[.int .i64 W, .slice A1 l.length c1, .int .i64 V] 32) := ⟨_, rfl⟩
      have HT : Hid (Blk u wq.heap.size 32 #[.int .i64 W, .slice A1 l.length c1, .int .i64 V]) := Lib.hid (hu ▸ Blk.new wq _ _)
      rw [← hu] at hbu ⊢
      have RP : Hid (Row Shape.str u (Old w) A1 l.length l) := Lib.hid (RP0.out.keep (Keeps.of_below (below_old HB.out hbu)))
      replace HB := Lib.hid (below_old HB.out hbu)
      replace QL := Lib.hid (QL.out.below hbu)
      replace RL := Lib.hid (RL.out.below hbu)
      clear hu x0 x1 x2 hb2 hbu RP0
      have hszu := HB.out.size
      have hbx : wq.heap.size < u.heap.size := HT.out.lt
      have hbltu := QL.out.map.lt
      have hqltu := QL.out.blk.lt
      refine (copyTextsG (c := c1) u (RP.out.more fun n hn => Nat.lt_of_lt_of_le hn hszu) (by omega)).mono ?_
      rintro e w5 ⟨g, c7, rfl, hb5, hown5⟩
      have hgl := hown5.lt g rfl
      obtain ⟨B0, hB0⟩ : ∃ B0, B0 = u.heap.size := ⟨_, rfl⟩
      have OG : Hid (Own Shape.str 9 w5 B0 (fun _ => False) (.slice (some ⟨g, 0, none⟩) l.length c7) l) := Lib.hid (hB0 ▸ hown5)
      have hgB := hgl.1
      have hQ5 := QL.out.excl hb5 hgl.1 hgl.2
      have hL5 := RL.out.excl hb5 hgl.1
      replace QL := Lib.hid hQ5
      replace RL := Lib.hid hL5
      replace HT := Lib.hid (HT.out.below hb5 hbx)
      replace RP := Lib.hid (RP.out.keep ((Keeps.of_below hb5).mono fun n hn => Nat.lt_of_lt_of_le hn hszu))
      replace HB := Lib.hid (below_old HB.out hb5)
      clear hb5 hown5 hQ5 hL5 hB0
      have hgl2 := hgl.2
      clear hgl
      have LEN := Lib.hid (show r.length ≤ k + 1 by omega)
      by_cases hW1 : W = 1
      · subst hW1
        have z0 : w5.cell? ⟨wq.heap.size, 0, none⟩ = some (.int .i64 1) := HT.out.cell 0
        have z1 : w5.cell? ⟨wq.heap.size, 1, none⟩ = some (.slice A1 l.length c1) := HT.out.cell 1
        have z2 : w5.cell? ⟨wq.heap.size, 2, none⟩ = some (.int .i64 V) := HT.out.cell 2
        have zl := HT.out.lt
        go_wp2_with fail
        refine (putI QL.out V ((OG.out.rd_old).row_of) HL1.out I2.out (HP.out.keep HB.out)).mono ?_
        rintro e w6 ⟨x, hx, rfl, hg6, hQ6⟩
        have REP1 := Lib.hid (REP.out.put (QL.out.keyed) x)
        rw [hx] at REP1
        simp only at REP1
        have SM1 := Lib.hid (small_put SM.out (d := ⟨l, V⟩) HL1.out)
        have LEN1 := Lib.hid (show (putI' r ⟨l, V⟩).length ≤ k + 1 by have := len_put r ⟨l, V⟩; omega)
        clear z0 z1 z2 zl
        replace QL := Lib.hid hQ6
        obtain ⟨kv', hkv'⟩ : ∃ kv', kv' = putKv kv (keyS l) x := ⟨_, rfl⟩
        rw [← hkv'] at QL REP1
        clear hQ6 hkv' hx
        replace HT := Lib.hid (HT.out.grown hg6 (fun e => by injection e with e; omega))
        replace OG := Lib.hid (OG.out.keepsM (N := fun n => n = g) (fun n hn => by subst hn; exact (hg6).block n (OG.out.lt n rfl).2 (fun e => by injection e with e; omega)) (fun n hn => by injection hn with hn; exact hn.symm))
        replace RL := Lib.hid (RL.out.grown hg6 (fun k e => by injection e with e; rw [← e]; simp))
        replace RP := Lib.hid (RP.out.keep ((Keeps.of_grown hg6).mono fun n hn => ⟨Nat.lt_of_lt_of_le hn HB.out.size, fun e => by injection e with e; have : n < w.heap.size := hn; omega⟩))
        replace HB := Lib.hid (HB.out.grown hg6 HB.out.size (fun n hn => by injection hn with hn; omega))
        clear hg6
        have z0 : w6.cell? ⟨wq.heap.size, 0, none⟩ = some (.int .i64 1) := HT.out.cell 0
        have z1 : w6.cell? ⟨wq.heap.size, 1, none⟩ = some (.slice A1 l.length c1) := HT.out.cell 1
        have z2 : w6.cell? ⟨wq.heap.size, 2, none⟩ = some (.int .i64 V) := HT.out.cell 2
        have zl := HT.out.lt
        go_wp2_with fail
        refine (refPut (X := [g, b]) (c := c4) (c' := c1) V w6 RL.out.row (RP.out.more fun n hn => Nat.lt_of_lt_of_le hn HB.out.size) QL.out.low SM.out HL1.out I2.out (by omega)).mono ?_
        rintro e w7 ⟨v7, rfl, hsl, hb7⟩
        clear z0 z1 z2 zl
        replace HT := Lib.hid (HT.out.below hb7 HT.out.lt)
        replace OG := Lib.hid (own_below OG.out hb7)
        replace QL := Lib.hid (QL.out.below hb7)
        replace RL := Lib.hid (RL.out.below hb7)
        replace RP := Lib.hid (RP.out.keep ((Keeps.of_below hb7).mono fun n hn => Nat.lt_of_lt_of_le hn HB.out.size))
        replace HB := Lib.hid (below_old HB.out hb7)
        obtain ⟨A6, n6, c6, rfl, hnc6, hcm6, hrow6⟩ := hsl
        replace RL := Lib.hid (LRow.mk hrow6 hnc6 hcm6)
        clear hb7 hrow6 hnc6 hcm6
        have z0 : w7.cell? ⟨wq.heap.size, 0, none⟩ = some (.int .i64 1) := HT.out.cell 0
        have z1 : w7.cell? ⟨wq.heap.size, 1, none⟩ = some (.slice A1 l.length c1) := HT.out.cell 1
        have z2 : w7.cell? ⟨wq.heap.size, 2, none⟩ = some (.int .i64 V) := HT.out.cell 2
        have zl := HT.out.lt
        go_wp2_with fail
        refine (sameTexts (c := c7) (c' := c1) w7 (OG.out.rd_old.row_of) (RP.out.more fun n hn => Nat.lt_of_lt_of_le hn HB.out.size) (by omega) (by omega)).mono ?_
        rintro e wa ⟨rfl, δa, hwa⟩
        rw [decide_eq_true rfl]
        have hba := below_of hwa
        clear hwa z0 z1 z2 zl
        replace HT := Lib.hid (HT.out.below hba HT.out.lt)
        replace OG := Lib.hid (own_below OG.out hba)
        replace QL := Lib.hid (QL.out.below hba)
        replace RL := Lib.hid (RL.out.below hba)
        replace RP := Lib.hid (RP.out.keep ((Keeps.of_below hba).mono fun n hn => Nat.lt_of_lt_of_le hn HB.out.size))
        replace HB := Lib.hid (below_old HB.out hba)
        clear hba
        go_wp2_with fail
        obtain ⟨wo, hwo⟩ : ∃ wo, wo = wa := ⟨_, rfl⟩
        rw [← hwo] at HT OG QL RL RP HB ⊢
        clear hwo
        go_loopw [14] (fun j wr => ∃ jj : Nat, jj ≤ l.length ∧ j = .int .i64 jj ∧ (∃ l', l'.length = l.length ∧ Own Shape.str 9 wr B0 (fun _ => False) (.slice (some ⟨g, 0, none⟩) l.length c7) l') ∧ wo.grownBy wr (some g)) (fun j _ => l.length - (intOf j).toNat)
        case atStart => exact ⟨0, Nat.zero_le _, rfl, ⟨l, rfl, OG.out⟩, grown_refl _ _⟩
        case round =>
          obtain ⟨jj, hjj, rfl, ⟨l', hl', hOb⟩, hgb⟩ := hrel
          have OB := Lib.hid hOb; have GB := Lib.hid hgb; have L' := Lib.hid hl'
          clear hOb hgb hl'
          by_cases hjl : jj < l.length
          · obtain ⟨es, hes, hcell, hfr⟩ := OB.out.cellC rfl (i := jj) (by rw [L'.out]; exact hjl)
            obtain ⟨rfl, hsz⟩ := hes
            have gb := (OB.out.lt g rfl).2
            obtain ⟨old, co⟩ : ∃ old, wr.cell? ⟨g, jj, none⟩ = some (.string old) := ⟨_, by have := hcell 0 (by decide); simpa [Shape.str] using this⟩
            have cf := hfr jj
            have hjs : (jj : Int) < l.length := by omega
            have hset := OB.out.setC rfl (i := jj) (j := 0) (u := .string ⟨#[111, 119, 110]⟩) (a := ⟨#[111, 119, 110]⟩) (by rw [L'.out]; exact hjl) (by decide) (fun w es h => by
              obtain ⟨rfl, h1⟩ := h
              exact ⟨rfl, (by decide : (3 : Nat) ≤ maxLen)⟩)
            have e13 : Shape.str.size = 1 := rfl
            rw [e13, Nat.mul_one, Nat.add_zero] at hset
            have HSET := Lib.hid hset
            have HG2 := Lib.hid (grown_trans GB.out (grown_setCell wr ⟨g, jj, none⟩ (.string ⟨#[111, 119, 110]⟩)))
            clear hcell hfr hsz hset e13
            go_wp2_with fail
            go_roundw
            case rel => exact ⟨jj + 1, by omega, by go_num, ⟨_, by rw [List.length_set]; exact L'.out, HSET.out⟩, HG2.out⟩
            case measure => simp [intOf]; omega
          · have gX : ∀ k, some g = some k → k ∈ [g, b] := fun k e => by injection e with e; rw [← e]; simp
            have QF := Lib.hid ((QL.out.grown GB.out gX (fun e => by injection e with e; omega) (fun e => by injection e with e; omega)).less (List.mem_singleton.2 rfl))
            have RF := Lib.hid ((RL.out.grown GB.out gX).less)
            have HBF := Lib.hid (HB.out.grown GB.out HB.out.size (fun n hn => by injection hn with hn; omega))
            clear GB OB QL RL HB HT OG RP
            go_wp2_with fail
            go_roundw
            case rel => exact ⟨k + 1, by omega, by go_num, kv', _, _, _, _, rfl, RF.out, QF.out, REP1.out, SM1.out, LEN1.out, HBF.out⟩
            case measure => simp [intOf]; omega
      by_cases hW2 : W = 2
      · subst hW2
        clear hW1
        have z0 : w5.cell? ⟨wq.heap.size, 0, none⟩ = some (.int .i64 2) := HT.out.cell 0
        have z1 : w5.cell? ⟨wq.heap.size, 1, none⟩ = some (.slice A1 l.length c1) := HT.out.cell 1
        have z2 : w5.cell? ⟨wq.heap.size, 2, none⟩ = some (.int .i64 V) := HT.out.cell 2
        have zl := HT.out.lt
        cases hgv : getKv kv (keyS l) with
        | some y =>
          have hri : getI' r l = some y.d.v := by rw [← REP.out.get QL.out.keyed l, hgv]; rfl
          have HRI := Lib.hid hri
          clear hri
          go_wp2_with fail
          refine (getI_some QL.out hgv ((OG.out.rd_old).row_of) HL1.out (HP.out.keep HB.out)).mono ?_
          rintro e w6 ⟨rfl, hb6⟩
          clear hgv z0 z1 z2 zl
          obtain ⟨gv, hgv⟩ : ∃ gv, gv = y.d.v := ⟨_, rfl⟩
          rw [← hgv] at HRI ⊢
          clear hgv
          replace HT := Lib.hid (HT.out.below hb6 HT.out.lt)
          replace OG := Lib.hid (own_below OG.out hb6)
          replace QL := Lib.hid (QL.out.below hb6)
          replace RL := Lib.hid (RL.out.below hb6)
          replace RP := Lib.hid (RP.out.keep ((Keeps.of_below hb6).mono fun n hn => Nat.lt_of_lt_of_le hn HB.out.size))
          replace HB := Lib.hid (below_old HB.out hb6)
          clear hb6
          have z0 : w6.cell? ⟨wq.heap.size, 0, none⟩ = some (.int .i64 2) := HT.out.cell 0
          have z1 : w6.cell? ⟨wq.heap.size, 1, none⟩ = some (.slice A1 l.length c1) := HT.out.cell 1
          have z2 : w6.cell? ⟨wq.heap.size, 2, none⟩ = some (.int .i64 V) := HT.out.cell 2
          have zl := HT.out.lt
          go_wp2_with fail
          have hG := refGet (c := c4) (c' := c1) w6 RL.out.old (RP.out.more fun n hn => Nat.lt_of_lt_of_le hn HB.out.size) SM.out HL1.out (by omega)
          rw [HRI.out] at hG
          simp only [Option.getD_some, Option.isSome_some] at hG
          refine hG.mono ?_
          rintro e w7 ⟨rfl, hb7⟩
          clear hG z0 z1 z2 zl
          have hgg : (gv != gv) = false := by simp
          replace HT := Lib.hid (HT.out.below hb7 HT.out.lt)
          replace OG := Lib.hid (own_below OG.out hb7)
          replace QL := Lib.hid (QL.out.below hb7)
          replace RL := Lib.hid (RL.out.below hb7)
          replace RP := Lib.hid (RP.out.keep ((Keeps.of_below hb7).mono fun n hn => Nat.lt_of_lt_of_le hn HB.out.size))
          replace HB := Lib.hid (below_old HB.out hb7)
          clear hb7
          have z0 : w7.cell? ⟨wq.heap.size, 0, none⟩ = some (.int .i64 2) := HT.out.cell 0
          have z1 : w7.cell? ⟨wq.heap.size, 1, none⟩ = some (.slice A1 l.length c1) := HT.out.cell 1
          have z2 : w7.cell? ⟨wq.heap.size, 2, none⟩ = some (.int .i64 V) := HT.out.cell 2
          have zl := HT.out.lt
          go_wp2_with fail
          refine (sameTexts (c := c7) (c' := c1) w7 (OG.out.rd_old.row_of) (RP.out.more fun n hn => Nat.lt_of_lt_of_le hn HB.out.size) (by omega) (by omega)).mono ?_
          rintro e wa ⟨rfl, δa, hwa⟩
          rw [decide_eq_true rfl]
          have hba := below_of hwa
          clear hwa z0 z1 z2 zl
          replace HT := Lib.hid (HT.out.below hba HT.out.lt)
          replace OG := Lib.hid (own_below OG.out hba)
          replace QL := Lib.hid (QL.out.below hba)
          replace RL := Lib.hid (RL.out.below hba)
          replace RP := Lib.hid (RP.out.keep ((Keeps.of_below hba).mono fun n hn => Nat.lt_of_lt_of_le hn HB.out.size))
          replace HB := Lib.hid (below_old HB.out hba)
          clear hba
          go_wp2_with fail
          obtain ⟨wo, hwo⟩ : ∃ wo, wo = wa := ⟨_, rfl⟩
          rw [← hwo] at HT OG QL RL RP HB ⊢
          clear hwo
          go_loopw [14] (fun j wr => ∃ jj : Nat, jj ≤ l.length ∧ j = .int .i64 jj ∧ (∃ l', l'.length = l.length ∧ Own Shape.str 9 wr B0 (fun _ => False) (.slice (some ⟨g, 0, none⟩) l.length c7) l') ∧ wo.grownBy wr (some g)) (fun j _ => l.length - (intOf j).toNat)
          case atStart => exact ⟨0, Nat.zero_le _, rfl, ⟨l, rfl, OG.out⟩, grown_refl _ _⟩
          case round =>
            obtain ⟨jj, hjj, rfl, ⟨l', hl', hOb⟩, hgb⟩ := hrel
            have OB := Lib.hid hOb; have GB := Lib.hid hgb; have L' := Lib.hid hl'
            clear hOb hgb hl'
            by_cases hjl : jj < l.length
            · obtain ⟨es, hes, hcell, hfr⟩ := OB.out.cellC rfl (i := jj) (by rw [L'.out]; exact hjl)
              obtain ⟨rfl, hsz⟩ := hes
              have gb := (OB.out.lt g rfl).2
              obtain ⟨old, co⟩ : ∃ old, wr.cell? ⟨g, jj, none⟩ = some (.string old) := ⟨_, by have := hcell 0 (by decide); simpa [Shape.str] using this⟩
              have cf := hfr jj
              have hjs : (jj : Int) < l.length := by omega
              have hset := OB.out.setC rfl (i := jj) (j := 0) (u := .string ⟨#[111, 119, 110]⟩) (a := ⟨#[111, 119, 110]⟩) (by rw [L'.out]; exact hjl) (by decide) (fun w es h => by
                obtain ⟨rfl, h1⟩ := h
                exact ⟨rfl, (by decide : (3 : Nat) ≤ maxLen)⟩)
              have e13 : Shape.str.size = 1 := rfl
              rw [e13, Nat.mul_one, Nat.add_zero] at hset
              have HSET := Lib.hid hset
              have HG2 := Lib.hid (grown_trans GB.out (grown_setCell wr ⟨g, jj, none⟩ (.string ⟨#[111, 119, 110]⟩)))
              clear hcell hfr hsz hset e13
              go_wp2_with fail
              go_roundw
              case rel => exact ⟨jj + 1, by omega, by go_num, ⟨_, by rw [List.length_set]; exact L'.out, HSET.out⟩, HG2.out⟩
              case measure => simp [intOf]; omega
            · have gX : ∀ k, some g = some k → k ∈ [g, b] := fun k e => by injection e with e; rw [← e]; simp
              have QF := Lib.hid ((QL.out.grown GB.out gX (fun e => by injection e with e; omega) (fun e => by injection e with e; omega)).less (List.mem_singleton.2 rfl))
              have RF := Lib.hid ((RL.out.grown GB.out gX).less)
              have HBF := Lib.hid (HB.out.grown GB.out HB.out.size (fun n hn => by injection hn with hn; omega))
              clear GB OB QL RL HB HT OG RP
              go_wp2_with fail
              go_roundw
              case rel => exact ⟨k + 1, by omega, by go_num, kv, _, _, _, _, rfl, RF.out, QF.out, REP.out, SM.out, LEN.out, HBF.out⟩
              case measure => simp [intOf]; omega
        | none =>
          have hri : getI' r l = none := by rw [← REP.out.get QL.out.keyed l, hgv]; rfl
          have HRI := Lib.hid hri
          clear hri
          go_wp2_with fail
          refine (getI_none QL.out hgv ((OG.out.rd_old).row_of) HL1.out (HP.out.keep HB.out)).mono ?_
          rintro e w6 ⟨rfl, hb6⟩
          clear hgv z0 z1 z2 zl
          replace HT := Lib.hid (HT.out.below hb6 HT.out.lt)
          replace OG := Lib.hid (own_below OG.out hb6)
          replace QL := Lib.hid (QL.out.below hb6)
          replace RL := Lib.hid (RL.out.below hb6)
          replace RP := Lib.hid (RP.out.keep ((Keeps.of_below hb6).mono fun n hn => Nat.lt_of_lt_of_le hn HB.out.size))
          replace HB := Lib.hid (below_old HB.out hb6)
          clear hb6
          have z0 : w6.cell? ⟨wq.heap.size, 0, none⟩ = some (.int .i64 2) := HT.out.cell 0
          have z1 : w6.cell? ⟨wq.heap.size, 1, none⟩ = some (.slice A1 l.length c1) := HT.out.cell 1
          have z2 : w6.cell? ⟨wq.heap.size, 2, none⟩ = some (.int .i64 V) := HT.out.cell 2
          have zl := HT.out.lt
          go_wp2_with fail
          have hG := refGet (c := c4) (c' := c1) w6 RL.out.old (RP.out.more fun n hn => Nat.lt_of_lt_of_le hn HB.out.size) SM.out HL1.out (by omega)
          rw [HRI.out] at hG
          simp only [Option.getD_none, Option.isSome_none] at hG
          refine hG.mono ?_
          rintro e w7 ⟨rfl, hb7⟩
          clear hG z0 z1 z2 zl
          replace HT := Lib.hid (HT.out.below hb7 HT.out.lt)
          replace OG := Lib.hid (own_below OG.out hb7)
          replace QL := Lib.hid (QL.out.below hb7)
          replace RL := Lib.hid (RL.out.below hb7)
          replace RP := Lib.hid (RP.out.keep ((Keeps.of_below hb7).mono fun n hn => Nat.lt_of_lt_of_le hn HB.out.size))
          replace HB := Lib.hid (below_old HB.out hb7)
          clear hb7
          have z0 : w7.cell? ⟨wq.heap.size, 0, none⟩ = some (.int .i64 2) := HT.out.cell 0
          have z1 : w7.cell? ⟨wq.heap.size, 1, none⟩ = some (.slice A1 l.length c1) := HT.out.cell 1
          have z2 : w7.cell? ⟨wq.heap.size, 2, none⟩ = some (.int .i64 V) := HT.out.cell 2
          have zl := HT.out.lt
          go_wp2_with fail
          refine (sameTexts (c := c7) (c' := c1) w7 (OG.out.rd_old.row_of) (RP.out.more fun n hn => Nat.lt_of_lt_of_le hn HB.out.size) (by omega) (by omega)).mono ?_
          rintro e wa ⟨rfl, δa, hwa⟩
          rw [decide_eq_true rfl]
          have hba := below_of hwa
          clear hwa z0 z1 z2 zl
          replace HT := Lib.hid (HT.out.below hba HT.out.lt)
          replace OG := Lib.hid (own_below OG.out hba)
          replace QL := Lib.hid (QL.out.below hba)
          replace RL := Lib.hid (RL.out.below hba)
          replace RP := Lib.hid (RP.out.keep ((Keeps.of_below hba).mono fun n hn => Nat.lt_of_lt_of_le hn HB.out.size))
          replace HB := Lib.hid (below_old HB.out hba)
          clear hba
          go_wp2_with fail
          obtain ⟨wo, hwo⟩ : ∃ wo, wo = wa := ⟨_, rfl⟩
          rw [← hwo] at HT OG QL RL RP HB ⊢
          clear hwo
          go_loopw [14] (fun j wr => ∃ jj : Nat, jj ≤ l.length ∧ j = .int .i64 jj ∧ (∃ l', l'.length = l.length ∧ Own Shape.str 9 wr B0 (fun _ => False) (.slice (some ⟨g, 0, none⟩) l.length c7) l') ∧ wo.grownBy wr (some g)) (fun j _ => l.length - (intOf j).toNat)
          case atStart => exact ⟨0, Nat.zero_le _, rfl, ⟨l, rfl, OG.out⟩, grown_refl _ _⟩
          case round =>
            obtain ⟨jj, hjj, rfl, ⟨l', hl', hOb⟩, hgb⟩ := hrel
            have OB := Lib.hid hOb; have GB := Lib.hid hgb; have L' := Lib.hid hl'
            clear hOb hgb hl'
            by_cases hjl : jj < l.length
            · obtain ⟨es, hes, hcell, hfr⟩ := OB.out.cellC rfl (i := jj) (by rw [L'.out]; exact hjl)
              obtain ⟨rfl, hsz⟩ := hes
              have gb := (OB.out.lt g rfl).2
              obtain ⟨old, co⟩ : ∃ old, wr.cell? ⟨g, jj, none⟩ = some (.string old) := ⟨_, by have := hcell 0 (by decide); simpa [Shape.str] using this⟩
              have cf := hfr jj
              have hjs : (jj : Int) < l.length := by omega
              have hset := OB.out.setC rfl (i := jj) (j := 0) (u := .string ⟨#[111, 119, 110]⟩) (a := ⟨#[111, 119, 110]⟩) (by rw [L'.out]; exact hjl) (by decide) (fun w es h => by
                obtain ⟨rfl, h1⟩ := h
                exact ⟨rfl, (by decide : (3 : Nat) ≤ maxLen)⟩)
              have e13 : Shape.str.size = 1 := rfl
              rw [e13, Nat.mul_one, Nat.add_zero] at hset
              have HSET := Lib.hid hset
              have HG2 := Lib.hid (grown_trans GB.out (grown_setCell wr ⟨g, jj, none⟩ (.string ⟨#[111, 119, 110]⟩)))
              clear hcell hfr hsz hset e13
              go_wp2_with fail
              go_roundw
              case rel => exact ⟨jj + 1, by omega, by go_num, ⟨_, by rw [List.length_set]; exact L'.out, HSET.out⟩, HG2.out⟩
              case measure => simp [intOf]; omega
            · have gX : ∀ k, some g = some k → k ∈ [g, b] := fun k e => by injection e with e; rw [← e]; simp
              have QF := Lib.hid ((QL.out.grown GB.out gX (fun e => by injection e with e; omega) (fun e => by injection e with e; omega)).less (List.mem_singleton.2 rfl))
              have RF := Lib.hid ((RL.out.grown GB.out gX).less)
              have HBF := Lib.hid (HB.out.grown GB.out HB.out.size (fun n hn => by injection hn with hn; omega))
              clear GB OB QL RL HB HT OG RP
              go_wp2_with fail
              go_roundw
              case rel => exact ⟨k + 1, by omega, by go_num, kv, _, _, _, _, rfl, RF.out, QF.out, REP.out, SM.out, LEN.out, HBF.out⟩
              case measure => simp [intOf]; omega
      by_cases hW3 : W = 3
      · subst hW3
        clear hW1 hW2
        have z0 : w5.cell? ⟨wq.heap.size, 0, none⟩ = some (.int .i64 3) := HT.out.cell 0
        have z1 : w5.cell? ⟨wq.heap.size, 1, none⟩ = some (.slice A1 l.length c1) := HT.out.cell 1
        have z2 : w5.cell? ⟨wq.heap.size, 2, none⟩ = some (.int .i64 V) := HT.out.cell 2
        have zl := HT.out.lt
        have hown : Row Shape.str w5 (Out [b] w5) (some ⟨g, 0, none⟩) l.length l := (OG.out.rd.row_of).more fun n hn => by
          rcases hn with hn | hn
          · exact hn.elim
          · injection hn with hn
            subst hn
            exact ⟨hgl2, by rw [List.mem_singleton]; omega⟩
        have HOWN := Lib.hid hown
        have hkl4 := REP.out.length
        clear hown
        go_wp2_with fail
        refine (dropI (c := c7) QL.out HOWN.out (by omega) (by omega)).mono ?_
        rintro e w6 ⟨kv', hp6, rfl, hg6, hQ6⟩
        obtain ⟨hrep6, hcnt⟩ := REP.out.drop hp6
        have REP1 := Lib.hid hrep6
        have SM1 := Lib.hid (small_drop SM.out l)
        have LEN1 := Lib.hid (show (dropI' r l).length ≤ k + 1 by have := len_drop r l; omega)
        clear z0 z1 z2 zl HOWN hrep6 hp6 hkl4
        replace QL := Lib.hid hQ6
        obtain ⟨cnt, hcnt'⟩ : ∃ cnt, cnt = (kv.filter (wi l)).length := ⟨_, rfl⟩
        rw [← hcnt'] at hcnt ⊢
        clear hQ6 hcnt'
        replace HT := Lib.hid (HT.out.grown hg6 (fun e => by injection e with e; omega))
        replace OG := Lib.hid (OG.out.keepsM (N := fun n => n = g) (fun n hn => by subst hn; exact (hg6).block n (OG.out.lt n rfl).2 (fun e => by injection e with e; omega)) (fun n hn => by injection hn with hn; exact hn.symm))
        replace RL := Lib.hid (RL.out.grown hg6 (fun k e => by injection e with e; rw [← e]; simp))
        replace RP := Lib.hid (RP.out.keep ((Keeps.of_grown hg6).mono fun n hn => ⟨Nat.lt_of_lt_of_le hn HB.out.size, fun e => by injection e with e; have : n < w.heap.size := hn; omega⟩))
        replace HB := Lib.hid (HB.out.grown hg6 HB.out.size (fun n hn => by injection hn with hn; omega))
        clear hg6
        have z0 : w6.cell? ⟨wq.heap.size, 0, none⟩ = some (.int .i64 3) := HT.out.cell 0
        have z1 : w6.cell? ⟨wq.heap.size, 1, none⟩ = some (.slice A1 l.length c1) := HT.out.cell 1
        have z2 : w6.cell? ⟨wq.heap.size, 2, none⟩ = some (.int .i64 V) := HT.out.cell 2
        have zl := HT.out.lt
        go_wp2_with fail
        refine (refDrop (X := [g, b]) (c := c4) (c' := c1) w6 RL.out.row (RP.out.more fun n hn => Nat.lt_of_lt_of_le hn HB.out.size) QL.out.low SM.out HL1.out (by omega)).mono ?_
        rintro e w7 ⟨v7, rfl, hsl, hb7⟩
        clear z0 z1 z2 zl
        replace HT := Lib.hid (HT.out.below hb7 HT.out.lt)
        replace OG := Lib.hid (own_below OG.out hb7)
        replace QL := Lib.hid (QL.out.below hb7)
        replace RL := Lib.hid (RL.out.below hb7)
        replace RP := Lib.hid (RP.out.keep ((Keeps.of_below hb7).mono fun n hn => Nat.lt_of_lt_of_le hn HB.out.size))
        replace HB := Lib.hid (below_old HB.out hb7)
        obtain ⟨A6, n6, c6, rfl, hnc6, hcm6, hrow6⟩ := hsl
        have hn6 := hrow6.1
        replace RL := Lib.hid (LRow.mk hrow6 hnc6 hcm6)
        clear hb7 hrow6 hnc6 hcm6
        have hs1 : (cnt : Int) = (n4 : Int) - n6 := by omega
        have hs2 : (n6 : Int) ≤ n4 := by omega
        have hs3 : (n4 : Int) ≤ 1000 := by omega
        have hsub : ((cnt : Int) != (n4 : Int) - n6) = false := by rw [← hs1]; simp
        clear hs1 hcnt hn6
        have z0 : w7.cell? ⟨wq.heap.size, 0, none⟩ = some (.int .i64 3) := HT.out.cell 0
        have z1 : w7.cell? ⟨wq.heap.size, 1, none⟩ = some (.slice A1 l.length c1) := HT.out.cell 1
        have z2 : w7.cell? ⟨wq.heap.size, 2, none⟩ = some (.int .i64 V) := HT.out.cell 2
        have zl := HT.out.lt
        go_wp2_with fail
        refine (sameTexts (c := c7) (c' := c1) w7 (OG.out.rd_old.row_of) (RP.out.more fun n hn => Nat.lt_of_lt_of_le hn HB.out.size) (by omega) (by omega)).mono ?_
        rintro e wa ⟨rfl, δa, hwa⟩
        rw [decide_eq_true rfl]
        have hba := below_of hwa
        clear hwa z0 z1 z2 zl
        replace HT := Lib.hid (HT.out.below hba HT.out.lt)
        replace OG := Lib.hid (own_below OG.out hba)
        replace QL := Lib.hid (QL.out.below hba)
        replace RL := Lib.hid (RL.out.below hba)
        replace RP := Lib.hid (RP.out.keep ((Keeps.of_below hba).mono fun n hn => Nat.lt_of_lt_of_le hn HB.out.size))
        replace HB := Lib.hid (below_old HB.out hba)
        clear hba
        go_wp2_with fail
        obtain ⟨wo, hwo⟩ : ∃ wo, wo = wa := ⟨_, rfl⟩
        rw [← hwo] at HT OG QL RL RP HB ⊢
        clear hwo
        go_loopw [14] (fun j wr => ∃ jj : Nat, jj ≤ l.length ∧ j = .int .i64 jj ∧ (∃ l', l'.length = l.length ∧ Own Shape.str 9 wr B0 (fun _ => False) (.slice (some ⟨g, 0, none⟩) l.length c7) l') ∧ wo.grownBy wr (some g)) (fun j _ => l.length - (intOf j).toNat)
        case atStart => exact ⟨0, Nat.zero_le _, rfl, ⟨l, rfl, OG.out⟩, grown_refl _ _⟩
        case round =>
          obtain ⟨jj, hjj, rfl, ⟨l', hl', hOb⟩, hgb⟩ := hrel
          have OB := Lib.hid hOb; have GB := Lib.hid hgb; have L' := Lib.hid hl'
          clear hOb hgb hl'
          by_cases hjl : jj < l.length
          · obtain ⟨es, hes, hcell, hfr⟩ := OB.out.cellC rfl (i := jj) (by rw [L'.out]; exact hjl)
            obtain ⟨rfl, hsz⟩ := hes
            have gb := (OB.out.lt g rfl).2
            obtain ⟨old, co⟩ : ∃ old, wr.cell? ⟨g, jj, none⟩ = some (.string old) := ⟨_, by have := hcell 0 (by decide); simpa [Shape.str] using this⟩
            have cf := hfr jj
            have hjs : (jj : Int) < l.length := by omega
            have hset := OB.out.setC rfl (i := jj) (j := 0) (u := .string ⟨#[111, 119, 110]⟩) (a := ⟨#[111, 119, 110]⟩) (by rw [L'.out]; exact hjl) (by decide) (fun w es h => by
              obtain ⟨rfl, h1⟩ := h
              exact ⟨rfl, (by decide : (3 : Nat) ≤ maxLen)⟩)
            have e13 : Shape.str.size = 1 := rfl
            rw [e13, Nat.mul_one, Nat.add_zero] at hset
            have HSET := Lib.hid hset
            have HG2 := Lib.hid (grown_trans GB.out (grown_setCell wr ⟨g, jj, none⟩ (.string ⟨#[111, 119, 110]⟩)))
            clear hcell hfr hsz hset e13
            go_wp2_with fail
            go_roundw
            case rel => exact ⟨jj + 1, by omega, by go_num, ⟨_, by rw [List.length_set]; exact L'.out, HSET.out⟩, HG2.out⟩
            case measure => simp [intOf]; omega
          · have gX : ∀ k, some g = some k → k ∈ [g, b] := fun k e => by injection e with e; rw [← e]; simp
            have QF := Lib.hid ((QL.out.grown GB.out gX (fun e => by injection e with e; omega) (fun e => by injection e with e; omega)).less (List.mem_singleton.2 rfl))
            have RF := Lib.hid ((RL.out.grown GB.out gX).less)
            have HBF := Lib.hid (HB.out.grown GB.out HB.out.size (fun n hn => by injection hn with hn; omega))
            clear GB OB QL RL HB HT OG RP
            go_wp2_with fail
            go_roundw
            case rel => exact ⟨k + 1, by omega, by go_num, kv', _, _, _, _, rfl, RF.out, QF.out, REP1.out, SM1.out, LEN1.out, HBF.out⟩
            case measure => simp [intOf]; omega
      by_cases hW4 : W = 4
      · subst hW4
        clear hW1 hW2 hW3
        have z0 : w5.cell? ⟨wq.heap.size, 0, none⟩ = some (.int .i64 4) := HT.out.cell 0
        have z1 : w5.cell? ⟨wq.heap.size, 1, none⟩ = some (.slice A1 l.length c1) := HT.out.cell 1
        have z2 : w5.cell? ⟨wq.heap.size, 2, none⟩ = some (.int .i64 V) := HT.out.cell 2
        have zl := HT.out.lt
        have hk4 : kv.length = n4 := by rw [REP.out.length]; exact hn4
        have hcon := lenI QL.out
        rw [hk4] at hcon
        have HC := Lib.hid hcon
        have hnn4 : ((n4 : Int) != n4) = false := by simp
        clear hcon hk4
        go_wp2_with fail
        refine HC.out.mono ?_
        rintro e w6 ⟨rfl, rfl⟩
        go_wp2_with fail
        refine (sameTexts (c := c7) (c' := c1) w5 (OG.out.rd_old.row_of) (RP.out.more fun n hn => Nat.lt_of_lt_of_le hn HB.out.size) (by omega) (by omega)).mono ?_
        rintro e wa ⟨rfl, δa, hwa⟩
        rw [decide_eq_true rfl]
        have hba := below_of hwa
        clear hwa z0 z1 z2 zl
        replace HT := Lib.hid (HT.out.below hba HT.out.lt)
        replace OG := Lib.hid (own_below OG.out hba)
        replace QL := Lib.hid (QL.out.below hba)
        replace RL := Lib.hid (RL.out.below hba)
        replace RP := Lib.hid (RP.out.keep ((Keeps.of_below hba).mono fun n hn => Nat.lt_of_lt_of_le hn HB.out.size))
        replace HB := Lib.hid (below_old HB.out hba)
        clear hba
        go_wp2_with fail
        obtain ⟨wo, hwo⟩ : ∃ wo, wo = wa := ⟨_, rfl⟩
        rw [← hwo] at HT OG QL RL RP HB ⊢
        clear hwo
        go_loopw [14] (fun j wr => ∃ jj : Nat, jj ≤ l.length ∧ j = .int .i64 jj ∧ (∃ l', l'.length = l.length ∧ Own Shape.str 9 wr B0 (fun _ => False) (.slice (some ⟨g, 0, none⟩) l.length c7) l') ∧ wo.grownBy wr (some g)) (fun j _ => l.length - (intOf j).toNat)
        case atStart => exact ⟨0, Nat.zero_le _, rfl, ⟨l, rfl, OG.out⟩, grown_refl _ _⟩
        case round =>
          obtain ⟨jj, hjj, rfl, ⟨l', hl', hOb⟩, hgb⟩ := hrel
          have OB := Lib.hid hOb; have GB := Lib.hid hgb; have L' := Lib.hid hl'
          clear hOb hgb hl'
          by_cases hjl : jj < l.length
          · obtain ⟨es, hes, hcell, hfr⟩ := OB.out.cellC rfl (i := jj) (by rw [L'.out]; exact hjl)
            obtain ⟨rfl, hsz⟩ := hes
            have gb := (OB.out.lt g rfl).2
            obtain ⟨old, co⟩ : ∃ old, wr.cell? ⟨g, jj, none⟩ = some (.string old) := ⟨_, by have := hcell 0 (by decide); simpa [Shape.str] using this⟩
            have cf := hfr jj
            have hjs : (jj : Int) < l.length := by omega
            have hset := OB.out.setC rfl (i := jj) (j := 0) (u := .string ⟨#[111, 119, 110]⟩) (a := ⟨#[111, 119, 110]⟩) (by rw [L'.out]; exact hjl) (by decide) (fun w es h => by
              obtain ⟨rfl, h1⟩ := h
              exact ⟨rfl, (by decide : (3 : Nat) ≤ maxLen)⟩)
            have e13 : Shape.str.size = 1 := rfl
            rw [e13, Nat.mul_one, Nat.add_zero] at hset
            have HSET := Lib.hid hset
            have HG2 := Lib.hid (grown_trans GB.out (grown_setCell wr ⟨g, jj, none⟩ (.string ⟨#[111, 119, 110]⟩)))
            clear hcell hfr hsz hset e13
            go_wp2_with fail
            go_roundw
            case rel => exact ⟨jj + 1, by omega, by go_num, ⟨_, by rw [List.length_set]; exact L'.out, HSET.out⟩, HG2.out⟩
            case measure => simp [intOf]; omega
          · have gX : ∀ k, some g = some k → k ∈ [g, b] := fun k e => by injection e with e; rw [← e]; simp
            have QF := Lib.hid ((QL.out.grown GB.out gX (fun e => by injection e with e; omega) (fun e => by injection e with e; omega)).less (List.mem_singleton.2 rfl))
            have RF := Lib.hid ((RL.out.grown GB.out gX).less)
            have HBF := Lib.hid (HB.out.grown GB.out HB.out.size (fun n hn => by injection hn with hn; omega))
            clear GB OB QL RL HB HT OG RP
            go_wp2_with fail
            go_roundw
            case rel => exact ⟨k + 1, by omega, by go_num, kv, _, _, _, _, rfl, RF.out, QF.out, REP.out, SM.out, LEN.out, HBF.out⟩
            case measure => simp [intOf]; omega
      by_cases hW5 : W = 5
      · subst hW5
        clear hW1 hW2 hW3 hW4
        have z0 : w5.cell? ⟨wq.heap.size, 0, none⟩ = some (.int .i64 5) := HT.out.cell 0
        have z1 : w5.cell? ⟨wq.heap.size, 1, none⟩ = some (.slice A1 l.length c1) := HT.out.cell 1
        have z2 : w5.cell? ⟨wq.heap.size, 2, none⟩ = some (.int .i64 V) := HT.out.cell 2
        have zl := HT.out.lt
        go_wp2_with fail
        refine (itemsI QL.out (by have := REP.out.length; omega)).mono ?_
        rintro e w6 ⟨vv, lo, rfl, hown6, hperm6, hpair6, hb6, _, _, _⟩
        have hlo := REP.out.items hperm6 hpair6
        have hrd := items_rd hown6
        rw [hlo] at hrd
        obtain ⟨A8, n8, c8, rfl, _, _, hrow8⟩ := hrd
        have R8 := Lib.hid hrow8
        have hn8 : n8 = n4 := by rw [← hrow8.1]; exact hn4
        subst hn8
        clear hown6 hperm6 hpair6 hlo hrow8
        clear z0 z1 z2 zl
        replace HT := Lib.hid (HT.out.below hb6 HT.out.lt)
        replace OG := Lib.hid (own_below OG.out hb6)
        replace QL := Lib.hid (QL.out.below hb6)
        replace RL := Lib.hid (RL.out.below hb6)
        replace RP := Lib.hid (RP.out.keep ((Keeps.of_below hb6).mono fun n hn => Nat.lt_of_lt_of_le hn HB.out.size))
        replace HB := Lib.hid (below_old HB.out hb6)
        clear hb6
        have z0 : w6.cell? ⟨wq.heap.size, 0, none⟩ = some (.int .i64 5) := HT.out.cell 0
        have z1 : w6.cell? ⟨wq.heap.size, 1, none⟩ = some (.slice A1 l.length c1) := HT.out.cell 1
        have z2 : w6.cell? ⟨wq.heap.size, 2, none⟩ = some (.int .i64 V) := HT.out.cell 2
        have zl := HT.out.lt
        go_wp2_with fail
        refine (sameItems (c := c8) (c' := c4) w6 R8.out RL.out.old SM.out (by omega)).mono ?_
        rintro e w7 ⟨rfl, hb7⟩
        clear z0 z1 z2 zl R8
        replace HT := Lib.hid (HT.out.below hb7 HT.out.lt)
        replace OG := Lib.hid (own_below OG.out hb7)
        replace QL := Lib.hid (QL.out.below hb7)
        replace RL := Lib.hid (RL.out.below hb7)
        replace RP := Lib.hid (RP.out.keep ((Keeps.of_below hb7).mono fun n hn => Nat.lt_of_lt_of_le hn HB.out.size))
        replace HB := Lib.hid (below_old HB.out hb7)
        clear hb7
        have z0 : w7.cell? ⟨wq.heap.size, 0, none⟩ = some (.int .i64 5) := HT.out.cell 0
        have z1 : w7.cell? ⟨wq.heap.size, 1, none⟩ = some (.slice A1 l.length c1) := HT.out.cell 1
        have z2 : w7.cell? ⟨wq.heap.size, 2, none⟩ = some (.int .i64 V) := HT.out.cell 2
        have zl := HT.out.lt
        go_wp2_with fail
        refine (sameTexts (c := c7) (c' := c1) w7 (OG.out.rd_old.row_of) (RP.out.more fun n hn => Nat.lt_of_lt_of_le hn HB.out.size) (by omega) (by omega)).mono ?_
        rintro e wa ⟨rfl, δa, hwa⟩
        rw [decide_eq_true rfl]
        have hba := below_of hwa
        clear hwa z0 z1 z2 zl
        replace HT := Lib.hid (HT.out.below hba HT.out.lt)
        replace OG := Lib.hid (own_below OG.out hba)
        replace QL := Lib.hid (QL.out.below hba)
        replace RL := Lib.hid (RL.out.below hba)
        replace RP := Lib.hid (RP.out.keep ((Keeps.of_below hba).mono fun n hn => Nat.lt_of_lt_of_le hn HB.out.size))
        replace HB := Lib.hid (below_old HB.out hba)
        clear hba
        go_wp2_with fail
        obtain ⟨wo, hwo⟩ : ∃ wo, wo = wa := ⟨_, rfl⟩
        rw [← hwo] at HT OG QL RL RP HB ⊢
        clear hwo
        go_loopw [14] (fun j wr => ∃ jj : Nat, jj ≤ l.length ∧ j = .int .i64 jj ∧ (∃ l', l'.length = l.length ∧ Own Shape.str 9 wr B0 (fun _ => False) (.slice (some ⟨g, 0, none⟩) l.length c7) l') ∧ wo.grownBy wr (some g)) (fun j _ => l.length - (intOf j).toNat)
        case atStart => exact ⟨0, Nat.zero_le _, rfl, ⟨l, rfl, OG.out⟩, grown_refl _ _⟩
        case round =>
          obtain ⟨jj, hjj, rfl, ⟨l', hl', hOb⟩, hgb⟩ := hrel
          have OB := Lib.hid hOb; have GB := Lib.hid hgb; have L' := Lib.hid hl'
          clear hOb hgb hl'
          by_cases hjl : jj < l.length
          · obtain ⟨es, hes, hcell, hfr⟩ := OB.out.cellC rfl (i := jj) (by rw [L'.out]; exact hjl)
            obtain ⟨rfl, hsz⟩ := hes
            have gb := (OB.out.lt g rfl).2
            obtain ⟨old, co⟩ : ∃ old, wr.cell? ⟨g, jj, none⟩ = some (.string old) := ⟨_, by have := hcell 0 (by decide); simpa [Shape.str] using this⟩
            have cf := hfr jj
            have hjs : (jj : Int) < l.length := by omega
            have hset := OB.out.setC rfl (i := jj) (j := 0) (u := .string ⟨#[111, 119, 110]⟩) (a := ⟨#[111, 119, 110]⟩) (by rw [L'.out]; exact hjl) (by decide) (fun w es h => by
              obtain ⟨rfl, h1⟩ := h
              exact ⟨rfl, (by decide : (3 : Nat) ≤ maxLen)⟩)
            have e13 : Shape.str.size = 1 := rfl
            rw [e13, Nat.mul_one, Nat.add_zero] at hset
            have HSET := Lib.hid hset
            have HG2 := Lib.hid (grown_trans GB.out (grown_setCell wr ⟨g, jj, none⟩ (.string ⟨#[111, 119, 110]⟩)))
            clear hcell hfr hsz hset e13
            go_wp2_with fail
            go_roundw
            case rel => exact ⟨jj + 1, by omega, by go_num, ⟨_, by rw [List.length_set]; exact L'.out, HSET.out⟩, HG2.out⟩
            case measure => simp [intOf]; omega
          · have gX : ∀ k, some g = some k → k ∈ [g, b] := fun k e => by injection e with e; rw [← e]; simp
            have QF := Lib.hid ((QL.out.grown GB.out gX (fun e => by injection e with e; omega) (fun e => by injection e with e; omega)).less (List.mem_singleton.2 rfl))
            have RF := Lib.hid ((RL.out.grown GB.out gX).less)
            have HBF := Lib.hid (HB.out.grown GB.out HB.out.size (fun n hn => by injection hn with hn; omega))
            clear GB OB QL RL HB HT OG RP
            go_wp2_with fail
            go_roundw
            case rel => exact ⟨k + 1, by omega, by go_num, kv, _, _, _, _, rfl, RF.out, QF.out, REP.out, SM.out, LEN.out, HBF.out⟩
            case measure => simp [intOf]; omega
      have k1 : (W == 1) = false := by simpa using hW1
      have k2 : (W == 2) = false := by simpa using hW2
      have k3 : (W == 3) = false := by simpa using hW3
      have k4 : (W == 4) = false := by simpa using hW4
      have k5 : (W == 5) = false := by simpa using hW5
      clear hW1 hW2 hW3 hW4 hW5
      have z0 : w5.cell? ⟨wq.heap.size, 0, none⟩ = some (.int .i64 W) := HT.out.cell 0
      have z1 : w5.cell? ⟨wq.heap.size, 1, none⟩ = some (.slice A1 l.length c1) := HT.out.cell 1
      have z2 : w5.cell? ⟨wq.heap.size, 2, none⟩ = some (.int .i64 V) := HT.out.cell 2
      have zl := HT.out.lt
      go_wp2_with fail
      refine (sameTexts (c := c7) (c' := c1) w5 (OG.out.rd_old.row_of) (RP.out.more fun n hn => Nat.lt_of_lt_of_le hn HB.out.size) (by omega) (by omega)).mono ?_
      rintro e wa ⟨rfl, δa, hwa⟩
      rw [decide_eq_true rfl]
      have hba := below_of hwa
      clear hwa z0 z1 z2 zl
      replace HT := Lib.hid (HT.out.below hba HT.out.lt)
      replace OG := Lib.hid (own_below OG.out hba)
      replace QL := Lib.hid (QL.out.below hba)
      replace RL := Lib.hid (RL.out.below hba)
      replace RP := Lib.hid (RP.out.keep ((Keeps.of_below hba).mono fun n hn => Nat.lt_of_lt_of_le hn HB.out.size))
      replace HB := Lib.hid (below_old HB.out hba)
      clear hba
      go_wp2_with fail
      obtain ⟨wo, hwo⟩ : ∃ wo, wo = wa := ⟨_, rfl⟩
      rw [← hwo] at HT OG QL RL RP HB ⊢
      clear hwo
      go_loopw [14] (fun j wr => ∃ jj : Nat, jj ≤ l.length ∧ j = .int .i64 jj ∧ (∃ l', l'.length = l.length ∧ Own Shape.str 9 wr B0 (fun _ => False) (.slice (some ⟨g, 0, none⟩) l.length c7) l') ∧ wo.grownBy wr (some g)) (fun j _ => l.length - (intOf j).toNat)
      case atStart => exact ⟨0, Nat.zero_le _, rfl, ⟨l, rfl, OG.out⟩, grown_refl _ _⟩
      case round =>
        obtain ⟨jj, hjj, rfl, ⟨l', hl', hOb⟩, hgb⟩ := hrel
        have OB := Lib.hid hOb; have GB := Lib.hid hgb; have L' := Lib.hid hl'
        clear hOb hgb hl'
        by_cases hjl : jj < l.length
        · obtain ⟨es, hes, hcell, hfr⟩ := OB.out.cellC rfl (i := jj) (by rw [L'.out]; exact hjl)
          obtain ⟨rfl, hsz⟩ := hes
          have gb := (OB.out.lt g rfl).2
          obtain ⟨old, co⟩ : ∃ old, wr.cell? ⟨g, jj, none⟩ = some (.string old) := ⟨_, by have := hcell 0 (by decide); simpa [Shape.str] using this⟩
          have cf := hfr jj
          have hjs : (jj : Int) < l.length := by omega
          have hset := OB.out.setC rfl (i := jj) (j := 0) (u := .string ⟨#[111, 119, 110]⟩) (a := ⟨#[111, 119, 110]⟩) (by rw [L'.out]; exact hjl) (by decide) (fun w es h => by
            obtain ⟨rfl, h1⟩ := h
            exact ⟨rfl, (by decide : (3 : Nat) ≤ maxLen)⟩)
          have e13 : Shape.str.size = 1 := rfl
          rw [e13, Nat.mul_one, Nat.add_zero] at hset
          have HSET := Lib.hid hset
          have HG2 := Lib.hid (grown_trans GB.out (grown_setCell wr ⟨g, jj, none⟩ (.string ⟨#[111, 119, 110]⟩)))
          clear hcell hfr hsz hset e13
          go_wp2_with fail
          go_roundw
          case rel => exact ⟨jj + 1, by omega, by go_num, ⟨_, by rw [List.length_set]; exact L'.out, HSET.out⟩, HG2.out⟩
          case measure => simp [intOf]; omega
        · have gX : ∀ k, some g = some k → k ∈ [g, b] := fun k e => by injection e with e; rw [← e]; simp
          have QF := Lib.hid ((QL.out.grown GB.out gX (fun e => by injection e with e; omega) (fun e => by injection e with e; omega)).less (List.mem_singleton.2 rfl))
          have RF := Lib.hid ((RL.out.grown GB.out gX).less)
          have HBF := Lib.hid (HB.out.grown GB.out HB.out.size (fun n hn => by injection hn with hn; omega))
          clear GB OB QL RL HB HT OG RP
          go_wp2_with fail
          go_roundw
          case rel => exact ⟨k + 1, by omega, by go_num, kv, _, _, _, _, rfl, RF.out, QF.out, REP.out, SM.out, LEN.out, HBF.out⟩
          case measure => simp [intOf]; omega
    · have hkn : k = n' := by omega
      subst hkn
      go_wp2_with fail
      refine (itemsI QL.out (by have := REP.out.length; omega)).mono ?_
      rintro e w6 ⟨vv, lo, rfl, hown6, hperm6, hpair6, hb6, _, _, _⟩
      have hlo := REP.out.items hperm6 hpair6
      have hrd := items_rd hown6
      rw [hlo] at hrd
      obtain ⟨A8, n8, c8, rfl, _, _, hrow8⟩ := hrd
      have R8 := Lib.hid hrow8
      have hn8 : n8 = n4 := by rw [← hrow8.1]; exact hn4
      subst hn8
      clear hown6 hperm6 hpair6 hlo hrow8
      have HB6 := Lib.hid (below_old HB.out hb6)
      have RL6 := Lib.hid (RL.out.below hb6)
      clear hb6
      go_wp2_with fail
      refine (sameItems (c := c8) (c' := c4) w6 R8.out RL6.out.old SM.out (by omega)).mono ?_
      rintro e w7 ⟨rfl, hb7⟩
      have HB7 := Lib.hid (below_old HB6.out hb7)
      clear hb7
      go_wp2_with fail
      go_ret
      exact ⟨by first | rfl | simp, HB7.out⟩
end Go.Proofs.YtdmpdinaineiiaaDoor

