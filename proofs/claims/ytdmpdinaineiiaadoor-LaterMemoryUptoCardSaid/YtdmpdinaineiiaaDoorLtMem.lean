/- LaterMemory: its walk. No condition but room and the table of powers of ten. -/
import Derived.Test.YtdmpdinaineiiaaDoorLtMemL
namespace Go.Proofs.YtdmpdinaineiiaaDoor
open Go.RowKit
set_option linter.unusedVariables false
set_option linter.unusedSimpArgs false
attribute [local go_sem] cell?_over frozen?_over lt_over le_over
theorem items_from {w : World} {base : Nat} {M : Nat → Prop} {v : Value} {lo : List OV} (h : Own Shape.OVI 38 w base M v lo) (hM : ∀ n, M n → base ≤ n) : SliceRd Shape.ItemD w (From base w) v (lo.map (·.d)) := by
  obtain ⟨A, n, c, e, h1, h2, hr⟩ := h.rd_from (Nat.le_refl _) hM
  exact ⟨A, n, c, e, h1, h2, Row.mapS (s := Shape.OVI) (t := Shape.ItemD) (f := fun o : OV => o.d) rfl (fun _ _ _ _ h => ovI_item h) hr⟩
theorem Beh.grown {B : Nat} {ob : Option Nat} {wo wr w' : World} {row : Option Nat} (h : Beh B ob wo wr) (hg : wr.grownBy w' row) (hB : B ≤ wo.heap.size) (h1 : ∀ k, row = some k → B ≤ k) (h2 : ∀ k, row = some k → k < wo.heap.size → ob = some k) : Beh B ob wo w' :=
  ⟨h.bel.grown hg (Nat.le_trans hB h.bel.size) h1, h.keep.trans fun k hk => hg.block k (Nat.lt_of_lt_of_le hk.1 h.bel.size) fun e => hk.2 (h2 k e.symm hk.1)⟩
set_option maxHeartbeats 20000000 in
set_option maxRecDepth 100000 in
theorem ltMem_law {A : Option Addr} {n c : Nat} {sc : List OpD} (w : World) (h : Row Shape.OpD w (Old w) A n sc) (hnc : n ≤ c) (hcm : c ≤ maxLen) (hs : ∀ o ∈ sc, sizeAll o.parts ≤ 1048576) (hp : Pow10 w) :
    Calls Tryd.prog 3 #[.slice A n c] w fun e w' => e = .returned (.bool true) ∧ Below w.heap.size w w' := by
  have H := Lib.hid h
  have HP := Lib.hid hp
  clear h hp
  go_enter Tryd.func3, Tryd.ntmps3
  go_wp2_with fail
  refine (alive21 w HP.out).mono ?_
  rintro e w1 ⟨rfl, hb1⟩
  have HB1 := Lib.hid hb1
  clear hb1
  go_wp2_with fail
  refine (newI w1).mono ?_
  rintro e w2 ⟨q, b, rfl, hb2, hQ2, hbb, hqq⟩
  have HB2 := Lib.hid (below_old HB1.out hb2)
  have Q2 := Lib.hid hQ2
  have hwb : w.heap.size ≤ b := Nat.le_trans HB1.out.size hbb
  have hwq : w.heap.size ≤ q := Nat.le_trans HB1.out.size hqq
  clear hb2 hQ2 HB1 hbb hqq
  go_wp2_with fail
  have hb3 := below_alloc' w2 (.cells #[] 66)
  refine (cutOps _ (H.out.below (below_old HB2.out hb3)) hnc hcm).mono ?_
  rintro e w3 ⟨n', c', rfl, hn300, hnn, hnc', hcm', hrow, rfl⟩
  have Q3 := Lib.hid (Q2.out.below hb3)
  have HB3 := Lib.hid (below_old HB2.out hb3)
  have HR := Lib.hid (H.out.take hnn)
  have hss : ∀ o ∈ sc.take n', sizeAll o.parts ≤ 1048576 := fun o ho => hs o (List.mem_of_mem_take ho)
  have HS := Lib.hid hss
  clear hb3 hrow hs hss Q2 HB2
  generalize sc.take n' = sc' at HR HS
  obtain ⟨A0, hA0⟩ : ∃ A0 : Option Addr, A0 = some ⟨w2.heap.size, 0, none⟩ := ⟨_, rfl⟩
  have L3 : Hid (LRow [b] (w2.alloc (.cells #[] 66)) A0 0 0 []) := Lib.hid ⟨Row.nil, Nat.le_refl _, by simp [maxLen]⟩
  rw [← hA0]
  clear hA0
  generalize w2.alloc (.cells #[] 66) = w4 at *
  go_wp2_with fail
  go_loopw [4, 5] (fun v4 i wr => ∃ k : Nat, k ≤ n' ∧ i = .int .i64 k ∧ ∃ (kv : KV) (r : List ItemD) (A4 : Option Addr) (n4 c4 : Nat), v4 = .slice A4 n4 c4 ∧ LRow [b] wr A4 n4 c4 r ∧ QuI wr [b] q b kv ∧ Rep kv r ∧ SmallI r ∧ r.length ≤ k ∧ Below w.heap.size w wr) (fun _ i _ => n' - (intOf i).toNat)
  case atStart => exact ⟨0, Nat.zero_le _, rfl, [], [], A0, 0, 0, rfl, L3.out, Q3.out, Rep.nil, (fun x hx => by cases hx), Nat.le_refl _, HB3.out⟩
  case round =>
    clear L3 Q3 HB3
    obtain ⟨wq, rfl⟩ : ∃ wq : World, wq = wr := ⟨_, rfl⟩
    obtain ⟨k, hk, rfl, kv, r, A4, n4, c4, rfl, hL, hQ, hrep, hsm, hlen, hbel⟩ := hrel
    have RL := Lib.hid hL; have QL := Lib.hid hQ; have REP := Lib.hid hrep; have SM := Lib.hid hsm; have HB := Lib.hid hbel
    have hn4 := hL.row.1
    have hwr := HB.out.size
    clear hL hQ hrep hsm hbel
    by_cases hlt : k < n'
    · obtain ⟨bs, offs, es, hkl, hAe, hbs, hc, hr⟩ := HR.out.at_ hlt
      subst hAe
      obtain ⟨A1, n1, c1, rfl, i0, p1, p2, p3, i2⟩ := hr
      have hl1 := HS.out sc'[k] (List.getElem_mem hkl)
      have e13 : Shape.OpD.size = 3 := rfl
      have x1 := hc 1 (by decide)
      have x2 := hc 2 (by decide)
      simp only [e13, Nat.add_zero, List.getElem?_cons_zero, List.getElem?_cons_succ] at x1 x2
      rw [← HB.out.cell (p := ⟨bs, offs + k * 3 + 1, none⟩) hbs] at x1
      rw [← HB.out.cell (p := ⟨bs, offs + k * 3 + 2, none⟩) hbs] at x2
      have hb2 : bs < wq.heap.size := Nat.lt_of_lt_of_le hbs HB.out.size
      have hks : (k : Int) < n' := by omega
      have hpl := p3.1
      subst hpl
      have RP0 := Lib.hid p3
      obtain ⟨l, hl⟩ : ∃ l, l = sc'[k].parts := ⟨_, rfl⟩
      obtain ⟨V, hV⟩ : ∃ V, V = sc'[k].v := ⟨_, rfl⟩
      rw [← hl] at x1 p1 RP0 hl1
      rw [← hV] at x2 i2
      have I2 := Lib.hid i2
      have hnl := small_n RP0.out hl1
      have HL1 := Lib.hid hl1
      clear hc e13 p3 hl hV i0 i2 p2 hl1
      have RPw : ∀ W, Below w.heap.size w W → Hid (Row Shape.str W (Old W) A1 l.length l) := fun W hW => Lib.hid (RP0.out.below hW)
      have HBS := Lib.hid hbs
      clear hbs
      go_wp2_with fail
      refine wp_region_grow_t [(6, madeTxt l wq.heap.size)] 12 _ rfl (by kernel_rfl) [6] rfl (by kernel_rfl) (stays_cons (txt_stays _ _) stays_nil) ?_
      simp only [List.take_succ_cons, List.take_zero, List.drop_succ_cons, List.drop_zero]
      repeat (first
        | (refine g_w rfl ?_ (fun W => ?_) ?_; rotate_left; (focus (go_simp; (try with_reducible rfl); done)); simp only [Act.put, List.setIfInBounds_toArray, List.set_cons_zero, List.set_cons_succ])
        | (refine g_d rfl (by kernel_rfl) ?_ (fun δ => ?_) ?_; rotate_left; (focus (go_simp; (try with_reducible rfl); done)); simp only [Act.put, List.setIfInBounds_toArray, List.set_cons_zero, List.set_cons_succ]))
      refine g_call rfl ?_ ?_ (fun W => ?_) ?_ ?_
      rotate_left 2
      · go_simp; (constructor <;> with_reducible rfl)
      · intro δ hF
        refine (copyTexts (c := c1) _ (RPw _ (below_old HB.out (below_over wq δ))).out (by omega)).mono ?_
        rintro e u4 ⟨v4, δ4, rfl, hw4, hown4⟩
        obtain ⟨x, rfl, hx⟩ := txt_of_own (n := wq.heap.size) hown4 (size_over_le _ _)
        exact ⟨x, rfl, below_of hw4, hx⟩
      rintro ⟨A5, c5⟩
      simp only [Act.put, List.setIfInBounds_toArray, List.set_cons_zero, List.set_cons_succ, enc_txt]
      repeat (first
        | (refine g_w rfl ?_ (fun W => ?_) ?_; rotate_left; (focus (go_simp; (try with_reducible rfl); done)); simp only [Act.put, List.setIfInBounds_toArray, List.set_cons_zero, List.set_cons_succ])
        | (refine g_d rfl (by kernel_rfl) ?_ (fun δ => ?_) ?_; rotate_left; (focus (go_simp; (try with_reducible rfl); done)); simp only [Act.put, List.setIfInBounds_toArray, List.set_cons_zero, List.set_cons_succ]))
      refine g_end fun δ hF => ?_
      have h6 : l.length ≤ c5 ∧ c5 ≤ maxLen ∧ Row Shape.str (over wq δ) (From wq.heap.size (over wq δ)) A5 l.length l := hF 6
      clear hF
      refine endT_call ?_ ?_ (fun W => ?_) ?_
      rotate_left 2
      · go_simp; (constructor <;> with_reducible rfl)
      refine (putI (QL.out.below (below_over wq δ)) V (h6.2.2.more fun n hn => hn.2) HL1.out I2.out (HP.out.keep (below_old HB.out (below_over wq δ)))).mono ?_
      rintro e w5 ⟨x, hx, rfl, hg5, hQ5⟩
      refine ⟨_, rfl, ?_⟩
      simp only [Act.put]
      refine g_tail_end ?_
      have REP1 := Lib.hid (REP.out.put QL.out.keyed x)
      rw [hx] at REP1
      simp only at REP1
      have SM1 := Lib.hid (small_put SM.out (d := ⟨l, V⟩) HL1.out)
      have LEN1 := Lib.hid (show (putI' r ⟨l, V⟩).length ≤ k + 1 by have := len_put r ⟨l, V⟩; omega)
      have HB5 := Lib.hid ((below_old HB.out (below_over wq δ)).grown hg5 (Nat.le_trans HB.out.size (size_over_le _ _)) (fun n hn => by injection hn with hn; omega))
      have RL5 := Lib.hid ((RL.out.below (below_over wq δ)).grown hg5 (fun k e => by injection e with e; rw [← e]; simp))
      have Q5 := Lib.hid hQ5
      have y1 : w5.cell? ⟨bs, offs + k * 3 + 1, none⟩ = some (.slice A1 l.length c1) := by rw [HB5.out.cell (p := ⟨bs, offs + k * 3 + 1, none⟩) HBS.out, ← HB.out.cell (p := ⟨bs, offs + k * 3 + 1, none⟩) HBS.out]; exact x1
      have y2 : w5.cell? ⟨bs, offs + k * 3 + 2, none⟩ = some (.int .i64 V) := by rw [HB5.out.cell (p := ⟨bs, offs + k * 3 + 2, none⟩) HBS.out, ← HB.out.cell (p := ⟨bs, offs + k * 3 + 2, none⟩) HBS.out]; exact x2
      have hb5 : bs < w5.heap.size := Nat.lt_of_lt_of_le HBS.out HB5.out.size
      clear hg5 hQ5 x1 x2 h6 hx hb2 RL QL REP
      generalize putKv kv (keyS l) x = kv' at *
      go_wp2_with fail
      refine wp_region_grow_t [] 11 _ rfl (by kernel_rfl) [] rfl (by kernel_rfl) stays_nil ?_
      simp only [List.take_succ_cons, List.take_zero, List.drop_succ_cons, List.drop_zero]
      repeat (first
        | (refine g_w rfl ?_ (fun W => ?_) ?_; rotate_left; (focus (go_simp; (try with_reducible rfl); done)); simp only [Act.put, List.setIfInBounds_toArray, List.set_cons_zero, List.set_cons_succ])
        | (refine g_d rfl (by kernel_rfl) ?_ (fun δ => ?_) ?_; rotate_left; (focus (go_simp; (try with_reducible rfl); done)); simp only [Act.put, List.setIfInBounds_toArray, List.set_cons_zero, List.set_cons_succ]))
      refine g_end fun δ2 _ => ?_
      refine endT_call ?_ ?_ (fun W => ?_) ?_
      rotate_left 2
      · go_simp; (constructor <;> with_reducible rfl)
      have hbo := below_over w5 δ2
      refine (refPut (X := [b]) (c := c4) (c' := c1) V (over w5 δ2) (RL5.out.below hbo).row (RPw _ (below_old HB5.out hbo)).out (Q5.out.below hbo).low SM.out HL1.out I2.out (by omega)).mono ?_
      rintro e w6 ⟨v6, rfl, hsl, hb6⟩
      have HB6 := Lib.hid (below_old (below_old HB5.out hbo) hb6)
      have Q6 := Lib.hid ((Q5.out.below hbo).below hb6)
      obtain ⟨A6, n6, c6, rfl, hnc6, hcm6, hrow6⟩ := hsl
      have RL6 := Lib.hid (LRow.mk hrow6 hnc6 hcm6)
      clear y1 y2 hb5 hbo hb6 hrow6 hnc6 hcm6
      refine ⟨_, rfl, ?_⟩
      simp only [Act.put, List.setIfInBounds_toArray, List.set_cons_zero, List.set_cons_succ]
      repeat (refine g_tail ?_ ?_ ?_; rotate_left; (focus (go_simp; (try with_reducible rfl); done)); simp only [Act.put, List.setIfInBounds_toArray, List.set_cons_zero, List.set_cons_succ])
      refine g_tail_end ?_
      go_wp2_with fail
      go_roundw
      case rel => exact ⟨k + 1, by omega, by go_num, kv', _, _, _, _, rfl, RL6.out, Q6.out, REP1.out, SM1.out, LEN1.out, HB6.out⟩
      case measure => simp [intOf]; omega
    · have hkn : k = n' := by omega
      subst hkn
      clear HR HS
      go_wp2_with fail
      refine (itemsI QL.out (by have := REP.out.length; omega)).mono ?_
      rintro e w5 ⟨va, loa, rfl, howna, hperma, hpaira, hba, hapa, hvba, hblka⟩
      have hlo := REP.out.items hperma hpaira
      have hrow := items_rd howna
      rw [hlo] at hrow
      have hll : loa.length = n4 := by have := congrArg List.length hlo; rw [List.length_map] at this; omega
      obtain ⟨ga, ca, hva, hga1, hga2⟩ : ∃ ga ca, va = .slice (some ⟨ga, 0, none⟩) n4 ca ∧ wq.heap.size ≤ ga ∧ ga < w5.heap.size := by
        rcases howna.form with ⟨e, _⟩ | ⟨g, cap, hv, h1, h2, _, _⟩
        · exact absurd (by rw [e]; rfl) hvba
        · exact ⟨g, cap, by rw [hv, hll], h1, h2⟩
      subst hva
      have hok := oks_of howna
      have ST : Hid (MemS wq.heap.size w5.heap.size ga n4 loa) := Lib.hid ⟨hll, hapa, ⟨hga1, hga2⟩, fun o ho m hm => ⟨hblka m ⟨o, ho, hm⟩, ((hok o ho).2.1 m hm).1, fun e => ((hok o ho).2.1 m hm).2 (by rw [e]; rfl)⟩, fun o ho => (hok o ho).2.2⟩
      have OK := Lib.hid hok
      have RAW := Lib.hid ((raw_of howna).low (Nat.zero_le _))
      have RA := Lib.hid hrow
      have HB5 := Lib.hid (below_old HB.out hba)
      have HA := Lib.hid hba
      clear howna hperma hpaira hba hapa hvba hblka hlo hrow hok hga1 hga2
      go_wp2_with fail
      refine (itemsI (QL.out.below HA.out) (by have := REP.out.length; omega)).mono ?_
      rintro e w6 ⟨vb, lob, rfl, hownb, hpermb, hpairb, hbb, _, _, hblkb⟩
      have hlo := REP.out.items hpermb hpairb
      have hrow := items_from hownb hblkb
      rw [hlo] at hrow
      obtain ⟨Ab, nb, cb, rfl, _, _, hrowb⟩ := hrow
      have hnb : n4 = nb := by have := hrowb.1; omega
      subst hnb
      have RB := Lib.hid hrowb
      have HAB := Lib.hid (below_old HA.out hbb)
      have HB6 := Lib.hid (below_old HB.out HAB.out)
      have H56 := Lib.hid hbb
      clear hownb hpermb hpairb hblkb hlo hrowb hbb
      obtain ⟨RAw⟩ : Nonempty (Hid (Row Shape.ItemD w6 (Old w6) (some ⟨ga, 0, none⟩) n4 r)) := ⟨Lib.hid (by
        obtain ⟨A', n'', c'', e, _, _, hr⟩ := RA.out
        injection e with e1 e2 e3
        subst e1 e2
        exact hr.below H56.out)⟩
      go_wp2_with fail
      refine (sameItems (c := ca) (c' := c4) w6 RAw.out (RL.out.below HAB.out).old SM.out (by omega)).mono ?_
      rintro e w7 ⟨rfl, hb7⟩
      have H67 := Lib.hid hb7
      have HA7 := Lib.hid (below_old HAB.out hb7)
      clear hb7 RAw
      go_wp2_with fail
      refine (sameItems (c := cb) (c' := c4) w7 ((RB.out.more fun n hn => hn.2).below H67.out) (RL.out.below HA7.out).old SM.out (by omega)).mono ?_
      rintro e z ⟨rfl, hbz⟩
      have H6z := Lib.hid (below_old H67.out hbz)
      have H5z := Lib.hid (below_old H56.out H6z.out)
      have HAz := Lib.hid (below_old HA7.out hbz)
      have hC : w5.heap.size ≤ z.heap.size := H5z.out.size
      have hqz : wq.heap.size ≤ z.heap.size := HAz.out.size
      have RBz := Lib.hid ((RB.out.keep ((Keeps.of_below H6z.out).mono fun n hn => hn.2)).more (M' := fun k => w5.heap.size ≤ k ∧ k < z.heap.size) fun n hn => ⟨hn.1, Nat.lt_of_lt_of_le hn.2 H6z.out.size⟩)
      have M0 : Hid (MemI wq.heap.size w5.heap.size z ga n4 ca loa 0 0 z) := Lib.hid ⟨Below.refl _ _, Keeps.refl _ _, ⟨_, by rw [List.length_map]; exact ST.out.len, own_below RAW.out H5z.out, fun j h h' _ => by rw [List.getElem_map]⟩, fun j hj _ => own_below (OK.out _ (List.getElem_mem hj)).1 H5z.out⟩
      clear hbz H67 HA7 H6z H56 HAB HB6 RB RAW RA OK HB5
      go_wp2_with fail
      go_loopw [8] (fun i wr => ∃ ii : Nat, ii ≤ n4 ∧ i = .int .i64 ii ∧ MemI wq.heap.size w5.heap.size z ga n4 ca loa ii ii wr) (fun i _ => n4 - (intOf i).toNat)
      case atStart => exact ⟨0, Nat.zero_le _, rfl, M0.out⟩
      case round =>
        obtain ⟨wo, rfl⟩ : ∃ wo : World, wo = wr := ⟨_, rfl⟩
        obtain ⟨ii, hii, rfl, hmi⟩ := hrel
        have MI := Lib.hid hmi
        clear hmi M0
        by_cases hilt : ii < n4
        · have his : (ii : Int) < n4 := by omega
          have hil : ii < loa.length := by rw [ST.out.len]; exact hilt
          go_wp2_with fail
          obtain ⟨Ai, ni, ci, hv, _, _, hrowi⟩ := (MI.out.els ii hil (Nat.le_refl _)).rd
          have hni := ST.out.small _ (List.getElem_mem hil)
          have hl0 := hrowi.1
          have hO := MI.out.els ii hil (Nat.le_refl _)
          have hblk := ST.out.blk _ (List.getElem_mem hil)
          rw [hv] at hO hblk
          obtain ⟨l0, hl0'⟩ : ∃ l0, l0 = loa[ii].d.parts := ⟨_, rfl⟩
          rw [← hl0'] at hO hl0 hni
          have HV := Lib.hid hv; have O0 := Lib.hid hO; have BLK := Lib.hid hblk
          have hwo : wq.heap.size ≤ wo.heap.size := Nat.le_trans hqz MI.out.bel.size
          clear hrowi hl0' hv hO hblk
          go_loopw [9] (fun j wr => ∃ jj : Nat, jj ≤ ni ∧ j = .int .i64 jj ∧ (∃ l' : List ByteArray, l'.length = ni ∧ Own Shape.str 9 wr 0 (fun _ => False) (.slice Ai ni ci) l') ∧ Beh wq.heap.size (Value.slice Ai ni ci).ownBlock wo wr) (fun j _ => ni - (intOf j).toNat)
          case atStart => exact ⟨0, Nat.zero_le _, rfl, ⟨l0, hl0, O0.out⟩, Beh.refl _ _ _⟩
          case round =>
            obtain ⟨wp, rfl⟩ : ∃ wp : World, wp = wr := ⟨_, rfl⟩
            obtain ⟨jj, hjj, rfl, ⟨l', hl', hOw⟩, hbeh⟩ := hrel
            have OW := Lib.hid hOw; have BE := Lib.hid hbeh; have L' := Lib.hid hl'
            clear hOw hbeh hl' O0
            have hms := MI.out.step ST.out hC hil (by rw [HV.out]; exact BE.out)
            obtain ⟨x, a0, a1, af, al⟩ := hms.at_ ST.out hil
            rw [HV.out] at a0
            clear hms
            by_cases hjl : jj < ni
            · obtain ⟨gi, hA, _, hgl⟩ := OW.out.arr (by rw [L'.out]; omega)
              subst hA
              obtain ⟨es, hes, hcell, hfr⟩ := OW.out.cellC rfl (i := jj) (by rw [L'.out]; exact hjl)
              obtain ⟨rfl, hsz⟩ := hes
              obtain ⟨old, co⟩ : ∃ old, wp.cell? ⟨gi, jj, none⟩ = some (.string old) := ⟨_, by have := hcell 0 (by decide); simpa [Shape.str] using this⟩
              have cf := hfr jj
              have hjs : (jj : Int) < ni := by omega
              have hset := OW.out.setC rfl (i := jj) (j := 0) (u := .string ⟨#[109, 97, 114, 107]⟩) (a := ⟨#[109, 97, 114, 107]⟩) (by rw [L'.out]; exact hjl) (by decide) (fun w es h => by
                obtain ⟨rfl, h1⟩ := h
                exact ⟨rfl, (by decide : (4 : Nat) ≤ maxLen)⟩)
              have e13 : Shape.str.size = 1 := rfl
              rw [e13, Nat.mul_one, Nat.add_zero] at hset
              have HSET := Lib.hid hset
              have BE2 := Lib.hid (BE.out.grown (grown_setCell wp ⟨gi, jj, none⟩ (.string ⟨#[109, 97, 114, 107]⟩)) hwo (fun k e => (BLK.out k e).1) (fun k e _ => e))
              clear hcell hfr hsz hset e13
              go_wp2_with fail
              go_roundw
              case rel => exact ⟨jj + 1, by omega, by go_num, ⟨_, by rw [List.length_set]; exact L'.out, HSET.out⟩, BE2.out⟩
              case measure => simp [intOf]; omega
            · have hjn : jj = ni := by omega
              subst hjn
              go_wp2_with fail
              clear a0 a1 af al
              go_loopw [10, 11] (fun v10 j wr => ∃ jt : Nat, jt ≤ 9 ∧ j = .int .i64 jt ∧ (∃ l'' : List ByteArray, l''.length = jj + jt ∧ Own Shape.str 9 wr 0 (fun _ => False) v10 l'') ∧ (∀ k, v10.ownBlock = some k → wq.heap.size ≤ k ∧ (k < wo.heap.size → (Value.slice Ai jj ci).ownBlock = some k)) ∧ Beh wq.heap.size (Value.slice Ai jj ci).ownBlock wo wr) (fun _ j _ => 9 - (intOf j).toNat)
              case atStart => exact ⟨0, Nat.zero_le _, rfl, ⟨l', L'.out, OW.out⟩, fun k hk => ⟨(BLK.out k hk).1, fun _ => hk⟩, BE.out⟩
              case round =>
                clear OW BE L'
                obtain ⟨wt, rfl⟩ : ∃ wt : World, wt = wr := ⟨_, rfl⟩
                obtain ⟨jt, hjt, rfl, ⟨l2, hl2, hOw⟩, hob, hbeh⟩ := hrel
                have OW := Lib.hid hOw; have BE := Lib.hid hbeh; have L2 := Lib.hid hl2; have OB := Lib.hid hob
                clear hOw hbeh hl2 hob
                by_cases hjl : jt < 9
                · have hjs : (jt : Int) < 9 := by omega
                  go_wp2_with (first
                    | (at_builtin
                       refine wpList_append_one (v := u10) flat_str rfl (.tmp 95) (.tmp 96) _ rfl elem_str rfl OW.out (es := [.string ⟨#[109, 111, 114, 101]⟩]) (b := ⟨#[109, 111, 114, 101]⟩) rfl ⟨rfl, (by decide : (4 : Nat) ≤ maxLen)⟩ (by rw [L2.out]; omega) (by rw [L2.out]; unfold maxLen; omega) (Nat.zero_le _) ?_
                       intro v' w2 hown2 hg2 hsz2 hat2))
                  have O2 := Lib.hid hown2
                  have OB2 := Lib.hid (show ∀ k, v'.ownBlock = some k → wq.heap.size ≤ k ∧ (k < wo.heap.size → (Value.slice Ai jj ci).ownBlock = some k) from fun k hk => by
                    rcases hat2 with e | e
                    · exact OB.out k (e ▸ hk)
                    · rw [e] at hk
                      injection hk with hk
                      have h1 := BE.out.bel.size
                      exact ⟨by omega, fun h2 => by omega⟩)
                  have BE2 := Lib.hid (BE.out.grown hg2 hwo (fun k e => (OB.out k e).1) (fun k e h => (OB.out k e).2 h))
                  have L3 := Lib.hid (show (l2 ++ [(⟨#[109, 111, 114, 101]⟩ : ByteArray)]).length = jj + (jt + 1) by rw [List.length_append, L2.out]; rfl)
                  clear hown2 hg2 hsz2 hat2
                  go_wp2_with fail
                  go_roundw
                  case rel => exact ⟨jt + 1, by omega, by go_num, ⟨_, L3.out, O2.out⟩, OB2.out, BE2.out⟩
                  case measure => simp [intOf]; omega
                · have hms := MI.out.step ST.out hC hil (by rw [HV.out]; exact BE.out)
                  have MS := Lib.hid hms
                  obtain ⟨x, a0, a1, af, al⟩ := hms.at_ ST.out hil
                  have af0 := af (ii * 2)
                  have af1 := af (ii * 2 + 1)
                  obtain ⟨A7, n7, c7, hv7, _, _, _⟩ := OW.out.rd
                  subst hv7
                  rw [HV.out] at a0
                  have hms2 := (hms.setV ST.out hil (-9)).setP ST.out hil (v := .slice A7 n7 c7) rfl
                  have MS2 := Lib.hid hms2
                  clear hms hms2 af
                  go_wp2_with fail
                  go_roundw
                  case rel => exact ⟨ii + 1, by omega, by go_num, MS2.out⟩
                  case measure => simp [intOf]; omega
        · have hin : ii = n4 := by omega
          subst hin
          have RBw := Lib.hid ((RBz.out.keep MI.out.mid).more (M' := Old wo) fun k hk => Nat.lt_of_lt_of_le hk.2 MI.out.bel.size)
          have HAo := Lib.hid (HAz.out.trans MI.out.bel)
          clear RBz HAz MI
          go_wp2_with fail
          refine (sameItems (c := cb) (c' := c4) wo RBw.out (RL.out.below HAo.out).old SM.out (by omega)).mono ?_
          rintro e w7 ⟨rfl, hb7⟩
          have HA7 := Lib.hid (below_old HAo.out hb7)
          clear hb7
          go_wp2_with fail
          refine (itemsI (QL.out.below HA7.out) (by have := REP.out.length; omega)).mono ?_
          rintro e w8 ⟨vc, loc, rfl, hownc, hpermc, hpairc, hbc, _, _, _⟩
          have hlo := REP.out.items hpermc hpairc
          have hrow := items_rd hownc
          rw [hlo] at hrow
          obtain ⟨Ac, nc, cc, rfl, _, _, hrowc⟩ := hrow
          have hnc2 : ii = nc := by have := hrowc.1; omega
          subst hnc2
          have RC := Lib.hid hrowc
          have HA8 := Lib.hid (below_old HA7.out hbc)
          clear hownc hpermc hpairc hbc hlo hrowc
          go_wp2_with fail
          refine (sameItems (c := cc) (c' := c4) w8 RC.out (RL.out.below HA8.out).old SM.out (by omega)).mono ?_
          rintro e w9 ⟨rfl, hb9⟩
          have HB9 := Lib.hid (below_old HB.out (below_old HA8.out hb9))
          clear hb9
          go_wp2_with fail
          go_ret
          exact ⟨by first | rfl | simp, HB9.out⟩
end Go.Proofs.YtdmpdinaineiiaaDoor
