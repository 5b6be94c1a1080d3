/- LaterOrder: its walk. No condition but room and the table of powers of ten. -/
import Derived.Test.YtdmpdinaineiiaaDoorLtLib
namespace Go.Proofs.YtdmpdinaineiiaaDoor
open Go.RowKit
set_option linter.unusedVariables false
set_option linter.unusedSimpArgs false
attribute [local go_sem] cell?_over frozen?_over lt_over le_over
theorem ahead_within {a b : List ByteArray} (h : aheadL a b = true) : within a b = false := by
  unfold aheadL at h
  by_cases hl : a.length = b.length
  · rw [if_pos hl] at h
    unfold within
    rw [decide_eq_false_iff_not, List.take_of_length_le (by omega)]
    rintro rfl
    rw [lexL_irrefl] at h; cases h
  · rw [if_neg hl, decide_eq_true_eq] at h
    exact within_short h
theorem rep_items {kv : KV} (hk : Keyed kv) {lo : List OV} (hp : (lo.map (·.d)).Perm (kv.map (·.2.d))) (hs : lo.Pairwise fun x y => aheadL y.d.parts x.d.parts = false) : Rep kv (lo.map (·.d)) := by
  refine ⟨hp.symm, ?_⟩
  have hn : ((lo.map (·.d)).map (·.parts)).Nodup := by
    refine (List.Perm.nodup_iff (hp.map _)).2 ?_
    rw [List.map_map]
    have h1 := hk.nd
    have e : kv.map (·.1) = (kv.map ((fun x : ItemD => x.parts) ∘ fun p : ByteArray × QV => p.2.d)).map keyS := by
      rw [List.map_map]
      exact List.map_congr_left fun p hp => hk.key p hp
    rw [e, List.nodup_iff_pairwise_ne, List.pairwise_map] at h1
    rw [List.nodup_iff_pairwise_ne]
    exact h1.imp fun hne e => hne (by rw [e])
  unfold SortedI
  rw [List.pairwise_map]
  rw [List.nodup_iff_pairwise_ne, List.pairwise_map, List.pairwise_map] at hn
  refine (hs.and hn).imp fun {x y} hxy => ?_
  cases hc : aheadL x.d.parts y.d.parts with
  | true => rfl
  | false => exact absurd (aheadL_tri hc hxy.1) hxy.2
theorem sorted_lt {r : List ItemD} (h : SortedI r) {i j : Nat} (hi : i < r.length) (hj : j < r.length) (hij : i < j) : aheadL r[i].parts r[j].parts = true := by
  unfold SortedI at h
  rw [List.pairwise_iff_getElem] at h
  exact h i j hi hj hij
theorem rep_get_at {kv : KV} {r : List ItemD} (h : Rep kv r) (hk : Keyed kv) {i : Nat} (hi : i < r.length) : ∃ y, getKv kv (keyS r[i].parts) = some y ∧ y.d.v = r[i].v := by
  have h1 := h.get hk r[i].parts
  rw [getR_at hi (fun j hj hij e => by have := sorted_lt h.sorted hj hi hij; rw [e, aheadL_irrefl] at this; cases this) rfl] at h1
  cases hg : getKv kv (keyS r[i].parts) with
  | none => rw [hg] at h1; cases h1
  | some y => rw [hg] at h1; injection h1 with h1; exact ⟨y, rfl, h1⟩
theorem row_own_ne {w : World} {base g c b : Nat} {l : List ByteArray} (h : Own Shape.str 9 w base (fun _ => False) (.slice (some ⟨g, 0, none⟩) l.length c) l) (hb : g ≠ b) : Row Shape.str w (Out [b] w) (some ⟨g, 0, none⟩) l.length l := by
  obtain ⟨A', n', c', e, _, _, hr⟩ := h.rd
  injection e with e1 e2 e3
  subst e1 e2
  have hlt := (h.lt g rfl).2
  refine hr.more fun n hn => ?_
  rcases hn with hn | hn
  · exact hn.elim
  · injection hn with hn
    subst hn
    exact ⟨hlt, by rw [List.mem_singleton]; exact hb⟩
theorem len_putKv (kv : KV) (k : ByteArray) (x : QV) : (putKv kv k x).length ≤ kv.length + 1 := by
  unfold putKv
  split <;> simp
set_option maxHeartbeats 20000000 in
set_option maxRecDepth 100000 in
theorem ltOrd_law {A : Option Addr} {n c : Nat} {sc : List OpD} (w : World) (h : Row Shape.OpD w (Old w) A n sc) (hnc : n ≤ c) (hcm : c ≤ maxLen) (hs : ∀ o ∈ sc, sizeAll o.parts ≤ 1048576) (hp : Pow10 w) :
    Calls Tryd.prog 6 #[.slice A n c] w fun e w' => e = .returned (.bool true) ∧ Below w.heap.size w w' := by
  have H := Lib.hid h
  have HP := Lib.hid hp
  clear h hp
  go_enter Tryd.func6, Tryd.ntmps6
  go_wp2_with fail
  refine (alive21 w HP.out).mono ?_
  rintro e w1 ⟨rfl, hb1⟩
  have HB1 := Lib.hid hb1
  clear hb1
  go_wp2_with fail
  refine (newI w1).mono ?_
  rintro e w2 ⟨q, b, rfl, hb2, hQ2, hbb, hqq⟩
  have HB2 := Lib.hid (below_old HB1.out hb2)
  have Q2 := Lib.hid hQ2
  have hwb : w.heap.size ≤ b := Nat.le_trans HB1.out.size hbb
  clear hb2 hQ2 HB1 hbb hqq
  go_wp2_with fail
  refine (cutOps w2 (H.out.below HB2.out) hnc hcm).mono ?_
  rintro e w3 ⟨n', c', rfl, hn300, hnn, hnc', hcm', hrow, rfl⟩
  have HR := Lib.hid (H.out.take hnn)
  have hss : ∀ o ∈ sc.take n', sizeAll o.parts ≤ 1048576 := fun o ho => hs o (List.mem_of_mem_take ho)
  have HS := Lib.hid hss
  clear hrow hs hss
  generalize sc.take n' = sc' at HR HS
  go_wp2_with fail
  go_loopw [4] (fun i wr => ∃ k : Nat, k ≤ n' ∧ i = .int .i64 k ∧ ∃ kv : KV, QuI wr [b] q b kv ∧ kv.length ≤ k ∧ Below w.heap.size w wr) (fun i _ => n' - (intOf i).toNat)
  case atStart => exact ⟨0, Nat.zero_le _, rfl, [], Q2.out, Nat.le_refl _, HB2.out⟩
  case round =>
    clear Q2 HB2
    obtain ⟨wq, rfl⟩ : ∃ wq : World, wq = wr := ⟨_, rfl⟩
    obtain ⟨k, hk, rfl, kv, hQ, hlen, hbel⟩ := hrel
    have QL := Lib.hid hQ; have HB := Lib.hid hbel
    have hbltq := hQ.map.lt
    clear hQ hbel
    by_cases hlt : k < n'
    · obtain ⟨bs, offs, es, hkl, hAe, hbs, hc, hr⟩ := HR.out.at_ hlt
      subst hAe
      obtain ⟨A1, n1, c1, rfl, i0, p1, p2, p3, i2⟩ := hr
      have hl1 := HS.out sc'[k] (List.getElem_mem hkl)
      have e13 : Shape.OpD.size = 3 := rfl
      have x0 := hc 0 (by decide)
      have x1 := hc 1 (by decide)
      have x2 := hc 2 (by decide)
      simp only [e13, Nat.add_zero, List.getElem?_cons_zero, List.getElem?_cons_succ] at x0 x1 x2
      rw [← HB.out.cell (p := ⟨bs, offs + k * 3, none⟩) hbs] at x0
      rw [← HB.out.cell (p := ⟨bs, offs + k * 3 + 1, none⟩) hbs] at x1
      rw [← HB.out.cell (p := ⟨bs, offs + k * 3 + 2, none⟩) hbs] at x2
      have hb2 : bs < wq.heap.size := Nat.lt_of_lt_of_le hbs HB.out.size
      have hks : (k : Int) < n' := by omega
      have hpl := p3.1
      subst hpl
      have RP0 := Lib.hid p3
      obtain ⟨l, hl⟩ : ∃ l, l = sc'[k].parts := ⟨_, rfl⟩
      obtain ⟨W, hW⟩ : ∃ W, W = sc'[k].what := ⟨_, rfl⟩
      obtain ⟨V, hV⟩ : ∃ V, V = sc'[k].v := ⟨_, rfl⟩
      rw [← hl] at x1 p1 RP0 hl1
      rw [← hW] at x0
      rw [← hV] at x2 i2
      have I2 := Lib.hid i2
      have hnl := small_n RP0.out hl1
      have HL1 := Lib.hid hl1
      clear hc e13 p3 hl hW hV i0 i2 p2 hl1
      have RPw : ∀ W, Below w.heap.size w W → Hid (Row Shape.str W (Old W) A1 l.length l) := fun W hW => Lib.hid (RP0.out.below hW)
      have HBS := Lib.hid hbs
      clear hbs
      by_cases hW3 : W = 3
      · subst hW3
        go_wp2_with fail
        refine (copyTextsG (c := c1) wq (RPw wq HB.out).out (by omega)).mono ?_
        rintro e w5 ⟨g, c7, rfl, hb5, hown5⟩
        have hgl := hown5.lt g rfl
        have HOWN := Lib.hid (row_own_ne hown5 (b := b) (by omega))
        have Q5 := Lib.hid (QL.out.below hb5)
        have HB5 := Lib.hid (below_old HB.out hb5)
        clear hb5 hown5 x0 x1 x2
        go_wp2_with fail
        refine (dropI (c := c7) Q5.out HOWN.out (by omega) (by omega)).mono ?_
        rintro e w6 ⟨kv', hp6, rfl, hg6, hQ6⟩
        have hlen6 : kv'.length ≤ k + 1 := by
          have h1 := hp6.length_eq
          have h2 := List.length_filter_le (nw l) kv
          omega
        have Q6 := Lib.hid hQ6
        have HB6 := Lib.hid (HB5.out.grown hg6 HB5.out.size (fun n hn => by injection hn with hn; omega))
        clear hp6 hg6 hQ6
        go_wp2_with fail
        go_roundw
        case rel => exact ⟨k + 1, by omega, by go_num, kv', Q6.out, hlen6, HB6.out⟩
        case measure => simp [intOf]; omega
      · have k3 : (W == 3) = false := by simpa using hW3
        clear hW3
        go_wp2_with fail
        refine wp_region_grow_t [(6, madeTxt l wq.heap.size)] 12 _ rfl (by kernel_rfl) [6] rfl (by kernel_rfl) (stays_cons (txt_stays _ _) stays_nil) ?_
        simp only [List.take_succ_cons, List.take_zero, List.drop_succ_cons, List.drop_zero]
        repeat (first
          | (refine g_w rfl ?_ (fun W => ?_) ?_; rotate_left; (focus (go_simp; (try with_reducible rfl); done)); simp only [Act.put, List.setIfInBounds_toArray, List.set_cons_zero, List.set_cons_succ])
          | (refine g_d rfl (by kernel_rfl) ?_ (fun δ => ?_) ?_; rotate_left; (focus (go_simp; (try with_reducible rfl); done)); simp only [Act.put, List.setIfInBounds_toArray, List.set_cons_zero, List.set_cons_succ]))
        refine g_call rfl ?_ ?_ (fun W => ?_) ?_ ?_
        rotate_left 2
        · go_simp; (constructor <;> with_reducible rfl)
        · intro δ hF
          refine (copyTexts (c := c1) _ (RPw _ (below_old HB.out (below_over wq δ))).out (by omega)).mono ?_
          rintro e u4 ⟨v4, δ4, rfl, hw4, hown4⟩
          obtain ⟨x, rfl, hx⟩ := txt_of_own (n := wq.heap.size) hown4 (size_over_le _ _)
          exact ⟨x, rfl, below_of hw4, hx⟩
        rintro ⟨A4, c4⟩
        simp only [Act.put, List.setIfInBounds_toArray, List.set_cons_zero, List.set_cons_succ, enc_txt]
        repeat (first
          | (refine g_w rfl ?_ (fun W => ?_) ?_; rotate_left; (focus (go_simp; (try with_reducible rfl); done)); simp only [Act.put, List.setIfInBounds_toArray, List.set_cons_zero, List.set_cons_succ])
          | (refine g_d rfl (by kernel_rfl) ?_ (fun δ => ?_) ?_; rotate_left; (focus (go_simp; (try with_reducible rfl); done)); simp only [Act.put, List.setIfInBounds_toArray, List.set_cons_zero, List.set_cons_succ]))
        refine g_end fun δ hF => ?_
        have h6 : l.length ≤ c4 ∧ c4 ≤ maxLen ∧ Row Shape.str (over wq δ) (From wq.heap.size (over wq δ)) A4 l.length l := hF 6
        clear hF
        refine endT_call ?_ ?_ (fun W => ?_) ?_
        rotate_left 2
        · go_simp; (constructor <;> with_reducible rfl)
        refine (putI (QL.out.below (below_over wq δ)) V (h6.2.2.more fun n hn => hn.2) HL1.out I2.out (HP.out.keep (below_old HB.out (below_over wq δ)))).mono ?_
        rintro e w5 ⟨x, hx, rfl, hg5, hQ5⟩
        refine ⟨_, rfl, ?_⟩
        simp only [Act.put]
        refine g_tail_end ?_
        have HB5 := Lib.hid ((below_old HB.out (below_over wq δ)).grown hg5 (Nat.le_trans HB.out.size (size_over_le _ _)) (fun n hn => by injection hn with hn; omega))
        have Q5 := Lib.hid hQ5
        have hlen5 : (putKv kv (keyS l) x).length ≤ k + 1 := by have := len_putKv kv (keyS l) x; omega
        have hget : getKv (putKv kv (keyS l) x) (keyS l) = some x := getKv_put
        have HGET := Lib.hid hget
        have hxv : x.d.v = V := by rw [hx]
        have HXV := Lib.hid hxv
        have hne : some bs ≠ some b := fun e => by injection e with e; have := HBS.out; omega
        have y1 : w5.cell? ⟨bs, offs + k * 3 + 1, none⟩ = some (.slice A1 l.length c1) := by rw [HB5.out.cell (p := ⟨bs, offs + k * 3 + 1, none⟩) HBS.out, ← HB.out.cell (p := ⟨bs, offs + k * 3 + 1, none⟩) HBS.out]; exact x1
        have y2 : w5.cell? ⟨bs, offs + k * 3 + 2, none⟩ = some (.int .i64 V) := by rw [HB5.out.cell (p := ⟨bs, offs + k * 3 + 2, none⟩) HBS.out, ← HB.out.cell (p := ⟨bs, offs + k * 3 + 2, none⟩) HBS.out]; exact x2
        have hb5 : bs < w5.heap.size := Nat.lt_of_lt_of_le HBS.out HB5.out.size
        clear hg5 hQ5 x0 x1 x2 h6 hx hxv hget hb2
        generalize putKv kv (keyS l) x = kv' at *
        go_wp2_with fail
        refine (copyTextsG (c := c1) w5 (RPw w5 HB5.out).out (by omega)).mono ?_
        rintro e w6 ⟨g, c7, rfl, hb6, hown6⟩
        have Q6 := Lib.hid (Q5.out.below hb6)
        have HB6 := Lib.hid (below_old HB5.out hb6)
        have ROW6 := Lib.hid (show Row Shape.str w6 (Old w6) (some ⟨g, 0, none⟩) l.length l from by
          obtain ⟨A', n', c', e, _, _, hr⟩ := hown6.rd_old
          injection e with e1 e2 e3
          subst e1 e2
          exact hr)
        clear hb6 hown6 y1
        go_wp2_with fail
        refine (getI_some Q6.out HGET.out ROW6.out HL1.out (HP.out.keep HB6.out)).mono ?_
        rintro e w7 ⟨rfl, hb7⟩
        rw [HXV.out]
        have z2 : w7.cell? ⟨bs, offs + k * 3 + 2, none⟩ = some (.int .i64 V) := by rw [(below_old HB6.out hb7).cell (p := ⟨bs, offs + k * 3 + 2, none⟩) HBS.out, ← HB5.out.cell (p := ⟨bs, offs + k * 3 + 2, none⟩) HBS.out]; exact y2
        have Q7 := Lib.hid (Q6.out.below hb7)
        have HB7 := Lib.hid (below_old HB6.out hb7)
        have hb8 : bs < w7.heap.size := Nat.lt_of_lt_of_le HBS.out HB7.out.size
        have hvv : (V != V) = false := by simp
        clear hb7 y2 hb5
        go_wp2_with fail
        go_roundw
        case rel => exact ⟨k + 1, by omega, by go_num, kv', Q7.out, hlen5, HB7.out⟩
        case measure => simp [intOf]; omega
    · have hkn : k = n' := by omega
      subst hkn
      go_wp2_with fail
      refine (itemsI QL.out (by omega)).mono ?_
      rintro e w6 ⟨vv, lo, rfl, hown6, hperm6, hpair6, hb6, _, _, _⟩
      have hrep := rep_items QL.out.keyed hperm6 hpair6
      have hrd := items_rd hown6
      obtain ⟨r, hr⟩ : ∃ r, r = lo.map (·.d) := ⟨_, rfl⟩
      rw [← hr] at hrep hrd
      have REP := Lib.hid hrep
      obtain ⟨A8, n8, c8, rfl, hnc8, hcm8, hrow8⟩ := hrd
      have hn8 := hrow8.1
      subst hn8
      have R8 := Lib.hid hrow8
      have hsm : SmallI r := fun x hx => by
        have h1 := hrep.perm.symm.subset hx
        obtain ⟨p, hp, rfl⟩ := List.mem_map.1 h1
        exact (QL.out.rows p hp).2.2.2.2.2
      have SM := Lib.hid hsm
      have KEY := Lib.hid QL.out.keyed
      have hrl : r.length = kv.length := hrep.length.symm
      have Q6 := Lib.hid (QL.out.below hb6)
      have HB6 := Lib.hid (below_old HB.out hb6)
      clear hown6 hperm6 hpair6 hb6 hrep hr hrow8 hsm QL HB HR HS
      go_wp2_with fail
      go_loopw [8] (fun i wr => ∃ ii : Nat, ii ≤ r.length ∧ i = .int .i64 ii ∧ Below w6.heap.size w6 wr) (fun i _ => r.length - (intOf i).toNat)
      case atStart => exact ⟨0, Nat.zero_le _, rfl, Below.refl _ _⟩
      case round =>
        obtain ⟨wz, rfl⟩ : ∃ wz : World, wz = wr := ⟨_, rfl⟩
        obtain ⟨i, hi, rfl, hbz⟩ := hrel
        have HZ := Lib.hid hbz
        have HBZ := Lib.hid (below_old HB6.out hbz)
        have QZ := Lib.hid (Q6.out.below hbz)
        have RZ := Lib.hid (R8.out.below hbz)
        clear hbz
        by_cases hilt : i < r.length
        · obtain ⟨b8, off8, es, hil, hA8, hb8, hc, hrr⟩ := RZ.out.at_ hilt
          subst hA8
          obtain ⟨A1, n1, c1, rfl, q1, q2, q3, q4⟩ := hrr
          have e13 : Shape.ItemD.size = 2 := rfl
          have x0 := hc 0 (by decide)
          have x1 := hc 1 (by decide)
          simp only [e13, Nat.add_zero, List.getElem?_cons_zero, List.getElem?_cons_succ] at x0 x1
          have his : (i : Int) < r.length := by omega
          have hs1 := SM.out r[i] (List.getElem_mem hil)
          have hn1 := small_n q3 hs1
          have hpl := q3.1
          subst hpl
          have Q3 := Lib.hid q3
          have HS1 := Lib.hid hs1
          obtain ⟨y, hgy, hyv⟩ := rep_get_at REP.out KEY.out hil
          have HGY := Lib.hid hgy; have HYV := Lib.hid hyv
          obtain ⟨vi, hvi⟩ : ∃ vi, vi = r[i].v := ⟨_, rfl⟩
          rw [← hvi] at x1 HYV
          obtain ⟨pi, hpi⟩ : ∃ pi, pi = r[i].parts := ⟨_, rfl⟩
          have HPI := Lib.hid hpi
          rw [← hpi] at x0 Q3 HS1 HGY hn1 q1
          have hb8' : b8 < wz.heap.size := hb8
          clear hc e13 q3 q4 hs1 hgy hyv hvi hpi hb8
          go_wp2_with fail
          refine (copyTextsG (c := c1) wz Q3.out (by omega)).mono ?_
          rintro e wa ⟨g, c7, rfl, hba, howna⟩
          have hrowa : Row Shape.str wa (Old wa) (some ⟨g, 0, none⟩) pi.length pi := by
            obtain ⟨A', n', c', e, _, _, hr⟩ := howna.rd_old
            injection e with e1 e2 e3
            subst e1 e2
            exact hr
          have ROWA := Lib.hid hrowa
          have HA := Lib.hid hba
          have QA := Lib.hid (QZ.out.below hba)
          have HBA := Lib.hid (below_old HBZ.out hba)
          clear hba howna hrowa x0
          go_wp2_with fail
          refine (getI_some QA.out HGY.out ROWA.out HS1.out (HP.out.keep HBA.out)).mono ?_
          rintro e wb ⟨rfl, hbb⟩
          rw [HYV.out]
          have HAB := Lib.hid (below_old HA.out hbb)
          have y1 : wb.cell? ⟨b8, off8 + i * 2 + 1, none⟩ = some (.int .i64 vi) := by rw [HAB.out.cell (p := ⟨b8, off8 + i * 2 + 1, none⟩) hb8']; exact x1
          have hb9 : b8 < wb.heap.size := Nat.lt_of_lt_of_le hb8' HAB.out.size
          have hvv : (vi != vi) = false := by simp
          clear hbb x1
          go_wp2_with fail
          clear y1
          have HZB := Lib.hid (below_old HZ.out HAB.out)
          obtain ⟨wc, hwc⟩ : ∃ wc, wc = wb := ⟨_, rfl⟩
          rw [← hwc] at HAB HZB hb9 ⊢
          clear hwc
          go_loopw [11] (fun j wr => ∃ jj : Nat, i + 1 ≤ jj ∧ jj ≤ r.length ∧ j = .int .i64 jj ∧ Below w6.heap.size w6 wr) (fun j _ => r.length - (intOf j).toNat)
          case atStart => exact ⟨i + 1, Nat.le_refl _, hilt, by go_num, HZB.out⟩
          case round =>
            obtain ⟨j, hij, hj, rfl, hbj⟩ := hrel
            have HJ := Lib.hid hbj
            have RJ := Lib.hid (R8.out.below hbj)
            clear hbj
            by_cases hjlt : j < r.length
            · obtain ⟨b1, o1, es1, hil1, hA1, hb1, hc1, hr1⟩ := RJ.out.at_ hilt
              obtain ⟨b2, o2, es2, hjl2, hA2, hb2, hc2, hr2⟩ := RJ.out.at_ hjlt
              injection hA1 with hA1
              injection hA1 with hA11 hA12
              injection hA2 with hA2
              injection hA2 with hA21 hA22
              subst hA11 hA12 hA21 hA22
              obtain ⟨B1, m1, d1, rfl, s1, s2, s3, _⟩ := hr1
              obtain ⟨B2, m2, d2, rfl, t1, t2, t3, _⟩ := hr2
              have e13 : Shape.ItemD.size = 2 := rfl
              have u0 := hc1 0 (by decide)
              have v0 := hc2 0 (by decide)
              simp only [e13, Nat.add_zero, List.getElem?_cons_zero] at u0 v0
              have hjs : (j : Int) < r.length := by omega
              have hm1 := small_n s3 (SM.out r[i] (List.getElem_mem hil1))
              have hm2 := small_n t3 (SM.out r[j] (List.getElem_mem hjl2))
              have hwi : within r[i].parts r[j].parts = false := ahead_within (sorted_lt REP.out.sorted hil1 hjl2 (by omega))
              have HSW : ∀ δ, Hid (Calls Tryd.prog 32 #[.slice B1 m1 d1, .slice B2 m2 d2] (over wr δ) fun e w' => e = .returned (.bool false) ∧ ∃ δ', w' = over (over wr δ) δ') := fun δ => by
                have := routeWithin (c := d1) (c' := d2) (over wr δ) (s3.below (below_over wr δ)) (t3.below (below_over wr δ)) t1 t2 (by omega) (by omega)
                rw [hwi] at this
                exact Lib.hid this
              have hbb : b8 < wr.heap.size := hb1
              clear hc1 hc2 e13 s3 t3 hwi hb1 hb2
              go_wp2
              refine wp_region_over (by kernel_rfl) (by kernel_rfl) ?_
              repeat (go_big_quiet_step (first | (go_at_call 32; exact calls_over (HSW _).out)))
              refine wpQuiet_nil ?_
              rintro _ ⟨δ', rfl⟩
              go_wp2
              go_roundw
              case rel => exact ⟨j + 1, by omega, by omega, by go_num, below_old HJ.out (below_over wr δ')⟩
              case measure => simp [intOf]; omega
            · go_wp2_with fail
              go_roundw
              case rel => exact ⟨i + 1, by omega, by go_num, HJ.out⟩
              case measure => simp [intOf]; omega
        · have hie : i = r.length := by omega
          have HC := lenI QZ.out
          rw [← hrl] at HC
          have HCC := Lib.hid HC
          clear HC
          go_wp2_with fail
          refine HCC.out.mono ?_
          rintro e wa ⟨rfl, rfl⟩
          go_wp2_with fail
          go_ret
          exact ⟨by simp, HBZ.out⟩
end Go.Proofs.YtdmpdinaineiiaaDoor
