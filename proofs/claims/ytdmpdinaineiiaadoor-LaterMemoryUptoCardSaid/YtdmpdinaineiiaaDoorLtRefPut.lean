/- The document's Put of later. No condition but room. -/
import Derived.Test.YtdmpdinaineiiaaDoorLtRef
namespace Go.Proofs.YtdmpdinaineiiaaDoor
open Go.RowKit
set_option linter.unusedVariables false
set_option linter.unusedSimpArgs false
attribute [local go_sem] cell?_over frozen?_over lt_over le_over
def stepP (d : ItemD) (s : List ItemD × Bool) (x : ItemD) : List ItemD × Bool :=
  if x.parts = d.parts then s else if !s.2 && aheadL d.parts x.parts then (s.1 ++ [d, x], true) else (s.1 ++ [x], s.2)
def goP (d : ItemD) (r : List ItemD) : List ItemD × Bool := r.foldl (stepP d) ([], false)
theorem fold_done (d : ItemD) : ∀ (r acc : List ItemD), r.foldl (stepP d) (acc, true) = (acc ++ r.filter (fun x => !decide (x.parts = d.parts)), true)
  | [], acc => by simp
  | x :: r, acc => by
    rw [List.foldl_cons]
    by_cases h : x.parts = d.parts
    · have e : stepP d (acc, true) x = (acc, true) := by unfold stepP; rw [if_pos h]
      rw [e, fold_done d r acc, List.filter_cons_of_neg (by simp [h])]
    · have e : stepP d (acc, true) x = (acc ++ [x], true) := by unfold stepP; rw [if_neg h]; simp
      rw [e, fold_done d r (acc ++ [x]), List.filter_cons_of_pos (by simp [h])]
      simp
theorem fold_open (d : ItemD) : ∀ (r acc : List ItemD), (if (r.foldl (stepP d) (acc, false)).2 then (r.foldl (stepP d) (acc, false)).1 else (r.foldl (stepP d) (acc, false)).1 ++ [d]) = acc ++ putI' r d
  | [], acc => by simp [putI', insertI]
  | x :: r, acc => by
    rw [List.foldl_cons]
    by_cases h : x.parts = d.parts
    · have e : stepP d (acc, false) x = (acc, false) := by unfold stepP; rw [if_pos h]
      rw [e, fold_open d r acc]
      unfold putI'
      rw [List.filter_cons_of_neg (by simp [h])]
    · by_cases ha : aheadL d.parts x.parts = true
      · have e : stepP d (acc, false) x = (acc ++ [d, x], true) := by unfold stepP; rw [if_neg h]; simp [ha]
        rw [e, fold_done]
        unfold putI'
        rw [List.filter_cons_of_pos (by simp [h])]
        unfold insertI
        rw [if_pos ha]
        simp
      · have e : stepP d (acc, false) x = (acc ++ [x], false) := by unfold stepP; rw [if_neg h]; simp [ha]
        rw [e, fold_open d r (acc ++ [x])]
        unfold putI'
        rw [List.filter_cons_of_pos (by simp [h])]
        conv => rhs; unfold insertI
        rw [if_neg ha]
        simp
theorem goP_end (d : ItemD) (r : List ItemD) : (if (goP d r).2 then (goP d r).1 else (goP d r).1 ++ [d]) = putI' r d := by
  have := fold_open d r []
  rw [List.nil_append] at this
  exact this
theorem goP_snoc (d : ItemD) {r : List ItemD} {k : Nat} (hk : k < r.length) : goP d (r.take (k + 1)) = stepP d (goP d (r.take k)) r[k] := by
  unfold goP
  rw [List.take_succ_eq_append_getElem hk, List.foldl_append]
  rfl
theorem goP_len (d : ItemD) : ∀ (r : List ItemD) (s : List ItemD × Bool), (r.foldl (stepP d) s).1.length ≤ s.1.length + 2 * r.length
  | [], s => by simp
  | x :: r, s => by
    rw [List.foldl_cons]
    have h := goP_len d r (stepP d s x)
    have h2 : (stepP d s x).1.length ≤ s.1.length + 2 := by
      unfold stepP
      split
      · omega
      · split <;> simp
    rw [List.length_cons]
    omega
def StopR (p : Prop) : Prop := p
theorem StopR.mk {p : Prop} (h : StopR p) : p := h
theorem cell_grown {w w' : World} {row : Option Nat} (h : w.grownBy w' row) {b o : Nat} (hb : b < w.heap.size) (hne : some b ≠ row) : w'.cell? ⟨b, o, none⟩ = w.cell? ⟨b, o, none⟩ := World.cell?_of_block (w := w) (h.block b hb hne)
set_option maxHeartbeats 2000000 in
set_option maxRecDepth 100000 in
theorem refPut {X : List Nat} {A A' : Option Addr} {n c n' c' : Nat} {r : List ItemD} {l : List ByteArray} (v : Int) (w : World) (h : Row Shape.ItemD w (Out X w) A n r) (h' : Row Shape.str w (Old w) A' n' l) (hX : ∀ k ∈ X, k < w.heap.size) (hs : SmallI r) (hs' : sizeAll l ≤ 1048576) (hi : I64 v) (hn : n ≤ 1000000000) :
    Calls Tryd.prog 12 #[.slice A n c, .slice A' n' c', .int .i64 v] w fun e w' => ∃ v', e = .returned v' ∧ SliceRd Shape.ItemD w' (Out X w') v' (putI' r ⟨l, v⟩) ∧ Below w.heap.size w w' := by
  have HL := Lib.hid h.1
  have hn' := small_n h' hs'
  go_enter Tryd.func12, Tryd.ntmps12
  go_wp2_with fail
  go_loopw [7, 8, 9] (fun v7 dn i wr => ∃ k : Nat, k ≤ n ∧ i = .int .i64 k ∧ dn = .bool (goP ⟨l, v⟩ (r.take k)).2 ∧ OwnX X w Shape.ItemD 66 wr v7 (goP ⟨l, v⟩ (r.take k)).1 ∧ Below w.heap.size w wr) (fun _ _ i _ => n - (intOf i).toNat)
  case atStart => exact ⟨0, Nat.zero_le _, rfl, rfl, OwnX.made X w _ _, below_alloc' _ _⟩
  case round =>
    obtain ⟨k, hk, rfl, hdn, hown, hbel⟩ := hrel
    have O := Lib.hid hown
    have HB := Lib.hid hbel
    have hlenG : (goP ⟨l, v⟩ (r.take k)).1.length ≤ 2000000000 := by
      have h1 := goP_len ⟨l, v⟩ (r.take k) ([], false)
      have h2 := List.length_take_le k r
      simp only [List.length_nil] at h1
      unfold goP
      omega
    clear hown
    by_cases hlt : k < n
    · have hrow := h.keep (Keeps.of_below hbel |>.mono fun n hn => hn.1)
      obtain ⟨b, off, es, hkl, rfl, hb, hc, hr⟩ := hrow.at_ hlt
      have hrd := hr
      obtain ⟨A1, n1, c1, rfl, q1, q2, q3, q4⟩ := hr
      have e13 : Shape.ItemD.size = 2 := rfl
      have x0 := hc 0 (by decide)
      have x1 := hc 1 (by decide)
      simp only [e13, Nat.add_zero, List.getElem?_cons_zero, List.getElem?_cons_succ] at x0 x1
      have hks : (k : Int) < n := by omega
      have hn1 := small_n q3 (hs r[k] (List.getElem_mem hkl))
      have Q3 := Lib.hid (q3.more (M' := Old wr) fun n hn => Nat.lt_of_lt_of_le hn.1 hbel.size)
      have hb2 : b < wr.heap.size := Nat.lt_of_lt_of_le hb.1 hbel.size
      have RD := Lib.hid hrd
      have HBW := Lib.hid hb.1
      have HG := Lib.hid (goP_snoc ⟨l, v⟩ hkl)
      clear hc e13 hrd q3 hb hrow
      have hcS := fun (W : World) (hW : Below wr.heap.size wr W) => sameTexts (c := c1) (c' := c') W (Q3.out.below hW) (h'.below (below_old HB.out hW)) (by omega) (by omega)
      have hcA := fun (W : World) (hW : Below wr.heap.size wr W) => aheadT (c := c') (c' := c1) W (h'.below (below_old HB.out hW)) (Q3.out.below hW) (by omega) (by omega)
      obtain ⟨dk, hdk⟩ : ∃ dk, dk = r[k] := ⟨_, rfl⟩
      rw [← hdk] at hcS hcA RD x1 Q3 HG
      clear hdk
      obtain ⟨acc, hacc⟩ : ∃ acc, acc = (goP ⟨l, v⟩ (r.take k)).1 := ⟨_, rfl⟩
      obtain ⟨dn, hdn'⟩ : ∃ dn, dn = (goP ⟨l, v⟩ (r.take k)).2 := ⟨_, rfl⟩
      have hpair : goP ⟨l, v⟩ (r.take k) = (acc, dn) := by rw [hacc, hdn']
      rw [hpair] at HG
      rw [← hacc] at O hlenG
      rw [← hdn'] at hdn
      subst hdn
      clear hacc hdn' hpair
      by_cases he : dk.parts = l
      · have hst : stepP ⟨l, v⟩ (acc, dn) dk = (acc, dn) := by unfold stepP; rw [if_pos he]
        rw [hst] at HG
        rw [decide_eq_true he] at hcS
        have HC := Lib.hid hcS
        clear hcS hcA he hst
        go_wp2_with fail
        refine (HC.out wr (Below.refl _ _)).mono ?_
        rintro e w1 ⟨rfl, δ, hw1⟩
        have O1 := Lib.hid (O.out.below (below_of hw1))
        have HB1 := Lib.hid (below_old HB.out (below_of hw1))
        clear hw1 x0 x1
        go_wp2_with fail
        go_roundw
        case rel => exact ⟨k + 1, by omega, by go_num, by rw [HG.out], by rw [HG.out]; exact O1.out, HB1.out⟩
        case measure => simp [intOf]; omega
      · rw [decide_eq_false he] at hcS
        have HC := Lib.hid hcS
        have HE := Lib.hid he
        clear hcS he
        go_wp2_with fail
        refine (HC.out wr (Below.refl _ _)).mono ?_
        rintro e w1 ⟨rfl, δ, hw1⟩
        have hb1 := below_of hw1
        have O1 := Lib.hid (O.out.below hb1)
        have HB1 := Lib.hid (below_old HB.out hb1)
        have RD1 := Lib.hid (Shape.ItemD.keep RD.out ((Keeps.of_below hb1).mono fun n hn => Nat.lt_of_lt_of_le hn.1 HB.out.size))
        have y0 := x0
        have y1 := x1
        rw [← hb1.cell (p := ⟨b, off + k * 2, none⟩) hb2] at y0
        rw [← hb1.cell (p := ⟨b, off + k * 2 + 1, none⟩) hb2] at y1
        have hb3 : b < w1.heap.size := Nat.lt_of_lt_of_le hb2 hb1.size
        have HW1 := Lib.hid hb1
        clear hw1 hb1 x0 x1 hb2 RD O HC
        by_cases hca : dn = false ∧ aheadL l dk.parts = true
        · obtain ⟨rfl, ha⟩ := hca
          have hst : stepP ⟨l, v⟩ (acc, false) dk = (acc ++ [⟨l, v⟩, dk], true) := by unfold stepP; rw [if_neg HE.out]; simp [ha]
          rw [hst] at HG
          rw [ha] at hcA
          have HCA := Lib.hid hcA
          clear hcA ha hst
          go_wp2_with fail
          refine (HCA.out w1 HW1.out).mono ?_
          rintro e w2 ⟨rfl, δ2, hw2⟩
          have hb2' := below_of hw2
          have O2 := Lib.hid (O1.out.below hb2')
          have HB2 := Lib.hid (below_old HB1.out hb2')
          have RD2 := Lib.hid (Shape.ItemD.keep RD1.out ((Keeps.of_below hb2').mono fun n hn => Nat.lt_of_lt_of_le hn.1 HB1.out.size))
          have z0 := y0
          have z1 := y1
          rw [← hb2'.cell (p := ⟨b, off + k * 2, none⟩) hb3] at z0
          rw [← hb2'.cell (p := ⟨b, off + k * 2 + 1, none⟩) hb3] at z1
          have hb4 : b < w2.heap.size := Nat.lt_of_lt_of_le hb3 hb2'.size
          clear hw2 hb2' y0 y1 hb3 O1 RD1
          go_wp2_with fail
          refine (copyTexts (c := c') w2 (h'.below HB2.out) (by omega)).mono ?_
          rintro e w3 ⟨v3, δ3, rfl, hw3, hown3⟩
          have hb3' := below_of hw3
          obtain ⟨⟨A4, c4⟩, rfl, hO4⟩ := ownT_of (n := w2.heap.size) hown3 (Nat.le_refl _)
          rw [enc_ownT]
          have hO4' : Own Shape.str 9 w3 w2.heap.size (fun _ => False) (.slice A4 l.length c4) l := hO4
          have O3 := Lib.hid (O2.out.below hb3')
          have HB3 := Lib.hid (below_old HB2.out hb3')
          have RD3 := Lib.hid (Shape.ItemD.keep RD2.out ((Keeps.of_below hb3').mono fun n hn => Nat.lt_of_lt_of_le hn.1 HB2.out.size))
          have t0 := z0
          have t1 := z1
          rw [← hb3'.cell (p := ⟨b, off + k * 2, none⟩) hb4] at t0
          rw [← hb3'.cell (p := ⟨b, off + k * 2 + 1, none⟩) hb4] at t1
          have hb5 : b < w3.heap.size := Nat.lt_of_lt_of_le hb4 hb3'.size
          have hlt2 := O2.out.lt
          have LT2 := Lib.hid hlt2
          have hsz2 := HB2.out.size
          have hsz3 := HB3.out.size
          -- the new item, read
          obtain ⟨A9, n9, c9, e9, p1, p2, p3⟩ := hO4'.rd_from (B := w2.heap.size) (Nat.le_refl _) (fun _ h => h.elim)
          injection e9 with e91 e92 e93
          subst e91 e92 e93
          have hrdN : Shape.ItemD.rd w3 (From w2.heap.size w3) [.slice A4 l.length c4, .int .i64 v] ⟨l, v⟩ := ⟨A4, l.length, c4, rfl, p1, p2, p3, hi⟩
          have RDN := Lib.hid hrdN
          obtain ⟨M, hM, hO⟩ := O3.out
          have hlt3 := hO.lt
          have HM := Lib.hid hM; have OO := Lib.hid hO; have LT := Lib.hid hlt3
          have hown_lt2 : ∀ n, u7.ownBlock = some n → n < w2.heap.size := fun n hn => (hlt2 n hn).2
          have OLT := Lib.hid hown_lt2
          clear hw3 hb3' z0 z1 hb4 hown3 hO4 hO4' hlt2 hM hO hlt3 p3 hrdN O2 O3 RD2 hown_lt2
          go_wp2_with (first
            | (at_builtin
               refine wpList_append_g (M' := From w2.heap.size w3) (v := u7) rfl (.tmp 35) (.tmp 40) _ rfl elem_ItemD rfl OO.out (es := [.slice A4 l.length c4, .int .i64 v]) (b := ⟨l, v⟩) rfl RDN.out (fun n hn => ⟨hn.2, fun e => by have := OLT.out n e.symm; have := hn.1; omega⟩) (by omega) (by unfold maxLen; omega) hsz3 (fun v' w4 hown4 hg4 hat4 => StopR.mk ?_)))
          unfold StopR
          have hnb : some b ≠ u7.ownBlock := fun e => by have h1 := (LT.out b e.symm).1; have h2 := HBW.out; omega
          have s0 := t0
          have s1 := t1
          rw [← cell_grown hg4 hb5 hnb] at s0 s1
          have hb6 : b < w4.heap.size := Nat.lt_of_lt_of_le hb5 hg4.size
          have OX4 := Lib.hid (OwnX.snoc HM.out (fun n hn => .inr ⟨Nat.le_trans hsz2 hn.1, hn.2⟩) hg4.size hown4)
          have HB4 := Lib.hid (HB3.out.grown hg4 hsz3 (fun n hn => (LT.out n hn).1))
          have RD4 := Lib.hid (Shape.ItemD.keep RD3.out ((Keeps.of_grown hg4).mono (M' := Out X w) fun n hn => ⟨Nat.lt_of_lt_of_le hn.1 hsz3, fun e => by have := (LT.out n e.symm).1; have := hn.1; omega⟩))
          clear t0 t1 hb5 hnb hown4 hg4 hat4 HM OO LT OLT RDN RD3 LT2
          have hsz4 := HB4.out.size
          obtain ⟨M4, hM4, hO4⟩ := OX4.out
          have hlt4 := hO4.lt
          have HM4 := Lib.hid hM4; have OO4 := Lib.hid hO4; have LT4 := Lib.hid hlt4
          clear hM4 hO4 hlt4 OX4
          go_wp2_with (first
            | (at_builtin
               refine wpList_append_g (M' := Out X w) (v := v') rfl (.tmp 42) (.tmp 47) _ rfl elem_ItemD rfl OO4.out (es := [.slice A1 n1 c1, .int .i64 dk.v]) (b := dk) rfl RD4.out (fun n hn => ⟨Nat.lt_of_lt_of_le hn.1 hsz4, fun e => by have := (LT4.out n e.symm).1; have := hn.1; omega⟩) (by rw [List.length_append]; simp only [List.length_cons, List.length_nil]; omega) (by rw [List.length_append]; simp only [List.length_cons, List.length_nil]; unfold maxLen; omega) hsz4 (fun v9 w5 hown5 hg5 hat5 => StopR.mk ?_)))
          unfold StopR
          have OX5 := Lib.hid (OwnX.snoc HM4.out (fun n hn => .inl hn) hg5.size hown5)
          have HB5 := Lib.hid (HB4.out.grown hg5 hsz4 (fun n hn => (LT4.out n hn).1))
          clear hown5 hg5 hat5 s0 s1
          go_wp2_with fail
          go_roundw
          case rel => exact ⟨k + 1, by omega, by go_num, by rw [HG.out], by rw [HG.out]; simpa using OX5.out, HB5.out⟩
          case measure => simp [intOf]; omega
        · have hst : stepP ⟨l, v⟩ (acc, dn) dk = (acc ++ [dk], dn) := by
            unfold stepP
            rw [if_neg HE.out]
            have : (!dn && aheadL l dk.parts) = false := by
              cases hd : dn with
              | true => rfl
              | false =>
                cases ha : aheadL l dk.parts with
                | false => rfl
                | true => exact absurd ⟨hd, ha⟩ hca
            simp only [this, Bool.false_eq_true, if_false]
          rw [hst] at HG
          clear hst
          cases hd : dn with
          | true =>
            subst hd
            have O4 := O1; have HB4 := HB1; have RD4 := RD1
            clear hcA hca O1 RD1 HW1
            obtain ⟨M4, hM4, hO4⟩ := O4.out
            have hlt4 := hO4.lt
            have HM4 := Lib.hid hM4; have OO4 := Lib.hid hO4; have LT4 := Lib.hid hlt4
            have hsz4 := HB4.out.size
            clear hM4 hO4 hlt4 O4
            go_wp2_with (first
              | (at_builtin
                 refine wpList_append_g (M' := Out X w) (v := u7) rfl (.tmp 42) (.tmp 47) _ rfl elem_ItemD rfl OO4.out (es := [.slice A1 n1 c1, .int .i64 dk.v]) (b := dk) rfl RD4.out (fun n hn => ⟨Nat.lt_of_lt_of_le hn.1 hsz4, fun e => by have := (LT4.out n e.symm).1; have := hn.1; omega⟩) (by omega) (by unfold maxLen; omega) hsz4 (fun v9 w5 hown5 hg5 hat5 => StopR.mk ?_)))
            unfold StopR
            have OX5 := Lib.hid (OwnX.snoc HM4.out (fun n hn => .inl hn) hg5.size hown5)
            have HB5 := Lib.hid (HB4.out.grown hg5 hsz4 (fun n hn => (LT4.out n hn).1))
            clear hown5 hg5 hat5
            go_wp2_with fail
            go_roundw
            case rel => exact ⟨k + 1, by omega, by go_num, by rw [HG.out], by rw [HG.out]; exact OX5.out, HB5.out⟩
            case measure => simp [intOf]; omega
          | false =>
            subst hd
            have ha : aheadL l dk.parts = false := by
              cases ha : aheadL l dk.parts with
              | false => rfl
              | true => exact absurd ⟨rfl, ha⟩ hca
            rw [ha] at hcA
            have HCA := Lib.hid hcA
            clear hcA ha hca
            go_wp2_with fail
            refine (HCA.out w1 HW1.out).mono ?_
            rintro e w2 ⟨rfl, δ2, hw2⟩
            have hb2' := below_of hw2
            have O4 := Lib.hid (O1.out.below hb2')
            have HB4 := Lib.hid (below_old HB1.out hb2')
            have RD4 := Lib.hid (Shape.ItemD.keep RD1.out ((Keeps.of_below hb2').mono fun n hn => Nat.lt_of_lt_of_le hn.1 HB1.out.size))
            have z0 := y0
            have z1 := y1
            rw [← hb2'.cell (p := ⟨b, off + k * 2, none⟩) hb3] at z0
            rw [← hb2'.cell (p := ⟨b, off + k * 2 + 1, none⟩) hb3] at z1
            have hb4 : b < w2.heap.size := Nat.lt_of_lt_of_le hb3 hb2'.size
            clear hw2 hb2' y0 y1 hb3 O1 RD1
            obtain ⟨M4, hM4, hO4⟩ := O4.out
            have hlt4 := hO4.lt
            have HM4 := Lib.hid hM4; have OO4 := Lib.hid hO4; have LT4 := Lib.hid hlt4
            have hsz4 := HB4.out.size
            clear hM4 hO4 hlt4 O4
            go_wp2_with (first
              | (at_builtin
                 refine wpList_append_g (M' := Out X w) (v := u7) rfl (.tmp 42) (.tmp 47) _ rfl elem_ItemD rfl OO4.out (es := [.slice A1 n1 c1, .int .i64 dk.v]) (b := dk) rfl RD4.out (fun n hn => ⟨Nat.lt_of_lt_of_le hn.1 hsz4, fun e => by have := (LT4.out n e.symm).1; have := hn.1; omega⟩) (by omega) (by unfold maxLen; omega) hsz4 (fun v9 w5 hown5 hg5 hat5 => StopR.mk ?_)))
            unfold StopR
            have OX5 := Lib.hid (OwnX.snoc HM4.out (fun n hn => .inl hn) hg5.size hown5)
            have HB5 := Lib.hid (HB4.out.grown hg5 hsz4 (fun n hn => (LT4.out n hn).1))
            clear hown5 hg5 hat5
            go_wp2_with fail
            go_roundw
            case rel => exact ⟨k + 1, by omega, by go_num, by rw [HG.out], by rw [HG.out]; exact OX5.out, HB5.out⟩
            case measure => simp [intOf]; omega
    · have hkn : k = n := by omega
      subst hkn
      rw [List.take_of_length_le (by rw [HL.out]; omega)] at O hdn hlenG
      have hend := goP_end ⟨l, v⟩ r
      obtain ⟨acc, hacc⟩ : ∃ acc, acc = (goP ⟨l, v⟩ r).1 := ⟨_, rfl⟩
      obtain ⟨dn, hdn'⟩ : ∃ dn, dn = (goP ⟨l, v⟩ r).2 := ⟨_, rfl⟩
      rw [← hacc] at O hlenG hend
      rw [← hdn'] at hdn hend
      subst hdn
      have HEND := Lib.hid hend
      clear hacc hdn' hend
      cases dn with
      | true =>
        have he := HEND.out
        rw [if_pos rfl] at he
        have HE := Lib.hid he
        clear he HEND
        go_wp2
        go_ret
        exact ⟨_, rfl, by rw [← HE.out]; exact O.out.rd hX HB.out.size, HB.out⟩
      | false =>
        have he := HEND.out
        rw [if_neg (by decide)] at he
        have HE := Lib.hid he
        clear he HEND
        go_wp2_with fail
        refine (copyTexts (c := c') wr (h'.below HB.out) (by omega)).mono ?_
        rintro e w3 ⟨v3, δ3, rfl, hw3, hown3⟩
        have hb3' := below_of hw3
        obtain ⟨⟨A4, c4⟩, rfl, hO4⟩ := ownT_of (n := wr.heap.size) hown3 (Nat.le_refl _)
        rw [enc_ownT]
        have hO4' : Own Shape.str 9 w3 wr.heap.size (fun _ => False) (.slice A4 l.length c4) l := hO4
        have O3 := Lib.hid (O.out.below hb3')
        have HB3 := Lib.hid (below_old HB.out hb3')
        have hlt2 := O.out.lt
        have hsz2 := HB.out.size
        have hsz3 := HB3.out.size
        obtain ⟨A9, n9, c9, e9, p1, p2, p3⟩ := hO4'.rd_from (B := wr.heap.size) (Nat.le_refl _) (fun _ h => h.elim)
        injection e9 with e91 e92 e93
        subst e91 e92 e93
        have hrdN : Shape.ItemD.rd w3 (From wr.heap.size w3) [.slice A4 l.length c4, .int .i64 v] ⟨l, v⟩ := ⟨A4, l.length, c4, rfl, p1, p2, p3, hi⟩
        have RDN := Lib.hid hrdN
        obtain ⟨M, hM, hO⟩ := O3.out
        have hlt3 := hO.lt
        have HM := Lib.hid hM; have OO := Lib.hid hO; have LT := Lib.hid hlt3
        have hown_lt2 : ∀ n, u7.ownBlock = some n → n < wr.heap.size := fun n hn => (hlt2 n hn).2
        have OLT := Lib.hid hown_lt2
        clear hw3 hb3' hown3 hO4 hO4' hlt2 hM hO hlt3 p3 hrdN O3 O hown_lt2
        go_wp2_with (first
          | (at_builtin
             refine wpList_append_g (M' := From wr.heap.size w3) (v := u7) rfl (.tmp 51) (.tmp 56) _ rfl elem_ItemD rfl OO.out (es := [.slice A4 l.length c4, .int .i64 v]) (b := ⟨l, v⟩) rfl RDN.out (fun n hn => ⟨hn.2, fun e => by have := OLT.out n e.symm; have := hn.1; omega⟩) (by omega) (by unfold maxLen; omega) hsz3 (fun v' w4 hown4 hg4 hat4 => StopR.mk ?_)))
        unfold StopR
        have OX4 := Lib.hid (OwnX.snoc HM.out (fun n hn => .inr ⟨Nat.le_trans hsz2 hn.1, hn.2⟩) hg4.size hown4)
        have HB4 := Lib.hid (HB3.out.grown hg4 hsz3 (fun n hn => (LT.out n hn).1))
        clear hown4 hg4 hat4
        go_wp2_with fail
        go_ret
        exact ⟨_, rfl, by rw [← HE.out]; exact OX4.out.rd hX HB4.out.size, HB4.out⟩
end Go.Proofs.YtdmpdinaineiiaaDoor
