/- The document's Get and Drop of later. No condition but room. -/
import Derived.Test.YtdmpdinaineiiaaDoorAppG
namespace Go.Proofs.YtdmpdinaineiiaaDoor
open Go.RowKit
set_option linter.unusedVariables false
set_option linter.unusedSimpArgs false
attribute [local go_sem] cell?_over frozen?_over lt_over le_over
def SmallI (r : List ItemD) : Prop := ∀ x ∈ r, sizeAll x.parts ≤ 1048576
theorem small_n {A : Option Addr} {n : Nat} {l : List ByteArray} {w : World} {M : Nat → Prop} (h : Row Shape.str w M A n l) (hs : sizeAll l ≤ 1048576) : n ≤ 1048576 := by
  have h1 := len_bulk Shape.str l
  have h2 := h.1
  have h3 : bulkAll Shape.str.bulk l ≤ 1048576 := hs
  rw [← h2]
  exact Nat.le_trans h1 h3
theorem getR_none {r : List ItemD} {l : List ByteArray} (h : ∀ i (hi : i < r.length), r[i].parts ≠ l) : getI' r l = none := by
  unfold getI'
  rw [Option.map_eq_none_iff, List.find?_eq_none]
  intro x hx
  obtain ⟨i, hi, rfl⟩ := List.getElem_of_mem hx
  simpa using h i hi
theorem getR_at {r : List ItemD} {l : List ByteArray} {k : Nat} (hk : k < r.length) (h : ∀ i (hi : i < r.length), i < k → r[i].parts ≠ l) (he : r[k].parts = l) : getI' r l = some r[k].v := by
  unfold getI'
  have : r.find? (fun x => decide (x.parts = l)) = some r[k] := by
    rw [List.find?_eq_some_iff_getElem]
    refine ⟨decide_eq_true he, k, hk, rfl, fun j hj => ?_⟩
    have := h j (by omega) hj
    simpa using this
  rw [this]; rfl
set_option maxHeartbeats 1000000 in
set_option maxRecDepth 100000 in
theorem refGet {A A' : Option Addr} {n c n' c' : Nat} {r : List ItemD} {l : List ByteArray} (w : World) (h : Row Shape.ItemD w (Old w) A n r) (h' : Row Shape.str w (Old w) A' n' l) (hs : SmallI r) (hs' : sizeAll l ≤ 1048576) (hn : n ≤ 1000000000) :
    Calls Tryd.prog 16 #[.slice A n c, .slice A' n' c'] w fun e w' => e = .returned (.tuple #[.int .i64 ((getI' r l).getD 0), .bool (getI' r l).isSome]) ∧ Below w.heap.size w w' := by
  have HL := Lib.hid h.1
  have hn' := small_n h' hs'
  go_enter Tryd.func16, Tryd.ntmps16
  go_wp2_with fail
  go_loopw [6] (fun i wr => ∃ k : Nat, k ≤ n ∧ i = .int .i64 k ∧ (∀ i (hi : i < r.length), i < k → r[i].parts ≠ l) ∧ Below w.heap.size w wr) (fun i _ => n - (intOf i).toNat)
  case atStart => exact ⟨0, Nat.zero_le _, rfl, fun _ _ h => absurd h (by omega), Below.refl _ _⟩
  case round =>
    obtain ⟨k, hk, rfl, hno, hbel⟩ := hrel
    have HN := Lib.hid hno; clear hno
    by_cases hlt : k < n
    · obtain ⟨b, off, es, hkl, rfl, hb, hc, hr⟩ := (h.below hbel).at_ hlt
      obtain ⟨A1, n1, c1, rfl, q1, q2, q3, q4⟩ := hr
      have e13 : Shape.ItemD.size = 2 := rfl
      have x0 := hc 0 (by decide)
      have x1 := hc 1 (by decide)
      simp only [e13, Nat.add_zero, List.getElem?_cons_zero, List.getElem?_cons_succ] at x0 x1
      have hks : (k : Int) < n := by omega
      have hs1 := hs r[k] (List.getElem_mem hkl)
      have hn1 := small_n q3 hs1
      clear hc e13
      have HB := Lib.hid hbel
      have Q3 := Lib.hid q3
      have hb2 : b < wr.heap.size := hb
      clear q3 hbel hb
      by_cases he : r[k].parts = l
      · have HG := Lib.hid (getR_at hkl HN.out he)
        have hcon := fun (W : World) (hW : Below wr.heap.size wr W) => sameTexts (c := c1) (c' := c') W (Q3.out.below hW) (h'.below (below_old HB.out hW)) (by omega) (by omega)
        rw [decide_eq_true he] at hcon
        have HC := Lib.hid hcon
        clear hcon he
        generalize r[k].v = vv at *
        go_wp2_with fail
        refine (HC.out wr (Below.refl _ _)).mono ?_
        rintro e w1 ⟨rfl, δ, hw1⟩
        have hb1 := below_of hw1
        have y1 := x1
        rw [← hb1.cell (p := ⟨b, off + k * 2 + 1, none⟩) hb2] at y1
        have hb3 : b < w1.heap.size := Nat.lt_of_lt_of_le hb2 hb1.size
        have HB1 := Lib.hid (below_old HB.out hb1)
        clear hw1 hb1 x0 x1 hb2
        go_wp2_with fail
        go_ret2
        refine ⟨?_, HB1.out⟩
        rw [HG.out]
        first | rfl | simp
      · have HE := Lib.hid he
        have hcon := fun (W : World) (hW : Below wr.heap.size wr W) => sameTexts (c := c1) (c' := c') W (Q3.out.below hW) (h'.below (below_old HB.out hW)) (by omega) (by omega)
        rw [decide_eq_false he] at hcon
        have HC := Lib.hid hcon
        clear hcon he
        go_wp2_with fail
        refine (HC.out wr (Below.refl _ _)).mono ?_
        rintro e w1 ⟨rfl, δ, hw1⟩
        have HB1 := Lib.hid (below_old HB.out (below_of hw1))
        clear hw1 x0 x1
        go_wp2_with fail
        go_roundw
        case rel =>
          refine ⟨k + 1, by omega, by go_num, fun i hi hik => ?_, HB1.out⟩
          by_cases e : i = k
          · subst e; exact HE.out
          · exact HN.out i hi (by omega)
        case measure => simp [intOf]; omega
    · have HG := Lib.hid (getR_none (r := r) (l := l) fun i hi => HN.out i hi (by have := HL.out; omega))
      go_wp2
      go_ret2
      refine ⟨?_, hbel⟩
      rw [HG.out]
      first | rfl | simp
set_option maxHeartbeats 1000000 in
set_option maxRecDepth 100000 in
theorem refDrop {X : List Nat} {A A' : Option Addr} {n c n' c' : Nat} {r : List ItemD} {l : List ByteArray} (w : World) (h : Row Shape.ItemD w (Out X w) A n r) (h' : Row Shape.str w (Old w) A' n' l) (hX : ∀ k ∈ X, k < w.heap.size) (hs : SmallI r) (hs' : sizeAll l ≤ 1048576) (hn : n ≤ 1000000000) :
    Calls Tryd.prog 18 #[.slice A n c, .slice A' n' c'] w fun e w' => ∃ v', e = .returned v' ∧ SliceRd Shape.ItemD w' (Out X w') v' (dropI' r l) ∧ Below w.heap.size w w' := by
  have HL := Lib.hid h.1
  have hn' := small_n h' hs'
  go_enter Tryd.func18, Tryd.ntmps18
  go_wp2_with fail
  go_loopw [5, 6] (fun v i wr => ∃ k : Nat, k ≤ n ∧ i = .int .i64 k ∧ OwnX X w Shape.ItemD 66 wr v (dropI' (r.take k) l) ∧ Below w.heap.size w wr) (fun _ i _ => n - (intOf i).toNat)
  case atStart => exact ⟨0, Nat.zero_le _, rfl, OwnX.made X w _ _, below_alloc' _ _⟩
  case round =>
    obtain ⟨k, hk, rfl, hown, hbel⟩ := hrel
    have O := Lib.hid hown
    have HB := Lib.hid hbel
    clear hown
    by_cases hlt : k < n
    · have hrow := h.keep (Keeps.of_below hbel |>.mono fun n hn => hn.1)
      obtain ⟨b, off, es, hkl, rfl, hb, hc, hr⟩ := hrow.at_ hlt
      have hrd := hr
      obtain ⟨A1, n1, c1, rfl, q1, q2, q3, q4⟩ := hr
      have e13 : Shape.ItemD.size = 2 := rfl
      have x0 := hc 0 (by decide)
      have x1 := hc 1 (by decide)
      simp only [e13, Nat.add_zero, List.getElem?_cons_zero, List.getElem?_cons_succ] at x0 x1
      have hks : (k : Int) < n := by omega
      have hn1 := small_n q3 (hs r[k] (List.getElem_mem hkl))
      have Q3 := Lib.hid (q3.more (M' := Old wr) fun n hn => Nat.lt_of_lt_of_le hn.1 hbel.size)
      have hb2 : b < wr.heap.size := Nat.lt_of_lt_of_le hb.1 hbel.size
      have RD := Lib.hid hrd
      have htk := List.take_succ_eq_append_getElem hkl
      have HT := Lib.hid htk
      have hlen : (dropI' (r.take k) l).length ≤ 1000000000 := by
        have h1 := List.length_filter_le (fun x : ItemD => !within l x.parts) (r.take k)
        have h2 := List.length_take_le k r
        unfold dropI'
        omega
      clear hc e13 hrd q3 hb htk hrow
      cases hw : within l r[k].parts with
      | true =>
        have hcon := fun (W : World) (hW : Below wr.heap.size wr W) => refWithin (c := c') (c' := c1) W (h'.below (below_old HB.out hW)) (Q3.out.below hW) (by omega) (by omega)
        rw [hw] at hcon
        have HC := Lib.hid hcon
        have hd : dropI' (r.take (k + 1)) l = dropI' (r.take k) l := by
          unfold dropI'
          rw [HT.out, List.filter_append, List.filter_cons_of_neg (by simp [hw])]
          simp
        have HD := Lib.hid hd
        clear hcon hw hd hbel
        go_wp2_with fail
        refine (HC.out wr (Below.refl _ _)).mono ?_
        rintro e w1 ⟨rfl, δ, hw1⟩
        have O1 := Lib.hid (O.out.below (below_of hw1))
        have HB1 := Lib.hid (below_old HB.out (below_of hw1))
        clear hw1 x0 x1
        go_wp2_with fail
        go_roundw
        case rel => exact ⟨k + 1, by omega, by go_num, by rw [HD.out]; exact O1.out, HB1.out⟩
        case measure => simp [intOf]; omega
      | false =>
        have hcon := fun (W : World) (hW : Below wr.heap.size wr W) => refWithin (c := c') (c' := c1) W (h'.below (below_old HB.out hW)) (Q3.out.below hW) (by omega) (by omega)
        rw [hw] at hcon
        have HC := Lib.hid hcon
        have hd : dropI' (r.take (k + 1)) l = dropI' (r.take k) l ++ [r[k]] := by
          unfold dropI'
          rw [HT.out, List.filter_append, List.filter_cons_of_pos (by simp [hw])]
          simp
        have HD := Lib.hid hd
        clear hcon hw hd hbel
        generalize hdk : r[k] = dk at *
        go_wp2_with fail
        refine (HC.out wr (Below.refl _ _)).mono ?_
        rintro e w1 ⟨rfl, δ, hw1⟩
        have hb1 := below_of hw1
        have O1 := Lib.hid (O.out.below hb1)
        have HB1 := Lib.hid (below_old HB.out hb1)
        have RD1 := Lib.hid (Shape.ItemD.keep RD.out ((Keeps.of_below hb1).mono fun n hn => Nat.lt_of_lt_of_le hn.1 HB.out.size))
        have y0 := x0
        have y1 := x1
        rw [← hb1.cell (p := ⟨b, off + k * 2, none⟩) hb2] at y0
        rw [← hb1.cell (p := ⟨b, off + k * 2 + 1, none⟩) hb2] at y1
        have hb3 : b < w1.heap.size := Nat.lt_of_lt_of_le hb2 hb1.size
        clear hw1 hb1 x0 x1 hb2
        obtain ⟨M, hM, hO⟩ := O1.out
        have hlt1 := hO.lt
        have HM := Lib.hid hM; have OO := Lib.hid hO; have LT := Lib.hid hlt1
        have hsz1 := HB1.out.size
        clear hM hO hlt1
        go_wp2_with (first
          | (at_builtin
             refine wpList_append_g (M' := Out X w) (v := u5) rfl (.tmp 22) (.tmp 27) _ rfl elem_ItemD rfl OO.out (es := [.slice A1 n1 c1, .int .i64 dk.v]) (b := dk) rfl RD1.out (fun n hn => ⟨Nat.lt_of_lt_of_le hn.1 hsz1, fun e => by have := (LT.out n e.symm).1; have := hn.1; omega⟩) (by omega) (by unfold maxLen; omega) hsz1 ?_
             intro v' w2 hown2 hg2 hat2))
        have OX := Lib.hid (OwnX.snoc HM.out (fun n hn => .inl hn) hg2.size hown2)
        have HB2 := Lib.hid (HB1.out.grown hg2 hsz1 (fun n hn => (LT.out n hn).1))
        clear hown2 hg2 hat2
        go_wp2_with fail
        go_roundw
        case rel => exact ⟨k + 1, by omega, by go_num, by rw [HD.out]; exact OX.out, HB2.out⟩
        case measure => simp [intOf]; omega
    · have hkn : k = n := by omega
      subst hkn
      rw [List.take_of_length_le (by rw [HL.out]; omega)] at O
      go_wp2
      go_ret
      exact ⟨_, rfl, O.out.rd hX HB.out.size, HB.out⟩
end Go.Proofs.YtdmpdinaineiiaaDoor
