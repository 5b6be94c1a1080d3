/- Joined names, both ways. No condition but room. -/
import Derived.Test.YtjknjmlpnjifkaaDoorRouteC
import Derived.Test.YtjknjmlpnjifkaaDoorLayJoin
import Derived.Lib.Join
import Derived.Shelf.Strings.OnBuilder
namespace Go.Proofs.YtjknjmlpnjifkaaDoor
open Go.RowKit
set_option linter.unusedVariables false
set_option linter.unusedSimpArgs false
attribute [local go_sem] cell?_over frozen?_over lt_over le_over
/-- the signs of texts, one more for each -/
def totL : List (List UInt8) → Nat
  | [] => 0
  | p :: l => p.length + 1 + totL l
abbrev joinP (l : List (List UInt8)) : List UInt8 := Lib.join l [47]
theorem tot_append (a b : List (List UInt8)) : totL (a ++ b) = totL a + totL b := by
  induction a with
  | nil => simp [totL]
  | cons p a ih => simp only [List.cons_append, totL, ih]; omega
theorem tot_filter (f : List UInt8 → Bool) (l : List (List UInt8)) : totL (l.filter f) ≤ totL l := by
  induction l with
  | nil => simp
  | cons p l ih =>
    rw [List.filter_cons]
    split <;> simp only [totL] <;> omega
theorem tot_take (l : List (List UInt8)) (k : Nat) : totL (l.take k) ≤ totL l := by
  have h := tot_append (l.take k) (l.drop k)
  rw [List.take_append_drop] at h
  omega
theorem tot_split (b : UInt8) (l : List UInt8) : totL (splitW b l) = l.length + 1 := by
  induction l with
  | nil => rfl
  | cons c l ih =>
    unfold splitW
    split
    · simp only [totL, ih, List.length_cons, List.length_nil]; omega
    · split
      · next w r h => rw [h] at ih; simp only [totL, List.length_cons] at ih ⊢; omega
      · next h => exact absurd h (splitW_ne b l)
theorem tot_parts (l : List UInt8) : totL (partsOf l) ≤ l.length + 1 := by
  have := tot_filter keepP (splitW 47 l)
  rw [tot_split] at this
  exact this
theorem join_snoc {l : List (List UInt8)} (h : l ≠ []) (p : List UInt8) : joinP (l ++ [p]) = joinP l ++ [47] ++ p := by
  cases l with
  | nil => exact absurd rfl h
  | cons x r =>
    unfold joinP
    rw [List.cons_append, Lib.join_cons, Lib.join_cons]
    unfold Lib.joinTail
    rw [List.map_append, List.flatten_append]
    simp
theorem join_tot (l : List (List UInt8)) : (joinP l).length ≤ totL l - 1 := by
  induction l with
  | nil => simp [joinP, Lib.join_nil]
  | cons x r ih =>
    unfold joinP
    rw [Lib.join_cons]
    have : ∀ r : List (List UInt8), (Lib.joinTail [47] r).length = totL r := by
      intro r
      induction r with
      | nil => rfl
      | cons y r ih => unfold Lib.joinTail at ih ⊢; rw [List.map_cons, List.flatten_cons, List.length_append, ih]; simp only [totL, List.length_append, List.length_cons, List.length_nil]; omega
    rw [List.length_append, this r]
    simp only [totL]; omega
theorem bexJ : Builder.Extra Tryd.prog Tryd.lays156_ren := {
  sizeBuilder := by kernel_rfl
  liesBuilder := by kernel_rfl
  t5 := Tryd.underlying5
  a5 := Tryd.isAgg5
  z5 := Tryd.sizeOf5
  v5 := Tryd.zeroValue5
  infoByte := by kernel_rfl
  cellsByte := by kernel_rfl
  sizeByte := by kernel_rfl
  neB5 := by decide }
set_option maxHeartbeats 1000000 in
set_option maxRecDepth 100000 in
theorem routeJoin {A : Option Addr} {n c : Nat} {l : List (List UInt8)} (w : World) (h : Row Shape.str w (Old w) A n (textsL l)) (hc : n ≤ c) (hl : totL l ≤ 100000001) :
    Calls Tryd.prog 14 #[.slice A n c] w fun e w' => e = .returned (.string ⟨(joinP l).toArray⟩) ∧ Below w.heap.size w w' := by
  have hn : n = l.length := by have := h.1; simpa using this.symm
  have hln : l.length ≤ totL l := by
    clear h hn hl
    induction l with
    | nil => simp
    | cons p l ih => simp only [totL, List.length_cons]; omega
  have HJ : Hid (Calls Tryd.prog 38 #[.slice A n c, .string ⟨#[47]⟩] w fun e w' => e = .returned (.string ⟨(joinP l).toArray⟩) ∧ Below w.heap.size w w') := Lib.hid (by
    rcases Nat.eq_zero_or_pos n with h0 | h0
    · have : l = [] := List.eq_nil_of_length_eq_zero (by omega)
      subst this
      subst h0
      refine (Any.strings_Join_none Tryd.lays156 bexJ A c ⟨#[47]⟩ w).mono ?_
      rintro e w' ⟨rfl, hw⟩
      exact ⟨rfl, hw ▸ Below.refl _ _⟩
    · obtain ⟨b, off, hA, hb, hcl⟩ := h.2 h0
      subst hA
      have hx : (textsL l).length = n := h.1
      have := Any.strings_Join Tryd.lays156 bexJ b off c (textsL l) ⟨#[47]⟩ w (fun j x hj => by
        obtain ⟨hj1, hj2⟩ := List.getElem?_eq_some_iff.1 hj
        obtain ⟨es, hes, hrd⟩ := hcl j hj1
        have h1 := hes 0 (by decide)
        obtain ⟨rfl, _⟩ := hrd
        rw [← hj2]
        simpa [Shape.str] using h1) hb (by rw [hx]; omega) (by rw [hx]; exact hc) (by
          rw [texts_data]
          have := join_tot l
          show (joinP l).length ≤ _
          omega)
      rw [texts_data, hx] at this
      exact this)
  clear h hn hl hln
  go_enter Tryd.func14, Tryd.ntmps14
  go_wp2_with fail
  refine HJ.out.mono ?_
  rintro e w' ⟨rfl, hb⟩
  have HB := Lib.hid hb
  clear hb
  go_wp2_with fail
  go_ret
  exact ⟨rfl, HB.out⟩
set_option maxHeartbeats 1000000 in
set_option maxRecDepth 100000 in
theorem refJoin {A : Option Addr} {n c : Nat} {l : List (List UInt8)} (w : World) (h : Row Shape.str w (Old w) A n (textsL l)) (hl : totL l ≤ 100000001) (hln : n ≤ 100000001) :
    Calls Tryd.prog 25 #[.slice A n c] w fun e w' => e = .returned (.string ⟨(joinP l).toArray⟩) ∧ w' = w := by
  have hn : l.length = n := by have := h.1; simpa using this
  have ROW := Lib.hid h; have HL := Lib.hid hl
  clear h hl
  go_enter Tryd.func25, Tryd.ntmps25
  go_wp2_with fail
  go_loopw [3, 4] (fun acc it wr => ∃ k : Nat, it = .int .i64 k ∧ k ≤ n ∧ acc = .string ⟨(joinP (l.take k)).toArray⟩ ∧ wr = w) (fun _ it _ => n - (intOf it).toNat)
  case atStart => exact ⟨0, rfl, Nat.zero_le _, rfl, rfl⟩
  case round =>
    obtain ⟨k, rfl, hk, rfl, hw⟩ := hrel
    subst hw
    by_cases hlt : k < n
    · obtain ⟨b, off, hl, hA, hbl, hcell, hsz⟩ := str_cell ROW.out hlt
      subst hA
      have hkl : k < l.length := by omega
      obtain ⟨p, hp⟩ : ∃ p, p = l[k] := ⟨_, rfl⟩
      rw [show (textsL l)[k] = ⟨p.toArray⟩ by rw [hp]; simp] at hcell hsz
      have HT : l.take (k + 1) = l.take k ++ [p] := by rw [hp]; exact List.take_succ_eq_append_getElem hkl
      have HTT := Lib.hid HT
      have h1 := tot_take l (k + 1)
      have h2 := join_tot (l.take (k + 1))
      have h3 := HL.out
      by_cases h0 : k = 0
      · subst h0
        have hx : (⟨(joinP (l.take 0)).toArray⟩ : ByteArray) = ⟨#[]⟩ := rfl
        have hy : joinP (l.take 1) = p := by
          have := HTT.out
          simp only [Nat.zero_add, List.take_zero, List.nil_append] at this
          rw [this]; exact Lib.join_one _ _
        have HY := Lib.hid hy
        rw [hx]
        rw [Nat.add_zero] at hcell
        have hpl : p.length ≤ 9223372036854775807 := by have : p.length ≤ maxLen := hsz; unfold maxLen at this; omega
        clear hx hy HT h1 h2 h3 hp hbl
        go_wp2_with fail
        go_roundw
        case rel => exact ⟨1, by go_num, by omega, by rw [HY.out]; exact congrArg Value.string (bytes_ext (by rw [ByteArray.data_append]; simp)), by trivial⟩
        case measure => simp [intOf]; omega
      · have hne : l.take k ≠ [] := by
          intro h
          have : (l.take k).length = k := by rw [List.length_take]; omega
          rw [h] at this
          simp at this
          omega
        have hy : joinP (l.take (k + 1)) = joinP (l.take k) ++ [47] ++ p := by rw [HT, join_snoc hne]
        have HY := Lib.hid hy
        have hlen : (joinP (l.take k)).length + 1 + p.length ≤ 100000001 := by
          have := congrArg List.length hy
          simp only [List.length_append, List.length_cons, List.length_nil] at this
          omega
        obtain ⟨a, ha⟩ : ∃ a, a = (⟨(joinP (l.take k)).toArray⟩ : ByteArray) := ⟨_, rfl⟩
        rw [← ha]
        have HA := Lib.hid ha
        have has : a.size + 1 + p.length ≤ 100000001 := by rw [ha]; exact hlen
        have hk0 : 0 < k := by omega
        clear hy HT h1 h2 h3 hp hbl hne ha hlen h0
        go_wp2_with fail
        go_roundw
        case rel =>
          refine ⟨k + 1, by go_num, by omega, ?_, by trivial⟩
          congr 1
          rw [HY.out, HA.out]
          rfl
        case measure => simp [intOf]; omega
    · have hkn : k = n := by omega
      subst hkn
      have hx : l.take k = l := List.take_of_length_le (by omega)
      rw [hx]
      clear hx
      go_wp2_with fail
      go_ret
      exact ⟨rfl, rfl⟩
end Go.Proofs.YtjknjmlpnjifkaaDoor
