/- Names without their first parts, both ways. No condition but room. -/
import Derived.Test.YtjknjmlpnjifkaaDoorRouteC
import Derived.Test.YtjknjmlpnjifkaaDoorByt
import Derived.Lib.SliceRun
namespace Go.Proofs.YtjknjmlpnjifkaaDoor
open Go.RowKit
set_option linter.unusedVariables false
set_option linter.unusedSimpArgs false
attribute [local go_sem] cell?_over frozen?_over lt_over le_over
theorem elem_strS : Elem Tryd.prog 27 9 Shape.str 16 := ⟨Tryd.underlying27, by kernel_rfl⟩
/-- a list of texts at hand: a slice value that reads so -/
def TextsV (w' : World) (v : Value) (l : List ByteArray) : Prop := ∃ (A : Option Addr) (c : Nat), l.length ≤ c ∧ v = .slice A l.length c ∧ Row Shape.str w' (Old w') A l.length l
theorem texts_own {w w' : World} {v : Value} {l : List ByteArray} {base : Nat} {M : Nat → Prop} (h : Own Shape.str 9 w' base M v l) : TextsV w' v l := by
  obtain ⟨A, n, c, rfl, hnc, _, hrow⟩ := h.rd_old
  obtain rfl : l.length = n := hrow.1
  exact ⟨A, c, hnc, rfl, hrow⟩
/-- the same, in blocks made since w -/
def TextsN (w w' : World) (v : Value) (l : List ByteArray) : Prop := ∃ (A : Option Addr) (c : Nat), l.length ≤ c ∧ v = .slice A l.length c ∧ Row Shape.str w' (New w w') A l.length l
theorem TextsN.old {w w' : World} {v : Value} {l : List ByteArray} (h : TextsN w w' v l) : TextsV w' v l := by
  obtain ⟨A, c, h1, h2, h3⟩ := h
  exact ⟨A, c, h1, h2, h3.more fun _ hn => hn.2⟩
theorem TextsN.from_ {w w1 w' : World} {v : Value} {l : List ByteArray} (h : TextsN w1 w' v l) (hs : w.heap.size ≤ w1.heap.size) : TextsN w w' v l := by
  obtain ⟨A, c, h1, h2, h3⟩ := h
  exact ⟨A, c, h1, h2, h3.more fun _ hn => ⟨Nat.le_trans hs hn.1, hn.2⟩⟩
theorem textsN_own {w w' : World} {v : Value} {l : List ByteArray} (h : Own Shape.str 9 w' w.heap.size (fun _ => False) v l) : TextsN w w' v l := by
  obtain ⟨A, n, c, rfl, hnc, _, hrow⟩ := h.rd_new (w := w) (Nat.le_refl _) (fun _ h => h.elim)
  obtain rfl : l.length = n := hrow.1
  exact ⟨A, c, hnc, rfl, hrow⟩
theorem Row.drop_ {α : Type} {s : Shape α} {w : World} {M : Nat → Prop} {n : Nat} {b off : Nat} {l : List α} (h : Row s w M (some ⟨b, off, none⟩) n l) {k : Nat} (hkn : k ≤ n) : Row s w M (some ⟨b, off + k * s.size, none⟩) (n - k) (l.drop k) := by
  have hl := h.1
  refine ⟨by rw [List.length_drop, hl], fun hpos => ?_⟩
  obtain ⟨b1, off1, e, hb, hi⟩ := h.2 (by omega)
  injection e with e
  injection e with e1 e2
  subst e1 e2
  refine ⟨b, off + k * s.size, rfl, hb, fun i hil => ?_⟩
  rw [List.length_drop] at hil
  obtain ⟨es, h1, h2⟩ := hi (k + i) (by omega)
  refine ⟨es, fun j hj => ?_, by rw [List.getElem_drop]; exact h2⟩
  rw [← h1 j hj, Nat.add_mul]
  congr 2
  omega
set_option maxHeartbeats 1000000 in
set_option maxRecDepth 100000 in
theorem cloneOwn {A : Option Addr} {n c : Nat} {l : List ByteArray} (w : World) (h : Row Shape.str w (Old w) A n l) (hn : n ≤ 1000000000) :
    Calls Tryd.prog 39 #[.slice A n c] w fun e w' => ∃ v, e = .returned v ∧ Own Shape.str 9 w' w.heap.size (fun _ => False) v l ∧ Below w.heap.size w w' := by
  have hl := h.1
  have qs : ∀ (w : World) (a : Option Addr) (n c n' c' : Nat), (binOp .eql 27 (.slice a n c) (.slice none n' c')).run Tryd.prog w = .ok (.bool a.isNone) w := fun w a n c n' c' => Lib.run_eql_slice_nil w _ _ a n c n' c' Tryd.underlying27
  cases A with
  | none =>
    rcases Nat.eq_zero_or_pos n with h0 | h0
    · subst h0
      obtain rfl : l = [] := List.eq_nil_of_length_eq_zero hl
      clear h hl
      go_enter Tryd.func39, Tryd.ntmps39
      go_wp2_with fail
      go_ret
      exact ⟨_, rfl, Own.start _ _ _ _, Below.refl _ _⟩
    · obtain ⟨_, _, e, _⟩ := h.2 h0
      cases e
  | some ad =>
    have hs := (Row.src (h.keep (Keeps.old_alloc w (.cells #[] 9)))).flat (M' := fun _ => False) flat_str
    clear h
    go_enter Tryd.func39, Tryd.ntmps39
    go_wp2_with (first
      | (at_builtin
         go_loud (refine wpList_append_list (v := .slice (some ⟨w.heap.size, 0, none⟩) 0 0) rfl (.tmp 5) (.tmp 6) _ rfl elem_strS rfl (Own.made Shape.str _ w _ (Nat.le_refl _)) rfl hs (fun _ h => h.elim) ?_ ?_ ?_ ?_)
         · first | (simp; done) | (simp; omega)
         · first | (simp [maxLen]; done) | (simp [maxLen]; omega)
         · simp
         intro v' w1 hown hg hat))
    go_ret
    exact ⟨_, rfl, by simpa using hown, ((Below.refl _ _).alloc (Nat.le_refl _) _).grown hg (by simp) (by simp [Value.ownBlock])⟩
theorem cloneStr {A : Option Addr} {n c : Nat} {l : List ByteArray} (w : World) (h : Row Shape.str w (Old w) A n l) (hn : n ≤ 1000000000) :
    Calls Tryd.prog 39 #[.slice A n c] w fun e w' => ∃ v, e = .returned v ∧ TextsN w w' v l ∧ Below w.heap.size w w' :=
  (cloneOwn w h hn).mono fun _ _ ⟨v, h1, h2, h3⟩ => ⟨v, h1, textsN_own h2, h3⟩
/-- what is answered -/
def StripEnd (l : List ByteArray) (n : Int) (w : World) (e : Ending) (w' : World) : Prop :=
  Below w.heap.size w w' ∧ ((0 < n ∧ l.length ≤ n ∧ e = .returned (.tuple #[.slice none 0 0, .bool false])) ∨ (¬ (0 < n ∧ l.length ≤ n) ∧ ∃ v, e = .returned (.tuple #[v, .bool true]) ∧ TextsN w w' v (l.drop n.toNat)))
set_option maxHeartbeats 1000000 in
set_option maxRecDepth 100000 in
theorem routeStrip {A : Option Addr} {m c : Nat} {l : List ByteArray} (n : Int) (w : World) (h : Row Shape.str w (Old w) A m l) (hm : m ≤ 1000000000) (hc : m ≤ c) :
    Calls Tryd.prog 15 #[.slice A m c, .int .i64 n] w (StripEnd l n w) := by
  have hl := h.1
  subst hl
  cases A with
  | none =>
    rcases Nat.eq_zero_or_pos l.length with h0 | h0
    · obtain rfl : l = [] := List.eq_nil_of_length_eq_zero h0
      have HC := Lib.hid (fun c' => cloneStr (c := c') w h (by simp))
      clear h hm hc h0
      by_cases h1 : 0 < n
      · have t1 : decide (n > 0) = true := by simpa using h1
        have t2 : decide ((0 : Int) ≤ n) = true := by simp; omega
        have H1 := Lib.hid h1
        clear h1
        go_enter Tryd.func15, Tryd.ntmps15
        go_wp2_with fail
        go_ret2
        exact ⟨Below.refl _ _, .inl ⟨H1.out, by have := H1.out; simp; omega, rfl⟩⟩
      · have t1 : decide (n > 0) = false := by simpa using h1
        have H1 := Lib.hid h1
        have mx : max n 0 = 0 := by omega
        clear h1
        go_enter Tryd.func15, Tryd.ntmps15
        go_wp2_with fail
        refine (HC.out _).mono ?_
        rintro e w2 ⟨v, rfl, hv, hb⟩
        have HV := Lib.hid hv; have HB := Lib.hid hb
        clear hv hb
        go_wp2_with fail
        go_ret2
        exact ⟨HB.out, .inr ⟨fun h => by have := H1.out; omega, v, rfl, by rw [List.drop_nil]; exact HV.out⟩⟩
    · obtain ⟨_, _, e, _⟩ := h.2 h0
      cases e
  | some ad =>
    by_cases h1 : 0 < n
    · have t1 : decide (n > 0) = true := by simpa using h1
      by_cases h2 : (l.length : Int) ≤ n
      · have t2 : decide ((l.length : Int) ≤ n) = true := by simpa using h2
        have H1 := Lib.hid h1; have H2 := Lib.hid h2
        clear h1 h2
        go_enter Tryd.func15, Tryd.ntmps15
        go_wp2_with fail
        go_ret2
        exact ⟨Below.refl _ _, .inl ⟨H1.out, H2.out, rfl⟩⟩
      · have t2 : decide ((l.length : Int) ≤ n) = false := by simpa using h2
        obtain ⟨k, hk⟩ : ∃ k : Nat, n = k := ⟨n.toNat, by omega⟩
        subst hk
        obtain ⟨b, off, hAd, hb, _⟩ := h.2 (by omega)
        injection hAd with hAd
        subst hAd
        have hk2 : k < l.length := by omega
        have hk0 : 0 < k := by omega
        have hd := Row.drop_ h (k := k) (by omega)
        rw [show Shape.str.size = 1 from rfl, Nat.mul_one] at hd
        have HC := Lib.hid (fun c' => cloneStr (c := c') w hd (by omega))
        have mx : max (k : Int) 0 = k := by omega
        have H1 := Lib.hid h1; have H2 := Lib.hid h2
        clear h1 h2 h hd
        go_enter Tryd.func15, Tryd.ntmps15
        go_wp2_with fail
        refine (HC.out _).mono ?_
        rintro e w2 ⟨v, rfl, hv, hb⟩
        have HV := Lib.hid hv; have HB := Lib.hid hb
        clear hv hb
        go_wp2_with fail
        go_ret2
        exact ⟨HB.out, .inr ⟨fun h => by have := H2.out; omega, v, rfl, by rw [Int.toNat_natCast]; exact HV.out⟩⟩
    · have t1 : decide (n > 0) = false := by simpa using h1
      have H1 := Lib.hid h1
      have HC := Lib.hid (fun w' c' (h : Row Shape.str w' (Old w') (some ad) l.length l) => cloneStr (c := c') w' h hm)
      have mx : max n 0 = 0 := by omega
      have H := Lib.hid h
      clear h1 h
      go_enter Tryd.func15, Tryd.ntmps15
      go_wp2_with fail
      refine (HC.out _ _ H.out).mono ?_
      rintro e w2 ⟨v, rfl, hv, hb⟩
      have HV := Lib.hid hv; have HB := Lib.hid hb
      clear hv hb
      go_wp2_with fail
      go_ret2
      exact ⟨HB.out, .inr ⟨fun h => by have := H1.out; omega, v, rfl, by rw [show n.toNat = 0 by have := H1.out; omega]; exact HV.out⟩⟩
set_option maxHeartbeats 1000000 in
set_option maxRecDepth 100000 in
theorem refStrip {A : Option Addr} {m c : Nat} {l : List ByteArray} (n : Int) (w : World) (h : Row Shape.str w (Old w) A m l) (hm : m ≤ 1000000000) (hc : m ≤ c) :
    Calls Tryd.prog 26 #[.slice A m c, .int .i64 n] w (StripEnd l n w) := by
  have hl := h.1
  subst hl
  cases A with
  | none =>
    rcases Nat.eq_zero_or_pos l.length with h0 | h0
    · obtain rfl : l = [] := List.eq_nil_of_length_eq_zero h0
      have hs : Src Shape.str (w.alloc (.cells #[] 9)) (fun _ => False) none 0 ([] : List ByteArray) := ⟨rfl, fun _ => rfl, [], rfl, fun _ _ _ _ h => by simp at h⟩
      clear h hm hc h0
      by_cases h1 : n ≤ 0
      · have t1 : decide (n ≤ 0) = true := by simpa using h1
        have H1 := Lib.hid h1
        clear h1
        go_enter Tryd.func26, Tryd.ntmps26
        go_wp2_with (first
          | (at_builtin
             go_loud (refine wpList_append_list (v := .slice (some ⟨w.heap.size, 0, none⟩) 0 0) rfl (.tmp 14) (.tmp 17) _ rfl elem_strS rfl (Own.made Shape.str _ w _ (Nat.le_refl _)) rfl hs (fun _ h => h.elim) ?_ ?_ ?_ ?_)
             · first | (simp; done) | (simp; omega)
             · first | (simp [maxLen]; done) | (simp [maxLen]; omega)
             · simp
             intro v' w1 hown hg hat))
        go_ret2
        exact ⟨((Below.refl _ _).alloc (Nat.le_refl _) _).grown hg (by simp) (by simp [Value.ownBlock]), .inr ⟨fun h => by have := H1.out; omega, v', rfl, textsN_own (by simpa using hown)⟩⟩
      · have t1 : decide (n ≤ 0) = false := by simpa using h1
        have t2 : decide ((0 : Int) ≤ n) = true := by simp; omega
        have H1 := Lib.hid h1
        clear h1
        go_enter Tryd.func26, Tryd.ntmps26
        go_wp2_with fail
        go_ret2
        exact ⟨Below.refl _ _, .inl ⟨by have := H1.out; omega, by have := H1.out; simp; omega, rfl⟩⟩
    · obtain ⟨_, _, e, _⟩ := h.2 h0
      cases e
  | some ad =>
    by_cases h1 : n ≤ 0
    · have t1 : decide (n ≤ 0) = true := by simpa using h1
      have hs := (Row.src (h.keep (Keeps.old_alloc w (.cells #[] 9)))).flat (M' := fun _ => False) flat_str
      have H1 := Lib.hid h1
      clear h1 h
      go_enter Tryd.func26, Tryd.ntmps26
      go_wp2_with (first
        | (at_builtin
           go_loud (refine wpList_append_list (v := .slice (some ⟨w.heap.size, 0, none⟩) 0 0) rfl (.tmp 14) (.tmp 17) _ rfl elem_strS rfl (Own.made Shape.str _ w _ (Nat.le_refl _)) rfl hs (fun _ h => h.elim) ?_ ?_ ?_ ?_)
           · first | (simp; done) | (simp; omega)
           · first | (simp [maxLen]; done) | (simp [maxLen]; omega)
           · simp
           intro v' w1 hown hg hat))
      go_ret2
      exact ⟨((Below.refl _ _).alloc (Nat.le_refl _) _).grown hg (by simp) (by simp [Value.ownBlock]), .inr ⟨fun h => by have := H1.out; omega, v', rfl, textsN_own (by rw [show n.toNat = 0 by have := H1.out; omega]; simpa using hown)⟩⟩
    · have t1 : decide (n ≤ 0) = false := by simpa using h1
      by_cases h2 : (l.length : Int) ≤ n
      · have t2 : decide ((l.length : Int) ≤ n) = true := by simpa using h2
        have H1 := Lib.hid h1; have H2 := Lib.hid h2
        clear h1 h2
        go_enter Tryd.func26, Tryd.ntmps26
        go_wp2_with fail
        go_ret2
        exact ⟨Below.refl _ _, .inl ⟨by have := H1.out; omega, H2.out, rfl⟩⟩
      · have t2 : decide ((l.length : Int) ≤ n) = false := by simpa using h2
        obtain ⟨k, hk⟩ : ∃ k : Nat, n = k := ⟨n.toNat, by omega⟩
        subst hk
        obtain ⟨b, off, hAd, hb, _⟩ := h.2 (by omega)
        injection hAd with hAd
        subst hAd
        have hk2 : k < l.length := by omega
        have hk0 : 0 < k := by omega
        have hd := Row.drop_ h (k := k) (by omega)
        rw [show Shape.str.size = 1 from rfl, Nat.mul_one] at hd
        have hs := (Row.src (hd.keep (Keeps.old_alloc w (.cells #[] 9)))).flat (M' := fun _ => False) flat_str
        have H2 := Lib.hid h2
        have hdl : (l.drop k).length = l.length - k := List.length_drop
        clear h1 h2 h hd
        go_enter Tryd.func26, Tryd.ntmps26
        go_wp2_with (first
          | (at_builtin
             go_loud (refine wpList_append_list (v := .slice (some ⟨w.heap.size, 0, none⟩) 0 0) rfl (.tmp 14) (.tmp 17) _ rfl elem_strS rfl (Own.made Shape.str _ w _ (Nat.le_refl _)) rfl hs (fun _ h => h.elim) ?_ ?_ ?_ ?_)
             · first | (simp; done) | (simp; omega)
             · first | (simp [maxLen]; done) | (simp [maxLen]; omega)
             · simp
             intro v' w1 hown hg hat))
        go_ret2
        exact ⟨((Below.refl _ _).alloc (Nat.le_refl _) _).grown hg (by simp) (by simp [Value.ownBlock]), .inr ⟨fun h => by have := H2.out; omega, v', rfl, textsN_own (by rw [Int.toNat_natCast]; simpa using hown)⟩⟩
end Go.Proofs.YtjknjmlpnjifkaaDoor
