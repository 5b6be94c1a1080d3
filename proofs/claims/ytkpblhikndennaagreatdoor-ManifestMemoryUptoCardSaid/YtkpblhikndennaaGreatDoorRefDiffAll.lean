/- The reference's at and put: what they compute. No condition but room. The reference's Diff: what it computes. No condition but room. -/
import Derived.Test.YtkpblhikndennaaGreatDoorDiffAll
import Derived.Test.YtkpblhikndennaaGreatDoorSameAll
namespace Go.Proofs.YtkpblhikndennaaGreatDoor
open Go.RowKit
set_option linter.unusedVariables false
set_option linter.unusedSimpArgs false
attribute [local go_sem] cell?_over frozen?_over lt_over le_over

def atI (l : List LineD) (p : ByteArray) : Int := match atL l p with | some i => (i : Int) | none => -1
theorem atI_some {l : List LineD} {p : ByteArray} {i : Nat} (h : atL l p = some i) : atI l p = (i : Int) := by unfold atI; rw [h]
theorem atI_none {l : List LineD} {p : ByteArray} (h : atL l p = none) : atI l p = -1 := by unfold atI; rw [h]
theorem str_eq {a b : ByteArray} (h : a = b) : (a.toList == b.toList) = true := by rw [h]; simp
theorem atL_no {l : List LineD} {p : ByteArray} (h : ∀ i, i < l.length → (l.getD i default).path ≠ p) : atL l p = none := by
  cases ha : atL l p with
  | none => rfl
  | some i => exact absurd (atL_some ha).2 (h i (atL_some ha).1)
theorem atL_yes {l : List LineD} {p : ByteArray} {k : Nat} (hk : k < l.length) (hp : (l.getD k default).path = p) (h : ∀ i, i < k → (l.getD i default).path ≠ p) : atL l p = some k := by
  subst hp; exact atL_first hk h
set_option maxHeartbeats 1000000 in
set_option maxRecDepth 100000 in
theorem refAt {A : Option Addr} {n c : Nat} {l : List LineD} (p : ByteArray) (w : World) (h : Row Shape.LineD w (Old w) A n l) (hn : n ≤ 1000000000000) :
    Calls Tryz.prog 44 #[.slice A n c, .string p] w fun e w' => e = .returned (.int .i64 (atI l p)) ∧ w = w' := by
  have HL := Lib.hid h.1
  go_enter Tryz.func44, Tryz.ntmps44
  go_wp2_with fail
  go_loop [5] (fun i => ∃ k : Nat, k ≤ n ∧ i = .int .i64 k ∧ ∀ i, i < k → (l.getD i default).path ≠ p) (fun i => n - (intOf i).toNat)
  case atStart => exact ⟨0, Nat.zero_le _, rfl, fun _ h => absurd h (by omega)⟩
  case round =>
    obtain ⟨k, hk, rfl, hno⟩ := hrel
    have HN := Lib.hid hno; clear hno
    by_cases hlt : k < n
    · obtain ⟨b, off, es, hkl, rfl, hb, hc, hc0, hr⟩ := h.elem (Keeps.refl _ _) hlt
      obtain ⟨_, _, _, rfl, -⟩ := hr
      have e13 : Shape.LineD.size = 10 := rfl
      simp only [e13, List.getElem?_cons_zero] at hc0
      clear e13 hc
      have hks : (k : Int) < n := by omega
      have hgd := Lib.hid (getD_lt hkl)
      generalize l[k] = d at *
      by_cases he : d.path = p
      · have k1 := str_eq he
        have HE := Lib.hid he; clear he
        have HA := Lib.hid (atI_some (atL_yes hkl (by rw [hgd.out]; exact HE.out) HN.out))
        go_wp2
        go_ret
        exact ⟨ret_int HA.out.symm, rfl⟩
      · have k1 := str_ne he
        have HE := Lib.hid he; clear he
        go_wp2
        go_round
        case rel =>
          refine ⟨k + 1, by omega, by go_num, fun i hi => ?_⟩
          by_cases hik : i = k
          · subst hik; rw [hgd.out]; exact HE.out
          · exact HN.out i (by omega)
        case measure => simp [intOf]; omega
    · have HA := Lib.hid (atI_none (atL_no (l := l) (p := p) (fun i hi => HN.out i (by have := HL.out; omega))))
      go_wp2
      go_ret
      exact ⟨ret_int HA.out.symm, rfl⟩
/-- put, cut at a place: what comes ahead, and the rest -/
theorem putL_cut {l : List ChangeD} {c : ChangeD} {k : Nat} (hk : k ≤ l.length) (h1 : ∀ i (hi : i < k), pl (l[i]'(by omega)).path c.path = true) (h2 : ∀ hi : k < l.length, pl (l[k]).path c.path = false) : putL l c = l.take k ++ [c] ++ l.drop k := by
  induction l generalizing k with
  | nil => simp at hk; subst hk; rfl
  | cons x l ih =>
    cases k with
    | zero =>
      have := h2 (by simp)
      simp only [List.getElem_cons_zero] at this
      unfold putL
      rw [if_neg (by rw [this]; decide)]; rfl
    | succ k =>
      have := h1 0 (by omega)
      simp only [List.getElem_cons_zero] at this
      unfold putL
      rw [if_pos this, ih (by simpa using hk) (fun i hi => by have := h1 (i + 1) (by omega); simpa using this) (fun hi => by have := h2 (by simpa using hi); simpa using this)]
      simp
theorem Row.drop_src {α : Type} {s : Shape α} {w w' : World} {M : Nat → Prop} {n : Nat} {b off : Nat} {l : List α} (h : Row s w M (some ⟨b, off, none⟩) n l) (hk : Keeps M w w') (hf : s.Flat) {k : Nat} (hkn : k < n) : Src s w' (fun _ => False) (some ⟨b, off + k * s.size, none⟩) (n - k) (l.drop k) := by
  have hl := h.1
  have h' : Row s w' M (some ⟨b, off + k * s.size, none⟩) (n - k) (l.drop k) := by
    refine ⟨by rw [List.length_drop, hl], fun _ => ?_⟩
    obtain ⟨b1, off1, e, hb, hi⟩ := (h.keep hk).2 (by omega)
    injection e with e
    injection e with e1 e2
    subst e1 e2
    refine ⟨b, off + k * s.size, rfl, hb, fun i hil => ?_⟩
    rw [List.length_drop] at hil
    obtain ⟨es, h1, h2⟩ := hi (k + i) (by omega)
    refine ⟨es, fun j hj => ?_, by rw [List.getElem_drop]; exact h2⟩
    rw [← h1 j hj, Nat.add_mul]
    congr 2
    omega
  exact h'.src.flat hf
theorem Src.empty {α : Type} (s : Shape α) (w : World) (M : Nat → Prop) (A : Option Addr) : Src s w M A 0 [] := ⟨rfl, fun _ => rfl, [], rfl, fun _ _ _ _ h => by simp at h⟩
theorem keeps_of {w wr w1 : World} {u : Value} (hbel : Below w.heap.size w wr) (hsz : w.heap.size + 1 ≤ wr.heap.size) (δ' : World) (hg : (over wr δ').grownBy w1 u.ownBlock) (hlt : ∀ k, u.ownBlock = some k → w.heap.size + 1 ≤ k ∧ k < wr.heap.size) : Keeps (Old w) w w1 := by
  intro n hn
  have hn' : n < w.heap.size := hn
  have h1 := hbel.block n hn'
  have h2 : (over wr δ').heap[n]? = wr.heap[n]? := over_heap_lt (by omega)
  have h3 := hg.block n (by have := size_over_le wr δ'; omega) (fun e => by have := (hlt n e.symm).1; omega)
  exact h3.trans (h2.trans h1)
theorem Own.flat' {α : Type} {s : Shape α} {e : TypeId} {w : World} {base : Nat} {v : Value} {l : List α} {M : Nat → Prop} (h : Own s e w base M v l) (hf : s.Flat) : Own s e w base (fun _ => False) v l := by
  obtain ⟨xs, h1, h2, h3⟩ := h
  exact ⟨xs, h1, h2.flat hf, fun _ h => h.elim⟩
theorem put_below {w wr w1 w2 : World} {u v' : Value} (hbel : Below w.heap.size w wr) (hsz : w.heap.size + 1 ≤ wr.heap.size) (δ : World) (hg : (over wr δ).grownBy w1 u.ownBlock) (hlt : ∀ k, u.ownBlock = some k → w.heap.size + 1 ≤ k ∧ k < wr.heap.size)
    (hat : v'.ownBlock = u.ownBlock ∨ v'.ownBlock = some ((over wr δ).heap.size + 1)) (hg2 : w1.grownBy w2 v'.ownBlock) : Below w.heap.size w w2 := by
  have h0 := size_over_le wr δ
  refine ((below_trans_over hbel (by omega) δ).grown hg (by omega) (fun j hj => by have := (hlt _ hj).1; omega)).grown hg2 (by have := hg.size; omega) (fun j hj => ?_)
  rcases hat with e | e <;> rw [e] at hj
  · have := (hlt _ hj).1; omega
  · injection hj with hj; omega
theorem flat_ChangeD : Shape.ChangeD.Flat := fun h => h
set_option maxHeartbeats 400000 in
set_option maxRecDepth 100000 in
theorem refPut {A : Option Addr} {n c : Nat} {l : List ChangeD} (x : ChangeD) (w : World) (h : Row Shape.ChangeD w (Old w) A n l) (hnc : n ≤ c) (hA : A = none ∧ c = 0 ∨ ∃ b off, A = some ⟨b, off, none⟩) (hx : x.path.size ≤ maxLen ∧ I64 x.what) (hn : n ≤ 1000000000) :
    Calls Tryz.prog 45 #[.slice A n c, .agg #[.string x.path, .int .i64 x.what]] w fun e w' => ∃ v, e = .returned v ∧ Own Shape.ChangeD 52 w' w.heap.size (fun _ => False) v (putL l x) ∧ Below w.heap.size w w' := by
  have HL := Lib.hid h.1
  go_enter Tryz.func45, Tryz.ntmps45
  go_wp2_with fail
  go_loopw [5, 6] (fun v i wr => ∃ k : Nat, k ≤ n ∧ i = .int .i64 k ∧ (∀ i (hi : i < l.length), i < k → pl l[i].path x.path = true) ∧ Own Shape.ChangeD 52 wr (w.heap.size + 1) (fun _ => False) v (l.take k) ∧ Blk wr w.heap.size 52 #[.string x.path, .int .i64 x.what] ∧ Below w.heap.size w wr ∧ w.heap.size + 1 ≤ wr.heap.size) (fun _ i _ => n - (intOf i).toNat)
  case atStart => exact ⟨0, Nat.zero_le _, rfl, fun _ _ h => absurd h (by omega), (by have := Own.made Shape.ChangeD 52 (w.alloc (.cells #[.string x.path, .int .i64 x.what] 52)) (w.heap.size + 1) (by simp); simpa using this), (Blk.new w _ _).alloc _, by go_grown, by simp⟩
  case round =>
    obtain ⟨k, hk, rfl, hno, hown, hbx, hbel, hsz⟩ := hrel
    have HN := Lib.hid hno; clear hno
    have O := Lib.hid hown; clear hown
    have BX := Lib.hid hbx
    have x0 := hbx.cell 0
    have x1 := hbx.cell 1
    have xlt := hbx.lt
    simp only [List.getElem?_toArray, List.getElem?_cons_zero, List.getElem?_cons_succ] at x0 x1
    clear hbx
    have hfin : k ≤ n → (∀ hi : k < l.length, pl l[k].path x.path = false) → putL l x = l.take k ++ [x] ++ l.drop k := fun _ h2 => putL_cut (by rw [HL.out]; omega) (fun i hi => HN.out i (by have := HL.out; omega) hi) h2
    have HF := Lib.hid hfin; clear hfin
    by_cases hlt : k < n
    · obtain ⟨b, off, es, hkl, rfl, hb, hc, hc0, hr⟩ := h.elem (Keeps.old hbel) hlt
      clear hA
      obtain ⟨rfl, hp1, hp2⟩ := hr
      have e13 : Shape.ChangeD.size = 2 := rfl
      simp only [e13] at hc hc0
      have hc1 := hc 1 (by omega)
      simp only [List.getElem?_cons_zero, List.getElem?_cons_succ] at hc0 hc1
      clear e13 hc
      have hb2 := Nat.lt_of_lt_of_le hb hbel.size
      have hks : (k : Int) < n := by omega
      have hgd := Lib.hid (List.take_succ_eq_append_getElem hkl)
      obtain ⟨d, hd⟩ : ∃ d, d = l[k] := ⟨_, rfl⟩
      rw [← hd] at hc0 hc1 hp1 hp2 hgd
      have HD := Lib.hid hd; clear hd
      by_cases hpl : pl d.path x.path = true
      · have kp : Op.bytesLess d.path.toList x.path.toList = true := hpl
        have HP := Lib.hid hpl; clear hpl
        go_wp2_with fail
        refine wp_region_over (by kernel_rfl) (by kernel_rfl) ?_
        repeat (go_big_quiet_step (fail))
        refine wpQuiet_nil ?_
        rintro _ ⟨δ, rfl⟩
        have O2 := Lib.hid (O.out.over_ δ)
        have hlt3 := O.out.lt
        have HL3 := Lib.hid hlt3; clear hlt3
        have hlen : (l.take k).length ≤ n := by rw [List.length_take]; omega
        go_wp2_with (first
          | (at_builtin
             refine wpList_append_one flat_ChangeD rfl (.tmp 22) (.tmp 27) _ rfl elem_ChangeD (v := u5) rfl O2.out (es := [.string d.path, .int .i64 d.what]) (b := d) rfl ⟨rfl, hp1, hp2⟩ (by omega) (by unfold maxLen; omega) (by have := size_over_le wr δ; omega) ?_
             intro v' w1 hown' hg hzz hat))
        go_roundw
        case rel =>
          have hg2 := (grownBy_over wr δ).andThen hg
          refine ⟨k + 1, by omega, by go_num, fun i hi hik => ?_, by rw [hgd.out]; exact hown', ?_, ?_, ?_⟩
          · by_cases e : i = k
            · subst e; rw [← HD.out]; exact HP.out
            · exact HN.out i hi (by omega)
          · exact (BX.out.over_ δ).grown hg (fun e => by have := (HL3.out _ e.symm).1; omega)
          · exact (below_trans_over hbel (by omega) δ).grown hg (by have := size_over_le wr δ; omega) (fun j hj => by have := (HL3.out _ hj).1; omega)
          · have := size_over_le wr δ; omega
        case measure => simp [intOf]; omega
      · have hck : ¬ c = k := by omega
        have kp : Op.bytesLess d.path.toList x.path.toList = false := by simpa [pl] using hpl
        have hcut := HF.out hk (fun hi => by rw [← HD.out]; exact Bool.eq_false_iff.2 hpl)
        have HC := Lib.hid hcut; clear hcut hpl
        go_wp2_with fail
        refine wp_region_over (by kernel_rfl) (by kernel_rfl) ?_
        repeat (go_big_quiet_step (fail))
        refine wpQuiet_nil ?_
        rintro _ ⟨δ, rfl⟩
        have O2 := Lib.hid (O.out.over_ δ)
        have hlt3 := O.out.lt
        have HL3 := Lib.hid hlt3; clear hlt3
        have hlen : (l.take k).length ≤ n := by rw [List.length_take]; omega
        have X2 := Lib.hid hx; clear hx
        go_wp2_with (first
          | (at_builtin
             refine wpList_append_one flat_ChangeD rfl (.tmp 31) (.tmp 33) _ rfl elem_ChangeD (v := u5) rfl O2.out (es := [.string x.path, .int .i64 x.what]) (b := x) rfl ⟨rfl, X2.out⟩ (by omega) (by unfold maxLen; omega) (by have := size_over_le wr δ; omega) ?_
             intro v' w1 hown' hg hzz hat)
          | (at_builtin
             have hsrc : Src Shape.ChangeD w1 (fun _ => False) (some ⟨b, off + k * 2, none⟩) (n - k) (l.drop k) := h.drop_src (keeps_of hbel hsz δ hg HL3.out) flat_ChangeD hlt
             refine wpList_append_list (v := v') (l := l.take k ++ [x]) (k := l.drop k) (base := w.heap.size + 1) rfl (.tmp 35) (.tmp 38) _ rfl elem_ChangeD rfl hown' rfl hsrc (fun _ h => h.elim) ?_ ?_ ?_ ?_
             · have := HL.out; simp; omega
             · have := HL.out; simp [maxLen]; omega
             · have := size_over_le wr δ; omega
             intro v2 w2 hown2 hg2 hat2)
          )
        go_ret
        exact ⟨v2, rfl, by rw [HC.out]; exact (hown2.flat' flat_ChangeD).low (by omega), put_below hbel hsz δ hg HL3.out hat hg2⟩
    · have hcut := HF.out hk (fun hi => by have := HL.out; omega)
      have HC := Lib.hid hcut; clear hcut
      have hkn : k = n := by omega
      subst hkn
      have hd : decide ((k : Int) < (k : Int)) = false := by simp
      have X2 := Lib.hid hx; clear hx
      have hlt3 := O.out.lt
      have HL3 := Lib.hid hlt3; clear hlt3
      have hlen : (l.take k).length ≤ k := by rw [List.length_take]; omega
      have hdrop : l.drop k = [] := List.drop_of_length_le (by rw [HL.out]; omega)
      have HDr := Lib.hid hdrop; clear hdrop
      rcases hA with ⟨rfl, rfl⟩ | ⟨b, off, rfl⟩
      · have hk0 : k = 0 := by omega
        subst hk0
        go_wp2_with fail
        refine wp_region_over (by kernel_rfl) (by kernel_rfl) ?_
        repeat (go_big_quiet_step (fail))
        refine wpQuiet_nil ?_
        rintro _ ⟨δ, rfl⟩
        have O2 := Lib.hid (O.out.over_ δ)
        go_wp2_with (first
          | (at_builtin
             refine wpList_append_one flat_ChangeD rfl (.tmp 31) (.tmp 33) _ rfl elem_ChangeD (v := u5) rfl O2.out (es := [.string x.path, .int .i64 x.what]) (b := x) rfl ⟨rfl, X2.out⟩ (by omega) (by unfold maxLen; omega) (by have := size_over_le wr δ; omega) ?_
             intro v' w1 hown' hg hzz hat)
          | (at_builtin
             refine wpList_append_list (v := v') (l := l.take 0 ++ [x]) (k := []) (base := w.heap.size + 1) rfl (.tmp 35) (.tmp 38) _ rfl elem_ChangeD rfl hown' rfl (Src.empty Shape.ChangeD w1 (fun _ => False) _) (fun _ h => h.elim) ?_ ?_ ?_ ?_
             · simp
             · simp [maxLen]
             · have := size_over_le wr δ; omega
             intro v2 w2 hown2 hg2 hat2))
        go_ret
        exact ⟨v2, rfl, by rw [HC.out, HDr.out]; exact (hown2.flat' flat_ChangeD).low (by omega), put_below hbel hsz δ hg HL3.out hat hg2⟩
      · by_cases hck : c = k
        · subst hck
          go_wp2_with fail
          refine wp_region_over (by kernel_rfl) (by kernel_rfl) ?_
          repeat (go_big_quiet_step (fail))
          refine wpQuiet_nil ?_
          rintro _ ⟨δ, rfl⟩
          have O2 := Lib.hid (O.out.over_ δ)
          go_wp2_with (first
            | (at_builtin
               refine wpList_append_one flat_ChangeD rfl (.tmp 31) (.tmp 33) _ rfl elem_ChangeD (v := u5) rfl O2.out (es := [.string x.path, .int .i64 x.what]) (b := x) rfl ⟨rfl, X2.out⟩ (by omega) (by unfold maxLen; omega) (by have := size_over_le wr δ; omega) ?_
               intro v' w1 hown' hg hzz hat)
            | (at_builtin
               refine wpList_append_list (v := v') (l := l.take c ++ [x]) (k := []) (base := w.heap.size + 1) rfl (.tmp 35) (.tmp 38) _ rfl elem_ChangeD rfl hown' rfl (Src.empty Shape.ChangeD w1 (fun _ => False) _) (fun _ h => h.elim) ?_ ?_ ?_ ?_
               · have := HL.out; simp; omega
               · have := HL.out; simp [maxLen]; omega
               · have := size_over_le wr δ; omega
               intro v2 w2 hown2 hg2 hat2))
          go_ret
          exact ⟨v2, rfl, by rw [HC.out, HDr.out]; exact (hown2.flat' flat_ChangeD).low (by omega), put_below hbel hsz δ hg HL3.out hat hg2⟩
        · go_wp2_with fail
          refine wp_region_over (by kernel_rfl) (by kernel_rfl) ?_
          repeat (go_big_quiet_step (fail))
          refine wpQuiet_nil ?_
          rintro _ ⟨δ, rfl⟩
          have O2 := Lib.hid (O.out.over_ δ)
          go_wp2_with (first
            | (at_builtin
               refine wpList_append_one flat_ChangeD rfl (.tmp 31) (.tmp 33) _ rfl elem_ChangeD (v := u5) rfl O2.out (es := [.string x.path, .int .i64 x.what]) (b := x) rfl ⟨rfl, X2.out⟩ (by omega) (by unfold maxLen; omega) (by have := size_over_le wr δ; omega) ?_
               intro v' w1 hown' hg hzz hat)
            | (at_builtin
               refine wpList_append_list (v := v') (l := l.take k ++ [x]) (k := []) (base := w.heap.size + 1) rfl (.tmp 35) (.tmp 38) _ rfl elem_ChangeD rfl hown' rfl (Src.empty Shape.ChangeD w1 (fun _ => False) _) (fun _ h => h.elim) ?_ ?_ ?_ ?_
               · have := HL.out; simp; omega
               · have := HL.out; simp [maxLen]; omega
               · have := size_over_le wr δ; omega
               intro v2 w2 hown2 hg2 hat2))
          go_ret
          exact ⟨v2, rfl, by rw [HC.out, HDr.out]; exact (hown2.flat' flat_ChangeD).low (by omega), put_below hbel hsz δ hg HL3.out hat hg2⟩
end Go.Proofs.YtkpblhikndennaaGreatDoor
namespace Go.Proofs.YtkpblhikndennaaGreatDoor
open Go.RowKit
set_option linter.unusedVariables false
set_option linter.unusedSimpArgs false
attribute [local go_sem] cell?_over frozen?_over lt_over le_over

theorem refPutO {v : Value} {base : Nat} {l : List ChangeD} (p : ByteArray) (n : Int) (w : World) (h : Own Shape.ChangeD 52 w base (fun _ => False) v l) (hp : p.size ≤ maxLen) (hi : I64 n) (hn : l.length ≤ 1000000000) :
    Calls Tryz.prog 45 #[v, .agg #[.string p, .int .i64 n]] w fun e w' => ∃ v, e = .returned v ∧ Own Shape.ChangeD 52 w' w.heap.size (fun _ => False) v (putL l ⟨p, n⟩) ∧ Below w.heap.size w w' := by
  have hf := h.form
  obtain ⟨A, m, c, rfl, hmc, hcm, hrow⟩ := h.rd_old
  have hm := hrow.1
  refine refPut ⟨p, n⟩ w hrow hmc ?_ ⟨hp, hi⟩ (by omega)
  rcases hf with ⟨e, _⟩ | ⟨g, cap, e, _⟩
  · simp only [Value.slice.injEq] at e
    exact .inl ⟨e.1, e.2.2⟩
  · simp only [Value.slice.injEq] at e
    exact .inr ⟨g, 0, e.1⟩
/-- the changes so far, put -/
def outA (a b : List LineD) (k : Nat) : List ChangeD := ((List.range k).filterMap (stepA a b)).foldl putL []
def outB (a b : List LineD) (k : Nat) : List ChangeD := ((List.range k).filterMap (stepB a b)).foldl putL (outA a b a.length)
theorem outA_succ (a b : List LineD) (k : Nat) : outA a b (k + 1) = match stepA a b k with | none => outA a b k | some c => putL (outA a b k) c := by
  unfold outA
  rw [List.range_succ, List.filterMap_append, List.foldl_append]
  simp only [List.filterMap_cons, List.filterMap_nil]
  cases stepA a b k <;> rfl
theorem outB_succ (a b : List LineD) (k : Nat) : outB a b (k + 1) = match stepB a b k with | none => outB a b k | some c => putL (outB a b k) c := by
  unfold outB
  rw [List.range_succ, List.filterMap_append, List.foldl_append]
  simp only [List.filterMap_cons, List.filterMap_nil]
  cases stepB a b k <;> rfl
theorem outB_all (a b : List LineD) : outB a b b.length = diffL a b := by
  unfold outB outA diffL changes
  rw [List.foldl_append]
theorem putL_len (l : List ChangeD) (c : ChangeD) : (putL l c).length = l.length + 1 := (putL_perm l c).length_eq
theorem fold_len (L acc : List ChangeD) : (L.foldl putL acc).length = acc.length + L.length := by
  induction L generalizing acc with
  | nil => simp
  | cons c L ih => rw [List.foldl_cons, ih, putL_len, List.length_cons]; omega
theorem outA_len (a b : List LineD) (k : Nat) : (outA a b k).length ≤ k := by
  unfold outA
  have := List.length_filterMap_le (stepA a b) (List.range k)
  rw [fold_len]; simp at this; simpa using this
theorem outB_len (a b : List LineD) (k : Nat) : (outB a b k).length ≤ a.length + k := by
  unfold outB
  have h1 := outA_len a b a.length
  have := List.length_filterMap_le (stepB a b) (List.range k)
  rw [fold_len]; simp at this; omega
set_option maxHeartbeats 600000 in
set_option maxRecDepth 100000 in
theorem refDiff {A B : Option Addr} {n m c c' : Nat} {la lb : List LineD} (w : World) (hA : Row Shape.LineD w (Old w) A n la) (hB : Row Shape.LineD w (Old w) B m lb) (sA : SmallL la) (sB : SmallL lb) (hn : n ≤ 100000000) (hm : m ≤ 100000000) :
    Calls Tryz.prog 19 #[.slice A n c, .slice B m c'] w fun e w' => ∃ v, e = .returned v ∧ Own Shape.ChangeD 52 w' w.heap.size (fun _ => False) v (diffL la lb) ∧ Below w.heap.size w w' := by
  have HLA := Lib.hid hA.1
  have HLB := Lib.hid hB.1
  go_enter Tryz.func19, Tryz.ntmps19
  go_wp2_with fail
  go_loopw [5, 6] (fun v i wr => ∃ k : Nat, k ≤ n ∧ i = .int .i64 k ∧ Own Shape.ChangeD 52 wr w.heap.size (fun _ => False) v (outA la lb k) ∧ Below w.heap.size w wr) (fun _ i _ => n - (intOf i).toNat)
  case atStart => exact ⟨0, Nat.zero_le _, rfl, Own.made Shape.ChangeD 52 w w.heap.size (Nat.le_refl _), by go_grown⟩
  case round =>
    obtain ⟨k, hk, rfl, hown, hbel⟩ := hrel
    have O := Lib.hid hown; clear hown
    by_cases hlt : k < n
    · obtain ⟨b, off, es, hkl, rfl, hb, hc, hc0, hr⟩ := hA.elem (Keeps.old hbel) hlt
      have R := Lib.hid (show LineD.rd wr (Old wr) es la[k] from Shape.LineD.more hr fun _ hn => Old.below hbel hn)
      obtain ⟨_, _, _, rfl, hps, -⟩ := hr
      have e13 : Shape.LineD.size = 10 := rfl
      simp only [e13] at hc hc0
      simp only [List.getElem?_cons_zero] at hc0
      clear e13
      have HC := Lib.hid hc; clear hc
      have hb2 := Nat.lt_of_lt_of_le hb hbel.size
      have hks : (k : Int) < n := by omega
      have hgd := getD_lt hkl
      have hsm := sA _ (List.getElem_mem hkl)
      have holen := outA_len la lb k
      obtain ⟨d, hd⟩ : ∃ d, d = la[k] := ⟨_, rfl⟩
      rw [← hd] at hc0 hps hgd hsm R
      rw [← hd] at HC
      obtain ⟨i0, hi0⟩ := atL_exists hkl (show (la.getD k default).path = d.path by rw [hgd])
      have hstep := outA_succ la lb k
      have hAt := refAt (c := c) d.path wr (hA.below hbel) (by omega)
      rw [atI_some hi0] at hAt
      have CA := Lib.hid hAt; clear hAt
      have HD := Lib.hid hd; clear hd
      have HBel := Lib.hid hbel
      have hsz := hbel.size
      clear hbel
      by_cases hik : i0 = k
      · subst hik
        have t1 : ((i0 : Int) != (i0 : Int)) = false := by simp
        cases hj : atL lb d.path with
        | none =>
          have hstep2 : outA la lb (i0 + 1) = putL (outA la lb i0) ⟨d.path, 2⟩ := by
            rw [hstep]; unfold stepA; rw [hgd, if_pos hi0, hj]
          have hAt2 := refAt (c := c') d.path wr (hB.below HBel.out) (by omega)
          rw [atI_none hj] at hAt2
          have CB := Lib.hid hAt2
          have HS := Lib.hid hstep2
          clear hAt2 hstep2 hstep hgd hi0 hj
          go_wp2_with fail
          refine CA.out.mono ?_; rintro e w' ⟨rfl, rfl⟩
          go_wp2_with fail
          refine CB.out.mono ?_; rintro e w' ⟨rfl, rfl⟩
          go_wp2_with fail
          refine (refPutO d.path 2 _ O.out hps (by unfold I64; omega) (by omega)).mono ?_; rintro e w1 ⟨v1, rfl, hown1, hb1⟩
          go_wp2_with fail
          go_roundw
          case rel => exact ⟨i0 + 1, by omega, by go_num, by rw [HS.out]; exact hown1.low hsz, below_old HBel.out hb1⟩
          case measure => simp [intOf]; omega
        | some j =>
          obtain ⟨hjl, hjp⟩ := atL_some hj
          have hjm : j < m := by rw [← HLB.out]; exact hjl
          obtain ⟨b', off', es', _, rfl, hb', hc', hc0', hr'⟩ := hB.elem (Keeps.old HBel.out) hjm
          have R' := Lib.hid (show LineD.rd wr (Old wr) es' lb[j] from Shape.LineD.more hr' fun _ hn => Old.below HBel.out hn)
          obtain ⟨_, _, _, rfl, -⟩ := hr'
          have e13 : Shape.LineD.size = 10 := rfl
          simp only [e13] at hc' hc0'
          clear e13
          have hb2' := Nat.lt_of_lt_of_le hb' HBel.out.size
          have hjs : (j : Int) < m := by omega
          have hsm' := sB _ (List.getElem_mem hjl)
          have hgd' := getD_lt hjl
          obtain ⟨d', hd'⟩ : ∃ d', d' = lb[j] := ⟨_, rfl⟩
          rw [← hd'] at hc0' hgd' hsm' hc' R'
          have HD' := Lib.hid hd'; clear hd'
          have HC' := Lib.hid hc'; clear hc'
          have hAt2 := refAt (c := c') d.path wr (hB.below HBel.out) (by omega)
          rw [atI_some hj] at hAt2
          have CB := Lib.hid hAt2
          have jn : ¬ ((j : Int) < 0) := by omega
          by_cases hdd : d = d'
          · have hstep2 : outA la lb (i0 + 1) = outA la lb i0 := by
              rw [hstep]; unfold stepA; rw [hgd, if_pos hi0, hj]; simp only; rw [hgd', if_pos hdd]
            have SL : ∀ δ, Calls Tryz.prog 24 _ (over wr δ) _ := fun δ => sameLine (over wr δ) (Shape.LineD.below R.out (below_over _ _)) (Shape.LineD.below R'.out (below_over _ _)) hsm hsm'
            simp only [decide_eq_true hdd] at SL
            have HSL := Lib.hid SL; clear SL
            have HS := Lib.hid hstep2
            clear hAt2 hstep2 hstep hgd hi0 hj hgd' hjp
            have HDD := Lib.hid hdd; clear hdd
            go_wp2_with fail
            refine CA.out.mono ?_; rintro e w' ⟨rfl, rfl⟩
            go_wp2_with fail
            refine CB.out.mono ?_; rintro e w' ⟨rfl, rfl⟩
            have hc := HC.out
            have hc' := HC'.out
            go_wp2_with fail
            refine wp_region_over (by kernel_rfl) (by kernel_rfl) ?_
            repeat (go_big_quiet_step (first | (go_at_call 24; exact calls_over (HSL.out _))))
            refine wpQuiet_nil ?_
            rintro _ ⟨δ, rfl⟩
            clear hc hc'
            go_wp2_with fail
            go_roundw
            case rel => exact ⟨i0 + 1, by omega, by go_num, by rw [HS.out]; exact O.out.over_ δ, below_trans_over HBel.out hsz δ⟩
            case measure => simp [intOf]; omega
          · have hstep2 : outA la lb (i0 + 1) = putL (outA la lb i0) ⟨d.path, 3⟩ := by
              rw [hstep]; unfold stepA; rw [hgd, if_pos hi0, hj]; simp only; rw [hgd', if_neg hdd]
            have SL : ∀ δ, Calls Tryz.prog 24 _ (over wr δ) _ := fun δ => sameLine (over wr δ) (Shape.LineD.below R.out (below_over _ _)) (Shape.LineD.below R'.out (below_over _ _)) hsm hsm'
            simp only [decide_eq_false hdd] at SL
            have HSL := Lib.hid SL; clear SL
            have HS := Lib.hid hstep2
            clear hAt2 hstep2 hstep hgd hi0 hj hgd' hjp
            have HDD := Lib.hid hdd; clear hdd
            go_wp2_with fail
            refine CA.out.mono ?_; rintro e w' ⟨rfl, rfl⟩
            go_wp2_with fail
            refine CB.out.mono ?_; rintro e w' ⟨rfl, rfl⟩
            have hc := HC.out
            have hc' := HC'.out
            go_wp2_with fail
            refine wp_region_over (by kernel_rfl) (by kernel_rfl) ?_
            repeat (go_big_quiet_step (first | (go_at_call 24; exact calls_over (HSL.out _))))
            refine wpQuiet_nil ?_
            rintro _ ⟨δ, rfl⟩
            clear hc hc'
            have O2 := Lib.hid (O.out.over_ δ)
            go_wp2_with fail
            refine (refPutO d.path 3 _ O2.out hps (by unfold I64; omega) (by omega)).mono ?_; rintro e w1 ⟨v1, rfl, hown1, hb1⟩
            go_wp2_with fail
            go_roundw
            case rel => exact ⟨i0 + 1, by omega, by go_num, by rw [HS.out]; exact hown1.low (by have := size_over_le wr δ; omega), below_old (below_trans_over HBel.out hsz δ) hb1⟩
            case measure => simp [intOf]; omega
      · have t1 : ((i0 : Int) != (k : Int)) = true := by simp; omega
        have hstep2 : outA la lb (k + 1) = outA la lb k := by
          rw [hstep]; unfold stepA; rw [hgd, if_neg (by rw [hi0]; intro e; exact hik (Option.some.inj e))]
        have HS := Lib.hid hstep2
        clear hstep2 hstep hgd hi0
        go_wp2_with fail
        refine CA.out.mono ?_; rintro e w' ⟨rfl, rfl⟩
        go_wp2_with fail
        go_roundw
        case rel => exact ⟨k + 1, by omega, by go_num, by rw [HS.out]; exact O.out, HBel.out⟩
        case measure => simp [intOf]; omega
    · have hkn : k = la.length := by have := HLA.out; omega
      rw [hkn, show outA la lb la.length = outB la lb 0 from rfl] at O
      clear hkn
      have HB0 := Lib.hid hbel; clear hbel
      obtain ⟨wo, hwo⟩ : ∃ wo : World, wo = wr := ⟨_, rfl⟩
      go_wp2_with fail
      go_loopw [5, 8] (fun v i wr => ∃ k : Nat, k ≤ m ∧ i = .int .i64 k ∧ Own Shape.ChangeD 52 wr w.heap.size (fun _ => False) v (outB la lb k) ∧ Below w.heap.size w wr) (fun _ i _ => m - (intOf i).toNat)
      case atStart => exact ⟨0, Nat.zero_le _, rfl, O.out, HB0.out⟩
      case round =>
        clear O HB0 hwo
        obtain ⟨k, hk, rfl, hown, hbel⟩ := hrel
        have O := Lib.hid hown; clear hown
        by_cases hlt : k < m
        · obtain ⟨b, off, es, hkl, rfl, hb, hc, hc0, hr⟩ := hB.elem (Keeps.old hbel) hlt
          obtain ⟨_, _, _, rfl, hps, -⟩ := hr
          have e13 : Shape.LineD.size = 10 := rfl
          simp only [e13, List.getElem?_cons_zero] at hc0
          clear e13 hc
          have hb2 := Nat.lt_of_lt_of_le hb hbel.size
          have hks : (k : Int) < m := by omega
          have hgd := getD_lt hkl
          have holen := outB_len la lb k
          have hla := HLA.out
          obtain ⟨d, hd⟩ : ∃ d, d = lb[k] := ⟨_, rfl⟩
          rw [← hd] at hc0 hps hgd
          obtain ⟨j0, hj0⟩ := atL_exists hkl (show (lb.getD k default).path = d.path by rw [hgd])
          have hstep := outB_succ la lb k
          have hAt := refAt (c := c') d.path wr (hB.below hbel) (by omega)
          rw [atI_some hj0] at hAt
          have CB := Lib.hid hAt; clear hAt
          have HD := Lib.hid hd; clear hd
          have HBel := Lib.hid hbel
          have hsz := hbel.size
          clear hbel
          have HLA2 := Lib.hid hla
          have holen2 : (outB la lb k).length ≤ 1000000000 := by omega
          clear hla holen
          by_cases hjk : j0 = k
          · subst hjk
            have t1 : ((j0 : Int) == (j0 : Int)) = true := by simp
            cases hi : atL la d.path with
            | none =>
              have hstep2 : outB la lb (j0 + 1) = putL (outB la lb j0) ⟨d.path, 1⟩ := by
                rw [hstep]; unfold stepB; rw [hgd, if_pos ⟨hj0, hi⟩]
              have hAt2 := refAt (c := c) d.path wr (hA.below HBel.out) (by omega)
              rw [atI_none hi] at hAt2
              have CA := Lib.hid hAt2
              have HS := Lib.hid hstep2
              clear hAt2 hstep2 hstep hgd hi hj0
              go_wp2_with fail
              refine CB.out.mono ?_; rintro e w' ⟨rfl, rfl⟩
              go_wp2_with fail
              refine CA.out.mono ?_; rintro e w' ⟨rfl, rfl⟩
              go_wp2_with fail
              refine (refPutO d.path 1 _ O.out hps (by unfold I64; omega) holen2).mono ?_; rintro e w1 ⟨v1, rfl, hown1, hb1⟩
              go_wp2_with fail
              go_roundw
              case rel => exact ⟨j0 + 1, by omega, by go_num, by rw [HS.out]; exact hown1.low hsz, below_old HBel.out hb1⟩
              case measure => simp [intOf]; omega
            | some i =>
              have hstep2 : outB la lb (j0 + 1) = outB la lb j0 := by
                rw [hstep]; unfold stepB; rw [hgd, if_neg (by rw [hi]; intro h; cases h.2)]
              have hAt2 := refAt (c := c) d.path wr (hA.below HBel.out) (by omega)
              rw [atI_some hi] at hAt2
              have CA := Lib.hid hAt2
              have HS := Lib.hid hstep2
              have jn : decide ((i : Int) < 0) = false := by simp
              clear hAt2 hstep2 hstep hgd hi hj0
              go_wp2_with fail
              refine CB.out.mono ?_; rintro e w' ⟨rfl, rfl⟩
              go_wp2_with fail
              refine CA.out.mono ?_; rintro e w' ⟨rfl, rfl⟩
              go_wp2_with fail
              go_roundw
              case rel => exact ⟨j0 + 1, by omega, by go_num, by rw [HS.out]; exact O.out, HBel.out⟩
              case measure => simp [intOf]; omega
          · have t1 : ((j0 : Int) == (k : Int)) = false := by simp; omega
            have hstep2 : outB la lb (k + 1) = outB la lb k := by
              rw [hstep]; unfold stepB; rw [hgd, if_neg (by rw [hj0]; intro e; exact hjk (Option.some.inj e.1))]
            have HS := Lib.hid hstep2
            clear hstep2 hstep hgd hj0
            go_wp2_with fail
            refine CB.out.mono ?_; rintro e w' ⟨rfl, rfl⟩
            go_wp2_with fail
            go_roundw
            case rel => exact ⟨k + 1, by omega, by go_num, by rw [HS.out]; exact O.out, HBel.out⟩
            case measure => simp [intOf]; omega
        · have hkn : k = lb.length := by have := HLB.out; omega
          rw [hkn, outB_all] at O
          have HB0 := Lib.hid hbel
          go_wp2_with fail
          go_ret
          exact ⟨_, rfl, O.out, HB0.out⟩
end Go.Proofs.YtkpblhikndennaaGreatDoor
