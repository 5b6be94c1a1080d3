/- The sieve: does a text, or a beginning ahead of a stroke, match? No condition but room. -/
import Derived.Test.YtjknjmlpnjifkaaDoorSvH
namespace Go.Proofs.YtjknjmlpnjifkaaDoor
open Go.RowKit
set_option linter.unusedVariables false
set_option linter.unusedSimpArgs false
attribute [local go_sem] cell?_over frozen?_over lt_over le_over
def hitAt (ts : List Tok) (x : List UInt8) (i : Nat) : Bool := (i == x.length || tx x i == 47) && reach ts x ts.length i
theorem hits_yes {ts : List Tok} {x : List UInt8} {i : Nat} (hi : i ≤ x.length) (h : hitAt ts x i = true) : hitsT ts x = true := by
  unfold hitsT
  rw [List.any_eq_true]
  exact ⟨i, List.mem_range.2 (by omega), h⟩
theorem hits_end {ts : List Tok} {x : List UInt8} (h : ∀ i, i < x.length → hitAt ts x i = false) : hitsT ts x = reach ts x ts.length x.length := by
  have e : hitAt ts x x.length = reach ts x ts.length x.length := by unfold hitAt; simp
  cases hr : reach ts x ts.length x.length with
  | true => exact hits_yes (Nat.le_refl _) (by rw [e, hr])
  | false =>
    unfold hitsT
    rw [List.any_eq_false]
    intro i hi
    have hi' := List.mem_range.1 hi
    by_cases hl : i < x.length
    · have := h i hl
      unfold hitAt at this
      rw [this]; decide
    · have : i = x.length := by omega
      subst this
      unfold hitAt at e
      rw [e, hr]; decide
theorem tx_at {x : ByteArray} {i : Nat} (h : i < x.size) : tx x.data.toList i = x[i] := by
  unfold tx
  rw [getElem!_pos x.data.toList i (by rw [len_data']; exact h)]
  rfl
set_option maxHeartbeats 2000000 in
set_option maxRecDepth 100000 in
theorem svHits {A : Option Addr} {n c : Nat} {ts : List Tok} (x : ByteArray) (w : World) (h : Row Shape.Tok w (Old w) A n ts) (hn : n ≤ 100000) (hx : x.size ≤ 140737488355328) :
    Calls Tryd.prog 37 #[.slice A n c, .string x] w fun e w' => e = .returned (.bool (hitsT ts x.data.toList)) ∧ Below w.heap.size w w' := by
  have H := Lib.hid h
  have HT := Lib.hid h.1
  obtain ⟨X, hX⟩ : ∃ X, X = x.data.toList := ⟨_, rfl⟩
  have HL : Hid (X.length = x.size) := Lib.hid (by rw [hX, len_data'])
  have HTX : Hid (∀ i (hi : i < x.size), tx X i = x[i]) := Lib.hid fun i hi => by rw [hX, tx_at hi]
  rw [← hX]
  clear h hX
  go_enter Tryd.func37, Tryd.ntmps37
  go_wp2_with fail
  refine (svBegin (c := c) w H.out hn).mono ?_
  rintro e w1 ⟨gr, go, on, rfl, hr, hon, hb⟩
  have R1 := Lib.hid hr; have ON1 := Lib.hid hon; have HB1 := Lib.hid hb
  clear hr hon hb
  go_wp2_with fail
  go_loopw [11] (fun it wr => ∃ (i : Nat) (on' : List Bool), it = .int .i64 i ∧ i ≤ x.size ∧ RunAt wr gr go w.heap.size A n c ts on' ∧ (∀ k, k ≤ n → on'.getD k false = onAt ts X k i) ∧ (∀ j, j < i → hitAt ts X j = false) ∧ Below w.heap.size w wr) (fun it _ => x.size - (intOf it).toNat)
  case atStart => exact ⟨0, on, rfl, Nat.zero_le _, R1.out, fun k hk => by rw [ON1.out k hk]; exact on_begin ts X k (by rw [HT.out]; exact hk), fun j hj => absurd hj (Nat.not_lt_zero _), HB1.out⟩
  case round =>
    obtain ⟨i, on', rfl, hi, hr, hon, hno, hb⟩ := hrel
    have R := Lib.hid hr; have ON := Lib.hid hon; have NO := Lib.hid hno; have HB := Lib.hid hb
    clear hr hon hno hb R1 ON1 HB1
    have DN : Hid (on'.getD n false = reach ts X ts.length i) := Lib.hid (by
      have := on_done ts X i
      rw [HT.out] at this ⊢
      rw [ON.out n (Nat.le_refl _), this])
    by_cases hlt : i < x.size
    · have hhit : Hid (hitAt ts X i = ((x[i] == 47) && reach ts X ts.length i)) := Lib.hid (by
        unfold hitAt
        rw [HTX.out i hlt, HL.out, show (i == x.size) = false by simp; omega, Bool.false_or])
      obtain ⟨b, hb⟩ : ∃ b : UInt8, b = x[i] := ⟨_, rfl⟩
      have HBy := Lib.hid hb
      by_cases h47 : b = 47
      · have t47 : ((x[i].toNat : Int) == 47) = true := by rw [← hb, h47]; rfl
        clear hb
        go_wp2_with fail
        refine (svDone _ R.out hn).mono ?_
        rintro e w2 ⟨rfl, hb2⟩
        have R2 := Lib.hid (R.out.below hb2); have HB2 := Lib.hid (below_old HB.out hb2)
        clear hb2 R HB
        cases hd : on'.getD n false with
        | true =>
          have HH := Lib.hid (hits_yes (ts := ts) (x := X) (i := i) (by rw [HL.out]; exact hi) (by rw [hhit.out, ← DN.out, hd, ← HBy.out, h47]; rfl))
          clear hd
          go_wp2_with fail
          go_ret
          exact ⟨by rw [HH.out]; rfl, HB2.out⟩
        | false =>
          have HH : Hid (hitAt ts X i = false) := Lib.hid (by rw [hhit.out, ← DN.out, hd]; simp)
          clear hd
          go_wp2_with fail
          refine (svStep x[i] _ R2.out hn).mono ?_
          rintro e w3 ⟨rfl, on3, hr3, hon3, hg3⟩
          have R3 := Lib.hid hr3
          have HB3 := Lib.hid (HB2.out.grown hg3 HB2.out.size (fun k hk => by injection hk with hk; rw [← hk]; exact R3.out.ho))
          have ON3 : Hid (∀ k, k ≤ n → on3.getD k false = onAt ts X k (i + 1)) := Lib.hid fun k hk => by
            rw [hon3 k hk, ← HTX.out i hlt]
            exact on_step ts X i (fun k hk => ON.out k (by rw [HT.out] at hk; exact hk)) k (by rw [HT.out]; exact hk)
          clear hr3 hon3 hg3
          go_wp2_with fail
          go_roundw
          case rel => exact ⟨i + 1, on3, by go_num, by omega, R3.out, ON3.out, fun j hj => by
            by_cases hji : j = i
            · rw [hji]; exact HH.out
            · exact NO.out j (by omega), HB3.out⟩
          case measure => simp [intOf]; omega
      · have t47 : ((x[i].toNat : Int) == 47) = false := by
          rw [← hb, beq_eq_false_iff_ne]
          intro e
          exact h47 (UInt8.toNat_inj.1 (by have e47 : (47 : UInt8).toNat = 47 := rfl; omega))
        have HH : Hid (hitAt ts X i = false) := Lib.hid (by rw [hhit.out, ← HBy.out]; simp [h47])
        clear hb
        go_wp2_with fail
        refine (svStep x[i] _ R.out hn).mono ?_
        rintro e w3 ⟨rfl, on3, hr3, hon3, hg3⟩
        have R3 := Lib.hid hr3
        have HB3 := Lib.hid (HB.out.grown hg3 HB.out.size (fun k hk => by injection hk with hk; rw [← hk]; exact R3.out.ho))
        have ON3 : Hid (∀ k, k ≤ n → on3.getD k false = onAt ts X k (i + 1)) := Lib.hid fun k hk => by
          rw [hon3 k hk, ← HTX.out i hlt]
          exact on_step ts X i (fun k hk => ON.out k (by rw [HT.out] at hk; exact hk)) k (by rw [HT.out]; exact hk)
        clear hr3 hon3 hg3
        go_wp2_with fail
        go_roundw
        case rel => exact ⟨i + 1, on3, by go_num, by omega, R3.out, ON3.out, fun j hj => by
          by_cases hji : j = i
          · rw [hji]; exact HH.out
          · exact NO.out j (by omega), HB3.out⟩
        case measure => simp [intOf]; omega
    · have e : i = x.size := by omega
      go_wp2_with fail
      refine (svDone _ R.out hn).mono ?_
      rintro e' w2 ⟨rfl, hb2⟩
      have HB2 := Lib.hid (below_old HB.out hb2)
      have EE : Hid (on'.getD n false = hitsT ts X) := Lib.hid (by rw [hits_end (ts := ts) (x := X) (fun j hj => NO.out j (by rw [HL.out] at hj; omega)), DN.out, HL.out, e])
      rw [EE.out]
      clear hb2 e
      go_wp2_with fail
      go_ret
      exact ⟨rfl, HB2.out⟩
end Go.Proofs.YtjknjmlpnjifkaaDoor
