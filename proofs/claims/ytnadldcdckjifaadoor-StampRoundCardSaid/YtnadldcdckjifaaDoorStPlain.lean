/- What is written of a time is read again; a nought behind a fraction; plain. No condition. -/
import Derived.Test.YtnadldcdckjifaaDoorStParseLaw
import Derived.Test.YtnadldcdckjifaaDoorStShow
import Derived.Test.YtnadldcdckjifaaDoorNine
namespace Go.Proofs.YtnadldcdckjifaaDoor
set_option linter.unusedVariables false
set_option linter.unusedSimpArgs false
theorem dig_u8 {u : Nat} (h : u < 10) : isDig (UInt8.ofNat (48 + u)) = true ∧ (UInt8.ofNat (48 + u)).toNat - 48 = u ∧ (UInt8.ofNat (48 + u)).toNat = 48 + u := by
  have e : (UInt8.ofNat (48 + u)).toNat = 48 + u := by rw [UInt8.toNat_ofNat']; omega
  exact ⟨isDig_iff.2 (by omega), by omega, e⟩
theorem dd_all (u : Nat) : (Lib.decDigits u).all isDig = true := by
  induction u using Nat.strongRecOn with
  | ind u ih =>
    rw [Lib.decDigits.eq_def]
    split
    · rename_i h; rw [List.all_cons, (dig_u8 h).1]; rfl
    · rename_i h
      rw [List.all_append, ih (u / 10) (by omega)]
      rw [List.all_cons, (dig_u8 (Nat.mod_lt u (by decide : 10 > 0))).1]; rfl
theorem dd_val (u : Nat) : dval (Lib.decDigits u) = u := by
  induction u using Nat.strongRecOn with
  | ind u ih =>
    rw [Lib.decDigits.eq_def]
    split
    · rename_i h
      show dstep 0 _ = u
      unfold dstep
      rw [(dig_u8 h).2.1]; omega
    · rename_i h
      rw [dval_snoc, ih (u / 10) (by omega), (dig_u8 (Nat.mod_lt u (by decide : 10 > 0))).2.1]
      omega
theorem dd_ne (u : Nat) : Lib.decDigits u ≠ [] := by
  rw [Lib.decDigits.eq_def]; split <;> simp
theorem head_app {l : List UInt8} (h : l ≠ []) (r : List UInt8) : (l ++ r).head? = l.head? := by
  cases l with | nil => exact absurd rfl h | cons c l => rfl
theorem dd_head (u : Nat) (h : 10 ≤ u) : (Lib.decDigits u).head? ≠ some 48 := by
  induction u using Nat.strongRecOn with
  | ind u ih =>
    rw [Lib.decDigits.eq_def, dif_neg (by omega), head_app (dd_ne _)]
    by_cases h2 : 10 ≤ u / 10
    · exact ih _ (by omega) h2
    · rw [Lib.decDigits.eq_def, dif_pos (by omega)]
      intro e
      simp only [List.head?_cons, Option.some.injEq] at e
      have := congrArg UInt8.toNat e
      rw [(dig_u8 (by omega : u / 10 < 10)).2.2] at this
      have h48 : (48 : UInt8).toNat = 48 := rfl
      omega
theorem dd_zero (u : Nat) : ¬ (1 < (Lib.decDigits u).length ∧ (Lib.decDigits u).head? = some 48) := by
  rintro ⟨h1, h2⟩
  by_cases h : 10 ≤ u
  · exact dd_head u h h2
  · rw [Lib.decDigits.eq_def, dif_pos (by omega)] at h1
    simp at h1
theorem dd_len (k : Nat) : ∀ u, u < 10 ^ (k + 1) → (Lib.decDigits u).length ≤ k + 1 := by
  induction k with
  | zero => intro u h; rw [Lib.decDigits.eq_def, dif_pos (by simpa using h)]; simp
  | succ k ih =>
    intro u h
    rw [Lib.decDigits.eq_def]
    split
    · simp
    · rw [List.length_append]
      have := ih (u / 10) (by rw [Nat.pow_succ] at h; omega)
      simp; omega
theorem dig_ne46 {l : List UInt8} (h : l.all isDig = true) : ∀ c ∈ l, ¬ (c == 46) = true := by
  intro c hc e
  have := isDig_iff.1 (List.all_eq_true.1 h c hc)
  rw [beq_iff_eq] at e; subst e
  have : (46 : UInt8).toNat = 46 := rfl
  omega
theorem dot_dig {l : List UInt8} (h : l.all isDig = true) (r : List UInt8) : dotAt (l ++ 46 :: r) = l.length := by
  unfold dotAt
  rw [List.findIdx_append]
  have h1 : l.findIdx (· == 46) = l.length := List.findIdx_eq_length.2 (fun c hc => by simpa using dig_ne46 h c hc)
  rw [h1, if_neg (by omega), List.findIdx_cons]; simp
theorem dot_dig0 {l : List UInt8} (h : l.all isDig = true) : dotAt l = l.length := by
  unfold dotAt
  exact List.findIdx_eq_length.2 (fun c hc => by simpa using dig_ne46 h c hc)
theorem trim_back (l : List UInt8) : ∃ k, l = Lib.trimRightB l 48 ++ List.replicate k 48 := by
  have key : ∀ r : List UInt8, ∃ k, r = List.replicate k 48 ++ r.dropWhile (· == 48) := by
    intro r
    induction r with
    | nil => exact ⟨0, rfl⟩
    | cons c r ih =>
      rw [List.dropWhile_cons]
      by_cases h : (c == 48) = true
      · obtain ⟨k, hk⟩ := ih
        refine ⟨k + 1, ?_⟩
        rw [if_pos h, List.replicate_succ, List.cons_append, ← hk, beq_iff_eq.1 h]
      · exact ⟨0, by rw [if_neg h]; rfl⟩
  obtain ⟨k, hk⟩ := key l.reverse
  refine ⟨k, ?_⟩
  unfold Lib.trimRightB
  have := congrArg List.reverse hk
  rw [List.reverse_reverse, List.reverse_append, List.reverse_replicate] at this
  exact this
theorem first9_trim {l : List UInt8} (h : l.length = 9) : first9 (Lib.trimRightB l 48) = l := by
  obtain ⟨k, hk⟩ := trim_back l
  generalize Lib.trimRightB l 48 = t at *
  subst hk
  unfold first9
  simp at h
  rw [List.take_append, List.take_of_length_le (by omega), List.take_replicate]
  congr 2; omega
theorem nine_dig (n : Nat) : (nine n).all isDig = true := by
  have h : ∀ i, isDig (digN n i) = true := fun i => (dig_u8 (Nat.mod_lt _ (by decide : 10 > 0))).1
  simp [nine, h]
theorem nine_val {n : Nat} (h : n < 1000000000) : dval (nine n) = n := by
  have d : ∀ i, (digN n i).toNat - 48 = n / 10 ^ i % 10 := fun i => (dig_u8 (Nat.mod_lt _ (by decide : 10 > 0))).2.1
  unfold nine dval
  simp only [List.foldl_cons, List.foldl_nil, dstep, d]
  simp
  omega
theorem trim_dig {l : List UInt8} (h : l.all isDig = true) : (Lib.trimRightB l 48).all isDig = true := by
  obtain ⟨k, hk⟩ := trim_back l
  rw [hk, List.all_append, Bool.and_eq_true] at h
  exact h.1
theorem trim_len (l : List UInt8) : (Lib.trimRightB l 48).length ≤ l.length := by
  obtain ⟨k, hk⟩ := trim_back l
  have := congrArg List.length hk
  rw [List.length_append] at this
  omega
/-- the parts of a text that is written -/
theorem text_parts (neg : Bool) (u n : Nat) (hn : n < 1000000000) :
    let l := (if neg then [45] else []) ++ Lib.decDigits u ++ (if 0 < n then 46 :: Lib.trimRightB (nine n) 48 else [])
    stNeg l = neg ∧ stWhole l = Lib.decDigits u ∧ stPart l = (if 0 < n then Lib.trimRightB (nine n) 48 else []) ∧ stDot l = decide (0 < n) := by
  intro l
  have hneg : stNeg l = neg := by
    unfold stNeg
    cases neg
    · rw [decide_eq_false_iff_not]
      show ¬ (([] ++ Lib.decDigits u) ++ _ : List UInt8).head? = some 45
      rw [List.nil_append, head_app (dd_ne u)]
      intro e
      have := List.all_eq_true.1 (dd_all u) 45 (List.mem_of_mem_head? e)
      cases this
    · rfl
  have hbody : stBody l = Lib.decDigits u ++ (if 0 < n then 46 :: Lib.trimRightB (nine n) 48 else []) := by
    unfold stBody
    rw [hneg]
    cases neg <;> rfl
  have hall := dd_all u
  unfold stWhole stPart stDot
  rw [hbody]
  generalize Lib.decDigits u = D at *
  by_cases h : 0 < n
  · rw [if_pos h, dot_dig hall]
    refine ⟨hneg, by rw [List.take_left], ?_, ?_⟩
    · rw [if_pos h, ← List.drop_drop, List.drop_left]; rfl
    · simp [h]
  · rw [if_neg h, List.append_nil, dot_dig0 hall]
    exact ⟨hneg, by rw [List.take_of_length_le (Nat.le_refl _)], by rw [if_neg h]; exact List.drop_eq_nil_of_le (by omega), by simp [h]⟩
theorem text_len (neg : Bool) (u n : Nat) (hu : u ≤ 1099511627776) : ((if neg then [45] else []) ++ Lib.decDigits u ++ (if 0 < n then 46 :: Lib.trimRightB (nine n) 48 else [] : List UInt8)).length ≤ 24 := by
  have h1 := dd_len 12 u (by have : (10 : Nat) ^ 13 = 10000000000000 := by decide
                             omega)
  have h2 := trim_len (nine n)
  rw [nine_len] at h2
  rw [List.length_append, List.length_append]
  have h3 : (if neg then [45] else [] : List UInt8).length ≤ 1 := by cases neg <;> decide
  have h4 : (if 0 < n then 46 :: Lib.trimRightB (nine n) 48 else [] : List UInt8).length ≤ 10 := by
    split
    · rw [List.length_cons]; omega
    · exact Nat.zero_le _
  omega
theorem text_shape {s n : Int} (h : stampOk s n = true) :
    ∃ u m : Nat, u ≤ 1099511627776 ∧ m < 1000000000 ∧ stText s n = (if decide (s < 0) then [45] else []) ++ Lib.decDigits u ++ (if 0 < m then 46 :: Lib.trimRightB (nine m) 48 else []) ∧ stSec s n = u ∧ stNano s n = m := by
  simp only [stampOk, decide_eq_true_eq] at h
  obtain ⟨h1, h2, h3, h4, h5⟩ := h
  have hs : 0 ≤ stSec s n ∧ stSec s n ≤ 1099511627776 := by unfold stSec; split <;> (try split) <;> omega
  have hn : 0 ≤ stNano s n ∧ stNano s n < 1000000000 := by unfold stNano; split <;> omega
  refine ⟨(stSec s n).toNat, (stNano s n).toNat, by omega, by omega, ?_, by omega, by omega⟩
  unfold stText
  have e1 : Lib.itoa (stSec s n) = Lib.decDigits (stSec s n).toNat := by unfold Lib.itoa; rw [if_neg (by omega)]
  rw [e1, itoa_nine _ hn.1 hn.2]
  have e2 : (0 < stNano s n) = (0 < (stNano s n).toNat) := by apply propext; omega
  simp only [e2, decide_eq_true_eq]
/-- what is written is read again as it was -/
theorem round_text {s n : Int} (h : stampOk s n = true) : stErr (stText s n) = 0 ∧ stS (stText s n) = s ∧ stN (stText s n) = n := by
  obtain ⟨u, m, hu, hm, ht, hs, hn⟩ := text_shape h
  have hl := text_len (decide (s < 0)) u m hu
  obtain ⟨p1, p2, p3, p4⟩ := text_parts (decide (s < 0)) u m hm
  rw [← ht] at hl p1 p2 p3 p4
  generalize stText s n = l at *
  have hbad : stBad l = false := by
    unfold stBad
    rw [p2, p3, p4]
    have e1 : allDig (Lib.decDigits u) = true := by
      unfold allDig; rw [dd_all]
      have := dd_ne u
      cases hx : Lib.decDigits u with
      | nil => exact absurd hx this
      | cons => rfl
    rw [e1]
    have e2 : (decide (1 < (Lib.decDigits u).length) && decide ((Lib.decDigits u).head? = some 48)) = false := by
      rw [← Bool.decide_and, decide_eq_false (dd_zero u)]
    rw [e2]
    by_cases h0 : 0 < m
    · rw [if_pos h0]
      have e3 : allDig (Lib.trimRightB (nine m) 48) = true := by
        unfold allDig; rw [trim_dig (nine_dig m)]
        have := nine_trim h0 hm
        cases hx : Lib.trimRightB (nine m) 48 with
        | nil => exact absurd hx this
        | cons => rfl
      rw [e3]; simp
    · simp [h0]
  have h9 : (first9 (stPart l)) = nine m := by
    rw [p3]
    split
    · exact first9_trim rfl
    · have : m = 0 := by omega
      subst this; decide
  have hup : stUp l = false := by
    unfold stUp
    rw [p3]
    have : (if 0 < m then Lib.trimRightB (nine m) 48 else []).length ≤ 9 := by
      split
      · have := trim_len (nine m); rw [nine_len] at this; exact this
      · exact Nat.zero_le _
    rw [List.drop_eq_nil_of_le this]; rfl
  have hnan : stNan l = m := by
    unfold stNan
    rw [h9, nine_val hm, hup]; simp
  have hsec : stSecV l = s ∧ stNanoV l = n := by
    unfold stSecV stNanoV
    rw [hnan, p2, dd_val, p1, ← hs, ← hn]
    unfold stSec stNano at *
    simp only [stampOk, decide_eq_true_eq] at h
    by_cases h1 : s < 0
    · simp only [h1, decide_true, if_true, true_and]
      by_cases h2 : 0 < n
      · simp only [h2, if_true]
        rw [if_pos (by omega), if_pos (by omega)]; omega
      · simp only [h2, if_false]
        first | omega | (rw [if_neg (by omega), if_neg (by omega)]; omega)
    · simp only [h1, decide_false, Bool.false_eq_true, if_false, false_and, and_self]
  obtain ⟨a, b, c⟩ := st_ok (l := l) (by omega) hbad (by rw [hsec.1, hsec.2]; exact h)
  exact ⟨a, b.trans hsec.1, c.trans hsec.2⟩
/-- what is read is a valid time -/
theorem read_valid {l : List UInt8} (h : stErr l = 0) : stampOk (stS l) (stN l) = true := by
  unfold stS stN
  rw [if_pos h, if_pos h]
  unfold stErr at h
  split at h
  · omega
  split at h
  · omega
  split at h
  · omega
  split at h
  · rename_i h2; exact h2
  · omega
theorem read_zero {l : List UInt8} (h : stErr l ≠ 0) : stS l = 0 ∧ stN l = 0 := by
  unfold stS stN
  rw [if_neg h, if_neg h]; exact ⟨rfl, rfl⟩
theorem stText_len {s n : Int} (h : stampOk s n = true) : (stText s n).length ≤ 24 := by
  obtain ⟨u, m, hu, hm, ht, hs, hn⟩ := text_shape h
  rw [ht]; exact text_len _ u m hu
/-- a nought behind a fraction changes nothing -/
theorem nought {l : List UInt8} (hl : l.length < 64) (h46 : 46 ∈ l) (hp : stPart l ≠ []) : stErr (l ++ [48]) = stErr l ∧ stS (l ++ [48]) = stS l ∧ stN (l ++ [48]) = stN l := by
  have hne : l ≠ [] := fun e => by rw [e] at h46; cases h46
  have p1 : stNeg (l ++ [48]) = stNeg l := by unfold stNeg; rw [head_app hne]
  have pb : stBody (l ++ [48]) = stBody l ++ [48] := by
    unfold stBody
    rw [p1]
    cases stNeg l
    · rfl
    · simp only [if_true]
      exact List.drop_append_of_le_length (List.length_pos_iff.2 hne)
  have hb : 46 ∈ stBody l := by
    unfold stBody
    cases hn : stNeg l
    · exact h46
    · simp only [if_true]
      obtain ⟨c, r, rfl⟩ : ∃ c r, l = c :: r := by cases l with | nil => exact absurd rfl hne | cons c r => exact ⟨c, r, rfl⟩
      unfold stNeg at hn
      simp only [List.head?_cons, Option.some.injEq, decide_eq_true_eq] at hn
      subst hn
      rcases List.mem_cons.1 h46 with e | e
      · cases e
      · exact e
  have hd : dotAt (stBody l) < (stBody l).length := List.findIdx_lt_length.2 ⟨46, hb, rfl⟩
  have pd : dotAt (stBody (l ++ [48])) = dotAt (stBody l) := by
    rw [pb]
    unfold dotAt at *
    rw [List.findIdx_append, if_pos hd]
  have p2 : stWhole (l ++ [48]) = stWhole l := by
    unfold stWhole
    rw [pd, pb, List.take_append_of_le_length (by omega)]
  have p3 : stPart (l ++ [48]) = stPart l ++ [48] := by
    unfold stPart
    rw [pd, pb, List.drop_append_of_le_length (by omega)]
  have p4 : stDot (l ++ [48]) = stDot l := by
    unfold stDot
    rw [pd, pb, decide_eq_true hd, List.length_append, decide_eq_true (by omega)]
  have p5 : allDig (stPart l ++ [48]) = allDig (stPart l) := by
    unfold allDig
    rw [List.all_append]
    have e1 : (stPart l ++ [48]).isEmpty = false := by simp
    have e2 : (stPart l).isEmpty = false := by
      cases hx : stPart l with
      | nil => exact absurd hx hp
      | cons => rfl
    rw [e1, e2]
    have e3 : ([48] : List UInt8).all isDig = true := by decide
    rw [e3, Bool.and_true]
  have p6 : stBad (l ++ [48]) = stBad l := by unfold stBad; rw [p2, p3, p4, p5]
  have p7 : first9 (stPart l ++ [48]) = first9 (stPart l) := by
    unfold first9
    have e : ∀ m, ([48] ++ List.replicate m 48 : List UInt8) = List.replicate (m + 1) 48 := fun m => rfl
    rw [List.append_assoc, e, List.take_append, List.take_append, List.take_replicate, List.take_replicate]
    congr 2; omega
  have p8 : stUp (l ++ [48]) = stUp l := by
    unfold stUp
    rw [p3]
    by_cases h9 : 9 ≤ (stPart l).length
    · rw [List.drop_append_of_le_length h9, List.any_append]
      have e3 : ([48] : List UInt8).any (· != 48) = false := by decide
      rw [e3, Bool.or_false]
    · rw [List.drop_eq_nil_of_le (by rw [List.length_append]; simp; omega), List.drop_eq_nil_of_le (by omega)]
  have p9 : stNan (l ++ [48]) = stNan l := by unfold stNan; rw [p3, p7, p1, p8]
  have pa : stSecV (l ++ [48]) = stSecV l := by unfold stSecV; rw [p1, p9, p2]
  have pc : stNanoV (l ++ [48]) = stNanoV l := by unfold stNanoV; rw [p1, p9]
  have pe : stErr (l ++ [48]) = stErr l := by
    unfold stErr
    have q1 : ¬ 64 < (l ++ [48]).length := by rw [List.length_append]; simp; omega
    have q2 : ¬ 64 < l.length := by omega
    rw [pa, pc, p6, p2, if_neg q1, if_neg q2]
  refine ⟨pe, ?_, ?_⟩
  · unfold stS; rw [pe, pa]
  · unfold stN; rw [pe, pc]
/-- a text with a dot and nothing behind it is none, and ends in the dot -/
theorem nought_none {l : List UInt8} (h46 : 46 ∈ l) (hp : stPart l = []) : stErr l ≠ 0 ∧ l.getLast? = some 46 := by
  have hne : l ≠ [] := fun e => by rw [e] at h46; cases h46
  have hb : 46 ∈ stBody l := by
    unfold stBody
    cases hn : stNeg l
    · exact h46
    · simp only [if_true]
      obtain ⟨c, r, rfl⟩ : ∃ c r, l = c :: r := by cases l with | nil => exact absurd rfl hne | cons c r => exact ⟨c, r, rfl⟩
      unfold stNeg at hn
      simp only [List.head?_cons, Option.some.injEq, decide_eq_true_eq] at hn
      subst hn
      rcases List.mem_cons.1 h46 with e | e
      · cases e
      · exact e
  have hd : dotAt (stBody l) < (stBody l).length := List.findIdx_lt_length.2 ⟨46, hb, rfl⟩
  constructor
  · have hbad : stBad l = true := by
      unfold stBad stDot
      rw [hp, decide_eq_true hd]; rfl
    unfold stErr
    rw [hbad]
    split <;> simp
  · have h1 : dotAt (stBody l) + 1 = (stBody l).length := by
      unfold stPart at hp
      rw [List.drop_eq_nil_iff] at hp
      omega
    have h2 : (stBody l).getLast? = some 46 := by
      rw [List.getLast?_eq_getElem?, List.getElem?_eq_getElem (by omega)]
      have := List.findIdx_getElem (p := (· == 46)) (xs := stBody l) (w := hd)
      rw [beq_iff_eq] at this
      rw [← this]
      congr 2
      unfold dotAt at h1
      omega
    unfold stBody at h2
    cases hn : stNeg l
    · rw [hn] at h2; exact h2
    · rw [hn] at h2
      simp only [if_true] at h2
      obtain ⟨c, r, rfl⟩ : ∃ c r, l = c :: r := by cases l with | nil => exact absurd rfl hne | cons c r => exact ⟨c, r, rfl⟩
      simp only [List.drop_succ_cons, List.drop_zero] at h2
      rw [List.getLast?_cons, h2]; rfl
end Go.Proofs.YtnadldcdckjifaaDoor
