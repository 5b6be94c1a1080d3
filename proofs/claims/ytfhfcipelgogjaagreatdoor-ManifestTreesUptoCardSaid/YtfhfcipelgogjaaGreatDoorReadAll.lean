/- A line's text as a line: what both readers of a manifest answer, plain. No condition. What is written of a time is read again; a nought behind a fraction; plain. No condition. What is printed is read as it was, plain. No condition. -/
import Derived.Test.YtfhfcipelgogjaaGreatDoorLineAll
import Derived.Test.YtfhfcipelgogjaaGreatDoorPermLaw
import Derived.Test.YtfhfcipelgogjaaGreatDoorSplitAll
import Derived.Test.YtfhfcipelgogjaaGreatDoorLawAll
import Derived.Test.YtfhfcipelgogjaaGreatDoorShowAll
import Derived.Test.YtfhfcipelgogjaaGreatDoorRefShowAll
namespace Go.Proofs.YtfhfcipelgogjaaGreatDoor
open Go.RowKit
set_option linter.unusedVariables false
set_option linter.unusedSimpArgs false
/-- the five words ahead -/
def headF (p u g t n : List UInt8) : Option LineD :=
  match permP p, unesc n with
  | some (k, m), some path => if decErr u = 0 ∧ decErr g = 0 ∧ stErr t = 0 then some ⟨⟨path.toArray⟩, k, m, decV u, decV g, ⟨stS t, stN t⟩, [], ⟨#[]⟩, ⟨#[]⟩⟩ else none
  | _, _ => none
/-- the mark and the word behind, as the document reads them -/
def restR (d : LineD) (mk x : List UInt8) : Option LineD :=
  match unesc x with
  | some t => some (if mk = [61] then { d with peer := ⟨t.toArray⟩ } else if mk = [58] then { d with data := t } else { d with target := ⟨t.toArray⟩ })
  | none => none
/-- the same as the program reads them -/
def restC (d : LineD) (mk x : List UInt8) : Option LineD :=
  match unesc x with
  | some t => some (if mk = [61] then { d with peer := ⟨t.toArray⟩ } else if mk = [58] then { d with data := t } else if mk = [45, 62] then { d with target := ⟨t.toArray⟩ } else d)
  | none => none
/-- one form alone -/
def checkF (s : List UInt8) (d : LineD) : Option LineD := if rOk d = true ∧ lineBody d = s then some d else none
def lineF (rest : LineD → List UInt8 → List UInt8 → Option LineD) (s : List UInt8) : Option LineD :=
  match splitW 32 s with
  | [p, u, g, t, n] => (headF p u g t n).bind (checkF s)
  | [p, u, g, t, n, mk, x] => (headF p u g t n).bind fun d => (rest d mk x).bind (checkF s)
  | _ => none
theorem dig_ne {k : Nat} (h : k < 10) : (32 : UInt8) ≠ UInt8.ofNat (48 + k) := fun e => by
  have := congrArg UInt8.toNat e
  have h2 : (UInt8.ofNat (48 + k)).toNat = 48 + k := by rw [UInt8.toNat_ofNat']; omega
  have e32 : (32 : UInt8).toNat = 32 := rfl
  omega
theorem no32_dec (u : Nat) : (32 : UInt8) ∉ Lib.decDigits u := by
  induction u using Nat.strongRecOn with
  | _ u ih =>
    rw [Lib.decDigits.eq_def]
    split
    · next h => rw [List.mem_singleton]; exact dig_ne h
    · next h =>
      rw [List.mem_append, List.mem_singleton, not_or]
      exact ⟨ih _ (by omega), dig_ne (by omega)⟩
theorem no32_itoa (v : Int) : (32 : UInt8) ∉ Lib.itoa v := by
  unfold Lib.itoa
  split
  · rw [List.mem_cons, not_or]; exact ⟨by decide, no32_dec _⟩
  · exact no32_dec _
theorem mem_trimR {l : List UInt8} {c x : UInt8} (h : x ∈ Lib.trimRightB l c) : x ∈ l := by
  unfold Lib.trimRightB at h
  rw [List.mem_reverse] at h
  exact List.mem_reverse.1 ((List.dropWhile_suffix _).subset h)
theorem no32_st (s n : Int) : (32 : UInt8) ∉ stText s n := by
  unfold stText
  rw [List.mem_append, List.mem_append, not_or, not_or]
  refine ⟨⟨?_, no32_itoa _⟩, ?_⟩
  · split
    · decide
    · simp
  · split
    · rw [List.mem_cons, not_or]
      exact ⟨by decide, fun h => no32_itoa _ (List.mem_of_mem_drop (mem_trimR h))⟩
    · simp
theorem permC_ne (m : Int) (i : Nat) : (32 : UInt8) ≠ permC m i := by
  unfold permC rwxC
  repeat' split
  all_goals decide
theorem permS_ne (m : Int) (b i : Nat) {x y : UInt8} (hx : 32 ≠ x) (hy : 32 ≠ y) : (32 : UInt8) ≠ permS m b i x y := by
  unfold permS
  split
  · split <;> assumption
  · exact permC_ne _ _
theorem no32_perm (k m : Int) : (32 : UInt8) ∉ permText k m := by
  unfold permText
  have hk : (32 : UInt8) ≠ kindC k := by
    unfold kindC
    repeat' split
    all_goals decide
  simp only [List.mem_cons, List.not_mem_nil, or_false, not_or]
  exact ⟨hk, permC_ne _ _, permC_ne _ _, permS_ne _ _ _ (by decide) (by decide), permC_ne _ _, permC_ne _ _, permS_ne _ _ _ (by decide) (by decide), permC_ne _ _, permC_ne _ _, permS_ne _ _ _ (by decide) (by decide)⟩
theorem no32_esc (l : List UInt8) : (32 : UInt8) ∉ esc l := fun h => by
  have h1 := (esc_prints h).1
  have e32 : (32 : UInt8).toNat = 32 := rfl
  omega
theorem no32_mark (d : LineD) : (32 : UInt8) ∉ tailMark d := by
  unfold tailMark
  repeat' split
  all_goals decide
/-- a line's text in words -/
theorem split_body (d : LineD) : splitW 32 (lineBody d) =
    [permText d.kind d.mode, Lib.itoa d.uid, Lib.itoa d.gid, stText d.mtime.sec d.mtime.nano, esc d.path.data.toList] ++ (if tailMark d = [] then [] else [tailMark d, esc (tailField d).data.toList]) := by
  unfold lineBody
  simp only [List.append_assoc, List.singleton_append, List.cons_append, List.nil_append]
  rw [splitW_cut (no32_perm _ _), splitW_cut (no32_itoa _), splitW_cut (no32_itoa _), splitW_cut (no32_st _ _)]
  by_cases h : tailMark d = []
  · rw [if_pos h, if_pos h, List.append_nil, splitW_none (no32_esc _)]
  · rw [if_neg h, if_neg h, splitW_cut (no32_esc _), splitW_cut (no32_mark _), splitW_none (no32_esc _)]
theorem mark_of {d : LineD} (h : tailMark d ≠ []) : tailMark d = [61] ∨ tailMark d = [58] ∨ tailMark d = [45, 62] := by
  unfold tailMark at *
  split
  · split
    · split
      · exact .inr (.inr rfl)
      · next h1 h2 h3 => rw [if_pos h1, if_pos h2, if_neg h3] at h; exact absurd rfl h
    · exact .inr (.inl rfl)
  · exact .inl rfl
/-- where the mark is none of the three, nothing that is read prints so -/
theorem check_mark {s p u g t n mk x : List UInt8} (hs : splitW 32 s = [p, u, g, t, n, mk, x]) (h1 : mk ≠ [61]) (h2 : mk ≠ [58]) (h3 : mk ≠ [45, 62]) (d : LineD) : checkF s d = none := by
  unfold checkF
  rw [if_neg]
  rintro ⟨_, he⟩
  have h := split_body d
  rw [he, hs] at h
  by_cases ht : tailMark d = []
  · rw [if_pos ht] at h
    have := congrArg List.length h
    simp at this
  · rw [if_neg ht] at h
    simp only [List.cons_append, List.nil_append, List.cons.injEq, and_true] at h
    rcases mark_of ht with e | e | e
    · exact h1 (h.2.2.2.2.2.1.trans e)
    · exact h2 (h.2.2.2.2.2.1.trans e)
    · exact h3 (h.2.2.2.2.2.1.trans e)
theorem lineF_eq (s : List UInt8) : lineF restC s = lineF restR s := by
  unfold lineF
  split
  · rfl
  · next p u g t n mk x hs =>
    congr 1
    funext d
    unfold restC restR
    cases unesc x with
    | none => rfl
    | some v =>
      simp only [Option.bind_some]
      by_cases h1 : mk = [61]
      · rw [if_pos h1, if_pos h1]
      · by_cases h2 : mk = [58]
        · rw [if_neg h1, if_neg h1, if_pos h2, if_pos h2]
        · by_cases h3 : mk = [45, 62]
          · rw [if_neg h1, if_neg h1, if_neg h2, if_neg h2, if_pos h3]
          · rw [check_mark hs h1 h2 h3, check_mark hs h1 h2 h3]
  · rfl
theorem lineF_sound {rest : LineD → List UInt8 → List UInt8 → Option LineD} {s : List UInt8} {d : LineD} (h : lineF rest s = some d) : rOk d = true ∧ lineBody d = s := by
  have key : ∀ x, checkF s x = some d → rOk d = true ∧ lineBody d = s := fun x hx => by
    unfold checkF at hx
    split at hx
    · next hc => injection hx with hx; subst hx; exact hc
    · cases hx
  unfold lineF at h
  split at h
  · obtain ⟨x, _, hx⟩ := Option.bind_eq_some_iff.1 h
    exact key x hx
  · obtain ⟨x, _, hx⟩ := Option.bind_eq_some_iff.1 h
    obtain ⟨y, _, hy⟩ := Option.bind_eq_some_iff.1 hx
    exact key y hy
  · cases h
end Go.Proofs.YtfhfcipelgogjaaGreatDoor
namespace Go.Proofs.YtfhfcipelgogjaaGreatDoor
set_option linter.unusedVariables false
set_option linter.unusedSimpArgs false
theorem dig_u8 {u : Nat} (h : u < 10) : isDig (UInt8.ofNat (48 + u)) = true ∧ (UInt8.ofNat (48 + u)).toNat - 48 = u ∧ (UInt8.ofNat (48 + u)).toNat = 48 + u := by
  have e : (UInt8.ofNat (48 + u)).toNat = 48 + u := by rw [UInt8.toNat_ofNat']; omega
  exact ⟨isDig_iff.2 (by omega), by omega, e⟩
theorem dd_all (u : Nat) : (Lib.decDigits u).all isDig = true := by
  induction u using Nat.strongRecOn with
  | ind u ih =>
    rw [Lib.decDigits.eq_def]
    split
    · rename_i h; rw [List.all_cons, (dig_u8 h).1]; rfl
    · rename_i h
      rw [List.all_append, ih (u / 10) (by omega)]
      rw [List.all_cons, (dig_u8 (Nat.mod_lt u (by decide : 10 > 0))).1]; rfl
theorem dd_val (u : Nat) : dval (Lib.decDigits u) = u := by
  induction u using Nat.strongRecOn with
  | ind u ih =>
    rw [Lib.decDigits.eq_def]
    split
    · rename_i h
      show dstep 0 _ = u
      unfold dstep
      rw [(dig_u8 h).2.1]; omega
    · rename_i h
      rw [dval_snoc, ih (u / 10) (by omega), (dig_u8 (Nat.mod_lt u (by decide : 10 > 0))).2.1]
      omega
theorem dd_ne (u : Nat) : Lib.decDigits u ≠ [] := by
  rw [Lib.decDigits.eq_def]; split <;> simp
theorem head_app {l : List UInt8} (h : l ≠ []) (r : List UInt8) : (l ++ r).head? = l.head? := by
  cases l with | nil => exact absurd rfl h | cons c l => rfl
theorem dd_head (u : Nat) (h : 10 ≤ u) : (Lib.decDigits u).head? ≠ some 48 := by
  induction u using Nat.strongRecOn with
  | ind u ih =>
    rw [Lib.decDigits.eq_def, dif_neg (by omega), head_app (dd_ne _)]
    by_cases h2 : 10 ≤ u / 10
    · exact ih _ (by omega) h2
    · rw [Lib.decDigits.eq_def, dif_pos (by omega)]
      intro e
      simp only [List.head?_cons, Option.some.injEq] at e
      have := congrArg UInt8.toNat e
      rw [(dig_u8 (by omega : u / 10 < 10)).2.2] at this
      have h48 : (48 : UInt8).toNat = 48 := rfl
      omega
theorem dd_zero (u : Nat) : ¬ (1 < (Lib.decDigits u).length ∧ (Lib.decDigits u).head? = some 48) := by
  rintro ⟨h1, h2⟩
  by_cases h : 10 ≤ u
  · exact dd_head u h h2
  · rw [Lib.decDigits.eq_def, dif_pos (by omega)] at h1
    simp at h1
theorem dd_len (k : Nat) : ∀ u, u < 10 ^ (k + 1) → (Lib.decDigits u).length ≤ k + 1 := by
  induction k with
  | zero => intro u h; rw [Lib.decDigits.eq_def, dif_pos (by simpa using h)]; simp
  | succ k ih =>
    intro u h
    rw [Lib.decDigits.eq_def]
    split
    · simp
    · rw [List.length_append]
      have := ih (u / 10) (by rw [Nat.pow_succ] at h; omega)
      simp; omega
theorem dig_ne46 {l : List UInt8} (h : l.all isDig = true) : ∀ c ∈ l, ¬ (c == 46) = true := by
  intro c hc e
  have := isDig_iff.1 (List.all_eq_true.1 h c hc)
  rw [beq_iff_eq] at e; subst e
  have : (46 : UInt8).toNat = 46 := rfl
  omega
theorem dot_dig {l : List UInt8} (h : l.all isDig = true) (r : List UInt8) : dotAt (l ++ 46 :: r) = l.length := by
  unfold dotAt
  rw [List.findIdx_append]
  have h1 : l.findIdx (· == 46) = l.length := List.findIdx_eq_length.2 (fun c hc => by simpa using dig_ne46 h c hc)
  rw [h1, if_neg (by omega), List.findIdx_cons]; simp
theorem dot_dig0 {l : List UInt8} (h : l.all isDig = true) : dotAt l = l.length := by
  unfold dotAt
  exact List.findIdx_eq_length.2 (fun c hc => by simpa using dig_ne46 h c hc)
theorem trim_back (l : List UInt8) : ∃ k, l = Lib.trimRightB l 48 ++ List.replicate k 48 := by
  have key : ∀ r : List UInt8, ∃ k, r = List.replicate k 48 ++ r.dropWhile (· == 48) := by
    intro r
    induction r with
    | nil => exact ⟨0, rfl⟩
    | cons c r ih =>
      rw [List.dropWhile_cons]
      by_cases h : (c == 48) = true
      · obtain ⟨k, hk⟩ := ih
        refine ⟨k + 1, ?_⟩
        rw [if_pos h, List.replicate_succ, List.cons_append, ← hk, beq_iff_eq.1 h]
      · exact ⟨0, by rw [if_neg h]; rfl⟩
  obtain ⟨k, hk⟩ := key l.reverse
  refine ⟨k, ?_⟩
  unfold Lib.trimRightB
  have := congrArg List.reverse hk
  rw [List.reverse_reverse, List.reverse_append, List.reverse_replicate] at this
  exact this
theorem first9_trim {l : List UInt8} (h : l.length = 9) : first9 (Lib.trimRightB l 48) = l := by
  obtain ⟨k, hk⟩ := trim_back l
  generalize Lib.trimRightB l 48 = t at *
  subst hk
  unfold first9
  simp at h
  rw [List.take_append, List.take_of_length_le (by omega), List.take_replicate]
  congr 2; omega
theorem nine_dig (n : Nat) : (nine n).all isDig = true := by
  have h : ∀ i, isDig (digN n i) = true := fun i => (dig_u8 (Nat.mod_lt _ (by decide : 10 > 0))).1
  simp [nine, h]
theorem nine_val {n : Nat} (h : n < 1000000000) : dval (nine n) = n := by
  have d : ∀ i, (digN n i).toNat - 48 = n / 10 ^ i % 10 := fun i => (dig_u8 (Nat.mod_lt _ (by decide : 10 > 0))).2.1
  unfold nine dval
  simp only [List.foldl_cons, List.foldl_nil, dstep, d]
  simp
  omega
theorem trim_dig {l : List UInt8} (h : l.all isDig = true) : (Lib.trimRightB l 48).all isDig = true := by
  obtain ⟨k, hk⟩ := trim_back l
  rw [hk, List.all_append, Bool.and_eq_true] at h
  exact h.1
theorem trim_lenP (l : List UInt8) : (Lib.trimRightB l 48).length ≤ l.length := by
  obtain ⟨k, hk⟩ := trim_back l
  have := congrArg List.length hk
  rw [List.length_append] at this
  omega
/-- the parts of a text that is written -/
theorem text_parts (neg : Bool) (u n : Nat) (hn : n < 1000000000) :
    let l := (if neg then [45] else []) ++ Lib.decDigits u ++ (if 0 < n then 46 :: Lib.trimRightB (nine n) 48 else [])
    stNeg l = neg ∧ stWhole l = Lib.decDigits u ∧ stPart l = (if 0 < n then Lib.trimRightB (nine n) 48 else []) ∧ stDot l = decide (0 < n) := by
  intro l
  have hneg : stNeg l = neg := by
    unfold stNeg
    cases neg
    · rw [decide_eq_false_iff_not]
      show ¬ (([] ++ Lib.decDigits u) ++ _ : List UInt8).head? = some 45
      rw [List.nil_append, head_app (dd_ne u)]
      intro e
      have := List.all_eq_true.1 (dd_all u) 45 (List.mem_of_mem_head? e)
      cases this
    · rfl
  have hbody : stBody l = Lib.decDigits u ++ (if 0 < n then 46 :: Lib.trimRightB (nine n) 48 else []) := by
    unfold stBody
    rw [hneg]
    cases neg <;> rfl
  have hall := dd_all u
  unfold stWhole stPart stDot
  rw [hbody]
  generalize Lib.decDigits u = D at *
  by_cases h : 0 < n
  · rw [if_pos h, dot_dig hall]
    refine ⟨hneg, by rw [List.take_left], ?_, ?_⟩
    · rw [if_pos h, ← List.drop_drop, List.drop_left]; rfl
    · simp [h]
  · rw [if_neg h, List.append_nil, dot_dig0 hall]
    exact ⟨hneg, by rw [List.take_of_length_le (Nat.le_refl _)], by rw [if_neg h]; exact List.drop_eq_nil_of_le (by omega), by simp [h]⟩
theorem text_len (neg : Bool) (u n : Nat) (hu : u ≤ 1099511627776) : ((if neg then [45] else []) ++ Lib.decDigits u ++ (if 0 < n then 46 :: Lib.trimRightB (nine n) 48 else [] : List UInt8)).length ≤ 24 := by
  have h1 := dd_len 12 u (by have : (10 : Nat) ^ 13 = 10000000000000 := by decide
                             omega)
  have h2 := trim_lenP (nine n)
  rw [nine_len] at h2
  rw [List.length_append, List.length_append]
  have h3 : (if neg then [45] else [] : List UInt8).length ≤ 1 := by cases neg <;> decide
  have h4 : (if 0 < n then 46 :: Lib.trimRightB (nine n) 48 else [] : List UInt8).length ≤ 10 := by
    split
    · rw [List.length_cons]; omega
    · exact Nat.zero_le _
  omega
theorem text_shape {s n : Int} (h : stampOk s n = true) :
    ∃ u m : Nat, u ≤ 1099511627776 ∧ m < 1000000000 ∧ stText s n = (if decide (s < 0) then [45] else []) ++ Lib.decDigits u ++ (if 0 < m then 46 :: Lib.trimRightB (nine m) 48 else []) ∧ stSec s n = u ∧ stNano s n = m := by
  simp only [stampOk, decide_eq_true_eq] at h
  obtain ⟨h1, h2, h3, h4, h5⟩ := h
  have hs : 0 ≤ stSec s n ∧ stSec s n ≤ 1099511627776 := by unfold stSec; split <;> (try split) <;> omega
  have hn : 0 ≤ stNano s n ∧ stNano s n < 1000000000 := by unfold stNano; split <;> omega
  refine ⟨(stSec s n).toNat, (stNano s n).toNat, by omega, by omega, ?_, by omega, by omega⟩
  unfold stText
  have e1 : Lib.itoa (stSec s n) = Lib.decDigits (stSec s n).toNat := by unfold Lib.itoa; rw [if_neg (by omega)]
  rw [e1, itoa_nine _ hn.1 hn.2]
  have e2 : (0 < stNano s n) = (0 < (stNano s n).toNat) := by apply propext; omega
  simp only [e2, decide_eq_true_eq]
/-- what is written is read again as it was -/
theorem round_text {s n : Int} (h : stampOk s n = true) : stErr (stText s n) = 0 ∧ stS (stText s n) = s ∧ stN (stText s n) = n := by
  obtain ⟨u, m, hu, hm, ht, hs, hn⟩ := text_shape h
  have hl := text_len (decide (s < 0)) u m hu
  obtain ⟨p1, p2, p3, p4⟩ := text_parts (decide (s < 0)) u m hm
  rw [← ht] at hl p1 p2 p3 p4
  generalize stText s n = l at *
  have hbad : stBad l = false := by
    unfold stBad
    rw [p2, p3, p4]
    have e1 : allDig (Lib.decDigits u) = true := by
      unfold allDig; rw [dd_all]
      have := dd_ne u
      cases hx : Lib.decDigits u with
      | nil => exact absurd hx this
      | cons => rfl
    rw [e1]
    have e2 : (decide (1 < (Lib.decDigits u).length) && decide ((Lib.decDigits u).head? = some 48)) = false := by
      rw [← Bool.decide_and, decide_eq_false (dd_zero u)]
    rw [e2]
    by_cases h0 : 0 < m
    · rw [if_pos h0]
      have e3 : allDig (Lib.trimRightB (nine m) 48) = true := by
        unfold allDig; rw [trim_dig (nine_dig m)]
        have := nine_trim h0 hm
        cases hx : Lib.trimRightB (nine m) 48 with
        | nil => exact absurd hx this
        | cons => rfl
      rw [e3]; simp
    · simp [h0]
  have h9 : (first9 (stPart l)) = nine m := by
    rw [p3]
    split
    · exact first9_trim rfl
    · have : m = 0 := by omega
      subst this; decide
  have hup : stUp l = false := by
    unfold stUp
    rw [p3]
    have : (if 0 < m then Lib.trimRightB (nine m) 48 else []).length ≤ 9 := by
      split
      · have := trim_lenP (nine m); rw [nine_len] at this; exact this
      · exact Nat.zero_le _
    rw [List.drop_eq_nil_of_le this]; rfl
  have hnan : stNan l = m := by
    unfold stNan
    rw [h9, nine_val hm, hup]; simp
  have hsec : stSecV l = s ∧ stNanoV l = n := by
    unfold stSecV stNanoV
    rw [hnan, p2, dd_val, p1, ← hs, ← hn]
    unfold stSec stNano at *
    simp only [stampOk, decide_eq_true_eq] at h
    by_cases h1 : s < 0
    · simp only [h1, decide_true, if_true, true_and]
      by_cases h2 : 0 < n
      · simp only [h2, if_true]
        rw [if_pos (by omega), if_pos (by omega)]; omega
      · simp only [h2, if_false]
        first | omega | (rw [if_neg (by omega), if_neg (by omega)]; omega)
    · simp only [h1, decide_false, Bool.false_eq_true, if_false, false_and, and_self]
  obtain ⟨a, b, c⟩ := st_ok (l := l) (by omega) hbad (by rw [hsec.1, hsec.2]; exact h)
  exact ⟨a, b.trans hsec.1, c.trans hsec.2⟩
/-- what is read is a valid time -/
theorem read_valid {l : List UInt8} (h : stErr l = 0) : stampOk (stS l) (stN l) = true := by
  unfold stS stN
  rw [if_pos h, if_pos h]
  unfold stErr at h
  split at h
  · omega
  split at h
  · omega
  split at h
  · omega
  split at h
  · rename_i h2; exact h2
  · omega
theorem read_zero {l : List UInt8} (h : stErr l ≠ 0) : stS l = 0 ∧ stN l = 0 := by
  unfold stS stN
  rw [if_neg h, if_neg h]; exact ⟨rfl, rfl⟩
theorem stText_len {s n : Int} (h : stampOk s n = true) : (stText s n).length ≤ 24 := by
  obtain ⟨u, m, hu, hm, ht, hs, hn⟩ := text_shape h
  rw [ht]; exact text_len _ u m hu
/-- a nought behind a fraction changes nothing -/
theorem nought {l : List UInt8} (hl : l.length < 64) (h46 : 46 ∈ l) (hp : stPart l ≠ []) : stErr (l ++ [48]) = stErr l ∧ stS (l ++ [48]) = stS l ∧ stN (l ++ [48]) = stN l := by
  have hne : l ≠ [] := fun e => by rw [e] at h46; cases h46
  have p1 : stNeg (l ++ [48]) = stNeg l := by unfold stNeg; rw [head_app hne]
  have pb : stBody (l ++ [48]) = stBody l ++ [48] := by
    unfold stBody
    rw [p1]
    cases stNeg l
    · rfl
    · simp only [if_true]
      exact List.drop_append_of_le_length (List.length_pos_iff.2 hne)
  have hb : 46 ∈ stBody l := by
    unfold stBody
    cases hn : stNeg l
    · exact h46
    · simp only [if_true]
      obtain ⟨c, r, rfl⟩ : ∃ c r, l = c :: r := by cases l with | nil => exact absurd rfl hne | cons c r => exact ⟨c, r, rfl⟩
      unfold stNeg at hn
      simp only [List.head?_cons, Option.some.injEq, decide_eq_true_eq] at hn
      subst hn
      rcases List.mem_cons.1 h46 with e | e
      · cases e
      · exact e
  have hd : dotAt (stBody l) < (stBody l).length := List.findIdx_lt_length.2 ⟨46, hb, rfl⟩
  have pd : dotAt (stBody (l ++ [48])) = dotAt (stBody l) := by
    rw [pb]
    unfold dotAt at *
    rw [List.findIdx_append, if_pos hd]
  have p2 : stWhole (l ++ [48]) = stWhole l := by
    unfold stWhole
    rw [pd, pb, List.take_append_of_le_length (by omega)]
  have p3 : stPart (l ++ [48]) = stPart l ++ [48] := by
    unfold stPart
    rw [pd, pb, List.drop_append_of_le_length (by omega)]
  have p4 : stDot (l ++ [48]) = stDot l := by
    unfold stDot
    rw [pd, pb, decide_eq_true hd, List.length_append, decide_eq_true (by omega)]
  have p5 : allDig (stPart l ++ [48]) = allDig (stPart l) := by
    unfold allDig
    rw [List.all_append]
    have e1 : (stPart l ++ [48]).isEmpty = false := by simp
    have e2 : (stPart l).isEmpty = false := by
      cases hx : stPart l with
      | nil => exact absurd hx hp
      | cons => rfl
    rw [e1, e2]
    have e3 : ([48] : List UInt8).all isDig = true := by decide
    rw [e3, Bool.and_true]
  have p6 : stBad (l ++ [48]) = stBad l := by unfold stBad; rw [p2, p3, p4, p5]
  have p7 : first9 (stPart l ++ [48]) = first9 (stPart l) := by
    unfold first9
    have e : ∀ m, ([48] ++ List.replicate m 48 : List UInt8) = List.replicate (m + 1) 48 := fun m => rfl
    rw [List.append_assoc, e, List.take_append, List.take_append, List.take_replicate, List.take_replicate]
    congr 2; omega
  have p8 : stUp (l ++ [48]) = stUp l := by
    unfold stUp
    rw [p3]
    by_cases h9 : 9 ≤ (stPart l).length
    · rw [List.drop_append_of_le_length h9, List.any_append]
      have e3 : ([48] : List UInt8).any (· != 48) = false := by decide
      rw [e3, Bool.or_false]
    · rw [List.drop_eq_nil_of_le (by rw [List.length_append]; simp; omega), List.drop_eq_nil_of_le (by omega)]
  have p9 : stNan (l ++ [48]) = stNan l := by unfold stNan; rw [p3, p7, p1, p8]
  have pa : stSecV (l ++ [48]) = stSecV l := by unfold stSecV; rw [p1, p9, p2]
  have pc : stNanoV (l ++ [48]) = stNanoV l := by unfold stNanoV; rw [p1, p9]
  have pe : stErr (l ++ [48]) = stErr l := by
    unfold stErr
    have q1 : ¬ 64 < (l ++ [48]).length := by rw [List.length_append]; simp; omega
    have q2 : ¬ 64 < l.length := by omega
    rw [pa, pc, p6, p2, if_neg q1, if_neg q2]
  refine ⟨pe, ?_, ?_⟩
  · unfold stS; rw [pe, pa]
  · unfold stN; rw [pe, pc]
/-- a text with a dot and nothing behind it is none, and ends in the dot -/
theorem nought_none {l : List UInt8} (h46 : 46 ∈ l) (hp : stPart l = []) : stErr l ≠ 0 ∧ l.getLast? = some 46 := by
  have hne : l ≠ [] := fun e => by rw [e] at h46; cases h46
  have hb : 46 ∈ stBody l := by
    unfold stBody
    cases hn : stNeg l
    · exact h46
    · simp only [if_true]
      obtain ⟨c, r, rfl⟩ : ∃ c r, l = c :: r := by cases l with | nil => exact absurd rfl hne | cons c r => exact ⟨c, r, rfl⟩
      unfold stNeg at hn
      simp only [List.head?_cons, Option.some.injEq, decide_eq_true_eq] at hn
      subst hn
      rcases List.mem_cons.1 h46 with e | e
      · cases e
      · exact e
  have hd : dotAt (stBody l) < (stBody l).length := List.findIdx_lt_length.2 ⟨46, hb, rfl⟩
  constructor
  · have hbad : stBad l = true := by
      unfold stBad stDot
      rw [hp, decide_eq_true hd]; rfl
    unfold stErr
    rw [hbad]
    split <;> simp
  · have h1 : dotAt (stBody l) + 1 = (stBody l).length := by
      unfold stPart at hp
      rw [List.drop_eq_nil_iff] at hp
      omega
    have h2 : (stBody l).getLast? = some 46 := by
      rw [List.getLast?_eq_getElem?, List.getElem?_eq_getElem (by omega)]
      have := List.findIdx_getElem (p := (· == 46)) (xs := stBody l) (w := hd)
      rw [beq_iff_eq] at this
      rw [← this]
      congr 2
      unfold dotAt at h1
      omega
    unfold stBody at h2
    cases hn : stNeg l
    · rw [hn] at h2; exact h2
    · rw [hn] at h2
      simp only [if_true] at h2
      obtain ⟨c, r, rfl⟩ : ∃ c r, l = c :: r := by cases l with | nil => exact absurd rfl hne | cons c r => exact ⟨c, r, rfl⟩
      simp only [List.drop_succ_cons, List.drop_zero] at h2
      rw [List.getLast?_cons, h2]; rfl
end Go.Proofs.YtfhfcipelgogjaaGreatDoor
namespace Go.Proofs.YtfhfcipelgogjaaGreatDoor
open Go.RowKit
set_option linter.unusedVariables false
set_option linter.unusedSimpArgs false
theorem dec_itoa {v : Int} (h : ownerOk v = true) : decErr (Lib.itoa v) = 0 ∧ decV (Lib.itoa v) = v := by
  unfold ownerOk at h
  rw [decide_eq_true_eq] at h
  obtain ⟨n, rfl⟩ := Int.eq_ofNat_of_zero_le h.1
  have e : Lib.itoa (n : Int) = Lib.decDigits n := by
    unfold Lib.itoa
    rw [if_neg (by omega)]
    simp
  rw [e]
  have hv := dd_val n
  obtain ⟨h1, h2⟩ := dec_ok (l := Lib.decDigits n) (bad_not (dd_ne n) (dd_zero n) (dd_all n)) (by rw [hv]; omega)
  exact ⟨h2, by rw [h1, hv]⟩
theorem arr_data (s : ByteArray) : (⟨s.data.toList.toArray⟩ : ByteArray) = s := by cases s; simp
theorem emp_iff {s : ByteArray} (h : s.toList.isEmpty = true) : s = ⟨#[]⟩ := by
  rw [List.isEmpty_iff, ByteArray.toList_eq] at h
  cases s with | mk a => simp at h; rw [h]
theorem head_text {d : LineD} (h : rOk d = true) : headF (permText d.kind d.mode) (Lib.itoa d.uid) (Lib.itoa d.gid) (stText d.mtime.sec d.mtime.nano) (esc d.path.data.toList) = some { d with data := [], target := ⟨#[]⟩, peer := ⟨#[]⟩ } := by
  unfold rOk at h
  simp only [Bool.and_eq_true, decide_eq_true_eq] at h
  obtain ⟨⟨⟨⟨⟨hk, hu⟩, hg⟩, ht⟩, hp⟩, _⟩ := h
  have hpo : permOk d.kind d.mode = true := decide_eq_true ⟨hk.1, by omega, hk.2.2.1, hk.2.2.2⟩
  obtain ⟨u1, u2⟩ := dec_itoa hu
  obtain ⟨g1, g2⟩ := dec_itoa hg
  obtain ⟨t1, t2, t3⟩ := round_text ht
  unfold headF
  rw [permP_text hpo, unesc_esc]
  simp only []
  rw [if_pos ⟨u1, g1, t1⟩, u2, g2, t2, t3, arr_data, Int.toNat_of_nonneg (by omega), Int.toNat_of_nonneg hk.2.2.1]
theorem lineF_text {d : LineD} (h : rOk d = true) : lineF restR (lineBody d) = some d := by
  have hh := head_text h
  have hc : checkF (lineBody d) d = some d := by unfold checkF; rw [if_pos ⟨h, rfl⟩]
  have hr := h
  unfold rOk at hr
  simp only [Bool.and_eq_true, decide_eq_true_eq] at hr
  obtain ⟨⟨⟨⟨⟨hk, _⟩, _⟩, _⟩, _⟩, htl⟩ := hr
  have hs := split_body d
  unfold lineF
  rw [hs]
  have hm : tailMark d = if d.peer.toList.isEmpty then (if d.data.length = 0 then (if d.kind = 3 then [45, 62] else []) else [58]) else [61] := rfl
  have hf : tailField d = if d.peer.toList.isEmpty then (if d.data.length = 0 then (if d.kind = 3 then d.target else ⟨#[]⟩) else ⟨d.data.toArray⟩) else d.peer := rfl
  by_cases hp : d.peer.toList.isEmpty = true
  · rw [if_pos hp, Bool.and_eq_true] at htl
    rw [if_pos hp] at hm hf
    have ep := emp_iff hp
    by_cases hd : d.data.length = 0
    · rw [if_pos hd] at hm hf
      have ed := List.eq_nil_of_length_eq_zero hd
      by_cases hk3 : d.kind = 3
      · rw [if_pos hk3] at hm hf
        rw [if_neg (by rw [hm]; simp), hm, hf]
        simp only [List.cons_append, List.nil_append, hh, Option.bind_some]
        unfold restR
        rw [unesc_esc]
        simp only [Option.bind_some]
        rw [if_neg (by decide), if_neg (by decide), arr_data]
        have : { ({ d with data := [], target := ⟨#[]⟩, peer := ⟨#[]⟩ } : LineD) with target := d.target } = d := by
          cases d; simp only at ep ed; subst ep ed; rfl
        rw [this, hc]
      · rw [if_neg hk3] at hm hf
        rw [if_pos hm]
        simp only [List.append_nil, hh, Option.bind_some]
        have et : d.target = ⟨#[]⟩ := by
          apply emp_iff
          have h3 : (d.kind == 3) = false := by simpa using hk3
          rw [h3] at htl
          simpa using htl.2
        have : ({ d with data := [], target := ⟨#[]⟩, peer := ⟨#[]⟩ } : LineD) = d := by
          cases d; simp only at ep ed et; subst ep ed et; rfl
        rw [this, hc]
    · rw [if_neg hd] at hm hf
      rw [if_neg (by rw [hm]; simp), hm, hf]
      simp only [List.cons_append, List.nil_append, hh, Option.bind_some]
      unfold restR
      rw [unesc_esc]
      simp only [Option.bind_some]
      rw [if_neg (by decide), if_pos trivial]
      have hk1 : d.kind = 1 := by
        have h1 := htl.1
        have h0 : (d.data.length == 0) = false := by simpa using hd
        rw [h0, Bool.or_false] at h1
        simpa using h1
      have et : d.target = ⟨#[]⟩ := by
        apply emp_iff
        have h3 : (d.kind == 3) = false := by rw [hk1]; rfl
        rw [h3] at htl
        simpa using htl.2
      have : { ({ d with data := [], target := ⟨#[]⟩, peer := ⟨#[]⟩ } : LineD) with data := d.data } = d := by
        cases d; simp only at ep et; subst ep et; rfl
      rw [this, hc]
  · rw [if_neg hp] at htl hm hf
    rw [if_neg (by rw [hm]; simp), hm, hf]
    simp only [List.cons_append, List.nil_append, hh, Option.bind_some]
    unfold restR
    rw [unesc_esc]
    simp only [Option.bind_some]
    rw [if_pos trivial, arr_data]
    simp only [Bool.and_eq_true, beq_iff_eq] at htl
    have ed := List.eq_nil_of_length_eq_zero htl.1.1
    have et := emp_iff htl.1.2
    have : { ({ d with data := [], target := ⟨#[]⟩, peer := ⟨#[]⟩ } : LineD) with peer := d.peer } = d := by
      cases d; simp only at ed et; subst ed et; rfl
    rw [this, hc]
end Go.Proofs.YtfhfcipelgogjaaGreatDoor
