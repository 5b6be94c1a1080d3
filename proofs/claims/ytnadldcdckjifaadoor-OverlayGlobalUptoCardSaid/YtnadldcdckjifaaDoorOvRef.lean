/- The reference's parts of Apply: Latest, found, text, number, sparse. No condition but room. -/
import Derived.Test.YtnadldcdckjifaaDoorOvNumber
namespace Go.Proofs.YtnadldcdckjifaaDoor
open Go.RowKit
set_option linter.unusedVariables false
set_option linter.unusedSimpArgs false
attribute [local go_sem] cell?_over frozen?_over lt_over le_over
theorem size_empty' (s : ByteArray) : s.toList.isEmpty = decide (s.size = 0) := by
  rw [ByteArray.toList_eq]
  have : s.size = s.data.toList.length := by rw [Array.length_toList]; rfl
  rw [this]
  cases s.data.toList <;> simp
theorem latest_step {l : List PairD} {k : Nat} (key : ByteArray) (h : k < l.length) : latest (l.take (k + 1)) key = if l[k].key = key then some l[k].value else latest (l.take k) key := by
  rw [List.take_succ_eq_append_getElem h, latest_snoc]
set_option maxHeartbeats 1000000 in
set_option maxRecDepth 100000 in
theorem refLatest {A : Option Addr} {n c : Nat} {l : List PairD} (key : ByteArray) (w : World) (h : Row Shape.PairD w (Old w) A n l) (hn : n ≤ 140737488355328) :
    Calls Tryd.prog 63 #[.slice A n c, .string key] w fun e w' => e = .returned (.tuple #[.string ((latest l key).getD ⟨#[]⟩), .bool (latest l key).isSome]) ∧ w' = w := by
  have HL := Lib.hid h.1
  go_enter Tryd.func63, Tryd.ntmps63
  go_wp2_with fail
  go_loopw [6, 7, 8] (fun v ok i wr => ∃ k : Nat, k ≤ n ∧ i = .int .i64 k ∧ v = .string ((latest (l.take k) key).getD ⟨#[]⟩) ∧ ok = .bool (latest (l.take k) key).isSome ∧ wr = w) (fun _ _ i _ => n - (intOf i).toNat)
  case atStart => exact ⟨0, Nat.zero_le _, rfl, rfl, rfl, rfl⟩
  case round =>
    obtain ⟨k, hk, rfl, rfl, rfl, rfl⟩ := hrel
    by_cases hlt : k < n
    · obtain ⟨b, off, es, hkl, rfl, hb, hc, hc0, hr⟩ := h.elem (Keeps.old (Below.refl _ _)) hlt
      obtain ⟨rfl, -⟩ := hr
      have e13 : Shape.PairD.size = 2 := rfl
      simp only [e13] at hc hc0
      clear e13
      have c1 := hc 1 (by decide)
      simp only [List.getElem?_cons_succ, List.getElem?_cons_zero] at c1 hc0
      have hb2 : b < wr.heap.size := hb
      have hks : (k : Int) < n := by omega
      have hst := latest_step key hkl
      have HST := Lib.hid hst; clear hst
      generalize l[k] = d at *
      by_cases hkey : d.key = key
      · have HE := Lib.hid (show latest (l.take (k + 1)) key = some d.value by rw [HST.out, if_pos hkey])
        subst hkey
        go_wp2_with fail
        go_roundw
        case rel => exact ⟨k + 1, by omega, by go_num, by rw [HE.out]; rfl, by rw [HE.out]; rfl, trivial⟩
        case measure => simp [intOf]; omega
      · have hne := str_ne hkey
        have HE := Lib.hid (show latest (l.take (k + 1)) key = latest (l.take k) key by rw [HST.out, if_neg hkey])
        clear hkey
        go_wp2_with fail
        go_roundw
        case rel => exact ⟨k + 1, by omega, by go_num, by rw [HE.out], by rw [HE.out], trivial⟩
        case measure => simp [intOf]; omega
    · have htk : l.take k = l := List.take_of_length_le (by rw [HL.out]; omega)
      rw [htk]
      go_wp2
      go_ret2
      exact ⟨rfl, rfl⟩
set_option maxHeartbeats 1000000 in
set_option maxRecDepth 100000 in
theorem refFound {A A' : Option Addr} {n c n' c' : Nat} {g l : List PairD} (key : ByteArray) (w : World) (h : Row Shape.PairD w (Old w) A n g) (h' : Row Shape.PairD w (Old w) A' n' l) (hn : n ≤ 140737488355328) (hn' : n' ≤ 140737488355328) :
    Calls Tryd.prog 44 #[.slice A n c, .slice A' n' c', .string key] w fun e w' => e = .returned (.tuple #[.string (foundV g l key), .bool (foundL l key)]) ∧ w' = w := by
  have HL := Lib.hid (refLatest (c := c') key w h' hn')
  have HG := Lib.hid (refLatest (c := c) key w h hn)
  go_enter Tryd.func44, Tryd.ntmps44
  go_wp2_with fail
  refine HL.out.mono ?_
  rintro e w2 ⟨rfl, rfl⟩
  cases hl : latest l key with
  | some v =>
    have HV := Lib.hid (show foundV g l key = v by unfold foundV; rw [hl])
    have HO := Lib.hid (show foundL l key = decide (v.size ≠ 0) by unfold foundL; rw [hl])
    simp only [Option.getD_some, Option.isSome_some]
    have hse := size_empty' v
    by_cases hv : v.size = 0
    · rw [decide_eq_true hv] at hse
      have HD := Lib.hid (show decide (v.size ≠ 0) = false by simpa using hv)
      have HE := Lib.hid (show v = ⟨#[]⟩ by
        obtain ⟨d⟩ := v
        have : d = #[] := Array.eq_empty_of_size_eq_zero hv
        rw [this])
      clear hl hv
      go_wp2_with fail
      go_ret2
      rw [HV.out, HO.out, HD.out, HE.out]
      exact ⟨rfl, rfl⟩
    · rw [decide_eq_false hv] at hse
      have HD := Lib.hid (show decide (v.size ≠ 0) = true by simpa using hv)
      clear hl hv
      go_wp2_with fail
      go_ret2
      rw [HV.out, HO.out, HD.out]
      exact ⟨rfl, rfl⟩
  | none =>
    have HV := Lib.hid (show foundV g l key = (latest g key).getD ⟨#[]⟩ by unfold foundV; rw [hl])
    have HO := Lib.hid (show foundL l key = false by unfold foundL; rw [hl])
    simp only [Option.getD_none, Option.isSome_none]
    clear hl
    go_wp2_with fail
    refine HG.out.mono ?_
    rintro e w3 ⟨rfl, rfl⟩
    go_wp2_with fail
    go_ret2
    rw [HV.out, HO.out]
    exact ⟨rfl, rfl⟩
set_option maxHeartbeats 1000000 in
set_option maxRecDepth 100000 in
theorem refText {A A' : Option Addr} {n c n' c' : Nat} {g l : List PairD} (key long plain : ByteArray) (w : World) (h : Row Shape.PairD w (Old w) A n g) (h' : Row Shape.PairD w (Old w) A' n' l) (hn : n ≤ 140737488355328) (hn' : n' ≤ 140737488355328) :
    Calls Tryd.prog 45 #[.slice A n c, .slice A' n' c', .string key, .string long, .string plain] w fun e w' => e = .returned (.string (textOf g l key long plain)) ∧ w' = w := by
  have HF := Lib.hid (refFound (c := c) (c' := c') key w h h' hn hn')
  clear h h'
  have HT : Hid (textOf g l key long plain = if foundL l key then foundV g l key else if long.size ≠ 0 then long else if (foundV g l key).size ≠ 0 then foundV g l key else plain) := Lib.hid rfl
  generalize textOf g l key long plain = T at *
  generalize foundV g l key = V at *
  rcases (by cases foundL l key <;> simp : foundL l key = true ∨ foundL l key = false) with hL | hL
  · rw [hL] at HF HT
    have HR := Lib.hid (show T = V from HT.out)
    clear hL HT
    go_enter Tryd.func45, Tryd.ntmps45
    go_wp2_with fail
    refine HF.out.mono ?_
    rintro e w2 ⟨rfl, rfl⟩
    go_wp2_with fail
    go_ret
    rw [HR.out]
    exact ⟨rfl, rfl⟩
  rw [hL] at HF HT
  clear hL
  have hlo := size_empty' long
  have hVe := size_empty' V
  by_cases h1 : long.size = 0
  · rw [decide_eq_true h1] at hlo
    by_cases h2 : V.size = 0
    · rw [decide_eq_true h2] at hVe
      have HR := Lib.hid (show T = plain by rw [HT.out]; simp [h1, h2])
      clear h1 h2
      go_enter Tryd.func45, Tryd.ntmps45
      go_wp2_with fail
      refine HF.out.mono ?_
      rintro e w2 ⟨rfl, rfl⟩
      go_wp2_with fail
      go_ret
      rw [HR.out]
      exact ⟨rfl, rfl⟩
    · rw [decide_eq_false h2] at hVe
      have HR := Lib.hid (show T = V by rw [HT.out]; simp [h1, h2])
      clear h1 h2
      go_enter Tryd.func45, Tryd.ntmps45
      go_wp2_with fail
      refine HF.out.mono ?_
      rintro e w2 ⟨rfl, rfl⟩
      go_wp2_with fail
      go_ret
      rw [HR.out]
      exact ⟨rfl, rfl⟩
  · rw [decide_eq_false h1] at hlo
    have HR := Lib.hid (show T = long by rw [HT.out]; simp [h1])
    clear h1 hVe
    go_enter Tryd.func45, Tryd.ntmps45
    go_wp2_with fail
    refine HF.out.mono ?_
    rintro e w2 ⟨rfl, rfl⟩
    go_wp2_with fail
    go_ret
    rw [HR.out]
    exact ⟨rfl, rfl⟩
set_option maxHeartbeats 1000000 in
set_option maxRecDepth 100000 in
theorem refNumber {A A' : Option Addr} {n c n' c' : Nat} {g l : List PairD} (key : ByteArray) (plain most : Int) (w : World) (h : Row Shape.PairD w (Old w) A n g) (h' : Row Shape.PairD w (Old w) A' n' l) (hn : n ≤ 140737488355328) (hn' : n' ≤ 140737488355328) (hV : (foundV g l key).size ≤ 140737488355328) :
    Calls Tryd.prog 43 #[.slice A n c, .slice A' n' c', .string key, .int .i64 plain, .int .i64 most] w fun e w' => e = .returned (.tuple #[.int .i64 (numN (foundV g l key) plain), .bool (numOk (foundV g l key) most)]) ∧ w' = w := by
  have HF := Lib.hid (refFound (c := c) (c' := c') key w h h' hn hn')
  clear h h'
  generalize foundV g l key = V at *
  generalize foundL l key = L at *
  have hVe := size_empty' V
  by_cases h2 : V.size = 0
  · rw [decide_eq_true h2] at hVe
    have HN := Lib.hid (show numN V plain = plain ∧ numOk V most = true by unfold numN numOk; rw [if_pos h2, if_pos h2]; exact ⟨rfl, rfl⟩)
    clear h2
    go_enter Tryd.func43, Tryd.ntmps43
    go_wp2_with fail
    refine HF.out.mono ?_
    rintro e w2 ⟨rfl, rfl⟩
    go_wp2_with fail
    go_ret2
    rw [HN.out.1, HN.out.2]
    exact ⟨rfl, rfl⟩
  · rw [decide_eq_false h2] at hVe
    have HN := Lib.hid (show numN V plain = decV V.data.toList ∧ numOk V most = (decide (decErr V.data.toList = 0) && decide (decV V.data.toList ≤ most)) by unfold numN numOk; rw [if_neg h2, if_neg h2]; exact ⟨rfl, rfl⟩)
    clear h2
    have HD := Lib.hid (refDecimal V w hV)
    go_enter Tryd.func43, Tryd.ntmps43
    go_wp2_with fail
    refine HF.out.mono ?_
    rintro e w2 ⟨rfl, rfl⟩
    go_wp2_with fail
    refine HD.out.mono ?_
    rintro e w3 ⟨rfl, rfl⟩
    generalize decV V.data.toList = X at *
    generalize decErr V.data.toList = E at *
    rcases (by by_cases h : E = 0; exact .inl h; exact .inr h : E = 0 ∨ ¬ E = 0) with hE | hE
    · subst hE
      by_cases hm : X ≤ most
      · go_wp2_with fail
        go_ret2
        rw [HN.out.1, HN.out.2]
        exact ⟨by simp [hm], rfl⟩
      · go_wp2_with fail
        go_ret2
        rw [HN.out.1, HN.out.2]
        exact ⟨by simp [hm], rfl⟩
    · have hE2 : (E == 0) = false := by simpa using hE
      go_wp2_with fail
      go_ret2
      rw [HN.out.1, HN.out.2]
      exact ⟨by simp [hE], rfl⟩
theorem pref_len {l : List UInt8} (h : l.length < 11) : Lib.hasPrefix l spKey = false := by
  unfold Lib.hasPrefix
  rw [← Bool.not_eq_true, List.isPrefixOf_iff_prefix]
  intro hp
  have := hp.length_le
  have e : spKey.length = 11 := rfl
  omega
theorem pref_take {l : List UInt8} (h : ¬ l.length < 11) : Lib.hasPrefix l spKey = decide (l.take 11 = spKey) := by
  unfold Lib.hasPrefix
  rw [Bool.eq_iff_iff, List.isPrefixOf_iff_prefix, decide_eq_true_eq]
  have e : spKey.length = 11 := rfl
  rw [List.prefix_iff_eq_take, e, eq_comm]
set_option maxHeartbeats 1000000 in
set_option maxRecDepth 100000 in
theorem refSparse {A : Option Addr} {n c : Nat} {l : List PairD} (w : World) (h : Row Shape.PairD w (Old w) A n l) (hn : n ≤ 140737488355328) :
    Calls Tryd.prog 42 #[.slice A n c] w fun e w' => e = .returned (.bool (sparseL l)) ∧ w' = w := by
  have HL := Lib.hid h.1
  go_enter Tryd.func42, Tryd.ntmps42
  go_wp2_with fail
  go_loopw [3] (fun i wr => ∃ k : Nat, k ≤ n ∧ i = .int .i64 k ∧ (l.take k).any spOf = false ∧ wr = w) (fun i _ => n - (intOf i).toNat)
  case atStart => exact ⟨0, Nat.zero_le _, rfl, rfl, rfl⟩
  case round =>
    obtain ⟨k, hk, rfl, ht, rfl⟩ := hrel
    have HT := Lib.hid ht; clear ht
    by_cases hlt : k < n
    · obtain ⟨b, off, es, hkl, rfl, hb, hc, hc0, hr⟩ := h.elem (Keeps.old (Below.refl _ _)) hlt
      obtain ⟨rfl, hk1, -⟩ := hr
      have e13 : Shape.PairD.size = 2 := rfl
      simp only [e13] at hc hc0
      clear e13
      simp only [List.getElem?_cons_zero] at hc0
      have hb2 : b < wr.heap.size := hb
      have hks : (k : Int) < n := by omega
      have hst := any_take spOf hkl
      have hin := any_in spOf hkl
      generalize l[k] = d at *
      have HST := Lib.hid hst; clear hst
      have HIN := Lib.hid hin; clear hin hc
      by_cases h11 : d.key.size < 11
      · have hp : spOf d = false := pref_len (by rw [len_data]; exact h11)
        have HP := Lib.hid hp; clear hp
        have h112 : ¬ (11 : Int) ≤ d.key.size := by omega
        go_wp2_with fail
        go_roundw
        case rel => exact ⟨k + 1, by omega, by go_num, by rw [HST.out, HT.out, HP.out]; rfl, trivial⟩
        case measure => simp [intOf]; omega
      · have h112 : (11 : Int) ≤ d.key.size := by omega
        have hp := pref_take (l := d.key.data.toList) (by rw [len_data]; exact h11)
        have hx : (d.key.extract 0 11).data.toList = d.key.data.toList.take 11 := by rw [ByteArray.data_extract]; simp
        have he2 : ((d.key.extract 0 11).toList == [71, 78, 85, 46, 115, 112, 97, 114, 115, 101, 46]) = spOf d := by
          unfold spOf
          rw [hp, ByteArray.toList_eq, hx, Bool.eq_iff_iff, beq_iff_eq, decide_eq_true_eq]; rfl
        clear hp hx
        cases hs : spOf d
        · rw [hs] at he2
          have HP := Lib.hid hs; clear hs
          go_wp2_with fail
          go_roundw
          case rel => exact ⟨k + 1, by omega, by go_num, by rw [HST.out, HT.out, HP.out]; rfl, trivial⟩
          case measure => simp [intOf]; omega
        · rw [hs] at he2
          have HP := Lib.hid hs; clear hs
          go_wp2_with fail
          go_ret
          exact ⟨ret_bool (HIN.out HP.out).symm, rfl⟩
    · go_wp2
      go_ret
      refine ⟨ret_bool ?_, rfl⟩
      have h1 := HT.out
      rw [List.take_of_length_le (by rw [HL.out]; omega)] at h1
      exact h1.symm
end Go.Proofs.YtnadldcdckjifaaDoor
