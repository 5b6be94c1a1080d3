/- The reference's answers over a script of steps: what they compute. No condition but that the step's number is at most the script's length. -/
import Derived.Test.YtphloeafgblmnaaData1
import Derived.Test.YtphloeafgblmnaaLevels
import Derived.Laws.BytesArg
set_option linter.unusedSectionVars false
set_option linter.unusedVariables false
set_option linter.unusedSimpArgs false
namespace Go.Proofs.Ytphloeafgblmnaa
open Go.RowKit
attribute [local go_sem] cell?_over frozen?_over lt_over le_over lt2 lt3 lt4

/-- what the first i steps left for a key at a level: 0 nothing, 1 set, 2 hidden; and the value -/
def lastS (l : List OpD) (level : Int) (key : ByteArray) : Nat → Int × Int
  | 0 => (0, 0)
  | i + 1 => match l[i]? with
    | none => lastS l level key i
    | some o => if o.level = level then (if o.what = 3 then (0, 0) else if o.key = key ∧ o.what = 2 then (2, 0) else if o.key = key ∧ o.what = 1 then (1, o.val) else lastS l level key i) else lastS l level key i
theorem lastS_succ (l : List OpD) (level : Int) (key : ByteArray) (i : Nat) (hi : i < l.length) : lastS l level key (i + 1) =
    if l[i].level = level then (if l[i].what = 3 then (0, 0) else if l[i].key = key ∧ l[i].what = 2 then (2, 0) else if l[i].key = key ∧ l[i].what = 1 then (1, l[i].val) else lastS l level key i) else lastS l level key i := by
  rw [lastS, List.getElem?_eq_getElem hi]
theorem str_eq_yes {a b : ByteArray} (h : a = b) : (a.toList == b.toList) = true := by rw [h]; simp
theorem str_eq_no {a b : ByteArray} (h : ¬ a = b) : (a.toList == b.toList) = false := by
  cases hc : a.toList == b.toList with
  | false => rfl
  | true =>
    rw [← beq_toListBytes] at hc
    exact absurd ((ba_beq a b).1 hc) h

set_option maxRecDepth 100000 in
set_option maxHeartbeats 1000000 in
theorem refLast {A : Option Addr} {n c : Nat} {l : List OpD} (w : World) (h : Row Shape.OpD w (Old w) A n l) (hn : n ≤ 1000000) (i : Nat) (hi : i ≤ n) (level : Int) (key : ByteArray) :
    Calls Try.prog 38 #[.slice A n c, .int .i64 i, .int .i64 level, .string key] w fun e w' => e = .returned (.tuple #[.int .i64 (lastS l level key i).1, .int .i64 (lastS l level key i).2]) ∧ ∃ δ, w' = over w δ := by
  have hl := h.1
  have HL := Lib.hid hl; clear hl
  go_enter Try.func38, Try.ntmps38
  go_wp2_with fail
  go_loopw [10] (fun j wr => ∃ m : Nat, m ≤ n ∧ j = .int .i64 ((m : Int) - 1) ∧ lastS l level key i = lastS l level key m ∧ Below w.heap.size w wr) (fun j _ => (intOf j + 1).toNat)
  case atStart => exact ⟨i, hi, rfl, rfl, Below.refl _ _⟩
  case round =>
    obtain ⟨m, hm, rfl, hlast, hbel⟩ := hrel
    have HT := Lib.hid hlast; clear hlast
    cases m with
    | zero =>
      go_wp2
      go_ret2
      rw [HT.out]
      exact ⟨rfl, exists_over hbel⟩
    | succ m =>
      have hlm : m < n := by omega
      obtain ⟨b, off, es, hkl, rfl, hb, hc, hc0, hr⟩ := h.elem (Keeps.old hbel) hlm
      obtain ⟨rfl, -⟩ := hr
      have e4 : Shape.OpD.size = 4 := rfl
      simp only [e4] at hc hc0
      clear e4
      have hd := lastS_succ l level key m hkl
      have HD := Lib.hid hd; clear hd
      have hb2 := Nat.lt_of_lt_of_le hb hbel.size
      have h1 : (m : Int) < n := by omega
      have e1 : ((m + 1 : Nat) : Int) - 1 = m := by omega
      rw [e1]
      clear e1
      generalize l[m] = o at *
      have hszw := hbel.size
      have HB := Lib.hid hbel; clear hbel
      by_cases c1 : o.level = level
      · have b1 : (o.level != level) = false := by simpa using c1
        by_cases c2 : o.what = 3
        · have b2 : (o.what == 3) = true := by simpa using c2
          have C1 := Lib.hid c1; have C2 := Lib.hid c2; clear c1 c2
          go_wp2
          go_ret2
          rw [HT.out, HD.out, if_pos C1.out, if_pos C2.out]
          refine ⟨rfl, exists_over ?_⟩
          have hbel := HB.out
          go_grown
        · have b2 : (o.what == 3) = false := by simpa using c2
          by_cases c3 : o.key = key
          · have b3 := str_eq_yes c3
            by_cases c4 : o.what = 2
            · have b4 : (o.what == 1) = false := by rw [c4]; rfl
              have b5 : (o.what == 2) = true := by rw [c4]; rfl
              have C1 := Lib.hid c1; have C2 := Lib.hid c2; have C3 := Lib.hid c3; have C4 := Lib.hid c4; clear c1 c2 c3 c4
              go_wp2
              go_ret2
              rw [HT.out, HD.out, if_pos C1.out, if_neg C2.out, if_pos ⟨C3.out, C4.out⟩]
              refine ⟨rfl, exists_over ?_⟩
              have hbel := HB.out
              go_grown
            · have b4 : (o.what == 2) = false := by simpa using c4
              by_cases c5 : o.what = 1
              · have b5 : (o.what == 1) = true := by simpa using c5
                have C1 := Lib.hid c1; have C2 := Lib.hid c2; have C3 := Lib.hid c3; have C4 := Lib.hid c4; have C5 := Lib.hid c5; clear c1 c2 c3 c4 c5
                go_wp2
                go_quiet (fail)
                go_wp2
                go_ret2
                rw [HT.out, HD.out, if_pos C1.out, if_neg C2.out, if_neg (fun h => C4.out h.2), if_pos ⟨C3.out, C5.out⟩]
                refine ⟨rfl, exists_over ?_⟩
                exact below_drewN (HB.out.alloc HB.out.size _) _
              · have b5 : (o.what == 1) = false := by simpa using c5
                have C1 := Lib.hid c1; have C2 := Lib.hid c2; have C3 := Lib.hid c3; have C4 := Lib.hid c4; have C5 := Lib.hid c5; clear c1 c2 c3 c4 c5
                go_wp2
                go_roundw
                case rel =>
                  refine ⟨m, by omega, by go_num, ?_, HB.out.alloc HB.out.size _⟩
                  rw [HT.out, HD.out, if_pos C1.out, if_neg C2.out, if_neg (fun h => C4.out h.2), if_neg (fun h => C5.out h.2)]
                case measure => simp [intOf]
          · have b3 := str_eq_no c3
            have C1 := Lib.hid c1; have C2 := Lib.hid c2; have C3 := Lib.hid c3; clear c1 c2 c3
            go_wp2
            go_roundw
            case rel =>
              refine ⟨m, by omega, by go_num, ?_, HB.out.alloc HB.out.size _⟩
              rw [HT.out, HD.out, if_pos C1.out, if_neg C2.out, if_neg (fun h => C3.out h.1), if_neg (fun h => C3.out h.1)]
            case measure => simp [intOf]
      · have b1 : (o.level != level) = true := by simpa using c1
        have C1 := Lib.hid c1; clear c1
        go_wp2
        go_roundw
        case rel =>
          refine ⟨m, by omega, by go_num, ?_, HB.out.alloc HB.out.size _⟩
          rw [HT.out, HD.out, if_neg C1.out]
        case measure => simp [intOf]

/-- what Get answers below level m -/
def getS (l : List OpD) (i : Nat) (key : ByteArray) : Nat → Int × Bool
  | 0 => (0, false)
  | m + 1 => if (lastS l m key i).1 = 0 then getS l i key m else ((lastS l m key i).2, (lastS l m key i).1 == 1)
set_option maxRecDepth 100000 in
theorem refGet {A : Option Addr} {n c : Nat} {l : List OpD} (w : World) (h : Row Shape.OpD w (Old w) A n l) (hn : n ≤ 1000000) (i : Nat) (hi : i ≤ n) (N : Nat) (hN : N ≤ 8) (key : ByteArray) :
    Calls Try.prog 24 #[.slice A n c, .int .i64 i, .int .i64 N, .string key] w fun e w' => e = .returned (.tuple #[.int .i64 (getS l i key N).1, .bool (getS l i key N).2]) ∧ ∃ δ, w' = over w δ := by
  go_enter Try.func24, Try.ntmps24
  go_wp2_with fail
  go_loopw [10] (fun j wr => ∃ m : Nat, m ≤ N ∧ j = .int .i64 ((m : Int) - 1) ∧ getS l i key N = getS l i key m ∧ Below w.heap.size w wr) (fun j _ => (intOf j + 1).toNat)
  case atStart => exact ⟨N, Nat.le_refl _, rfl, rfl, Below.refl _ _⟩
  case round =>
    obtain ⟨m, hm, rfl, hget, hbel⟩ := hrel
    have HT := Lib.hid hget; clear hget
    cases m with
    | zero =>
      go_wp2
      go_ret2
      rw [HT.out]
      exact ⟨rfl, exists_over hbel⟩
    | succ m =>
      have e1 : ((m + 1 : Nat) : Int) - 1 = m := by omega
      rw [e1]
      clear e1
      have hh := h.below hbel
      have HH := Lib.hid hh; clear hh
      have HB := Lib.hid hbel; clear hbel
      go_wp2_with fail
      refine (refLast _ HH.out hn i hi _ _).mono ?_
      rintro e w1 ⟨rfl, hd⟩
      have HD := Lib.hid hd; clear hd
      generalize hp : lastS l m key i = q at *
      have HP := Lib.hid hp; clear hp
      obtain ⟨q1, q2⟩ := q
      have HB1 : Hid (Below w.heap.size w w1) := by
        obtain ⟨δ, hw⟩ := HD.out
        rw [hw]
        exact below_trans_over HB.out HB.out.size δ
      clear HD
      by_cases hq : q1 = 0
      · have b1 : (q1 != 0) = false := by simpa using hq
        have HQ := Lib.hid hq; clear hq
        go_wp2
        go_roundw
        case rel =>
          refine ⟨m, by omega, by go_num, ?_, HB1.out⟩
          rw [HT.out, getS, HP.out, if_pos HQ.out]
        case measure => simp [intOf]
      · have b1 : (q1 != 0) = true := by simpa using hq
        have HQ := Lib.hid hq; clear hq
        go_wp2
        go_ret2
        rw [HT.out, getS, HP.out, if_neg HQ.out]
        exact ⟨rfl, exists_over HB1.out⟩

theorem refLevels (n : Int) (w : World) : Calls Try.prog 19 #[.int .i64 n] w fun e w' => e = .returned (.int .i64 ((min (max n 1) 8).toNat : Int)) ∧ w = w' := by
  obtain ⟨N, hN⟩ : ∃ N : Nat, N = (min (max n 1) 8).toNat := ⟨_, rfl⟩
  rw [← hN]
  have HN := Lib.hid hN; clear hN
  by_cases h1 : n < 1
  · go_enter Try.func19, Try.ntmps19
    go_wp2
    go_ret
    exact ⟨ret_int (by have := HN.out; omega), rfl⟩
  · by_cases h2 : 8 < n
    · go_enter Try.func19, Try.ntmps19
      go_wp2
      go_ret
      exact ⟨ret_int (by have := HN.out; omega), rfl⟩
    · go_enter Try.func19, Try.ntmps19
      go_wp2
      go_ret
      exact ⟨ret_int (by have := HN.out; omega), rfl⟩

/-- steps up to 200 -/
theorem cut_ {M : Nat → Prop} {A : Option Addr} {n c : Nat} {l : List OpD} (w : World) (h : Row Shape.OpD w M A n l) (hc : n ≤ c) (hc2 : c ≤ maxLen) :
    Calls Try.prog 18 #[.slice A n c] w fun e w' => (∃ n' c', e = .returned (.slice A n' c') ∧ n' ≤ 200 ∧ n' ≤ c' ∧ c' ≤ c ∧ Row Shape.OpD w M A n' (l.take 200)) ∧ w = w' := by
  unfold maxLen at hc2
  by_cases h1 : 200 < n
  · have h2 : (200 : Int) < n := by omega
    go_enter Try.func18, Try.ntmps18
    go_wp2
    go_ret
    refine ⟨⟨200, _, rfl, Nat.le_refl _, by omega, by omega, ?_⟩, rfl⟩
    refine ⟨by rw [List.length_take, h.1]; omega, fun _ => ?_⟩
    obtain ⟨b, off, e, hb, hr⟩ := h.2 (by omega)
    refine ⟨b, off, e, hb, fun i hi => ?_⟩
    have hi' : i < l.length := by simp at hi; omega
    rw [List.getElem_take]
    exact hr i hi'
  · have h2 : (n : Int) ≤ 200 := by omega
    go_enter Try.func18, Try.ntmps18
    go_wp2
    go_ret
    exact ⟨⟨n, c, rfl, by omega, hc, Nat.le_refl _, by rw [List.take_of_length_le (by rw [h.1]; omega)]; exact h⟩, rfl⟩

def showS (v : Int) : ByteArray := if v = 0 then ⟨#[]⟩ else strOfNums [v % 256, v / 256 % 256, v / 65536 % 256, 1]
set_option maxRecDepth 100000 in
theorem show_any (v : Int) (hv : I64 v) (w : World) : Calls Try.prog 20 #[.int .i64 v] w fun e w' => e = .returned (.string (showS v)) ∧ ∃ δ, w' = over w δ := by
  by_cases h0 : v = 0
  · subst h0
    go_enter Try.func20, Try.ntmps20
    go_wp2
    go_ret
    exact ⟨rfl, exists_over (Below.refl _ _)⟩
  · have hb : (v == 0) = false := by simpa using h0
    obtain ⟨hv1, hv2⟩ := hv
    have e : showS v = strOfNums [v % 256, v / 256 % 256, v / 65536 % 256, 1] := by simp [showS, h0]
    have hconv := run_convert_bytes_arg (P := Try.prog) (w.alloc (.cells #[.int .u8 (v % 256), .int .u8 (v / 256 % 256), .int .u8 (v / 65536 % 256), .int .u8 1] 5)) 72 5 Try.underlying72 Try.underlying5 w.heap.size 0 4 4 [v % 256, v / 256 % 256, v / 65536 % 256, 1] rfl
      (fun i hi => by
        rw [Nat.zero_add, World.cell?_alloc_new]
        match i, hi with
        | 0, _ => rfl
        | 1, _ => rfl
        | 2, _ => rfl
        | 3, _ => rfl) 9 Try.underlying9
    have E := Lib.hid e; clear e h0
    go_enter Try.func20, Try.ntmps20
    go_wp2
    go_ret
    rw [E.out]
    exact ⟨rfl, exists_over (by go_grown)⟩

/-! ### Len -/
theorem refLen_no (w : World) (A : Option Addr) (n c : Nat) (i : Nat) (N : Nat) (level : Int) (hl : level < 0 ∨ (N : Int) ≤ level) :
    Calls Try.prog 25 #[.slice A n c, .int .i64 i, .int .i64 N, .int .i64 level] w fun e w' => e = .returned (.int .i64 0) ∧ w = w' := by
  by_cases h0 : level < 0
  · go_enter Try.func25, Try.ntmps25
    go_wp2_with fail
    go_ret
    exact ⟨rfl, rfl⟩
  · have h1 : (N : Int) ≤ level := by omega
    clear hl
    go_enter Try.func25, Try.ntmps25
    go_wp2_with fail
    go_ret
    exact ⟨rfl, rfl⟩
def opAt (l : List OpD) (level : Int) (key : ByteArray) (k : Nat) : Prop := ∃ o, l[k]? = some o ∧ o.level = level ∧ o.key = key ∧ (o.what = 1 ∨ o.what = 2)
/-- step j is the first that sets or hides its key at the level, and something is left of it -/
def aliveS (l : List OpD) (i : Nat) (level : Int) (j : Nat) : Prop := ∃ key, opAt l level key j ∧ (∀ k, k < j → ¬ opAt l level key k) ∧ (lastS l level key i).1 ≠ 0
def noM (l : List OpD) (level : Int) (key : ByteArray) (k : Nat) : Prop := ∀ k', k' < k → ¬ opAt l level key k'
theorem noM_succ (l : List OpD) (level : Int) (key : ByteArray) (k : Nat) (h : ¬ opAt l level key k) : noM l level key k ↔ noM l level key (k + 1) :=
  ⟨fun hn k' hk => by
    rcases Nat.lt_or_eq_of_le (Nat.le_of_lt_succ hk) with h1 | rfl
    · exact hn k' h1
    · exact h, fun hn k' hk => hn k' (by omega)⟩
open Classical in
noncomputable def cntS (l : List OpD) (i : Nat) (level : Int) : Nat → Nat
  | 0 => 0
  | j + 1 => cntS l i level j + if aliveS l i level j then 1 else 0
theorem cntS_le (l : List OpD) (i : Nat) (level : Int) (j : Nat) : cntS l i level j ≤ j := by
  induction j with
  | zero => simp [cntS]
  | succ j ih => rw [cntS]; split <;> omega
set_option maxRecDepth 100000 in
set_option maxHeartbeats 4000000 in
theorem refLen {A : Option Addr} {n c : Nat} {l : List OpD} (w : World) (h : Row Shape.OpD w (Old w) A n l) (hn : n ≤ 1000000) (i : Nat) (hi : i ≤ n) (N : Nat) (hN : N ≤ 8) (level : Int) (hlv : 0 ≤ level) (hlv2 : level < N) :
    Calls Try.prog 25 #[.slice A n c, .int .i64 i, .int .i64 N, .int .i64 level] w fun e w' => e = .returned (.int .i64 (cntS l i level i)) ∧ ∃ δ, w' = over w δ := by
  have HL := Lib.hid h.1
  go_enter Try.func25, Try.ntmps25
  go_wp2_with fail
  go_loopw [9, 10] (fun s j wr => ∃ m : Nat, m ≤ i ∧ j = .int .i64 m ∧ s = .int .i64 (cntS l i level m) ∧ Below w.heap.size w wr) (fun _ j _ => i - (intOf j).toNat)
  case atStart => exact ⟨0, Nat.zero_le _, rfl, rfl, Below.refl _ _⟩
  case round =>
    obtain ⟨m, hm, rfl, rfl, hbel⟩ := hrel
    by_cases hmi : m < i
    · have hlm : m < n := by omega
      obtain ⟨b, off, es, hkl, rfl, hb, hc, hc0, hr⟩ := h.elem (Keeps.old hbel) hlm
      obtain ⟨rfl, -⟩ := hr
      have e4 : Shape.OpD.size = 4 := rfl
      simp only [e4] at hc hc0
      clear e4
      have hb2 := Nat.lt_of_lt_of_le hb hbel.size
      have h1 : (m : Int) < n := by omega
      have h2 : (m : Int) < i := by omega
      have ho : l[m]? = some l[m] := List.getElem?_eq_getElem hkl
      have HO := Lib.hid ho; clear ho
      generalize l[m] = o at *
      have hszw := hbel.size
      have HB := Lib.hid hbel; clear hbel
      have hcl := cntS_le l i level m
      by_cases c1 : o.level = level
      · have b1 : (o.level != level) = false := by simpa using c1
        by_cases c2 : o.what = 1
        · have b2 : (o.what != 1) = false := by simpa using c2
          have C1 := Lib.hid c1; have C2 := Lib.hid c2; clear c1 c2
          go_wp2_with fail
          obtain ⟨wo, rfl⟩ : ∃ wo : World, wo = wr := ⟨_, rfl⟩
          go_loopw [12, 13] (fun f j wr => ∃ (k : Nat) (fl : Bool), k ≤ m ∧ j = .int .i64 k ∧ f = .bool fl ∧ (fl = true ↔ noM l level o.key k) ∧ Blk wr wo.heap.size 56 #[.int .i64 o.what, .int .i64 o.level, .string o.key, .int .i64 o.val] ∧ Below w.heap.size w wr) (fun _ j _ => m - (intOf j).toNat)
          case atStart => exact ⟨0, true, Nat.zero_le _, rfl, rfl, by simp [noM], Blk.new _ _ _, HB.out.alloc HB.out.size _⟩
          case round =>
            obtain ⟨k, fl, hk, rfl, rfl, hfl, hblk, hbel1⟩ := hrel
            have HF := Lib.hid hfl; clear hfl
            by_cases hkm : k < m
            · have hlk : k < n := by omega
              obtain ⟨b', off', es', hkl', hA, hb', hc', hc0', hr'⟩ := h.elem (Keeps.old hbel1) hlk
              obtain ⟨rfl, -⟩ := hr'
              have e4 : Shape.OpD.size = 4 := rfl
              simp only [e4] at hc' hc0'
              injection hA with hA
              injection hA with hA1 hA2
              subst hA1 hA2
              clear e4 hc hc0
              have hq : l[k]? = some l[k] := List.getElem?_eq_getElem hkl'
              have HQ := Lib.hid hq; clear hq
              generalize l[k] = q at *
              have kb := hblk.cell
              have hblt := hblk.lt
              have hb3 := Nat.lt_of_lt_of_le hb hbel1.size
              have hk1 : (k : Int) < n := by omega
              have hk2 : (k : Int) < m := by omega
              have HB1 := Lib.hid hbel1; have HB2 := Lib.hid hblk; clear hbel1 hblk
              by_cases d1 : q.level = level
              · have x1 : (q.level == level) = true := by simpa using d1
                by_cases d2 : q.key = o.key
                · have x2 := str_eq_yes d2
                  by_cases d3 : q.what = 1
                  · have x3 : (q.what == 1) = true := by simpa using d3
                    have D1 := Lib.hid d1
                    have D2 := Lib.hid d2
                    have D3 := Lib.hid d3
                    clear d1 d2 d3
                    go_wp2
                    refine wp_region_over (by kernel_rfl) (by kernel_rfl) ?_
                    repeat (go_big_quiet_step (fail))
                    refine wpQuiet_nil ?_
                    rintro _ ⟨δ', rfl⟩
                    go_wp2
                    go_roundw
                    case rel =>
                      refine ⟨k + 1, false, by omega, by go_num, rfl, ?_, (HB2.out.over_ δ'), below_trans_over HB1.out HB1.out.size δ'⟩
                      simp only [Bool.false_eq_true, false_iff]
                      exact fun hno => hno k (Nat.lt_succ_self k) ⟨q, HQ.out, D1.out, D2.out, .inl D3.out⟩
                    case measure => simp [intOf]; omega
                  · have x3 : (q.what == 1) = false := by simpa using d3
                    by_cases d4 : q.what = 2
                    · have x4 : (q.what == 2) = true := by simpa using d4
                      have D1 := Lib.hid d1
                      have D2 := Lib.hid d2
                      have D3 := Lib.hid d3
                      have D4 := Lib.hid d4
                      clear d1 d2 d3 d4
                      go_wp2
                      refine wp_region_over (by kernel_rfl) (by kernel_rfl) ?_
                      repeat (go_big_quiet_step (fail))
                      refine wpQuiet_nil ?_
                      rintro _ ⟨δ', rfl⟩
                      go_wp2
                      go_roundw
                      case rel =>
                        refine ⟨k + 1, false, by omega, by go_num, rfl, ?_, (HB2.out.over_ δ'), below_trans_over HB1.out HB1.out.size δ'⟩
                        simp only [Bool.false_eq_true, false_iff]
                        exact fun hno => hno k (Nat.lt_succ_self k) ⟨q, HQ.out, D1.out, D2.out, .inr D4.out⟩
                      case measure => simp [intOf]; omega
                    · have x4 : (q.what == 2) = false := by simpa using d4
                      have D1 := Lib.hid d1
                      have D2 := Lib.hid d2
                      have D3 := Lib.hid d3
                      have D4 := Lib.hid d4
                      clear d1 d2 d3 d4
                      go_wp2
                      refine wp_region_over (by kernel_rfl) (by kernel_rfl) ?_
                      repeat (go_big_quiet_step (fail))
                      refine wpQuiet_nil ?_
                      rintro _ ⟨δ', rfl⟩
                      go_wp2
                      go_roundw
                      case rel =>
                        refine ⟨k + 1, fl, by omega, by go_num, rfl, HF.out.trans (noM_succ _ _ _ _ ?_), (HB2.out.over_ δ'), below_trans_over HB1.out HB1.out.size δ'⟩
                        rintro ⟨q', hq1, hq2, hq3, hq4⟩
                        rw [HQ.out] at hq1
                        cases hq1
                        exact hq4.elim D3.out D4.out
                      case measure => simp [intOf]; omega
                · have x2 := str_eq_no d2
                  have D1 := Lib.hid d1
                  have D2 := Lib.hid d2
                  clear d1 d2
                  go_wp2
                  refine wp_region_over (by kernel_rfl) (by kernel_rfl) ?_
                  repeat (go_big_quiet_step (fail))
                  refine wpQuiet_nil ?_
                  rintro _ ⟨δ', rfl⟩
                  go_wp2
                  go_roundw
                  case rel =>
                    refine ⟨k + 1, fl, by omega, by go_num, rfl, HF.out.trans (noM_succ _ _ _ _ ?_), (HB2.out.over_ δ'), below_trans_over HB1.out HB1.out.size δ'⟩
                    rintro ⟨q', hq1, hq2, hq3, hq4⟩
                    rw [HQ.out] at hq1
                    cases hq1
                    exact D2.out hq3
                  case measure => simp [intOf]; omega
              · have x1 : (q.level == level) = false := by simpa using d1
                have D1 := Lib.hid d1
                clear d1
                go_wp2
                refine wp_region_over (by kernel_rfl) (by kernel_rfl) ?_
                repeat (go_big_quiet_step (fail))
                refine wpQuiet_nil ?_
                rintro _ ⟨δ', rfl⟩
                go_wp2
                go_roundw
                case rel =>
                  refine ⟨k + 1, fl, by omega, by go_num, rfl, HF.out.trans (noM_succ _ _ _ _ ?_), (HB2.out.over_ δ'), below_trans_over HB1.out HB1.out.size δ'⟩
                  rintro ⟨q', hq1, hq2, hq3, hq4⟩
                  rw [HQ.out] at hq1
                  cases hq1
                  exact D1.out hq2
                case measure => simp [intOf]; omega
            · have ek : k = m := by omega
              subst ek
              have hh := h.below hbel1
              have HH := Lib.hid hh; clear hh
              have kb := hblk.cell
              have HB1 := Lib.hid hbel1; clear hbel1 hc hc0
              have hk2 : ¬ (k : Int) < k := by omega
              go_wp2_with fail
              refine (refLast _ HH.out hn i hi _ _).mono ?_
              rintro e w1 ⟨rfl, hd⟩
              have hb5 : Below w.heap.size w w1 := by obtain ⟨δ, hw⟩ := hd; rw [hw]; exact below_trans_over HB1.out HB1.out.size δ
              have HB5 := Lib.hid hb5; clear hb5 hd kb
              generalize hp : lastS l level o.key i = y at *
              have HP := Lib.hid hp; clear hp
              obtain ⟨y1, y2⟩ := y
              cases fl with
              | false =>
                go_wp2
                go_roundw
                case rel =>
                  refine ⟨k + 1, by omega, by go_num, ?_, HB5.out⟩
                  rw [cntS, if_neg]
                  · rfl
                  · rintro ⟨key, ⟨o', h1, h2, h3, h4⟩, h5, _⟩
                    rw [HO.out] at h1
                    cases h1
                    subst h3
                    exact absurd (HF.out.2 h5) (by simp)
                case measure => simp [intOf]; omega
              | true =>
                by_cases hy : y1 = 0
                · have by_ : (y1 != 0) = false := by simpa using hy
                  have HY := Lib.hid hy; clear hy
                  go_wp2
                  go_roundw
                  case rel =>
                    refine ⟨k + 1, by omega, by go_num, ?_, HB5.out⟩
                    rw [cntS, if_neg]
                    · rfl
                    · rintro ⟨key, ⟨o', h1, h2, h3, h4⟩, h5, h6⟩
                      rw [HO.out] at h1
                      cases h1
                      subst h3
                      rw [HP.out] at h6
                      exact h6 HY.out
                  case measure => simp [intOf]; omega
                · have by_ : (y1 != 0) = true := by simpa using hy
                  have HY := Lib.hid hy; clear hy
                  go_wp2
                  go_roundw
                  case rel =>
                    refine ⟨k + 1, by omega, by go_num, ?_, HB5.out⟩
                    rw [cntS, if_pos]
                    · go_num
                    · exact ⟨o.key, ⟨o, HO.out, C1.out, rfl, .inl C2.out⟩, HF.out.1 (by first | rfl | trivial), by rw [HP.out]; exact HY.out⟩
                  case measure => simp [intOf]; omega

        · by_cases c3 : o.what = 2
          · have b2 : (o.what != 1) = true := by simpa using c2
            have b3 : (o.what != 2) = false := by simpa using c3
            have C1 := Lib.hid c1; have C2 := Lib.hid c2; have C3 := Lib.hid c3; clear c1 c2 c3
            go_wp2_with fail
            obtain ⟨wo, rfl⟩ : ∃ wo : World, wo = wr := ⟨_, rfl⟩
            go_loopw [12, 13] (fun f j wr => ∃ (k : Nat) (fl : Bool), k ≤ m ∧ j = .int .i64 k ∧ f = .bool fl ∧ (fl = true ↔ noM l level o.key k) ∧ Blk wr wo.heap.size 56 #[.int .i64 o.what, .int .i64 o.level, .string o.key, .int .i64 o.val] ∧ Below w.heap.size w wr) (fun _ j _ => m - (intOf j).toNat)
            case atStart => exact ⟨0, true, Nat.zero_le _, rfl, rfl, by simp [noM], Blk.new _ _ _, HB.out.alloc HB.out.size _⟩
            case round =>
              obtain ⟨k, fl, hk, rfl, rfl, hfl, hblk, hbel1⟩ := hrel
              have HF := Lib.hid hfl; clear hfl
              by_cases hkm : k < m
              · have hlk : k < n := by omega
                obtain ⟨b', off', es', hkl', hA, hb', hc', hc0', hr'⟩ := h.elem (Keeps.old hbel1) hlk
                obtain ⟨rfl, -⟩ := hr'
                have e4 : Shape.OpD.size = 4 := rfl
                simp only [e4] at hc' hc0'
                injection hA with hA
                injection hA with hA1 hA2
                subst hA1 hA2
                clear e4 hc hc0
                have hq : l[k]? = some l[k] := List.getElem?_eq_getElem hkl'
                have HQ := Lib.hid hq; clear hq
                generalize l[k] = q at *
                have kb := hblk.cell
                have hblt := hblk.lt
                have hb3 := Nat.lt_of_lt_of_le hb hbel1.size
                have hk1 : (k : Int) < n := by omega
                have hk2 : (k : Int) < m := by omega
                have HB1 := Lib.hid hbel1; have HB2 := Lib.hid hblk; clear hbel1 hblk
                by_cases d1 : q.level = level
                · have x1 : (q.level == level) = true := by simpa using d1
                  by_cases d2 : q.key = o.key
                  · have x2 := str_eq_yes d2
                    by_cases d3 : q.what = 1
                    · have x3 : (q.what == 1) = true := by simpa using d3
                      have D1 := Lib.hid d1
                      have D2 := Lib.hid d2
                      have D3 := Lib.hid d3
                      clear d1 d2 d3
                      go_wp2
                      refine wp_region_over (by kernel_rfl) (by kernel_rfl) ?_
                      repeat (go_big_quiet_step (fail))
                      refine wpQuiet_nil ?_
                      rintro _ ⟨δ', rfl⟩
                      go_wp2
                      go_roundw
                      case rel =>
                        refine ⟨k + 1, false, by omega, by go_num, rfl, ?_, (HB2.out.over_ δ'), below_trans_over HB1.out HB1.out.size δ'⟩
                        simp only [Bool.false_eq_true, false_iff]
                        exact fun hno => hno k (Nat.lt_succ_self k) ⟨q, HQ.out, D1.out, D2.out, .inl D3.out⟩
                      case measure => simp [intOf]; omega
                    · have x3 : (q.what == 1) = false := by simpa using d3
                      by_cases d4 : q.what = 2
                      · have x4 : (q.what == 2) = true := by simpa using d4
                        have D1 := Lib.hid d1
                        have D2 := Lib.hid d2
                        have D3 := Lib.hid d3
                        have D4 := Lib.hid d4
                        clear d1 d2 d3 d4
                        go_wp2
                        refine wp_region_over (by kernel_rfl) (by kernel_rfl) ?_
                        repeat (go_big_quiet_step (fail))
                        refine wpQuiet_nil ?_
                        rintro _ ⟨δ', rfl⟩
                        go_wp2
                        go_roundw
                        case rel =>
                          refine ⟨k + 1, false, by omega, by go_num, rfl, ?_, (HB2.out.over_ δ'), below_trans_over HB1.out HB1.out.size δ'⟩
                          simp only [Bool.false_eq_true, false_iff]
                          exact fun hno => hno k (Nat.lt_succ_self k) ⟨q, HQ.out, D1.out, D2.out, .inr D4.out⟩
                        case measure => simp [intOf]; omega
                      · have x4 : (q.what == 2) = false := by simpa using d4
                        have D1 := Lib.hid d1
                        have D2 := Lib.hid d2
                        have D3 := Lib.hid d3
                        have D4 := Lib.hid d4
                        clear d1 d2 d3 d4
                        go_wp2
                        refine wp_region_over (by kernel_rfl) (by kernel_rfl) ?_
                        repeat (go_big_quiet_step (fail))
                        refine wpQuiet_nil ?_
                        rintro _ ⟨δ', rfl⟩
                        go_wp2
                        go_roundw
                        case rel =>
                          refine ⟨k + 1, fl, by omega, by go_num, rfl, HF.out.trans (noM_succ _ _ _ _ ?_), (HB2.out.over_ δ'), below_trans_over HB1.out HB1.out.size δ'⟩
                          rintro ⟨q', hq1, hq2, hq3, hq4⟩
                          rw [HQ.out] at hq1
                          cases hq1
                          exact hq4.elim D3.out D4.out
                        case measure => simp [intOf]; omega
                  · have x2 := str_eq_no d2
                    have D1 := Lib.hid d1
                    have D2 := Lib.hid d2
                    clear d1 d2
                    go_wp2
                    refine wp_region_over (by kernel_rfl) (by kernel_rfl) ?_
                    repeat (go_big_quiet_step (fail))
                    refine wpQuiet_nil ?_
                    rintro _ ⟨δ', rfl⟩
                    go_wp2
                    go_roundw
                    case rel =>
                      refine ⟨k + 1, fl, by omega, by go_num, rfl, HF.out.trans (noM_succ _ _ _ _ ?_), (HB2.out.over_ δ'), below_trans_over HB1.out HB1.out.size δ'⟩
                      rintro ⟨q', hq1, hq2, hq3, hq4⟩
                      rw [HQ.out] at hq1
                      cases hq1
                      exact D2.out hq3
                    case measure => simp [intOf]; omega
                · have x1 : (q.level == level) = false := by simpa using d1
                  have D1 := Lib.hid d1
                  clear d1
                  go_wp2
                  refine wp_region_over (by kernel_rfl) (by kernel_rfl) ?_
                  repeat (go_big_quiet_step (fail))
                  refine wpQuiet_nil ?_
                  rintro _ ⟨δ', rfl⟩
                  go_wp2
                  go_roundw
                  case rel =>
                    refine ⟨k + 1, fl, by omega, by go_num, rfl, HF.out.trans (noM_succ _ _ _ _ ?_), (HB2.out.over_ δ'), below_trans_over HB1.out HB1.out.size δ'⟩
                    rintro ⟨q', hq1, hq2, hq3, hq4⟩
                    rw [HQ.out] at hq1
                    cases hq1
                    exact D1.out hq2
                  case measure => simp [intOf]; omega
              · have ek : k = m := by omega
                subst ek
                have hh := h.below hbel1
                have HH := Lib.hid hh; clear hh
                have kb := hblk.cell
                have HB1 := Lib.hid hbel1; clear hbel1 hc hc0
                have hk2 : ¬ (k : Int) < k := by omega
                go_wp2_with fail
                refine (refLast _ HH.out hn i hi _ _).mono ?_
                rintro e w1 ⟨rfl, hd⟩
                have hb5 : Below w.heap.size w w1 := by obtain ⟨δ, hw⟩ := hd; rw [hw]; exact below_trans_over HB1.out HB1.out.size δ
                have HB5 := Lib.hid hb5; clear hb5 hd kb
                generalize hp : lastS l level o.key i = y at *
                have HP := Lib.hid hp; clear hp
                obtain ⟨y1, y2⟩ := y
                cases fl with
                | false =>
                  go_wp2
                  go_roundw
                  case rel =>
                    refine ⟨k + 1, by omega, by go_num, ?_, HB5.out⟩
                    rw [cntS, if_neg]
                    · rfl
                    · rintro ⟨key, ⟨o', h1, h2, h3, h4⟩, h5, _⟩
                      rw [HO.out] at h1
                      cases h1
                      subst h3
                      exact absurd (HF.out.2 h5) (by simp)
                  case measure => simp [intOf]; omega
                | true =>
                  by_cases hy : y1 = 0
                  · have by_ : (y1 != 0) = false := by simpa using hy
                    have HY := Lib.hid hy; clear hy
                    go_wp2
                    go_roundw
                    case rel =>
                      refine ⟨k + 1, by omega, by go_num, ?_, HB5.out⟩
                      rw [cntS, if_neg]
                      · rfl
                      · rintro ⟨key, ⟨o', h1, h2, h3, h4⟩, h5, h6⟩
                        rw [HO.out] at h1
                        cases h1
                        subst h3
                        rw [HP.out] at h6
                        exact h6 HY.out
                    case measure => simp [intOf]; omega
                  · have by_ : (y1 != 0) = true := by simpa using hy
                    have HY := Lib.hid hy; clear hy
                    go_wp2
                    go_roundw
                    case rel =>
                      refine ⟨k + 1, by omega, by go_num, ?_, HB5.out⟩
                      rw [cntS, if_pos]
                      · go_num
                      · exact ⟨o.key, ⟨o, HO.out, C1.out, rfl, .inr C3.out⟩, HF.out.1 (by first | rfl | trivial), by rw [HP.out]; exact HY.out⟩
                    case measure => simp [intOf]; omega

          · have b2 : (o.what != 1) = true := by simpa using c2
            have b3 : (o.what != 2) = true := by simpa using c3
            have C1 := Lib.hid c1; have C2 := Lib.hid c2; have C3 := Lib.hid c3; clear c1 c2 c3
            go_wp2
            go_roundw
            case rel =>
              refine ⟨m + 1, by omega, by go_num, ?_, HB.out.alloc HB.out.size _⟩
              rw [cntS, if_neg]
              · rfl
              · rintro ⟨key, ⟨o', h1, h2, h3, h4⟩, _⟩
                rw [HO.out] at h1
                cases h1
                exact h4.elim C2.out C3.out
            case measure => simp [intOf]; omega
      · have b1 : (o.level != level) = true := by simpa using c1
        have C1 := Lib.hid c1; clear c1
        go_wp2
        go_roundw
        case rel =>
          refine ⟨m + 1, by omega, by go_num, ?_, HB.out.alloc HB.out.size _⟩
          rw [cntS, if_neg]
          · rfl
          · rintro ⟨key, ⟨o', h1, h2, _⟩, _⟩
            rw [HO.out] at h1
            cases h1
            exact C1.out h2
        case measure => simp [intOf]; omega
    · go_wp2
      go_ret
      have e : m = i := by omega
      subst e
      exact ⟨rfl, exists_over hbel⟩
end Go.Proofs.Ytphloeafgblmnaa
