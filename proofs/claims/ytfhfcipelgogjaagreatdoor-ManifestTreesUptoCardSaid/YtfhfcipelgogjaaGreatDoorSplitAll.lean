/- What stands between blanks; lines of a text, plain. No condition. strings.Split at a blank answers the words of a text; plain. No condition. strings.Split at a blank: the words of a text in one new block. No condition but room and the variable MaxLen. -/
import Derived.Test.YtfhfcipelgogjaaGreatDoorBaseAt
import Derived.Lib.IndexLaws
import Derived.Lib.IndexBytes
import Derived.Lib.Split
import Derived.Lib.SplitLaws
import Derived.Test.YtfhfcipelgogjaaGreatDoorLayIx
namespace Go.Proofs.YtfhfcipelgogjaaGreatDoor
open Go.RowKit
set_option linter.unusedVariables false
set_option linter.unusedSimpArgs false
/-- the words of a text: what stands between the bytes b -/
def splitW (b : UInt8) : List UInt8 → List (List UInt8)
  | [] => [[]]
  | c :: l => if c = b then [] :: splitW b l else match splitW b l with
    | w :: r => (c :: w) :: r
    | [] => [[c]]
theorem splitW_ne (b : UInt8) (l : List UInt8) : splitW b l ≠ [] := by
  cases l with
  | nil => simp [splitW]
  | cons c l =>
    unfold splitW
    split
    · simp
    · split <;> simp
theorem splitW_none {b : UInt8} {w : List UInt8} (h : b ∉ w) : splitW b w = [w] := by
  induction w with
  | nil => rfl
  | cons c w ih =>
    rw [List.mem_cons, not_or] at h
    unfold splitW
    rw [if_neg (fun e => h.1 e.symm), ih h.2]
theorem splitW_cut {b : UInt8} {w l : List UInt8} (h : b ∉ w) : splitW b (w ++ b :: l) = w :: splitW b l := by
  induction w with
  | nil =>
    rw [List.nil_append]
    conv => lhs; unfold splitW
    rw [if_pos rfl]
  | cons c w ih =>
    rw [List.mem_cons, not_or] at h
    rw [List.cons_append]
    conv => lhs; unfold splitW
    rw [if_neg (fun e => h.1 e.symm), ih h.2]
theorem splitW_length (b : UInt8) (l : List UInt8) : (splitW b l).length = l.count b + 1 := by
  induction l with
  | nil => rfl
  | cons c l ih =>
    unfold splitW
    by_cases hc : c = b
    · subst hc
      rw [if_pos rfl, List.length_cons, ih, List.count_cons_self]
    · rw [if_neg hc, List.count_cons_of_ne hc]
      cases hs : splitW b l with
      | nil => exact absurd hs (splitW_ne b l)
      | cons w r => rw [hs] at ih; simpa using ih
/-- each word is part of the text -/
theorem splitW_small {b : UInt8} : ∀ {l w : List UInt8}, w ∈ splitW b l → w.length ≤ l.length
  | [], w, h => by simp [splitW] at h; subst h; simp
  | c :: l, w, h => by
    unfold splitW at h
    split at h
    · rcases List.mem_cons.1 h with rfl | h
      · simp
      · have := splitW_small h; simp; omega
    · split at h
      · next w' r hs =>
        rcases List.mem_cons.1 h with rfl | h
        · have := splitW_small (w := w') (by rw [hs]; simp); simpa using this
        · have := splitW_small (w := w) (l := l) (by rw [hs]; exact List.mem_cons_of_mem _ h); simp; omega
      · next hs => exact absurd hs (splitW_ne b l)
/-- a text's lines, each ended by a byte b; none: something stands behind the last -/
def linesW (b : UInt8) : List UInt8 → Option (List (List UInt8))
  | [] => some []
  | c :: l => if c = b then (linesW b l).map ([] :: ·) else match linesW b l with
    | some (w :: r) => some ((c :: w) :: r)
    | _ => none
theorem linesW_none {b : UInt8} {w : List UInt8} (h : b ∉ w) (hw : w ≠ []) : linesW b w = none := by
  induction w with
  | nil => exact absurd rfl hw
  | cons c w ih =>
    rw [List.mem_cons, not_or] at h
    unfold linesW
    rw [if_neg (fun e => h.1 e.symm)]
    cases w with
    | nil => rfl
    | cons d w => rw [ih h.2 (by simp)]
theorem linesW_cut {b : UInt8} {w l : List UInt8} (h : b ∉ w) : linesW b (w ++ b :: l) = (linesW b l).map (w :: ·) := by
  induction w with
  | nil =>
    rw [List.nil_append]
    conv => lhs; unfold linesW
    rw [if_pos rfl]
  | cons c w ih =>
    rw [List.mem_cons, not_or] at h
    rw [List.cons_append]
    conv => lhs; unfold linesW
    rw [if_neg (fun e => h.1 e.symm), ih h.2]
    cases linesW b l <;> rfl
/-- what a reader of lines makes of a text: each line must say something -/
def readW {α : Type} (f : List UInt8 → Option α) (l : List UInt8) : Option (List α) := (linesW 10 l).bind fun ws => ws.mapM f
theorem readW_nil {α : Type} (f : List UInt8 → Option α) : readW f [] = some [] := rfl
theorem readW_none {α : Type} {f : List UInt8 → Option α} {w : List UInt8} (h : 10 ∉ w) (hw : w ≠ []) : readW f w = none := by unfold readW; rw [linesW_none h hw]; rfl
theorem readW_cut {α : Type} {f : List UInt8 → Option α} {w l : List UInt8} (h : 10 ∉ w) : (f w = none → readW f (w ++ 10 :: l) = none) ∧ ∀ a, f w = some a → readW f (w ++ 10 :: l) = (readW f l).map (a :: ·) := by
  unfold readW
  rw [linesW_cut h]
  cases linesW 10 l with
  | none => exact ⟨fun _ => rfl, fun a _ => rfl⟩
  | some ws =>
    refine ⟨fun e => ?_, fun a e => ?_⟩
    · simp [e]
    · simp [e]
      cases ws.mapM f <;> rfl
/-- where a byte is found first -/
theorem index_cases (l : List UInt8) (c : UInt8) : (Lib.indexByte l c = -1 ∧ c ∉ l) ∨ ∃ m : Nat, m < l.length ∧ Lib.indexByte l c = m ∧ c ∉ l.take m ∧ l = l.take m ++ c :: l.drop (m + 1) := by
  have hge := Lib.indexByte_ge l c
  by_cases h : Lib.indexByte l c = -1
  · refine .inl ⟨h, fun hm => ?_⟩
    obtain ⟨k, hk⟩ := List.getElem?_of_mem hm
    exact Lib.indexByte_none h k hk
  · obtain ⟨m, hm⟩ := Int.eq_ofNat_of_zero_le (show 0 ≤ Lib.indexByte l c by omega)
    obtain ⟨h1, h2⟩ := Lib.indexByte_some hm
    obtain ⟨hlt, hget⟩ := List.getElem?_eq_some_iff.1 h1
    refine .inr ⟨m, hlt, hm, fun hc => ?_, ?_⟩
    · obtain ⟨k, hk⟩ := List.getElem?_of_mem hc
      obtain ⟨hk1, hk2⟩ := List.getElem?_eq_some_iff.1 hk
      rw [List.length_take] at hk1
      rw [List.getElem_take] at hk2
      exact h2 k (by omega) (List.getElem?_eq_some_iff.2 ⟨by omega, hk2⟩)
    · conv => lhs; rw [← List.take_append_drop m l]
      rw [List.drop_eq_getElem_cons hlt, hget]
/-- the words of what is left behind some of them -/
theorem splitW_at {b : UInt8} {l : List UInt8} {m : Nat} (h : b ∉ l.take m) (he : l = l.take m ++ b :: l.drop (m + 1)) : splitW b l = l.take m :: splitW b (l.drop (m + 1)) := by
  conv => lhs; rw [he]
  exact splitW_cut h
theorem linesW_at {b : UInt8} {l : List UInt8} {m : Nat} (h : b ∉ l.take m) (he : l = l.take m ++ b :: l.drop (m + 1)) : linesW b l = (linesW b (l.drop (m + 1))).map (l.take m :: ·) := by
  conv => lhs; rw [he]
  exact linesW_cut h
/-- a text's words by the reference's way: what was taken, and what stands from some byte on -/
theorem splitW_step {b : UInt8} {l : List UInt8} {i : Nat} (hi : i < l.length) (hb : l[i] = b) {f : Nat} (hf : f ≤ i) (h : b ∉ (l.drop f).take (i - f)) : splitW b (l.drop f) = (l.drop f).take (i - f) :: splitW b (l.drop (i + 1)) := by
  have e : l.drop f = (l.drop f).take (i - f) ++ b :: l.drop (i + 1) := by
    conv => lhs; rw [← List.take_append_drop (i - f) (l.drop f)]
    rw [List.drop_drop, show f + (i - f) = i by omega, List.drop_eq_getElem_cons hi, hb]
  conv => lhs; rw [e]
  exact splitW_cut h
theorem linesW_step {b : UInt8} {l : List UInt8} {i : Nat} (hi : i < l.length) (hb : l[i] = b) {f : Nat} (hf : f ≤ i) (h : b ∉ (l.drop f).take (i - f)) : linesW b (l.drop f) = (linesW b (l.drop (i + 1))).map ((l.drop f).take (i - f) :: ·) := by
  have e : l.drop f = (l.drop f).take (i - f) ++ b :: l.drop (i + 1) := by
    conv => lhs; rw [← List.take_append_drop (i - f) (l.drop f)]
    rw [List.drop_drop, show f + (i - f) = i by omega, List.drop_eq_getElem_cons hi, hb]
  conv => lhs; rw [e]
  exact linesW_cut h
theorem none_step {b : UInt8} {l : List UInt8} {i : Nat} (hi : i < l.length) (hb : l[i] ≠ b) {f : Nat} (hf : f ≤ i) (h : b ∉ (l.drop f).take (i - f)) : b ∉ (l.drop f).take (i + 1 - f) := by
  have e : (l.drop f).take (i + 1 - f) = (l.drop f).take (i - f) ++ [l[i]] := by
    rw [show i + 1 - f = (i - f) + 1 by omega, List.take_succ_eq_append_getElem (by simp; omega)]
    congr 2
    rw [List.getElem_drop]
    congr 1
    omega
  rw [e, List.mem_append, List.mem_singleton, not_or]
  exact ⟨h, fun e => hb e.symm⟩
/-- a reader of lines on its way: what was read, and what is still to come -/
theorem readW_go {α : Type} {f : List UInt8 → Option α} {l w r : List UInt8} {acc : List α} {t : List UInt8} (ht : t = w ++ 10 :: r) (h : 10 ∉ w) (hacc : readW f l = (readW f t).map (acc ++ ·)) :
    (f w = none → readW f l = none) ∧ ∀ a, f w = some a → readW f l = (readW f r).map ((acc ++ [a]) ++ ·) := by
  subst ht
  obtain ⟨h1, h2⟩ := readW_cut (f := f) (w := w) (l := r) h
  refine ⟨fun e => by rw [hacc, h1 e]; rfl, fun a e => ?_⟩
  rw [hacc, h2 a e]
  cases readW f r with
  | none => rfl
  | some x => simp
theorem readW_done {α : Type} {f : List UInt8 → Option α} {l : List UInt8} {acc : List α} (hacc : readW f l = (readW f []).map (acc ++ ·)) : readW f l = some acc := by
  rw [hacc, readW_nil]; simp
theorem readW_open {α : Type} {f : List UInt8 → Option α} {l t : List UInt8} {acc : List α} (h : 10 ∉ t) (ht : t ≠ []) (hacc : readW f l = (readW f t).map (acc ++ ·)) : readW f l = none := by
  rw [hacc, readW_none h ht]; rfl
theorem readW_start {α : Type} (f : List UInt8 → Option α) (l : List UInt8) : readW f l = (readW f l).map (([] : List α) ++ ·) := by
  cases readW f l <;> simp
end Go.Proofs.YtfhfcipelgogjaaGreatDoor
namespace Go.Proofs.YtfhfcipelgogjaaGreatDoor
open Go.RowKit
set_option linter.unusedVariables false
set_option linter.unusedSimpArgs false
theorem splitB_words (c : UInt8) : ∀ (k : Nat) (s : ByteArray), s.data.toList.count c = k → (Lib.splitB ⟨#[c]⟩ 0 k s).map (·.data.toList) = splitW c s.data.toList
  | 0, s, h => by
    rw [Lib.splitB_zero, splitW_none (List.count_eq_zero.1 h)]
    rfl
  | k + 1, s, h => by
    have hix : Lib.indexB s ⟨#[c]⟩ = Lib.indexByte s.data.toList c := Lib.index_one _ _
    rcases index_cases s.data.toList c with ⟨_, hn⟩ | ⟨m, hm, hi, hn, he⟩
    · rw [List.count_eq_zero.2 hn] at h; omega
    · rw [Lib.splitB_hit _ _ _ _ m (hix.trans hi)]
      have h1 : (s.extract 0 (m + 0)).data.toList = s.data.toList.take m := by rw [Lib.extract_data]; simp
      have h2 : (s.extract (m + (⟨#[c]⟩ : ByteArray).size) s.size).data.toList = s.data.toList.drop (m + 1) := by
        rw [Lib.extract_data, List.take_of_length_le]
        · rfl
        · rw [List.length_drop, Array.length_toList]; exact Nat.le_refl _
      have hc : (s.data.toList.drop (m + 1)).count c = k := by
        rw [he, List.count_append, List.count_cons_self, List.count_eq_zero.2 hn] at h
        omega
      rw [List.map_cons, h1, splitB_words c k _ (by rw [h2]; exact hc), h2]
      exact (splitW_at hn he).symm
theorem split_words (c : UInt8) (s : ByteArray) : (Lib.splitB ⟨#[c]⟩ 0 (Lib.countB s ⟨#[c]⟩) s).map (·.data.toList) = splitW c s.data.toList ∧ Lib.countB s ⟨#[c]⟩ + 1 = (splitW c s.data.toList).length := by
  have h : Lib.countB s ⟨#[c]⟩ = s.data.toList.count c := Lib.count_one _ _
  exact ⟨splitB_words c _ s h.symm, by rw [h, splitW_length]⟩
end Go.Proofs.YtfhfcipelgogjaaGreatDoor
namespace Go.Proofs.YtfhfcipelgogjaaGreatDoor
open Go.RowKit
set_option linter.unusedVariables false
set_option linter.unusedSimpArgs false
theorem splitCalls (s : ByteArray) (w : World) (m : Int) (hs : s.size < 4294967281) (hm : w.cell? ⟨0, 0, none⟩ = some (.int .i64 m)) :
    Calls Tryz.prog 63 #[.string s, .string ⟨#[32]⟩] w fun e w' => e = .returned (.slice (some ⟨w.heap.size, 0, none⟩) (splitW 32 s.data.toList).length (splitW 32 s.data.toList).length) ∧
      w' = w.alloc (.cells ((splitW 32 s.data.toList).map fun l => Value.string ⟨l.toArray⟩).toArray 9) := by
  have h := Any.strings_Split Tryz.lays146 (by kernel_rfl) s ⟨#[32]⟩ m w hs hm (by decide)
  obtain ⟨h1, h2⟩ := split_words 32 s
  refine h.mono ?_
  rintro e w' ⟨rfl, rfl⟩
  refine ⟨by rw [h2], ?_⟩
  have h3 : (Lib.splitB ⟨#[32]⟩ 0 (Lib.countB s ⟨#[32]⟩) s).map Value.string = (splitW 32 s.data.toList).map fun l => Value.string ⟨l.toArray⟩ := by
    rw [← h1, List.map_map]
    exact List.map_congr_left fun x _ => by cases x; simp
  rw [h3]
  rfl
end Go.Proofs.YtfhfcipelgogjaaGreatDoor
