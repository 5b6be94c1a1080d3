/- What stands between blanks; lines of a text, plain. No condition. What a name says: its parts, plain. No condition. Names: the pieces of the way to a name's parts. No condition but room. strings.Split at a blank answers the words of a text; plain. No condition. The pieces of a name that say something: strings.Split, then slices.DeleteFunc. No condition but room and the variable MaxLen. -/
import Derived.Test.YtjknjmlpnjifkaaDoorBase
import Derived.Lib.IndexLaws
import Derived.Lib.IndexBytes
import Derived.Test.YtjknjmlpnjifkaaDoorAt
import Derived.Test.YtjknjmlpnjifkaaDoorAnyOf
import Derived.Lib.Split
import Derived.Lib.SplitLaws
import Derived.Test.YtjknjmlpnjifkaaDoorLayIx
import Derived.Test.YtjknjmlpnjifkaaDoorLayDel
import Derived.Lib.OwnBridge
namespace Go.Proofs.YtjknjmlpnjifkaaDoor
open Go.RowKit
set_option linter.unusedVariables false
set_option linter.unusedSimpArgs false
/-- the words of a text: what stands between the bytes b -/
def splitW (b : UInt8) : List UInt8 → List (List UInt8)
  | [] => [[]]
  | c :: l => if c = b then [] :: splitW b l else match splitW b l with
    | w :: r => (c :: w) :: r
    | [] => [[c]]
theorem splitW_ne (b : UInt8) (l : List UInt8) : splitW b l ≠ [] := by
  cases l with
  | nil => simp [splitW]
  | cons c l =>
    unfold splitW
    split
    · simp
    · split <;> simp
theorem splitW_none {b : UInt8} {w : List UInt8} (h : b ∉ w) : splitW b w = [w] := by
  induction w with
  | nil => rfl
  | cons c w ih =>
    rw [List.mem_cons, not_or] at h
    unfold splitW
    rw [if_neg (fun e => h.1 e.symm), ih h.2]
theorem splitW_cut {b : UInt8} {w l : List UInt8} (h : b ∉ w) : splitW b (w ++ b :: l) = w :: splitW b l := by
  induction w with
  | nil =>
    rw [List.nil_append]
    conv => lhs; unfold splitW
    rw [if_pos rfl]
  | cons c w ih =>
    rw [List.mem_cons, not_or] at h
    rw [List.cons_append]
    conv => lhs; unfold splitW
    rw [if_neg (fun e => h.1 e.symm), ih h.2]
theorem splitW_length (b : UInt8) (l : List UInt8) : (splitW b l).length = l.count b + 1 := by
  induction l with
  | nil => rfl
  | cons c l ih =>
    unfold splitW
    by_cases hc : c = b
    · subst hc
      rw [if_pos rfl, List.length_cons, ih, List.count_cons_self]
    · rw [if_neg hc, List.count_cons_of_ne hc]
      cases hs : splitW b l with
      | nil => exact absurd hs (splitW_ne b l)
      | cons w r => rw [hs] at ih; simpa using ih
/-- each word is part of the text -/
theorem splitW_small {b : UInt8} : ∀ {l w : List UInt8}, w ∈ splitW b l → w.length ≤ l.length
  | [], w, h => by simp [splitW] at h; subst h; simp
  | c :: l, w, h => by
    unfold splitW at h
    split at h
    · rcases List.mem_cons.1 h with rfl | h
      · simp
      · have := splitW_small h; simp; omega
    · split at h
      · next w' r hs =>
        rcases List.mem_cons.1 h with rfl | h
        · have := splitW_small (w := w') (by rw [hs]; simp); simpa using this
        · have := splitW_small (w := w) (l := l) (by rw [hs]; exact List.mem_cons_of_mem _ h); simp; omega
      · next hs => exact absurd hs (splitW_ne b l)
/-- a text's lines, each ended by a byte b; none: something stands behind the last -/
def linesW (b : UInt8) : List UInt8 → Option (List (List UInt8))
  | [] => some []
  | c :: l => if c = b then (linesW b l).map ([] :: ·) else match linesW b l with
    | some (w :: r) => some ((c :: w) :: r)
    | _ => none
theorem linesW_none {b : UInt8} {w : List UInt8} (h : b ∉ w) (hw : w ≠ []) : linesW b w = none := by
  induction w with
  | nil => exact absurd rfl hw
  | cons c w ih =>
    rw [List.mem_cons, not_or] at h
    unfold linesW
    rw [if_neg (fun e => h.1 e.symm)]
    cases w with
    | nil => rfl
    | cons d w => rw [ih h.2 (by simp)]
theorem linesW_cut {b : UInt8} {w l : List UInt8} (h : b ∉ w) : linesW b (w ++ b :: l) = (linesW b l).map (w :: ·) := by
  induction w with
  | nil =>
    rw [List.nil_append]
    conv => lhs; unfold linesW
    rw [if_pos rfl]
  | cons c w ih =>
    rw [List.mem_cons, not_or] at h
    rw [List.cons_append]
    conv => lhs; unfold linesW
    rw [if_neg (fun e => h.1 e.symm), ih h.2]
    cases linesW b l <;> rfl
/-- what a reader of lines makes of a text: each line must say something -/
def readW {α : Type} (f : List UInt8 → Option α) (l : List UInt8) : Option (List α) := (linesW 10 l).bind fun ws => ws.mapM f
theorem readW_nil {α : Type} (f : List UInt8 → Option α) : readW f [] = some [] := rfl
theorem readW_none {α : Type} {f : List UInt8 → Option α} {w : List UInt8} (h : 10 ∉ w) (hw : w ≠ []) : readW f w = none := by unfold readW; rw [linesW_none h hw]; rfl
theorem readW_cut {α : Type} {f : List UInt8 → Option α} {w l : List UInt8} (h : 10 ∉ w) : (f w = none → readW f (w ++ 10 :: l) = none) ∧ ∀ a, f w = some a → readW f (w ++ 10 :: l) = (readW f l).map (a :: ·) := by
  unfold readW
  rw [linesW_cut h]
  cases linesW 10 l with
  | none => exact ⟨fun _ => rfl, fun a _ => rfl⟩
  | some ws =>
    refine ⟨fun e => ?_, fun a e => ?_⟩
    · simp [e]
    · simp [e]
      cases ws.mapM f <;> rfl
/-- where a byte is found first -/
theorem index_cases (l : List UInt8) (c : UInt8) : (Lib.indexByte l c = -1 ∧ c ∉ l) ∨ ∃ m : Nat, m < l.length ∧ Lib.indexByte l c = m ∧ c ∉ l.take m ∧ l = l.take m ++ c :: l.drop (m + 1) := by
  have hge := Lib.indexByte_ge l c
  by_cases h : Lib.indexByte l c = -1
  · refine .inl ⟨h, fun hm => ?_⟩
    obtain ⟨k, hk⟩ := List.getElem?_of_mem hm
    exact Lib.indexByte_none h k hk
  · obtain ⟨m, hm⟩ := Int.eq_ofNat_of_zero_le (show 0 ≤ Lib.indexByte l c by omega)
    obtain ⟨h1, h2⟩ := Lib.indexByte_some hm
    obtain ⟨hlt, hget⟩ := List.getElem?_eq_some_iff.1 h1
    refine .inr ⟨m, hlt, hm, fun hc => ?_, ?_⟩
    · obtain ⟨k, hk⟩ := List.getElem?_of_mem hc
      obtain ⟨hk1, hk2⟩ := List.getElem?_eq_some_iff.1 hk
      rw [List.length_take] at hk1
      rw [List.getElem_take] at hk2
      exact h2 k (by omega) (List.getElem?_eq_some_iff.2 ⟨by omega, hk2⟩)
    · conv => lhs; rw [← List.take_append_drop m l]
      rw [List.drop_eq_getElem_cons hlt, hget]
/-- the words of what is left behind some of them -/
theorem splitW_at {b : UInt8} {l : List UInt8} {m : Nat} (h : b ∉ l.take m) (he : l = l.take m ++ b :: l.drop (m + 1)) : splitW b l = l.take m :: splitW b (l.drop (m + 1)) := by
  conv => lhs; rw [he]
  exact splitW_cut h
theorem linesW_at {b : UInt8} {l : List UInt8} {m : Nat} (h : b ∉ l.take m) (he : l = l.take m ++ b :: l.drop (m + 1)) : linesW b l = (linesW b (l.drop (m + 1))).map (l.take m :: ·) := by
  conv => lhs; rw [he]
  exact linesW_cut h
/-- a text's words by the reference's way: what was taken, and what stands from some byte on -/
theorem splitW_step {b : UInt8} {l : List UInt8} {i : Nat} (hi : i < l.length) (hb : l[i] = b) {f : Nat} (hf : f ≤ i) (h : b ∉ (l.drop f).take (i - f)) : splitW b (l.drop f) = (l.drop f).take (i - f) :: splitW b (l.drop (i + 1)) := by
  have e : l.drop f = (l.drop f).take (i - f) ++ b :: l.drop (i + 1) := by
    conv => lhs; rw [← List.take_append_drop (i - f) (l.drop f)]
    rw [List.drop_drop, show f + (i - f) = i by omega, List.drop_eq_getElem_cons hi, hb]
  conv => lhs; rw [e]
  exact splitW_cut h
theorem linesW_step {b : UInt8} {l : List UInt8} {i : Nat} (hi : i < l.length) (hb : l[i] = b) {f : Nat} (hf : f ≤ i) (h : b ∉ (l.drop f).take (i - f)) : linesW b (l.drop f) = (linesW b (l.drop (i + 1))).map ((l.drop f).take (i - f) :: ·) := by
  have e : l.drop f = (l.drop f).take (i - f) ++ b :: l.drop (i + 1) := by
    conv => lhs; rw [← List.take_append_drop (i - f) (l.drop f)]
    rw [List.drop_drop, show f + (i - f) = i by omega, List.drop_eq_getElem_cons hi, hb]
  conv => lhs; rw [e]
  exact linesW_cut h
theorem none_step {b : UInt8} {l : List UInt8} {i : Nat} (hi : i < l.length) (hb : l[i] ≠ b) {f : Nat} (hf : f ≤ i) (h : b ∉ (l.drop f).take (i - f)) : b ∉ (l.drop f).take (i + 1 - f) := by
  have e : (l.drop f).take (i + 1 - f) = (l.drop f).take (i - f) ++ [l[i]] := by
    rw [show i + 1 - f = (i - f) + 1 by omega, List.take_succ_eq_append_getElem (by simp; omega)]
    congr 2
    rw [List.getElem_drop]
    congr 1
    omega
  rw [e, List.mem_append, List.mem_singleton, not_or]
  exact ⟨h, fun e => hb e.symm⟩
/-- a reader of lines on its way: what was read, and what is still to come -/
theorem readW_go {α : Type} {f : List UInt8 → Option α} {l w r : List UInt8} {acc : List α} {t : List UInt8} (ht : t = w ++ 10 :: r) (h : 10 ∉ w) (hacc : readW f l = (readW f t).map (acc ++ ·)) :
    (f w = none → readW f l = none) ∧ ∀ a, f w = some a → readW f l = (readW f r).map ((acc ++ [a]) ++ ·) := by
  subst ht
  obtain ⟨h1, h2⟩ := readW_cut (f := f) (w := w) (l := r) h
  refine ⟨fun e => by rw [hacc, h1 e]; rfl, fun a e => ?_⟩
  rw [hacc, h2 a e]
  cases readW f r with
  | none => rfl
  | some x => simp
theorem readW_done {α : Type} {f : List UInt8 → Option α} {l : List UInt8} {acc : List α} (hacc : readW f l = (readW f []).map (acc ++ ·)) : readW f l = some acc := by
  rw [hacc, readW_nil]; simp
theorem readW_open {α : Type} {f : List UInt8 → Option α} {l t : List UInt8} {acc : List α} (h : 10 ∉ t) (ht : t ≠ []) (hacc : readW f l = (readW f t).map (acc ++ ·)) : readW f l = none := by
  rw [hacc, readW_none h ht]; rfl
theorem readW_start {α : Type} (f : List UInt8 → Option α) (l : List UInt8) : readW f l = (readW f l).map (([] : List α) ++ ·) := by
  cases readW f l <;> simp
end Go.Proofs.YtjknjmlpnjifkaaDoor
namespace Go.Proofs.YtjknjmlpnjifkaaDoor
open Go.RowKit
set_option linter.unusedVariables false
set_option linter.unusedSimpArgs false
/-- a piece that says something -/
def keepP (p : List UInt8) : Bool := !(p == [] || p == [46])
/-- the parts of a name -/
def partsOf (l : List UInt8) : List (List UInt8) := (splitW 47 l).filter keepP
/-- what is wrong with a name -/
def routeE (l : List UInt8) (mn md : Int) : Int :=
  if l = [] then 90 else if mn < l.length then 93 else if (0 : UInt8) ∈ l then 91 else if l.head? = some 47 then 92
  else if [46, 46] ∈ partsOf l then 94 else if (partsOf l).any (fun p => decide (255 < p.length)) then 95 else if md < (partsOf l).length then 96 else 0
theorem splitW_mem {b : UInt8} : ∀ {l w : List UInt8}, w ∈ splitW b l → b ∉ w ∧ ∀ x ∈ w, x ∈ l
  | [], w, h => by simp [splitW] at h; subst h; simp
  | c :: l, w, h => by
    unfold splitW at h
    split at h
    · rcases List.mem_cons.1 h with rfl | h
      · simp
      · obtain ⟨h1, h2⟩ := splitW_mem h
        exact ⟨h1, fun x hx => List.mem_cons_of_mem _ (h2 x hx)⟩
    · next hc =>
      split at h
      · next v r hs =>
        rcases List.mem_cons.1 h with rfl | h
        · obtain ⟨h1, h2⟩ := splitW_mem (b := b) (l := l) (w := v) (by rw [hs]; simp)
          refine ⟨fun hb => ?_, fun x hx => ?_⟩
          · rcases List.mem_cons.1 hb with rfl | hb
            · exact hc rfl
            · exact h1 hb
          · rcases List.mem_cons.1 hx with rfl | hx
            · simp
            · exact List.mem_cons_of_mem _ (h2 x hx)
        · obtain ⟨h1, h2⟩ := splitW_mem (b := b) (l := l) (w := w) (by rw [hs]; simp [h])
          exact ⟨h1, fun x hx => List.mem_cons_of_mem _ (h2 x hx)⟩
      · next hs => exact absurd hs (splitW_ne b l)
/-- a part is no longer than the name; it holds no stroke, and nothing that the name does not hold -/
theorem parts_mem {l p : List UInt8} (h : p ∈ partsOf l) : (47 : UInt8) ∉ p ∧ (∀ x ∈ p, x ∈ l) ∧ p ≠ [] ∧ p ≠ [46] ∧ p.length ≤ l.length := by
  obtain ⟨h1, h2⟩ := List.mem_filter.1 h
  obtain ⟨a, b⟩ := splitW_mem h1
  unfold keepP at h2
  simp at h2
  exact ⟨a, b, h2.1, h2.2, splitW_small h1⟩
theorem parts_len (l : List UInt8) : (partsOf l).length ≤ l.length + 1 := by
  have h1 := List.length_filter_le keepP (splitW 47 l)
  have h2 := splitW_length 47 l
  have h3 := List.count_le_length (a := (47 : UInt8)) (l := l)
  unfold partsOf
  omega
end Go.Proofs.YtjknjmlpnjifkaaDoor
namespace Go.Proofs.YtjknjmlpnjifkaaDoor
open Go.RowKit
set_option linter.unusedVariables false
set_option linter.unusedSimpArgs false
attribute [local go_sem] cell?_over frozen?_over lt_over le_over
theorem bytes_ext {s : ByteArray} {l : List UInt8} (h : s.data.toList = l) : s = ⟨l.toArray⟩ := by
  cases s
  simp at h
  subst h
  simp
theorem empty_lit {s : ByteArray} (h : s.data.toList ≠ []) : s.toList.isEmpty = false := by
  rw [Lib.toList_data]
  cases hl : s.data.toList with
  | nil => exact absurd hl h
  | cons _ _ => rfl
theorem list_lit {s : ByteArray} {l : List UInt8} (h : s.data.toList ≠ l) : (s.toList == l) = false := by
  rw [Lib.toList_data]
  exact beq_eq_false_iff_ne.2 h
set_option maxHeartbeats 1000000 in
set_option maxRecDepth 100000 in
theorem goodPart (s : ByteArray) (w : World) (hs : s.size < 4294967281) (hn : (47 : UInt8) ∉ s.data.toList ∧ (0 : UInt8) ∉ s.data.toList) (h0 : s.data.toList ≠ []) (h1 : s.data.toList ≠ [46]) (h2 : s.data.toList ≠ [46, 46]) :
    Calls Tryd.prog 35 #[.string s] w fun e w' => e = .returned (.bool (decide (s.size ≤ 255))) ∧ Below w.heap.size w w' := by
  have t0 := empty_lit h0
  have t1 := list_lit h1
  have t2 := list_lit h2
  have HA := Lib.hid (fun w => anyNone s w hs hn)
  clear hn h0 h1 h2
  by_cases h : s.size ≤ 255
  · have c1 : decide ((s.size : Int) ≤ 255) = true := by simp; omega
    rw [decide_eq_true h]
    clear h
    go_enter Tryd.func35, Tryd.ntmps35
    go_wp2_with fail
    refine (HA.out _).mono ?_
    rintro e w' ⟨rfl, hb⟩
    have HB := Lib.hid hb
    clear hb
    go_wp2_with fail
    go_ret
    exact ⟨rfl, HB.out⟩
  · have c1 : decide ((s.size : Int) ≤ 255) = false := by simp; omega
    rw [decide_eq_false h]
    clear h
    go_enter Tryd.func35, Tryd.ntmps35
    go_wp2_with fail
    go_ret
    exact ⟨rfl, Below.refl _ _⟩
set_option maxHeartbeats 1000000 in
set_option maxRecDepth 100000 in
/-- the test by which pieces are dropped -/
theorem dropPiece (s : ByteArray) (w : World) : Calls Tryd.prog 33 #[.string s] w fun e w' => e = .returned (.bool (!keepP s.data.toList)) ∧ w' = w := by
  by_cases h0 : s.data.toList = []
  · have := bytes_ext h0
    subst this
    go_enter Tryd.func33, Tryd.ntmps33
    go_wp2_with fail
    go_ret
    exact ⟨rfl, rfl⟩
  · have t0 := empty_lit h0
    by_cases h1 : s.data.toList = [46]
    · have := bytes_ext h1
      subst this
      go_enter Tryd.func33, Tryd.ntmps33
      go_wp2_with fail
      go_ret
      exact ⟨rfl, rfl⟩
    · have t1 := list_lit h1
      have hk : (!keepP s.data.toList) = false := by unfold keepP; rw [beq_eq_false_iff_ne.2 h0, beq_eq_false_iff_ne.2 h1]; rfl
      rw [hk]
      clear h0 h1 hk
      go_enter Tryd.func33, Tryd.ntmps33
      go_wp2_with fail
      go_ret
      exact ⟨rfl, rfl⟩
end Go.Proofs.YtjknjmlpnjifkaaDoor
namespace Go.Proofs.YtjknjmlpnjifkaaDoor
open Go.RowKit
set_option linter.unusedVariables false
set_option linter.unusedSimpArgs false
theorem splitB_words (c : UInt8) : ∀ (k : Nat) (s : ByteArray), s.data.toList.count c = k → (Lib.splitB ⟨#[c]⟩ 0 k s).map (·.data.toList) = splitW c s.data.toList
  | 0, s, h => by
    rw [Lib.splitB_zero, splitW_none (List.count_eq_zero.1 h)]
    rfl
  | k + 1, s, h => by
    have hix : Lib.indexB s ⟨#[c]⟩ = Lib.indexByte s.data.toList c := Lib.index_one _ _
    rcases index_cases s.data.toList c with ⟨_, hn⟩ | ⟨m, hm, hi, hn, he⟩
    · rw [List.count_eq_zero.2 hn] at h; omega
    · rw [Lib.splitB_hit _ _ _ _ m (hix.trans hi)]
      have h1 : (s.extract 0 (m + 0)).data.toList = s.data.toList.take m := by rw [Lib.extract_data]; simp
      have h2 : (s.extract (m + (⟨#[c]⟩ : ByteArray).size) s.size).data.toList = s.data.toList.drop (m + 1) := by
        rw [Lib.extract_data, List.take_of_length_le]
        · rfl
        · rw [List.length_drop, Array.length_toList]; exact Nat.le_refl _
      have hc : (s.data.toList.drop (m + 1)).count c = k := by
        rw [he, List.count_append, List.count_cons_self, List.count_eq_zero.2 hn] at h
        omega
      rw [List.map_cons, h1, splitB_words c k _ (by rw [h2]; exact hc), h2]
      exact (splitW_at hn he).symm
theorem split_words (c : UInt8) (s : ByteArray) : (Lib.splitB ⟨#[c]⟩ 0 (Lib.countB s ⟨#[c]⟩) s).map (·.data.toList) = splitW c s.data.toList ∧ Lib.countB s ⟨#[c]⟩ + 1 = (splitW c s.data.toList).length := by
  have h : Lib.countB s ⟨#[c]⟩ = s.data.toList.count c := Lib.count_one _ _
  exact ⟨splitB_words c _ s h.symm, by rw [h, splitW_length]⟩
end Go.Proofs.YtjknjmlpnjifkaaDoor
namespace Go.Proofs.YtjknjmlpnjifkaaDoor
open Go.RowKit
set_option linter.unusedVariables false
set_option linter.unusedSimpArgs false
/-- words as texts -/
abbrev textsL (l : List (List UInt8)) : List ByteArray := l.map fun p => ⟨p.toArray⟩
theorem texts_back (l : List ByteArray) : textsL (l.map (·.data.toList)) = l := by
  induction l with
  | nil => rfl
  | cons x l ih =>
    unfold textsL at ih ⊢
    rw [List.map_cons, List.map_cons, ih]
theorem splitStroke (s : ByteArray) (w : World) (m : Int) (hs : s.size < 4294967281) (hm : w.cell? ⟨0, 0, none⟩ = some (.int .i64 m)) :
    Calls Tryd.prog 32 #[.string s, .string ⟨#[47]⟩] w fun e w' => e = .returned (.slice (some ⟨w.heap.size, 0, none⟩) (splitW 47 s.data.toList).length (splitW 47 s.data.toList).length) ∧
      w' = w.alloc (.cells ((textsL (splitW 47 s.data.toList)).map Value.string).toArray 9) := by
  have h := Any.strings_Split Tryd.lays146 (by kernel_rfl) s ⟨#[47]⟩ m w hs hm (by decide)
  obtain ⟨h1, h2⟩ := split_words 47 s
  refine h.mono ?_
  rintro e w' ⟨rfl, rfl⟩
  refine ⟨by rw [h2], ?_⟩
  have h3 : (Lib.splitB ⟨#[47]⟩ 0 (Lib.countB s ⟨#[47]⟩) s) = textsL (splitW 47 s.data.toList) := by
    rw [← h1]
    exact (texts_back _).symm
  rw [h3]
  rfl
theorem texts_filter (l : List (List UInt8)) : (textsL l).filter (fun x => !!keepP x.data.toList) = textsL (l.filter keepP) := by
  induction l with
  | nil => rfl
  | cons p l ih =>
    simp only [textsL, List.map_cons, List.filter_cons] at ih ⊢
    rw [ih]
    cases h : keepP p <;> simp [h]
theorem delPieces (ws : List (List UInt8)) (w : World) (hl : ws.length ≤ 4294967281) (hsz : ∀ p ∈ ws, p.length ≤ maxLen) :
    Calls Tryd.prog 31 #[.slice (some ⟨w.heap.size, 0, none⟩) ws.length ws.length, .func (.func 33) #[] #[]] (w.alloc (.cells ((textsL ws).map Value.string).toArray 9)) fun e w' =>
      e = .returned (.slice (some ⟨w.heap.size, 0, none⟩) (ws.filter keepP).length ws.length) ∧ Below w.heap.size w w' ∧ Row Shape.str w' (Old w') (some ⟨w.heap.size, 0, none⟩) (ws.filter keepP).length (textsL (ws.filter keepP)) := by
  have heg : ∀ args w, (callFunc 33 args).run Tryd.prog w = .ok (.enter 33 args) w := enters_of Tryd.func33 (by kernel_rfl) rfl
  have hg : ∀ (W : World) (x : ByteArray), FnGives Tryd.prog 33 #[] #[.string x] (.bool (!keepP x.data.toList)) W := fun W x => (dropPiece x W).mono fun e w' h => ⟨h.1, 0, h.2⟩
  have hcell : ∀ j, j < ws.length → (w.alloc (.cells ((textsL ws).map Value.string).toArray 9)).cell? ⟨w.heap.size, 0 + j, none⟩ = some (.string (textsL ws).toArray[j]!) := fun j hj => by
    rw [Nat.zero_add]
    have : (textsL ws).toArray[j]! = (textsL ws)[j]'(by simpa using hj) := by
      rw [getElem!_pos _ j (by simpa using hj)]; simp
    rw [this]
    simp [World.cell?_alloc_at, hj]
  have hH : Sort.Holds Value.string (w.alloc (.cells ((textsL ws).map Value.string).toArray 9)) w.heap.size 0 (textsL ws).toArray := fun j hj => ⟨hcell j (by simpa using hj), by simp⟩
  have h := AnyE.slices_DeleteFunc Tryd.laysH10 Value.string (fun _ => rfl) (fun x => !keepP x.data.toList) 33 #[] heg ByteArray.empty Tryd.zeroValue9 w.heap.size 0 ws.length (textsL ws).toArray _ (fun W x _ => hg W x) (fun n os dk x _ => hg _ x) hH (by simp; omega) (by simp)
  have hf : ((textsL ws).toArray.toList.filter fun x => !(!keepP x.data.toList)) = textsL (ws.filter keepP) := by simpa using texts_filter ws
  rw [hf] at h
  obtain ⟨K, hK⟩ : ∃ K, K = ws.filter keepP := ⟨_, rfl⟩
  have hKl : K.length ≤ ws.length := by rw [hK]; exact List.length_filter_le _ _
  have hKs : ∀ p ∈ K, p.length ≤ maxLen := fun p hp => hsz p (List.mem_filter.1 (by rw [← hK]; exact hp)).1
  rw [← hK] at h ⊢
  have hds : (textsL K ++ List.replicate ((textsL ws).toArray.size - (textsL K).length) ByteArray.empty).toArray.size = (textsL ws).toArray.size := by
    have e1 : (textsL ws).toArray.size = ws.length := by simp
    have e2 : (textsL K).length = K.length := by simp
    rw [List.size_toArray, List.length_append, List.length_replicate, e1, e2]
    omega
  have hP := Sort.holds_putRow Value.string (w.alloc (.cells ((textsL ws).map Value.string).toArray 9)) w.heap.size 0 _ _ hH hds
  have e0 : (textsL ws).toArray.size = ws.length := by simp
  have e2 : (textsL K).length = K.length := by simp
  rw [e0, e2] at h
  rw [e0, e2] at hP hds
  refine h.mono ?_
  rintro e w' ⟨rfl, q, rfl⟩
  refine ⟨rfl, Lib.below_putRow ((Below.refl _ w).alloc (Nat.le_refl _) _) (Nat.le_refl _), by simp, fun hn => ⟨w.heap.size, 0, rfl, by show w.heap.size < (Sort.putRow _ _ _ _ _).heap.size; rw [Sort.size_putRow]; simp, fun i hi => ?_⟩⟩
  have hi' : i < K.length := by simpa using hi
  refine ⟨[.string ⟨K[i].toArray⟩], fun j hj => ?_, ?_⟩
  · have hj0 : j = 0 := by have : j < 1 := hj; omega
    subst hj0
    have := (hP i (by rw [hds]; omega)).1
    rw [getElem!_pos _ i (by rw [hds]; omega)] at this
    have e1 : (textsL K ++ List.replicate (ws.length - K.length) ByteArray.empty).toArray[i]'(by rw [hds]; omega) = ⟨K[i].toArray⟩ := by
      rw [List.getElem_toArray, List.getElem_append_left (by simpa using hi')]
      simp
    rw [e1] at this
    rw [Sort.putRow_ahead, Sort.cell?_ahead]
    simpa [Shape.str] using this
  · refine ⟨by simp, ?_⟩
    have := hKs K[i] (List.getElem_mem hi')
    simpa [ByteArray.size] using this
end Go.Proofs.YtjknjmlpnjifkaaDoor
