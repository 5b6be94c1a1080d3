/- Maps as lists of pairs: what is found behind a pair put. No condition. Attributes laid over one another: which one counts; plain. No condition. -/
import Derived.Test.YtnadldcdckjifaaDoorMap
import Derived.Test.YtnadldcdckjifaaDoorLevels
import Derived.Test.YtnadldcdckjifaaDoorDataO
set_option linter.unusedSectionVars false
set_option linter.unusedVariables false
set_option linter.unusedSimpArgs false
namespace Go.Proofs.YtnadldcdckjifaaDoor
open Go.RowKit
section
variable {κ V : Type} [DecidableEq κ]
theorem getKv_putKv (kv : List (κ × V)) (k k' : κ) (v : V) : getKv (putKv kv k v) k' = if k' = k then some v else getKv kv k' := by
  unfold putKv
  by_cases hh : hasKv kv k = true
  · rw [if_pos hh]
    by_cases e : k' = k
    · subst e
      rw [if_pos rfl]
      induction kv with
      | nil => simp [hasKv] at hh
      | cons p kv ih =>
        by_cases hp : p.1 = k'
        · simp [getKv, hp]
        · have : hasKv kv k' = true := by simpa [hasKv, hp] using hh
          have ih := ih this
          simp only [getKv, List.map_cons, hp, if_false] at ih ⊢
          simp only [List.find?_cons, hp, decide_false]
          exact ih
    · rw [if_neg e]
      clear hh
      induction kv with
      | nil => rfl
      | cons p kv ih =>
        by_cases hp : p.1 = k
        · have hp' : ¬ k = k' := fun h => e h.symm
          have hp2 : ¬ p.1 = k' := fun h => e (h.symm.trans hp)
          simp only [getKv, List.map_cons, hp, if_true, List.find?_cons, hp', hp2, decide_false] at ih ⊢
          exact ih
        · by_cases hp2 : p.1 = k'
          · simp [getKv, hp, hp2, e]
          · simp only [getKv, List.map_cons, hp, if_false, List.find?_cons, hp2, decide_false] at ih ⊢
            exact ih
  · rw [if_neg hh]
    have hnone : ∀ p ∈ kv, ¬ p.1 = k := by
      intro p hp he
      exact hh (by simp only [hasKv, List.any_eq_true]; exact ⟨p, hp, by simpa using he⟩)
    unfold getKv
    rw [List.find?_append]
    by_cases e : k' = k
    · subst e
      rw [if_pos rfl, List.find?_eq_none.2 (fun p hp => by simpa using hnone p hp)]
      simp
    · rw [if_neg e]
      have : ¬ k = k' := fun h => e h.symm
      simp [List.find?_cons, this]
end
end Go.Proofs.YtnadldcdckjifaaDoor
namespace Go.Proofs.YtnadldcdckjifaaDoor
set_option linter.unusedVariables false
set_option linter.unusedSimpArgs false
theorem getKv_delKv {κ β : Type} [DecidableEq κ] (kv : List (κ × β)) (k k' : κ) : getKv (delKv kv k) k' = if k' = k then none else getKv kv k' := by
  unfold getKv delKv
  induction kv with
  | nil => simp
  | cons p kv ih =>
    by_cases hp : p.1 = k
    · rw [List.filter_cons_of_neg (by simpa using hp), ih]
      by_cases e : k' = k
      · rw [if_pos e, if_pos e]
      · rw [if_neg e, if_neg e, List.find?_cons_of_neg]
        simp; intro h; exact e (h.symm.trans hp)
    · rw [List.filter_cons_of_pos (by simpa using hp)]
      by_cases hp2 : p.1 = k'
      · have e : ¬ k' = k := fun h => hp (hp2.trans h)
        rw [if_neg e, List.find?_cons_of_pos (by simpa using hp2), List.find?_cons_of_pos (by simpa using hp2)]
      · rw [List.find?_cons_of_neg (by simpa using hp2), List.find?_cons_of_neg (by simpa using hp2)]
        exact ih
abbrev OvKv := List (ByteArray × (ByteArray × Bool))
/-- the value of the last pair with a key -/
def latest (l : List PairD) (k : ByteArray) : Option ByteArray := (l.reverse.find? fun p => decide (p.key = k)).map (·.value)
theorem latest_nil (k : ByteArray) : latest [] k = none := rfl
theorem latest_snoc (l : List PairD) (p : PairD) (k : ByteArray) : latest (l ++ [p]) k = if p.key = k then some p.value else latest l k := by
  unfold latest
  rw [List.reverse_append, List.reverse_singleton, List.singleton_append]
  by_cases h : p.key = k
  · rw [if_pos h, List.find?_cons_of_pos (by simpa using h)]; rfl
  · rw [if_neg h, List.find?_cons_of_neg (by simpa using h)]
def layOne (kv : OvKv) (p : PairD) : OvKv := if p.value.size = 0 then delKv kv p.key else putKv kv p.key (p.value, false)
def layKv (kv : OvKv) (l : List PairD) : OvKv := l.foldl layOne kv
def hideOne (kv : OvKv) (p : PairD) : OvKv := if p.value.size = 0 then delKv kv p.key else kv
def hideKv (kv : OvKv) (l : List PairD) : OvKv := l.foldl hideOne kv
theorem layKv_snoc (kv : OvKv) (l : List PairD) (p : PairD) : layKv kv (l ++ [p]) = layOne (layKv kv l) p := by unfold layKv; rw [List.foldl_append]; rfl
theorem hideKv_snoc (kv : OvKv) (l : List PairD) (p : PairD) : hideKv kv (l ++ [p]) = hideOne (hideKv kv l) p := by unfold hideKv; rw [List.foldl_append]; rfl
theorem snoc_ind {α : Type} {P : List α → Prop} (h0 : P []) (h1 : ∀ l a, P l → P (l ++ [a])) (l : List α) : P l := by
  have : ∀ r : List α, P r.reverse := by
    intro r
    induction r with
    | nil => exact h0
    | cons a r ih => rw [List.reverse_cons]; exact h1 _ _ ih
  have h := this l.reverse
  rwa [List.reverse_reverse] at h
theorem getKv_lay (kv : OvKv) (l : List PairD) (k : ByteArray) : getKv (layKv kv l) k = match latest l k with
    | none => getKv kv k
    | some v => if v.size = 0 then none else some (v, false) := by
  induction l using snoc_ind with
  | h0 => rfl
  | h1 l p ih =>
    rw [layKv_snoc, latest_snoc]
    unfold layOne
    by_cases hv : p.value.size = 0
    · rw [if_pos hv, getKv_delKv]
      by_cases hk : p.key = k
      · rw [if_pos hk.symm, if_pos hk]; simp only [hv, if_true]
      · rw [if_neg (fun e => hk e.symm), if_neg hk, ih]
    · rw [if_neg hv, getKv_putKv]
      by_cases hk : p.key = k
      · rw [if_pos hk.symm, if_pos hk]; simp only [hv, if_false]
      · rw [if_neg (fun e => hk e.symm), if_neg hk, ih]
theorem getKv_hide (kv : OvKv) (l : List PairD) (k : ByteArray) (h : latest l k = none) : getKv (hideKv kv l) k = getKv kv k := by
  induction l using snoc_ind with
  | h0 => rfl
  | h1 l p ih =>
    rw [latest_snoc] at h
    by_cases hk : p.key = k
    · rw [if_pos hk] at h; cases h
    · rw [if_neg hk] at h
      rw [hideKv_snoc]
      unfold hideOne
      split
      · rw [getKv_delKv, if_neg (fun e => hk e.symm), ih h]
      · exact ih h
theorem getKv_hide0 (kv : OvKv) (l : List PairD) (k v : ByteArray) (h : latest l k = some v) (hv : v.size = 0) : getKv (hideKv kv l) k = none := by
  induction l using snoc_ind with
  | h0 => cases h
  | h1 l p ih =>
    rw [latest_snoc] at h
    rw [hideKv_snoc]
    unfold hideOne
    by_cases hk : p.key = k
    · rw [if_pos hk] at h
      injection h with h
      subst h
      rw [if_pos hv, getKv_delKv, if_pos hk.symm]
    · rw [if_neg hk] at h
      split
      · rw [getKv_delKv, if_neg (fun e => hk e.symm), ih h]
      · exact ih h
/-- the value that counts, and whether it is a local one -/
def foundV (g l : List PairD) (k : ByteArray) : ByteArray := match latest l k with
  | some v => v
  | none => (latest g k).getD ⟨#[]⟩
def foundL (l : List PairD) (k : ByteArray) : Bool := match latest l k with
  | some v => decide (v.size ≠ 0)
  | none => false
def textOf (g l : List PairD) (k long plain : ByteArray) : ByteArray :=
  if foundL l k then foundV g l k else if long.size ≠ 0 then long else if (foundV g l k).size ≠ 0 then foundV g l k else plain
def latD (l : List PairD) (k : ByteArray) : ByteArray := (latest l k).getD ⟨#[]⟩
def hdPairs (name link user group : ByteArray) : List PairD := [⟨⟨#[112, 97, 116, 104]⟩, name⟩, ⟨⟨#[108, 105, 110, 107, 112, 97, 116, 104]⟩, link⟩, ⟨⟨#[117, 110, 97, 109, 101]⟩, user⟩, ⟨⟨#[103, 110, 97, 109, 101]⟩, group⟩]
def lgPairs (name link : ByteArray) : List PairD := [⟨⟨#[112, 97, 116, 104]⟩, name⟩, ⟨⟨#[108, 105, 110, 107, 112, 97, 116, 104]⟩, link⟩]
def ovRows (h lg g l : List PairD) : List OvKv := [layKv [] h, hideKv (layKv [] g) l, layKv [] lg, layKv [] l]
theorem getKv_nil (k : ByteArray) : getKv ([] : OvKv) k = none := rfl
theorem getKv_lay0 (l : List PairD) (k : ByteArray) : getKv (layKv [] l) k = if (latD l k).size = 0 then none else some (latD l k, false) := by
  rw [getKv_lay]
  unfold latD
  cases latest l k with
  | none => rfl
  | some v => rfl
theorem ov_top (h lg g l : List PairD) (k : ByteArray) : topKv (ovRows h lg g l) k =
    if (textOf g l k (latD lg k) (latD h k)).size = 0 then none else some (textOf g l k (latD lg k) (latD h k), false) := by
  have e0 := getKv_lay0 h k
  have e2 := getKv_lay0 lg k
  have e3 := getKv_lay [] l k
  have e1 := getKv_lay0 g k
  unfold ovRows
  simp only [topKv, Option.none_or]
  unfold textOf foundL foundV
  cases hl : latest l k with
  | none =>
    rw [hl] at e3
    simp only at e3
    rw [e3, getKv_nil, e2, getKv_hide _ _ _ hl, e1, e0]
    simp only [Option.none_or, Bool.false_eq_true, if_false]
    change _ = if (if (latD lg k).size ≠ 0 then latD lg k else if (latD g k).size ≠ 0 then latD g k else latD h k).size = 0 then none else some (if (latD lg k).size ≠ 0 then latD lg k else if (latD g k).size ≠ 0 then latD g k else latD h k, false)
    by_cases h2 : (latD lg k).size = 0
    · by_cases h1 : (latD g k).size = 0
      · by_cases h0 : (latD h k).size = 0 <;> simp [h0, h1, h2]
      · simp [h1, h2]
    · simp [h2]
  | some v =>
    rw [hl] at e3
    simp only at e3
    rw [e3, e2, e0]
    by_cases hv : v.size = 0
    · rw [getKv_hide0 _ _ _ v hl hv]
      simp only [hv, if_true, Option.none_or, ne_eq, not_true_eq_false, decide_false, Bool.false_eq_true, if_false, Option.or_none]
      by_cases h2 : (latD lg k).size = 0
      · by_cases h0 : (latD h k).size = 0 <;> simp [h0, h2]
      · simp [h2]
    · simp [hv]
end Go.Proofs.YtnadldcdckjifaaDoor
