/- Go's order of texts, and of lists of texts: plain. No condition. What differs between two lists of lines, plain: the changes, and that they have one order by path. No condition. Lines by path: manifest's byPath and the reference's at. No condition but room. -/
import Derived.Test.YtkpblhikndennaaGreatDoorBaseAt
import Derived.Sort.Walk0
import Derived.Test.YtkpblhikndennaaGreatDoorMapAll
import Derived.BigGuardPart
namespace Go.Proofs.YtkpblhikndennaaGreatDoor
set_option linter.unusedSectionVars false
set_option linter.unusedVariables false
set_option linter.unusedSimpArgs false
/-- Go's order of texts -/
def pl (a b : ByteArray) : Bool := Op.bytesLess a.toList b.toList
theorem pl_iff (a b : ByteArray) : pl a b = true ↔ a.data.toList < b.data.toList := by
  unfold pl; rw [Go.Proofs.bytesLess_eq, ByteArray.toList_eq, ByteArray.toList_eq, decide_eq_true_iff]
theorem pl_irrefl (a : ByteArray) : pl a a = false := by
  rw [← Bool.not_eq_true, pl_iff]; exact List.lt_irrefl _
theorem pl_trans {a b c : ByteArray} (h : pl a b = true) (k : pl b c = true) : pl a c = true := by
  rw [pl_iff] at *; exact List.lt_trans h k
theorem pl_tri {a b : ByteArray} (h : pl a b = false) (k : pl b a = false) : a = b := by
  rw [← Bool.not_eq_true, pl_iff] at h k
  have : a.data.toList = b.data.toList := List.le_antisymm (List.not_lt.1 k) (List.not_lt.1 h)
  cases a; cases b
  simp only [ByteArray.mk.injEq] at *
  exact Array.toList_inj.1 this
theorem pl_asymm {a b : ByteArray} (h : pl a b = true) : pl b a = false := by
  rw [← Bool.not_eq_true]; intro k
  have := pl_trans h k
  rw [pl_irrefl] at this; cases this

def cmpSt (a b : ByteArray) : Int := if pl a b then -1 else if pl b a then 1 else 0
theorem cmpSt_0 {a b : ByteArray} (h : cmpSt a b = 0) : a = b := by
  unfold cmpSt at h
  cases h1 : pl a b
  · cases h2 : pl b a
    · exact pl_tri h1 h2
    · simp [h1, h2] at h
  · simp [h1] at h
theorem cmpSt_self (a : ByteArray) : cmpSt a a = 0 := by simp [cmpSt, pl_irrefl]
theorem cmpSt_neg (a b : ByteArray) : cmpSt a b < 0 ↔ pl a b = true := by
  unfold cmpSt
  cases h1 : pl a b
  · cases h2 : pl b a <;> simp
  · simp
/-- slices.Compare of two lists of texts -/
def cmpL : List ByteArray → List ByteArray → Int
  | [], [] => 0
  | [], _ :: _ => -1
  | _ :: _, [] => 1
  | x :: a, y :: b => if cmpSt x y = 0 then cmpL a b else cmpSt x y
/-- the first of two lists of one length that differ -/
def lexL : List ByteArray → List ByteArray → Bool
  | x :: a, y :: b => if x = y then lexL a b else pl x y
  | _, _ => false
/-- does the path a come ahead of the path b? -/
def aheadL (a b : List ByteArray) : Bool := if a.length = b.length then lexL a b else decide (b.length < a.length)
theorem cmpL_lex : ∀ (a b : List ByteArray), a.length = b.length → (cmpL a b < 0 ↔ lexL a b = true)
  | [], [], _ => by simp [cmpL, lexL]
  | [], _ :: _, h => by simp at h
  | _ :: _, [], h => by simp at h
  | x :: a, y :: b, h => by
    unfold cmpL lexL
    by_cases hxy : x = y
    · subst hxy
      rw [if_pos (cmpSt_self x), if_pos rfl]
      exact cmpL_lex a b (by simpa using h)
    · rw [if_neg (fun e => hxy (cmpSt_0 e)), if_neg hxy]
      exact cmpSt_neg x y
theorem lexL_irrefl : ∀ a, lexL a a = false
  | [] => rfl
  | x :: a => by unfold lexL; rw [if_pos rfl]; exact lexL_irrefl a
theorem lexL_trans : ∀ {a b c : List ByteArray}, lexL a b = true → lexL b c = true → lexL a c = true
  | [], _, _, h, _ => by simp [lexL] at h
  | _ :: _, [], _, h, _ => by simp [lexL] at h
  | _ :: _, _ :: _, [], _, k => by simp [lexL] at k
  | x :: a, y :: b, z :: c, h, k => by
    unfold lexL at *
    by_cases h1 : x = y
    · subst h1
      rw [if_pos rfl] at h
      by_cases h2 : x = z
      · rw [if_pos h2] at k ⊢; exact lexL_trans h k
      · rw [if_neg h2] at k ⊢; exact k
    · rw [if_neg h1] at h
      by_cases h2 : y = z
      · subst h2; rw [if_neg h1]; exact h
      · rw [if_neg h2] at k
        have := pl_trans h k
        by_cases h3 : x = z
        · subst h3; rw [pl_irrefl] at this; cases this
        · rw [if_neg h3]; exact this
theorem lexL_tri : ∀ {a b : List ByteArray}, a.length = b.length → lexL a b = false → lexL b a = false → a = b
  | [], [], _, _, _ => rfl
  | [], _ :: _, h, _, _ => by simp at h
  | _ :: _, [], h, _, _ => by simp at h
  | x :: a, y :: b, h, k1, k2 => by
    unfold lexL at k1 k2
    by_cases hxy : x = y
    · subst hxy
      rw [if_pos rfl] at k1 k2
      rw [lexL_tri (by simpa using h) k1 k2]
    · rw [if_neg hxy] at k1
      rw [if_neg (Ne.symm hxy)] at k2
      exact absurd (pl_tri k1 k2) hxy
theorem aheadL_irrefl (a : List ByteArray) : aheadL a a = false := by unfold aheadL; rw [if_pos rfl]; exact lexL_irrefl a
theorem aheadL_trans {a b c : List ByteArray} (h : aheadL a b = true) (k : aheadL b c = true) : aheadL a c = true := by
  unfold aheadL at *
  by_cases h1 : a.length = b.length
  · rw [if_pos h1] at h
    by_cases h2 : b.length = c.length
    · rw [if_pos h2] at k; rw [if_pos (by omega)]; exact lexL_trans h k
    · rw [if_neg h2, decide_eq_true_eq] at k; rw [if_neg (by omega), decide_eq_true_eq]; omega
  · rw [if_neg h1, decide_eq_true_eq] at h
    by_cases h2 : b.length = c.length
    · rw [if_neg (by omega), decide_eq_true_eq]; omega
    · rw [if_neg h2, decide_eq_true_eq] at k; rw [if_neg (by omega), decide_eq_true_eq]; omega
theorem aheadL_tri {a b : List ByteArray} (h : aheadL a b = false) (k : aheadL b a = false) : a = b := by
  unfold aheadL at *
  by_cases h1 : a.length = b.length
  · rw [if_pos h1] at h; rw [if_pos h1.symm] at k; exact lexL_tri h1 h k
  · rw [if_neg h1, decide_eq_false_iff_not] at h; rw [if_neg (Ne.symm h1), decide_eq_false_iff_not] at k; omega
theorem aheadL_asymm {a b : List ByteArray} (h : aheadL a b = true) : aheadL b a = false := by
  rw [← Bool.not_eq_true]; intro k
  have := aheadL_trans h k
  rw [aheadL_irrefl] at this; cases this
/-- the order of later: the deepest first, then by the parts -/
def ordL (a b : List ByteArray) : Int := if a.length = b.length then cmpL a b else if b.length < a.length then -1 else 1
theorem ordL_neg (a b : List ByteArray) : decide (ordL a b < 0) = aheadL a b := by
  unfold ordL aheadL
  by_cases h1 : a.length = b.length
  · rw [if_pos h1, if_pos h1, Bool.eq_iff_iff, decide_eq_true_eq]; exact cmpL_lex a b h1
  · rw [if_neg h1, if_neg h1]
    by_cases h2 : b.length < a.length
    · rw [if_pos h2, decide_eq_true h2]; decide
    · rw [if_neg h2, decide_eq_false h2]; decide
/-- do the parts begin with those of d? -/
def within (d p : List ByteArray) : Bool := decide (p.take d.length = d)
theorem within_short {d p : List ByteArray} (h : p.length < d.length) : within d p = false := by
  unfold within
  rw [decide_eq_false_iff_not]
  intro e
  have := congrArg List.length e
  rw [List.length_take] at this
  omega
end Go.Proofs.YtkpblhikndennaaGreatDoor
namespace Go.Proofs.YtkpblhikndennaaGreatDoor
set_option linter.unusedSectionVars false
set_option linter.unusedVariables false
set_option linter.unusedSimpArgs false

def SortedC (l : List ChangeD) : Prop := l.Pairwise fun x y => pl x.path y.path = true
theorem sorted_unique {l k : List ChangeD} (h : SortedC l) (h' : SortedC k) (hp : l.Perm k) : l = k :=
  List.Perm.eq_of_pairwise (fun a b _ _ h1 h2 => by rw [pl_asymm h1] at h2; cases h2) h h' hp
def putL : List ChangeD → ChangeD → List ChangeD
  | [], c => [c]
  | x :: l, c => if pl x.path c.path then x :: putL l c else c :: x :: l
theorem putL_perm (l : List ChangeD) (c : ChangeD) : (putL l c).Perm (c :: l) := by
  induction l with
  | nil => exact List.Perm.refl _
  | cons x l ih =>
    unfold putL
    split
    · exact (List.Perm.cons x ih).trans (List.Perm.swap c x l)
    · exact List.Perm.refl _
theorem putL_sorted {l : List ChangeD} {c : ChangeD} (h : SortedC l) (hn : c.path ∉ l.map (·.path)) : SortedC (putL l c) := by
  induction l with
  | nil => exact List.pairwise_singleton _ _
  | cons x l ih =>
    obtain ⟨h1, h2⟩ := List.pairwise_cons.1 h
    simp only [List.map_cons, List.mem_cons, not_or] at hn
    unfold putL
    split
    · rename_i hx
      refine List.pairwise_cons.2 ⟨fun y hy => ?_, ih h2 hn.2⟩
      rcases List.mem_cons.1 ((putL_perm l c).subset hy) with rfl | hy
      · exact hx
      · exact h1 y hy
    · rename_i hx
      have hcx : pl c.path x.path = true := by
        cases hc : pl c.path x.path with
        | true => rfl
        | false => exact absurd (pl_tri hc (by simpa using hx)) hn.1
      refine List.pairwise_cons.2 ⟨fun y hy => ?_, h⟩
      rcases List.mem_cons.1 hy with rfl | hy
      · exact hcx
      · exact pl_trans hcx (h1 y hy)
theorem fold_put {L acc : List ChangeD} (hs : SortedC acc) (hn : ((acc ++ L).map (·.path)).Nodup) : (L.foldl putL acc).Perm (acc ++ L) ∧ SortedC (L.foldl putL acc) := by
  induction L generalizing acc with
  | nil => exact ⟨by simp, hs⟩
  | cons c L ih =>
    have hp := putL_perm acc c
    have hc : c.path ∉ acc.map (·.path) := by
      rw [List.map_append, List.nodup_append] at hn
      intro hm
      exact hn.2.2 _ hm _ (by simp) rfl
    have hperm : (putL acc c ++ L).Perm (acc ++ c :: L) := by
      refine (List.Perm.append_right L hp).trans ?_
      exact (List.perm_middle (l₁ := acc) (a := c) (l₂ := L)).symm
    have ih' := ih (putL_sorted hs hc) ((List.Perm.nodup_iff (hperm.map _)).2 hn)
    exact ⟨ih'.1.trans hperm, ih'.2⟩

theorem getD_lt {l : List LineD} {i : Nat} (h : i < l.length) : l.getD i default = l[i] := by
  rw [List.getD_eq_getElem?_getD, List.getElem?_eq_getElem h]; rfl
/-- the first line with a path -/
def atL (l : List LineD) (p : ByteArray) : Option Nat := l.findIdx? fun x => decide (x.path = p)
theorem atL_some {l : List LineD} {p : ByteArray} {i : Nat} (h : atL l p = some i) : i < l.length ∧ (l.getD i default).path = p := by
  obtain ⟨hi, hp, _⟩ := List.findIdx?_eq_some_iff_getElem.1 h
  refine ⟨hi, ?_⟩
  rw [getD_lt hi]
  simpa using hp
def stepA (a b : List LineD) (i : Nat) : Option ChangeD :=
  if atL a (a.getD i default).path = some i then
    match atL b (a.getD i default).path with
    | none => some ⟨(a.getD i default).path, 2⟩
    | some j => if a.getD i default = b.getD j default then none else some ⟨(a.getD i default).path, 3⟩
  else none
def stepB (a b : List LineD) (j : Nat) : Option ChangeD :=
  if atL b (b.getD j default).path = some j ∧ atL a (b.getD j default).path = none then some ⟨(b.getD j default).path, 1⟩ else none
def changes (a b : List LineD) : List ChangeD := (List.range a.length).filterMap (stepA a b) ++ (List.range b.length).filterMap (stepB a b)
/-- the changes in their order -/
def diffL (a b : List LineD) : List ChangeD := (changes a b).foldl putL []
theorem stepA_path {a b : List LineD} {i : Nat} {c : ChangeD} (h : stepA a b i = some c) : atL a c.path = some i ∧ c.path = (a.getD i default).path := by
  unfold stepA at h
  split at h
  · rename_i ha
    split at h
    · cases h; exact ⟨ha, rfl⟩
    · split at h
      · cases h
      · cases h; exact ⟨ha, rfl⟩
  · cases h
theorem stepB_path {a b : List LineD} {j : Nat} {c : ChangeD} (h : stepB a b j = some c) : atL b c.path = some j ∧ atL a c.path = none := by
  unfold stepB at h
  split at h
  · rename_i ha
    cases h; exact ha
  · cases h
theorem nodup_filterMap_range (f : Nat → Option ChangeD) (g : ByteArray → Option Nat) (h : ∀ i c, f i = some c → g c.path = some i) (n : Nat) : (((List.range n).filterMap f).map (·.path)).Nodup := by
  rw [List.nodup_iff_pairwise_ne, List.pairwise_map, List.pairwise_filterMap]
  refine List.Pairwise.imp ?_ List.nodup_range
  intro i j hij c hc d hd e
  have h1 := h i c hc
  have h2 := h j d hd
  rw [e, h2] at h1
  exact hij (Option.some.inj h1).symm
theorem changes_nodup (a b : List LineD) : ((changes a b).map (·.path)).Nodup := by
  unfold changes
  rw [List.map_append, List.nodup_append]
  refine ⟨nodup_filterMap_range _ (atL a) (fun i c h => (stepA_path h).1) _, nodup_filterMap_range _ (atL b) (fun i c h => (stepB_path h).1) _, ?_⟩
  intro p hp q hq e
  subst e
  obtain ⟨c, hc, rfl⟩ := List.mem_map.1 hp
  obtain ⟨d, hd, hdc⟩ := List.mem_map.1 hq
  obtain ⟨i, _, hi⟩ := List.mem_filterMap.1 hc
  obtain ⟨j, _, hj⟩ := List.mem_filterMap.1 hd
  have h1 := (stepA_path hi).1
  have h2 := (stepB_path hj).2
  rw [hdc, h1] at h2
  cases h2
theorem diffL_perm (a b : List LineD) : (diffL a b).Perm (changes a b) := by
  have := (fold_put (acc := []) (L := changes a b) List.Pairwise.nil (by simpa using changes_nodup a b)).1
  simpa [diffL] using this
theorem diffL_sorted (a b : List LineD) : SortedC (diffL a b) :=
  (fold_put (acc := []) (L := changes a b) List.Pairwise.nil (by simpa using changes_nodup a b)).2
/-- whatever is a sorted row of the changes is the answer -/
theorem diffL_unique {a b : List LineD} {R : List ChangeD} (h : R.Perm (changes a b)) (hs : SortedC R) : R = diffL a b :=
  sorted_unique hs (diffL_sorted a b) (h.trans (diffL_perm a b).symm)

/-! ### The other way round -/
def swapW (n : Int) : Int := if n = 1 then 2 else if n = 2 then 1 else n
def swapC (c : ChangeD) : ChangeD := ⟨c.path, swapW c.what⟩
theorem mem_changes (a b : List LineD) (c : ChangeD) : c ∈ changes a b ↔
    (c.what = 2 ∧ (∃ i, atL a c.path = some i) ∧ atL b c.path = none) ∨ (c.what = 3 ∧ ∃ i j, atL a c.path = some i ∧ atL b c.path = some j ∧ a.getD i default ≠ b.getD j default) ∨ (c.what = 1 ∧ atL a c.path = none ∧ ∃ j, atL b c.path = some j) := by
  unfold changes
  rw [List.mem_append, List.mem_filterMap, List.mem_filterMap]
  constructor
  · rintro (⟨i, hi, h⟩ | ⟨j, hj, h⟩)
    · obtain ⟨h1, h2⟩ := stepA_path h
      unfold stepA at h
      rw [← h2, if_pos h1] at h
      cases hb : atL b c.path with
      | none =>
        rw [hb] at h
        exact .inl ⟨by rw [← Option.some.inj h], ⟨i, h1⟩, rfl⟩
      | some j =>
        rw [hb] at h
        simp only at h
        split at h
        · cases h
        · rename_i hne; exact .inr (.inl ⟨by rw [← Option.some.inj h], i, j, h1, rfl, hne⟩)
    · obtain ⟨h1, h2⟩ := stepB_path h
      unfold stepB at h
      split at h
      · exact .inr (.inr ⟨by rw [← Option.some.inj h], h2, j, h1⟩)
      · cases h
  · rintro (⟨hw, ⟨i, hi⟩, hb⟩ | ⟨hw, i, j, hi, hj, hne⟩ | ⟨hw, ha, j, hj⟩)
    · obtain ⟨h1, h2⟩ := atL_some hi
      refine .inl ⟨i, List.mem_range.2 h1, ?_⟩
      unfold stepA
      rw [h2, if_pos hi, hb]
      cases c; simp_all
    · obtain ⟨h1, h2⟩ := atL_some hi
      refine .inl ⟨i, List.mem_range.2 h1, ?_⟩
      unfold stepA
      rw [h2, if_pos hi, hj]
      simp only
      rw [if_neg hne]
      cases c; simp_all
    · obtain ⟨h1, h2⟩ := atL_some hj
      refine .inr ⟨j, List.mem_range.2 h1, ?_⟩
      unfold stepB
      rw [h2, if_pos ⟨hj, ha⟩]
      cases c; simp_all
theorem nodup_of_paths {l : List ChangeD} (h : (l.map (·.path)).Nodup) : l.Nodup := (List.pairwise_map.1 h).imp (fun hne e => hne (by rw [e]))
theorem swapC_swapC_of {c : ChangeD} (h : c.what = 1 ∨ c.what = 2 ∨ c.what = 3) : swapC (swapC c) = c := by
  cases c with
  | mk p n => rcases h with h | h | h <;> (simp only at h; subst h; rfl)
theorem mem_swap (a b : List LineD) (c : ChangeD) : c ∈ (changes a b).map swapC ↔ c ∈ changes b a := by
  have key : ∀ (a b : List LineD) (c : ChangeD), c ∈ changes a b → swapC c ∈ changes b a := by
    intro a b c h
    rw [mem_changes] at h ⊢
    rcases h with ⟨hw, h1, h2⟩ | ⟨hw, i, j, h1, h2, h3⟩ | ⟨hw, h1, h2⟩
    · exact .inr (.inr ⟨by simp [swapC, swapW, hw], h2, h1⟩)
    · exact .inr (.inl ⟨by simp [swapC, swapW, hw], j, i, h2, h1, fun e => h3 e.symm⟩)
    · exact .inl ⟨by simp [swapC, swapW, hw], h2, h1⟩
  constructor
  · intro h
    obtain ⟨d, hd, rfl⟩ := List.mem_map.1 h
    exact key a b d hd
  · intro h
    have hw : c.what = 1 ∨ c.what = 2 ∨ c.what = 3 := by
      have := (mem_changes b a c).1 h
      rcases this with ⟨h, _⟩ | ⟨h, _⟩ | ⟨h, _⟩ <;> simp [h]
    exact List.mem_map.2 ⟨swapC c, key b a c h, swapC_swapC_of hw⟩
theorem diffL_swap (a b : List LineD) : diffL b a = (diffL a b).map swapC := by
  symm
  refine diffL_unique ?_ ?_
  · refine ((diffL_perm a b).map swapC).trans ?_
    refine (List.perm_ext_iff_of_nodup ?_ (nodup_of_paths (changes_nodup b a))).2 (mem_swap a b)
    refine nodup_of_paths ?_
    rw [List.map_map]
    exact changes_nodup a b
  · have := diffL_sorted a b
    unfold SortedC at *
    rw [List.pairwise_map]
    exact this
theorem diffL_self (a : List LineD) : diffL a a = [] := by
  have h : changes a a = [] := by
    rw [List.eq_nil_iff_forall_not_mem]
    intro c hc
    rw [mem_changes] at hc
    rcases hc with ⟨_, ⟨i, h1⟩, h2⟩ | ⟨_, i, j, h1, h2, h3⟩ | ⟨_, h1, j, h2⟩
    · rw [h1] at h2; cases h2
    · rw [h1] at h2; cases h2; exact h3 rfl
    · rw [h1] at h2; cases h2
  simp [diffL, h]
theorem diffL_what {a b : List LineD} {c : ChangeD} (h : c ∈ diffL a b) : c.what = 1 ∨ c.what = 2 ∨ c.what = 3 := by
  have := (mem_changes a b c).1 ((diffL_perm a b).subset h)
  rcases this with ⟨h, _⟩ | ⟨h, _⟩ | ⟨h, _⟩ <;> simp [h]
theorem diffL_len (a b : List LineD) : (diffL a b).length ≤ a.length + b.length := by
  rw [(diffL_perm a b).length_eq, changes, List.length_append]
  have h1 := List.length_filterMap_le (stepA a b) (List.range a.length)
  have h2 := List.length_filterMap_le (stepB a b) (List.range b.length)
  simp at h1 h2
  omega

/-! ### The maps by path -/
/-- which line of a path comes first: as pairs -/
def byP (l : List LineD) (n : Nat) : List (ByteArray × Int) := (List.range n).filterMap fun i => if atL l (l.getD i default).path = some i then some ((l.getD i default).path, (i : Int)) else none
theorem byP_zero (l : List LineD) : byP l 0 = [] := rfl
theorem byP_succ (l : List LineD) (n : Nat) : byP l (n + 1) = byP l n ++ if atL l (l.getD n default).path = some n then [((l.getD n default).path, (n : Int))] else [] := by
  unfold byP
  rw [List.range_succ, List.filterMap_append]
  congr 1
  simp only [List.filterMap_cons, List.filterMap_nil]
  split <;> rename_i h <;> split at h <;> simp_all
theorem mem_byP {l : List LineD} {n : Nat} {p : ByteArray} {x : Int} : (p, x) ∈ byP l n ↔ ∃ i : Nat, i < n ∧ x = i ∧ atL l p = some i := by
  unfold byP
  rw [List.mem_filterMap]
  constructor
  · rintro ⟨i, hi, h⟩
    split at h
    · rename_i ha
      cases h
      exact ⟨i, List.mem_range.1 hi, rfl, ha⟩
    · cases h
  · rintro ⟨i, hi, rfl, ha⟩
    have := (atL_some ha).2
    exact ⟨i, List.mem_range.2 hi, by rw [this, if_pos ha]⟩
theorem byP_keys {l : List LineD} {n : Nat} {p : ByteArray} : hasKv (byP l n) p = true ↔ ∃ i, i < n ∧ atL l p = some i := by
  rw [hasKv_iff, List.mem_map]
  constructor
  · rintro ⟨⟨q, x⟩, h, rfl⟩
    obtain ⟨i, hi, _, ha⟩ := mem_byP.1 h
    exact ⟨i, hi, ha⟩
  · rintro ⟨i, hi, ha⟩
    exact ⟨(p, (i : Int)), mem_byP.2 ⟨i, hi, rfl, ha⟩, rfl⟩
theorem getKv_mem {β : Type} {kv : List (ByteArray × β)} {p : ByteArray} {v : β} (h : getKv kv p = some v) : (p, v) ∈ kv := by
  unfold getKv at h
  rw [Option.map_eq_some_iff] at h
  obtain ⟨⟨q, u⟩, h1, rfl⟩ := h
  have h2 := List.find?_some h1
  simp at h2
  subst h2
  exact List.mem_of_find?_eq_some h1
theorem getKv_none {β : Type} {kv : List (ByteArray × β)} {p : ByteArray} (h : getKv kv p = none) : hasKv kv p = false := by
  unfold getKv at h
  rw [Option.map_eq_none_iff, List.find?_eq_none] at h
  unfold hasKv
  rw [List.any_eq_false]
  exact fun x hx => h x hx
theorem getKv_byP (l : List LineD) (p : ByteArray) : getKv (byP l l.length) p = (atL l p).map fun i => (i : Int) := by
  cases h : getKv (byP l l.length) p with
  | some v =>
    obtain ⟨i, _, rfl, ha⟩ := mem_byP.1 (getKv_mem h)
    rw [ha]; rfl
  | none =>
    have h1 := getKv_none h
    cases ha : atL l p with
    | none => rfl
    | some i => rw [byP_keys.2 ⟨i, (atL_some ha).1, ha⟩] at h1; cases h1
theorem atL_first {l : List LineD} {n : Nat} (hn : n < l.length) (hno : ∀ i, i < n → (l.getD i default).path ≠ (l.getD n default).path) : atL l (l.getD n default).path = some n := by
  unfold atL
  rw [List.findIdx?_eq_some_iff_getElem]
  refine ⟨hn, by rw [getD_lt hn]; simp, fun j hj => ?_⟩
  have := hno j hj
  rw [getD_lt (by omega)] at this
  simpa using this
theorem atL_le {l : List LineD} {p : ByteArray} {i j : Nat} (h : atL l p = some i) (hj : j < l.length) (hp : (l.getD j default).path = p) : i ≤ j := by
  obtain ⟨hi, _, hlt⟩ := List.findIdx?_eq_some_iff_getElem.1 h
  rcases Nat.lt_or_ge j i with h' | h'
  · have := hlt j h'
    rw [getD_lt hj] at hp
    simp [hp] at this
  · exact h'
theorem atL_exists {l : List LineD} {p : ByteArray} {j : Nat} (hj : j < l.length) (hp : (l.getD j default).path = p) : ∃ i, atL l p = some i := by
  cases h : atL l p with
  | some i => exact ⟨i, rfl⟩
  | none =>
    unfold atL at h
    rw [List.findIdx?_eq_none_iff] at h
    have := h (l.getD j default) (by rw [getD_lt hj]; exact List.getElem_mem hj)
    rw [decide_eq_false_iff_not] at this
    exact absurd hp this
/-- byPath's round: a path that is not there yet goes in -/
theorem byP_step {l : List LineD} {n : Nat} (hn : n < l.length) : byP l (n + 1) = if hasKv (byP l n) (l.getD n default).path then byP l n else putKv (byP l n) (l.getD n default).path (n : Int) := by
  rw [byP_succ]
  obtain ⟨i, hi⟩ := atL_exists hn rfl
  have hle := atL_le hi hn rfl
  by_cases hin : i = n
  · subst hin
    have hno : hasKv (byP l i) (l.getD i default).path = false := by
      rw [← Bool.not_eq_true, byP_keys]
      rintro ⟨j, hj, hj'⟩
      rw [hi] at hj'
      cases hj'
      omega
    rw [if_pos hi, hno, putKv, hno]
    simp
  · have hyes : hasKv (byP l n) (l.getD n default).path = true := byP_keys.2 ⟨i, by omega, hi⟩
    rw [hyes, if_neg (by rw [hi]; intro e; exact hin (Option.some.inj e))]
    simp
/-- what the program makes of an entry -/
def progA (a b : List LineD) (e : ByteArray × Int) : Option ChangeD :=
  match atL b e.1 with
  | none => some ⟨e.1, 2⟩
  | some j => if a.getD e.2.toNat default = b.getD j default then none else some ⟨e.1, 3⟩
def progB (a : List LineD) (e : ByteArray × Int) : Option ChangeD := if atL a e.1 = none then some ⟨e.1, 1⟩ else none
theorem progA_all (a b : List LineD) : (byP a a.length).filterMap (progA a b) = (List.range a.length).filterMap (stepA a b) := by
  unfold byP
  rw [List.filterMap_filterMap]
  congr 1
  funext i
  unfold stepA progA
  split
  · rename_i h; simp [h]
  · rename_i h; simp [h]
theorem progB_all (a b : List LineD) : (byP b b.length).filterMap (progB a) = (List.range b.length).filterMap (stepB a b) := by
  unfold byP
  rw [List.filterMap_filterMap]
  congr 1
  funext i
  unfold stepB progB
  by_cases h : atL b (b.getD i default).path = some i
  · rw [if_pos h]
    show progB a _ = _
    unfold progB
    by_cases h2 : atL a (b.getD i default).path = none
    · rw [if_pos h2, if_pos ⟨h, h2⟩]
    · rw [if_neg h2, if_neg (fun hc => h2 hc.2)]
  · rw [if_neg h, if_neg (fun hc => h hc.1)]
    rfl
/-- a sorted row of what the program collects is the answer -/
theorem prog_diff {a b : List LineD} {da db : List (ByteArray × Int)} {R : List ChangeD} (ha : da.Perm (byP a a.length)) (hb : db.Perm (byP b b.length)) (hR : R.Perm (da.filterMap (progA a b) ++ db.filterMap (progB a))) (hs : SortedC R) : R = diffL a b := by
  refine diffL_unique (hR.trans ?_) hs
  unfold changes
  rw [← progA_all, ← progB_all]
  exact (ha.filterMap _).append (hb.filterMap _)
theorem prog_paths {a b : List LineD} {da db : List (ByteArray × Int)} (ha : da.Perm (byP a a.length)) (hb : db.Perm (byP b b.length)) : ((da.filterMap (progA a b) ++ db.filterMap (progB a)).map (·.path)).Nodup := by
  have : (da.filterMap (progA a b) ++ db.filterMap (progB a)).Perm (changes a b) := by
    unfold changes
    rw [← progA_all, ← progB_all]
    exact (ha.filterMap _).append (hb.filterMap _)
  exact (List.Perm.nodup_iff (this.map _)).2 (changes_nodup a b)
end Go.Proofs.YtkpblhikndennaaGreatDoor
namespace Go.Proofs.YtkpblhikndennaaGreatDoor
open Go.RowKit
set_option linter.unusedVariables false
set_option linter.unusedSimpArgs false
attribute [local go_sem] cell?_over frozen?_over lt_over le_over

def kS : KeyKind Tryz.prog ByteArray := strKind (ty := 9) Tryz.underlying9
def cvI (n : Int) : Value := .int .i64 n
section
variable {P : Program} {κ β : Type} [DecidableEq κ] {cv : β → Value} {K : KeyKind P κ} {w : World} {ops : Array Oper} {rest : List Oper} {o : Oper} {a : Act} {Q : Exit → Act → World → Prop} {b : Nat} {kv : List (κ × β)}
theorem wpList_lookup_no (hg : o.guard = none) (m x : Operand) (t : TypeId) (hop : o.op = Op.lookup t m x true) {e : TypeId} (ht : P.underlying t = some (.map K.ty e)) (h : IsMap K cv w b kv) (k : κ) {z : Value} (hz : (zeroValue e).run P w = .ok z w)
    (hm : a.eval m = .map (some b)) (hx : a.eval x = K.kf k) (hno : getKv kv k = none) (hK : wpList P ops Q rest (a.put o.dst (.tuple #[z, .bool false])) w) : wpList P ops Q (o :: rest) a w := by
  refine wpList_lookup_kv hg m x t hop ht h k hz hm hx ?_
  rw [hno]; exact hK
theorem wpList_lookup_yes (hg : o.guard = none) (m x : Operand) (t : TypeId) (hop : o.op = Op.lookup t m x true) {e : TypeId} (ht : P.underlying t = some (.map K.ty e)) (h : IsMap K cv w b kv) (k : κ) {z : Value} (hz : (zeroValue e).run P w = .ok z w)
    (hm : a.eval m = .map (some b)) (hx : a.eval x = K.kf k) {v : β} (hv : getKv kv k = some v) (hK : wpList P ops Q rest (a.put o.dst (.tuple #[cv v, .bool true])) w) : wpList P ops Q (o :: rest) a w := by
  refine wpList_lookup_kv hg m x t hop ht h k hz hm hx ?_
  rw [hv]; exact hK
end
theorem hasKv_of_get {β : Type} {kv : List (ByteArray × β)} {p : ByteArray} {v : β} (h : getKv kv p = some v) : hasKv kv p = true := by
  rw [hasKv_iff]; exact List.mem_map.2 ⟨(p, v), getKv_mem h, rfl⟩
theorem und_map : Tryz.prog.underlying 83 = some (.map kS.ty 3) := Tryz.underlying83
set_option maxHeartbeats 1000000 in
set_option maxRecDepth 100000 in
theorem byPath {A : Option Addr} {n c : Nat} {l : List LineD} (w : World) (h : Row Shape.LineD w (Old w) A n l) (hn : n ≤ 1000000000000) :
    Calls Tryz.prog 39 #[.slice A n c] w fun e w' => ∃ b, e = .returned (.map (some b)) ∧ IsMap kS cvI w' b (byP l l.length) ∧ w.heap.size ≤ b ∧ Below w.heap.size w w' := by
  have HL := Lib.hid h.1
  have hmm := @run_makeMap Tryz.prog
  go_enter Tryz.func39, Tryz.ntmps39
  go_wp2_with fail
  clear hmm
  go_loopw [11] (fun i wr => ∃ k : Nat, k ≤ n ∧ i = .int .i64 k ∧ IsMap kS cvI wr w.heap.size (byP l k) ∧ Below w.heap.size w wr) (fun i _ => n - (intOf i).toNat)
  case atStart => exact ⟨0, Nat.zero_le _, rfl, IsMap.new kS cvI w, by go_grown⟩
  case round =>
    obtain ⟨k, hk, rfl, hm, hbel⟩ := hrel
    by_cases hlt : k < n
    · obtain ⟨b, off, es, hkl, rfl, hb, hc, hc0, hr⟩ := h.elem (Keeps.old hbel) hlt
      obtain ⟨_, _, _, rfl, -⟩ := hr
      have e13 : Shape.LineD.size = 10 := rfl
      simp only [e13] at hc hc0
      clear e13
      have hb2 := Nat.lt_of_lt_of_le hb hbel.size
      have hks : (k : Int) < n := by omega
      have hst := byP_step (l := l) (n := k) hkl
      rw [getD_lt hkl] at hst
      generalize l[k] = d at *
      have HM := Lib.hid hm
      have hml := hm.lt
      clear hm
      have HB := Lib.hid hbel; clear hbel
      have HST := Lib.hid hst; clear hst
      have hz : ∀ w, (zeroValue 3).run Tryz.prog w = .ok (.int .i64 0) w := fun w => Tryz.zeroValue3 w
      cases hg : getKv (byP l k) d.path with
      | none =>
        have HG := Lib.hid hg; clear hg
        go_wp2_with (first
          | (refine wpList_lookup_no rfl (.tmp 17) (.tmp 19) _ rfl (K := kS) (cv := cvI) und_map (b := w.heap.size) (kv := byP l k) (HM.out.alloc _) d.path (hz _) rfl rfl HG.out ?_)
          | (refine wpList_mapUpdate_kv rfl (.tmp 25) (.tmp 27) (.tmp 28) _ rfl (K := kS) (cv := cvI) und_map (b := w.heap.size) (kv := byP l k) (HM.out.alloc _) d.path (k : Int) rfl rfl rfl ?_
             intro w2 hm2 ho2))
        go_roundw
        case rel =>
          refine ⟨k + 1, by omega, by go_num, ?_, ?_⟩
          · rw [HST.out, if_neg (by rw [getKv_none HG.out]; decide)]; exact hm2
          · exact (HB.out.alloc (by omega) _).grown ho2.grown (by simp; omega) (fun j hj => by injection hj with hj; omega)
        case measure => simp [intOf]; omega
      | some v =>
        have HG := Lib.hid hg; clear hg
        go_wp2_with (first
          | (refine wpList_lookup_yes rfl (.tmp 17) (.tmp 19) _ rfl (K := kS) (cv := cvI) und_map (b := w.heap.size) (kv := byP l k) (HM.out.alloc _) d.path (hz _) rfl rfl HG.out ?_))
        go_roundw
        case rel =>
          refine ⟨k + 1, by omega, by go_num, ?_, HB.out.alloc (by omega) _⟩
          rw [HST.out, if_pos (hasKv_of_get HG.out)]; exact HM.out.alloc _
        case measure => simp [intOf]; omega
    · go_wp2
      go_ret
      have hkn : k = l.length := by rw [HL.out]; omega
      subst hkn
      exact ⟨_, rfl, hm, Nat.le_refl _, hbel⟩
end Go.Proofs.YtkpblhikndennaaGreatDoor
