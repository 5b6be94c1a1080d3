/- The table of levels and the reference's answers over a script: they say the same. No program in sight. -/
import Derived.Test.YtphloeafgblmnaaLvRef
set_option linter.unusedSectionVars false
set_option linter.unusedVariables false
set_option linter.unusedSimpArgs false
namespace Go.Proofs.Ytphloeafgblmnaa
open Go.RowKit
section
variable {κ V : Type} [DecidableEq κ]
theorem getKv_putKv (kv : List (κ × V)) (k k' : κ) (v : V) : getKv (putKv kv k v) k' = if k' = k then some v else getKv kv k' := by
  unfold putKv
  by_cases hh : hasKv kv k = true
  · rw [if_pos hh]
    by_cases e : k' = k
    · subst e
      rw [if_pos rfl]
      induction kv with
      | nil => simp [hasKv] at hh
      | cons p kv ih =>
        by_cases hp : p.1 = k'
        · simp [getKv, hp]
        · have : hasKv kv k' = true := by simpa [hasKv, hp] using hh
          have ih := ih this
          simp only [getKv, List.map_cons, hp, if_false] at ih ⊢
          simp only [List.find?_cons, hp, decide_false]
          exact ih
    · rw [if_neg e]
      clear hh
      induction kv with
      | nil => rfl
      | cons p kv ih =>
        by_cases hp : p.1 = k
        · have hp' : ¬ k = k' := fun h => e h.symm
          have hp2 : ¬ p.1 = k' := fun h => e (h.symm.trans hp)
          simp only [getKv, List.map_cons, hp, if_true, List.find?_cons, hp', hp2, decide_false] at ih ⊢
          exact ih
        · by_cases hp2 : p.1 = k'
          · simp [getKv, hp, hp2, e]
          · simp only [getKv, List.map_cons, hp, if_false, List.find?_cons, hp2, decide_false] at ih ⊢
            exact ih
  · rw [if_neg hh]
    have hnone : ∀ p ∈ kv, ¬ p.1 = k := by
      intro p hp he
      exact hh (by simp only [hasKv, List.any_eq_true]; exact ⟨p, hp, by simpa using he⟩)
    unfold getKv
    rw [List.find?_append]
    by_cases e : k' = k
    · subst e
      rw [if_pos rfl, List.find?_eq_none.2 (fun p hp => by simpa using hnone p hp)]
      simp
    · rw [if_neg e]
      have : ¬ k = k' := fun h => e h.symm
      simp [List.find?_cons, this]
theorem mem_putKv (kv : List (κ × V)) (k : κ) (v : V) (p : κ × V) (h : p ∈ putKv kv k v) : p.1 = k ∨ p ∈ kv := by
  unfold putKv at h
  split at h
  · rw [List.mem_map] at h
    obtain ⟨q, hq, rfl⟩ := h
    split
    · exact .inl rfl
    · exact .inr hq
  · rw [List.mem_append] at h
    rcases h with h | h
    · exact .inr h
    · simp at h; subst h; exact .inl rfl
theorem getKv_isSome (kv : List (κ × V)) (k : κ) : (getKv kv k).isSome ↔ k ∈ kv.map (·.1) := by
  simp only [getKv, Option.isSome_map, List.find?_isSome, List.mem_map, decide_eq_true_eq]
end
theorem lastS_kinds (l : List OpD) (level : Int) (key : ByteArray) (i : Nat) : ((lastS l level key i).1 = 0 ∨ (lastS l level key i).1 = 1 ∨ (lastS l level key i).1 = 2) := by
  induction i with
  | zero => exact .inl rfl
  | succ i ih =>
    by_cases hi : i < l.length
    · rw [lastS_succ l level key i hi]
      split
      · split
        · exact .inl rfl
        · split
          · exact .inr (.inr rfl)
          · split
            · exact .inr (.inl rfl)
            · exact ih
      · exact ih
    · rw [lastS, List.getElem?_eq_none (by omega)]; exact ih
theorem lastS_hid (l : List OpD) (level : Int) (key : ByteArray) (i : Nat) : (lastS l level key i).1 = 2 → (lastS l level key i).2 = 0 := by
  induction i with
  | zero => intro _; rfl
  | succ i ih =>
    by_cases hi : i < l.length
    · rw [lastS_succ l level key i hi]
      split
      · split
        · intro _; rfl
        · split
          · intro _; rfl
          · split
            · intro h; cases h
            · exact ih
      · exact ih
    · rw [lastS, List.getElem?_eq_none (by omega)]; exact ih
theorem lastS_op (l : List OpD) (level : Int) (key : ByteArray) (i : Nat) : (lastS l level key i).1 ≠ 0 → ∃ j, j < i ∧ opAt l level key j := by
  induction i with
  | zero => intro h; exact absurd rfl h
  | succ i ih =>
    intro h
    by_cases hop : opAt l level key i
    · exact ⟨i, Nat.lt_succ_self i, hop⟩
    · have : (lastS l level key i).1 ≠ 0 := by
        by_cases hi : i < l.length
        · rw [lastS_succ l level key i hi] at h
          split at h
          · rename_i h1
            split at h
            · exact absurd rfl h
            · split at h
              · rename_i h3; exact absurd ⟨_, List.getElem?_eq_getElem hi, h1, h3.1, .inr h3.2⟩ hop
              · split at h
                · rename_i h3; exact absurd ⟨_, List.getElem?_eq_getElem hi, h1, h3.1, .inl h3.2⟩ hop
                · exact h
          · exact h
        · rw [lastS, List.getElem?_eq_none (by omega)] at h; exact h
      obtain ⟨j, hj, hjo⟩ := ih this
      exact ⟨j, by omega, hjo⟩
theorem first_op (l : List OpD) (level : Int) (key : ByteArray) (j : Nat) (h : opAt l level key j) : ∃ j', j' ≤ j ∧ opAt l level key j' ∧ ∀ k, k < j' → ¬ opAt l level key k := by
  induction j using Nat.strongRecOn with
  | _ j ih =>
    by_cases hk : ∃ k, k < j ∧ opAt l level key k
    · obtain ⟨k, hk, hko⟩ := hk
      obtain ⟨j', h1, h2⟩ := ih k hk hko
      exact ⟨j', by omega, h2⟩
    · exact ⟨j, Nat.le_refl _, h, fun k hk' hko => hk ⟨k, hk', hko⟩⟩
open Classical in
/-- the keys whose first step is below j, with something left of them -/
noncomputable def aliveKeys (l : List OpD) (i : Nat) (level : Int) : Nat → List ByteArray
  | 0 => []
  | j + 1 => aliveKeys l i level j ++ if h : aliveS l i level j then [Classical.choose h] else []
theorem aliveKeys_length (l : List OpD) (i : Nat) (level : Int) (j : Nat) : (aliveKeys l i level j).length = cntS l i level j := by
  induction j with
  | zero => rfl
  | succ j ih =>
    rw [aliveKeys, cntS, List.length_append, ih]
    split <;> simp
theorem opAt_key {l : List OpD} {level : Int} {a b : ByteArray} {j : Nat} (h : opAt l level a j) (h' : opAt l level b j) : a = b := by
  obtain ⟨o, h1, _, h2, _⟩ := h
  obtain ⟨o', h1', _, h2', _⟩ := h'
  rw [h1] at h1'
  cases h1'
  exact h2.symm.trans h2'
theorem mem_aliveKeys (l : List OpD) (i : Nat) (level : Int) (j : Nat) (key : ByteArray) : key ∈ aliveKeys l i level j ↔ ∃ k, k < j ∧ opAt l level key k ∧ (∀ k', k' < k → ¬ opAt l level key k') ∧ (lastS l level key i).1 ≠ 0 := by
  induction j with
  | zero => simp [aliveKeys]
  | succ j ih =>
    rw [aliveKeys, List.mem_append, ih]
    constructor
    · rintro (⟨k, hk, h⟩ | h)
      · exact ⟨k, by omega, h⟩
      · split at h
        · rename_i ha
          simp at h
          have hs := Classical.choose_spec ha
          rw [← h] at hs
          exact ⟨j, Nat.lt_succ_self j, hs⟩
        · cases h
    · rintro ⟨k, hk, h⟩
      rcases Nat.lt_or_eq_of_le (Nat.le_of_lt_succ hk) with h1 | rfl
      · exact .inl ⟨k, h1, h⟩
      · right
        have ha : aliveS l i level k := ⟨key, h⟩
        rw [dif_pos ha]
        have hs := Classical.choose_spec ha
        simp
        exact opAt_key h.1 hs.1
theorem aliveKeys_nodup (l : List OpD) (i : Nat) (level : Int) (j : Nat) : (aliveKeys l i level j).Nodup := by
  induction j with
  | zero => exact List.nodup_nil
  | succ j ih =>
    rw [aliveKeys, List.nodup_append]
    refine ⟨ih, by split <;> simp, fun a ha b hb => ?_⟩
    split at hb
    · rename_i h
      simp at hb
      have hs := Classical.choose_spec h
      rw [← hb] at hs
      obtain ⟨k, hk, h1, _⟩ := (mem_aliveKeys l i level j a).1 ha
      rintro rfl
      exact hs.2.1 k hk h1
    · cases hb
theorem cntS_eq (l : List OpD) (i : Nat) (level : Int) (keys : List ByteArray) (hnd : keys.Nodup) (hm : ∀ key, key ∈ keys ↔ (lastS l level key i).1 ≠ 0) : keys.length = cntS l i level i := by
  rw [← aliveKeys_length]
  refine List.Perm.length_eq ((List.perm_ext_iff_of_nodup hnd (aliveKeys_nodup l i level i)).2 fun key => ?_)
  rw [hm, mem_aliveKeys]
  constructor
  · intro h
    obtain ⟨j, hj, hjo⟩ := lastS_op l level key i h
    obtain ⟨j', h1, h2, h3⟩ := first_op l level key j hjo
    exact ⟨j', by omega, h2, h3, h⟩
  · rintro ⟨_, _, _, _, h⟩; exact h
/-- how the reference's keys and values lie in the table -/
structure LvCode (κ V : Type) where
  f : κ → ByteArray
  D : κ → Prop
  inj : ∀ a b, D a → D b → f a = f b → a = b
  sh : Int → V
  z : V
  sh0 : sh 0 = z
section
variable {κ V : Type} [DecidableEq κ] (C : LvCode κ V)
def LvCode.enc (q : Int × Int) : Option (V × Bool) := if q.1 = 0 then none else if q.1 = 2 then some (C.z, true) else some (C.sh q.2, false)
structure LvIs (l : List OpD) (i : Nat) (level : Int) (kv : List (κ × (V × Bool))) : Prop where
  get : ∀ k, C.D k → getKv kv k = C.enc (lastS l level (C.f k) i)
  dom : ∀ p ∈ kv, C.D p.1
def TabIs (l : List OpD) (i : Nat) (rows : List (List (κ × (V × Bool)))) : Prop := ∀ m (h : m < rows.length), LvIs C l i m rows[m]
variable {C} {l : List OpD} {i : Nat} {level : Int} {kv : List (κ × (V × Bool))} {rows : List (List (κ × (V × Bool)))}
theorem LvIs.start : LvIs C l 0 level [] := ⟨fun k _ => by simp [getKv, LvCode.enc, lastS], by simp⟩
theorem TabIs.start (N : Nat) : TabIs C l 0 (List.replicate N []) := fun m h => by rw [List.getElem_replicate]; exact LvIs.start
theorem LvIs.other (h : LvIs C l i level kv) (hi : i < l.length) (hne : ¬ l[i].level = level ∨ (¬ l[i].what = 1 ∧ ¬ l[i].what = 2 ∧ ¬ l[i].what = 3)) : LvIs C l (i + 1) level kv := by
  refine ⟨fun k hk => ?_, h.dom⟩
  rw [h.get k hk, lastS_succ l level _ i hi]
  rcases hne with hne | ⟨h1, h2, h3⟩
  · rw [if_neg hne]
  · simp [h1, h2, h3]
theorem LvIs.clear_ (hi : i < l.length) (hl : l[i].level = level) (hw : l[i].what = 3) : LvIs C l (i + 1) level [] := by
  refine ⟨fun k hk => ?_, by simp⟩
  rw [lastS_succ l level _ i hi, if_pos hl, if_pos hw]
  rfl
theorem LvIs.put_ (h : LvIs C l i level kv) (hi : i < l.length) (hl : l[i].level = level) (k : κ) (hk : C.D k) (hkey : l[i].key = C.f k) (c : V × Bool)
    (hw : (l[i].what = 1 ∧ c = (C.sh l[i].val, false)) ∨ (l[i].what = 2 ∧ c = (C.z, true))) : LvIs C l (i + 1) level (putKv kv k c) := by
  refine ⟨fun k' hk' => ?_, fun p hp => ?_⟩
  · rw [getKv_putKv, lastS_succ l level _ i hi, if_pos hl, hkey, h.get k' hk']
    by_cases e : k' = k
    · subst e
      rcases hw with ⟨hw, rfl⟩ | ⟨hw, rfl⟩
      · simp [hw, LvCode.enc]
      · simp [hw, LvCode.enc]
    · have hf : ¬ C.f k = C.f k' := fun h => e (C.inj _ _ hk' hk h.symm)
      rcases hw with ⟨hw, rfl⟩ | ⟨hw, rfl⟩
      · simp [hw, e, hf]
      · simp [hw, e, hf]
  · rcases mem_putKv kv k c p hp with h1 | h1
    · rw [h1]; exact hk
    · exact h.dom p h1
theorem TabIs.other (h : TabIs C l i rows) (hi : i < l.length) (hne : (l[i].level < 0 ∨ (rows.length : Int) ≤ l[i].level) ∨ (¬ l[i].what = 1 ∧ ¬ l[i].what = 2 ∧ ¬ l[i].what = 3)) : TabIs C l (i + 1) rows := fun m hm =>
  (h m hm).other hi (hne.imp (fun h => by omega) id)
theorem TabIs.put_ (h : TabIs C l i rows) (hi : i < l.length) (m : Nat) (hm : m < rows.length) (hl : l[i].level = m) (k : κ) (hk : C.D k) (hkey : l[i].key = C.f k) (c : V × Bool)
    (hw : (l[i].what = 1 ∧ c = (C.sh l[i].val, false)) ∨ (l[i].what = 2 ∧ c = (C.z, true))) : TabIs C l (i + 1) (rows.set m (putKv rows[m] k c)) := by
  intro n hn
  have hn' : n < rows.length := by simpa using hn
  by_cases e : m = n
  · subst e
    rw [List.getElem_set_self]
    exact (h m hm).put_ hi hl k hk hkey c hw
  · rw [List.getElem_set_ne e]
    exact (h n hn').other hi (.inl (by omega))
theorem TabIs.clear_ (h : TabIs C l i rows) (hi : i < l.length) (m : Nat) (hm : m < rows.length) (hl : l[i].level = m) (hw : l[i].what = 3) : TabIs C l (i + 1) (rows.set m []) := by
  intro n hn
  have hn' : n < rows.length := by simpa using hn
  by_cases e : m = n
  · subst e
    rw [List.getElem_set_self]
    exact LvIs.clear_ hi hl hw
  · rw [List.getElem_set_ne e]
    exact (h n hn').other hi (.inl (by omega))
theorem topKv_snoc (rows : List (List (κ × (V × Bool)))) (kv : List (κ × (V × Bool))) (k : κ) : topKv (rows ++ [kv]) k = (getKv kv k).or (topKv rows k) := by
  induction rows with
  | nil => simp [topKv]
  | cons r rows ih => simp only [List.cons_append, topKv, ih]; cases getKv kv k <;> rfl
theorem TabIs.get_ (h : TabIs C l i rows) (k : κ) (hk : C.D k) : ∀ m, m ≤ rows.length → ((topKv (rows.take m) k).map (·.1)).getD C.z = C.sh (getS l i (C.f k) m).1 ∧ ((topKv (rows.take m) k).map (!·.2)).getD false = (getS l i (C.f k) m).2
  | 0, _ => by simp [topKv, getS, C.sh0]
  | m + 1, hm => by
    have ih := h.get_ k hk m (by omega)
    have hg := (h m (by omega)).get k hk
    rw [List.take_succ_eq_append_getElem (by omega), topKv_snoc, getS, hg]
    unfold LvCode.enc
    by_cases h0 : (lastS l m (C.f k) i).1 = 0
    · rw [if_pos h0, if_pos h0]; simpa using ih
    · rw [if_neg h0, if_neg h0]
      by_cases h2 : (lastS l m (C.f k) i).1 = 2
      · have h3 := lastS_hid l m (C.f k) i h2
        rw [if_pos h2]; simp [h2, h3, C.sh0]
      · have h3 := lastS_kinds l m (C.f k) i
        have h4 : (lastS l m (C.f k) i).1 = 1 := by omega
        rw [if_neg h2]; simp [h4]
/-- every key with something left of it is one of the table's -/
theorem LvIs.len (h : LvIs C l i level kv) (hnd : (kv.map (·.1)).Nodup) (hall : ∀ key, (lastS l level key i).1 ≠ 0 → ∃ k, C.D k ∧ C.f k = key) : kv.length = cntS l i level i := by
  rw [← cntS_eq l i level (kv.map fun p => C.f p.1) ?_ ?_, List.length_map]
  · have : (kv.map fun p => C.f p.1) = (kv.map (·.1)).map C.f := by rw [List.map_map]; rfl
    rw [this]
    have hd : ∀ a ∈ kv.map (·.1), C.D a := by
      intro a ha
      rw [List.mem_map] at ha
      obtain ⟨p, hp, rfl⟩ := ha
      exact h.dom p hp
    rw [List.nodup_iff_pairwise_ne, List.pairwise_map]
    refine List.Pairwise.imp_of_mem ?_ (List.nodup_iff_pairwise_ne.1 hnd)
    intro a b ha hb hab e
    exact hab (C.inj a b (hd a ha) (hd b hb) e)
  · intro key
    rw [List.mem_map]
    have hk : ∀ k, C.D k → (k ∈ kv.map (·.1) ↔ (lastS l level (C.f k) i).1 ≠ 0) := by
      intro k hD
      rw [← getKv_isSome, h.get k hD]
      unfold LvCode.enc
      split
      · rename_i h0; simp [h0]
      · rename_i h0; split <;> simp [h0]
    constructor
    · rintro ⟨p, hp, rfl⟩
      exact (hk _ (h.dom p hp)).1 (List.mem_map.2 ⟨p, hp, rfl⟩)
    · intro hl
      obtain ⟨k, hD, rfl⟩ := hall key hl
      obtain ⟨p, hp, e⟩ := List.mem_map.1 ((hk k hD).2 hl)
      exact ⟨p, hp, by rw [e]⟩
end
end Go.Proofs.Ytphloeafgblmnaa
