/- Two paths of one key are one path; plain. No condition. -/
import Derived.Test.YtdmpdinaineiiaaDoorKey
import Derived.Lib.ItoaMem
namespace Go.Proofs.YtdmpdinaineiiaaDoor
open Go.RowKit
set_option linter.unusedVariables false
set_option linter.unusedSimpArgs false
def digV (l : List UInt8) : Nat := l.foldl (fun a c => a * 10 + (c.toNat - 48)) 0
theorem digV_snoc (l : List UInt8) (c : UInt8) : digV (l ++ [c]) = digV l * 10 + (c.toNat - 48) := by simp [digV, List.foldl_append]
theorem digB {k : Nat} (h : k < 10) : (UInt8.ofNat (48 + k)).toNat = 48 + k := by
  rw [UInt8.toNat_ofNat']
  have : 48 + k < 256 := by omega
  exact Nat.mod_eq_of_lt this
theorem digits_val (u : Nat) : digV (Lib.decDigits u) = u ∧ ∀ c ∈ Lib.decDigits u, c ≠ 58 := by
  induction u using Nat.strongRecOn with
  | _ u ih =>
    have ne : ∀ k, k < 10 → UInt8.ofNat (48 + k) ≠ 58 := fun k hk e => by
      have := congrArg UInt8.toNat e
      rw [digB hk] at this
      have h58 : (58 : UInt8).toNat = 58 := rfl
      omega
    rw [Lib.decDigits.eq_def]
    by_cases h : u < 10
    · rw [dif_pos h]
      refine ⟨?_, fun c hc => ?_⟩
      · simp only [digV, List.foldl_cons, List.foldl_nil]
        rw [digB h]; omega
      · rw [List.mem_singleton] at hc; subst hc; exact ne u h
    · rw [dif_neg h]
      obtain ⟨i1, i2⟩ := ih (u / 10) (by omega)
      refine ⟨?_, fun c hc => ?_⟩
      · rw [digV_snoc, i1, digB (by omega)]; omega
      · rcases List.mem_append.1 hc with hc | hc
        · exact i2 c hc
        · rw [List.mem_singleton] at hc; subst hc; exact ne _ (by omega)
theorem split_sep : ∀ {a a' r r' : List UInt8}, (∀ c ∈ a, c ≠ 58) → (∀ c ∈ a', c ≠ 58) → a ++ 58 :: r = a' ++ 58 :: r' → a = a' ∧ r = r'
  | [], [], _, _, _, _, h => ⟨rfl, by simpa using h⟩
  | [], x :: a', _, _, _, h2, h => by
    simp only [List.nil_append, List.cons_append, List.cons.injEq] at h
    exact absurd h.1.symm (h2 x (by simp))
  | x :: a, [], _, _, h1, _, h => by
    simp only [List.nil_append, List.cons_append, List.cons.injEq] at h
    exact absurd h.1 (h1 x (by simp))
  | x :: a, y :: a', _, _, h1, h2, h => by
    simp only [List.cons_append, List.cons.injEq] at h
    obtain ⟨i1, i2⟩ := split_sep (fun c hc => h1 c (List.mem_cons_of_mem _ hc)) (fun c hc => h2 c (List.mem_cons_of_mem _ hc)) h.2
    exact ⟨by rw [h.1, i1], i2⟩
theorem itoa_nat (n : Nat) : Lib.itoa (n : Int) = Lib.decDigits n := Lib.itoa_nonneg n
theorem keyL_inj : ∀ {l l' : List ByteArray}, keyL l = keyL l' → l = l'
  | [], [], _ => rfl
  | [], p :: l', h => by
    unfold keyL at h
    rw [List.flatMap_cons, List.flatMap_nil] at h
    simp [keyP] at h
  | p :: l, [], h => by
    unfold keyL at h
    rw [List.flatMap_cons, List.flatMap_nil] at h
    simp [keyP] at h
  | p :: l, p' :: l', h => by
    have hk : ∀ (p : ByteArray) l, keyL (p :: l) = Lib.itoa p.size ++ 58 :: (p.data.toList ++ keyL l) := fun p l => by simp [keyL, keyP]
    rw [hk, hk, itoa_nat, itoa_nat] at h
    obtain ⟨h1, h2⟩ := split_sep (digits_val _).2 (digits_val _).2 h
    have hsz : p.size = p'.size := by have := congrArg digV h1; rwa [(digits_val _).1, (digits_val _).1] at this
    obtain ⟨h3, h4⟩ := List.append_inj h2 (by show p.data.toList.length = p'.data.toList.length; rw [Array.length_toList, Array.length_toList]; exact hsz)
    have hp : p = p' := by cases p; cases p'; simpa [Array.toList_inj] using h3
    rw [hp, keyL_inj (l := l) (l' := l') h4]
theorem keyS_inj {l l' : List ByteArray} (h : keyS l = keyS l') : l = l' := by
  apply keyL_inj
  have := congrArg (fun b => b.data.toList) h
  simpa [keyS] using this
end Go.Proofs.YtdmpdinaineiiaaDoor
