/- overlay's small functions: isSparse, kindOf, number; the reference's sparse and Latest. No condition but room. -/
import Derived.Test.YtnadldcdckjifaaDoorLayPref
import Derived.Test.YtnadldcdckjifaaDoorOvLaw
import Derived.Test.YtnadldcdckjifaaDoorLevelsG
import Derived.Test.YtnadldcdckjifaaDoorDecimal
import Derived.Test.YtnadldcdckjifaaDoorBase
namespace Go.Proofs.YtnadldcdckjifaaDoor
open Go.RowKit
set_option linter.unusedVariables false
set_option linter.unusedSimpArgs false
attribute [local go_sem] cell?_over frozen?_over lt_over le_over
def spKey : List UInt8 := [71, 78, 85, 46, 115, 112, 97, 114, 115, 101, 46]
def spOf (p : PairD) : Bool := Lib.hasPrefix p.key.data.toList spKey
def sparseL (l : List PairD) : Bool := l.any spOf
theorem hasPrefix_calls (s : ByteArray) (w : World) :
    Calls Tryd.prog 60 #[.string s, .string ⟨#[71, 78, 85, 46, 115, 112, 97, 114, 115, 101, 46]⟩] w fun e w' => e = .returned (.bool (Lib.hasPrefix s.data.toList spKey)) ∧ w' = w :=
  Any.strings_HasPrefix Tryd.lays99 s ⟨#[71, 78, 85, 46, 115, 112, 97, 114, 115, 101, 46]⟩ w
theorem hasSuffix_calls (s : ByteArray) (w : World) (hs : s.size ≤ 9223372036854775807) :
    Calls Tryd.prog 62 #[.string s, .string ⟨#[47]⟩] w fun e w' => e = .returned (.bool (Lib.hasSuffix s.data.toList [47])) ∧ w' = w :=
  Any.strings_HasSuffix Tryd.lays100 s ⟨#[47]⟩ w hs
theorem any_take {α : Type} (f : α → Bool) {l : List α} {k : Nat} (h : k < l.length) : (l.take (k + 1)).any f = ((l.take k).any f || f l[k]) := by
  rw [List.take_succ_eq_append_getElem h, List.any_append]; simp
theorem any_in {α : Type} (f : α → Bool) {l : List α} {k : Nat} (h : k < l.length) (hf : f l[k] = true) : l.any f = true := List.any_eq_true.2 ⟨_, List.getElem_mem h, hf⟩
set_option maxHeartbeats 1000000 in
set_option maxRecDepth 100000 in
theorem isSparse {A : Option Addr} {n c : Nat} {l : List PairD} (w : World) (h : Row Shape.PairD w (Old w) A n l) (hn : n ≤ 140737488355328) :
    Calls Tryd.prog 36 #[.slice A n c] w fun e w' => e = .returned (.bool (sparseL l)) ∧ Below w.heap.size w w' := by
  have HL := Lib.hid h.1
  go_enter Tryd.func36, Tryd.ntmps36
  go_wp2_with fail
  go_loopw [7] (fun i wr => ∃ k : Nat, k ≤ n ∧ i = .int .i64 k ∧ (l.take k).any spOf = false ∧ Below w.heap.size w wr) (fun i _ => n - (intOf i).toNat)
  case atStart => exact ⟨0, Nat.zero_le _, rfl, rfl, Below.refl _ _⟩
  case round =>
    obtain ⟨k, hk, rfl, ht, hbel⟩ := hrel
    have HT := Lib.hid ht; clear ht
    by_cases hlt : k < n
    · obtain ⟨b, off, es, hkl, rfl, hb, hc, hc0, hr⟩ := h.elem (Keeps.old hbel) hlt
      obtain ⟨rfl, -⟩ := hr
      have e13 : Shape.PairD.size = 2 := rfl
      simp only [e13] at hc hc0
      clear e13
      have hb2 := Nat.lt_of_lt_of_le hb hbel.size
      have hks : (k : Int) < n := by omega
      have hst := any_take spOf hkl
      have hin := any_in spOf hkl
      generalize l[k] = d at *
      have HB := Lib.hid hbel; clear hbel
      have HST := Lib.hid hst; clear hst
      have HIN := Lib.hid hin; clear hin
      go_wp2_with fail
      refine (hasPrefix_calls d.key _).mono ?_
      rintro e w2 ⟨rfl, rfl⟩
      cases hp : Lib.hasPrefix d.key.data.toList spKey
      · have HP := Lib.hid hp; clear hp
        go_wp2_with fail
        go_roundw
        case rel => exact ⟨k + 1, by omega, by go_num, by rw [HST.out, HT.out]; exact HP.out, HB.out.alloc HB.out.size _⟩
        case measure => simp [intOf]; omega
      · have HP := Lib.hid hp; clear hp
        go_wp2_with fail
        go_ret
        exact ⟨ret_bool (HIN.out HP.out).symm, HB.out.alloc HB.out.size _⟩
    · go_wp2
      go_ret
      refine ⟨ret_bool ?_, hbel⟩
      have h1 := HT.out
      rw [List.take_of_length_le (by rw [HL.out]; omega)] at h1
      exact h1.symm
/-- the kind that a type and a name say -/
def kindV (t : UInt8) (name : ByteArray) : Int :=
  if t = 48 then (if Lib.hasSuffix name.data.toList [47] then 2 else 1) else if t = 49 then 4 else if t = 50 then 3 else if t = 53 then 2 else 5
set_option maxHeartbeats 1000000 in
set_option maxRecDepth 100000 in
theorem kindOf (t : UInt8) (name : ByteArray) (w : World) (hs : name.size ≤ 9223372036854775807) :
    Calls Tryd.prog 41 #[.int .u8 t.toNat, .string name] w fun e w' => e = .returned (.int .i64 (kindV t name)) ∧ Below w.heap.size w w' := by
  have tn : ∀ m : UInt8, (((t.toNat : Nat) : Int) == (m.toNat : Int)) = decide (t = m) := fun m => by
    rw [Bool.eq_iff_iff, beq_iff_eq, decide_eq_true_eq]
    exact ⟨fun h => UInt8.toNat_inj.1 (by omega), fun h => by rw [h]⟩
  have t48 : (((t.toNat : Nat) : Int) == 48) = decide (t = 48) := tn 48
  have t49 : (((t.toNat : Nat) : Int) == 49) = decide (t = 49) := tn 49
  have t50 : (((t.toNat : Nat) : Int) == 50) = decide (t = 50) := tn 50
  have t53 : (((t.toNat : Nat) : Int) == 53) = decide (t = 53) := tn 53
  clear tn
  by_cases h48 : t = 48
  · have hk : kindV t name = if Lib.hasSuffix name.data.toList [47] then 2 else 1 := by unfold kindV; rw [if_pos h48]
    have HK := Lib.hid hk; clear hk
    rw [decide_eq_true h48] at t48
    clear t49 t50 t53 h48
    go_enter Tryd.func41, Tryd.ntmps41
    go_wp2_with fail
    refine (hasSuffix_calls name _ hs).mono ?_
    rintro e w2 ⟨rfl, rfl⟩
    cases hp : Lib.hasSuffix name.data.toList [47]
    · have HP := Lib.hid hp; clear hp
      go_wp2_with fail
      go_ret
      exact ⟨ret_int (by rw [HK.out, HP.out]; rfl), Below.refl _ _⟩
    · have HP := Lib.hid hp; clear hp
      go_wp2_with fail
      go_ret
      exact ⟨ret_int (by rw [HK.out, HP.out]; rfl), Below.refl _ _⟩
  rw [decide_eq_false h48] at t48
  by_cases h49 : t = 49
  · have HK := Lib.hid (show kindV t name = 4 by unfold kindV; rw [if_neg h48, if_pos h49])
    rw [decide_eq_true h49] at t49
    clear t50 t53 h48 h49
    go_enter Tryd.func41, Tryd.ntmps41
    go_wp2_with fail
    go_ret
    exact ⟨ret_int (by rw [HK.out]), Below.refl _ _⟩
  rw [decide_eq_false h49] at t49
  by_cases h50 : t = 50
  · have HK := Lib.hid (show kindV t name = 3 by unfold kindV; rw [if_neg h48, if_neg h49, if_pos h50])
    rw [decide_eq_true h50] at t50
    clear t53 h48 h49 h50
    go_enter Tryd.func41, Tryd.ntmps41
    go_wp2_with fail
    go_ret
    exact ⟨ret_int (by rw [HK.out]), Below.refl _ _⟩
  rw [decide_eq_false h50] at t50
  by_cases h53 : t = 53
  · have HK := Lib.hid (show kindV t name = 2 by unfold kindV; rw [if_neg h48, if_neg h49, if_neg h50, if_pos h53])
    rw [decide_eq_true h53] at t53
    clear h48 h49 h50 h53
    go_enter Tryd.func41, Tryd.ntmps41
    go_wp2_with fail
    go_ret
    exact ⟨ret_int (by rw [HK.out]), Below.refl _ _⟩
  have HK := Lib.hid (show kindV t name = 5 by unfold kindV; rw [if_neg h48, if_neg h49, if_neg h50, if_neg h53])
  rw [decide_eq_false h53] at t53
  clear h48 h49 h50 h53
  go_enter Tryd.func41, Tryd.ntmps41
  go_wp2_with fail
  go_ret
  exact ⟨ret_int (by rw [HK.out]), Below.refl _ _⟩
end Go.Proofs.YtnadldcdckjifaaDoor
