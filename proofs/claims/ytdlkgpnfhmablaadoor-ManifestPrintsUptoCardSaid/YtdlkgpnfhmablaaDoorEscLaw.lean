/- Texts in bytes that print, plain: what is escaped, and what an escaped text says. No condition. -/
import Derived.Test.YtdlkgpnfhmablaaDoorOver
namespace Go.Proofs.YtdlkgpnfhmablaaDoor

def bareB (c : UInt8) : Bool := decide (32 < c.toNat) && decide (c.toNat < 127) && decide (c.toNat ≠ 92)
def escB (c : UInt8) : List UInt8 := if bareB c then [c] else [92, 48 + c / 64, 48 + c / 8 % 8, 48 + c % 8]
def esc (l : List UInt8) : List UInt8 := l.flatMap escB
def octB (a : UInt8) : Bool := decide (48 ≤ a.toNat) && decide (a.toNat ≤ 55)
def val3 (a b d : UInt8) : Nat := (a.toNat - 48) * 64 + (b.toNat - 48) * 8 + (d.toNat - 48)
def unesc : List UInt8 → Option (List UInt8)
  | [] => some []
  | c :: r =>
    if bareB c then (unesc r).map (c :: ·)
    else match r with
      | a :: b :: d :: r' => if c = 92 ∧ octB a = true ∧ octB b = true ∧ octB d = true ∧ a.toNat ≤ 51 ∧ bareB (UInt8.ofNat (val3 a b d)) = false then (unesc r').map (UInt8.ofNat (val3 a b d) :: ·) else none
      | _ => none
def dec : List UInt8 → Option (List UInt8)
  | [] => some []
  | c :: r =>
    if c ≠ 92 then (dec r).map (c :: ·)
    else match r with
      | a :: b :: d :: r' => if octB a = true ∧ octB b = true ∧ octB d = true ∧ val3 a b d ≤ 255 then (dec r').map (UInt8.ofNat (val3 a b d) :: ·) else none
      | _ => none

theorem unesc_bare {c : UInt8} (r : List UInt8) (h : bareB c = true) : unesc (c :: r) = (unesc r).map (c :: ·) := by
  rw [unesc.eq_def]; simp only [if_pos h]
theorem unesc_four {c a b d : UInt8} (r : List UInt8) (h : bareB c = false) : unesc (c :: a :: b :: d :: r) = if c = 92 ∧ octB a = true ∧ octB b = true ∧ octB d = true ∧ a.toNat ≤ 51 ∧ bareB (UInt8.ofNat (val3 a b d)) = false then (unesc r).map (UInt8.ofNat (val3 a b d) :: ·) else none := by
  rw [unesc.eq_def]; simp [h]
theorem unesc_short {c : UInt8} {r : List UInt8} (h : bareB c = false) (hr : r.length < 3) : unesc (c :: r) = none := by
  rw [unesc.eq_def]; simp only [h]
  match r, hr with
  | [], _ => rfl
  | [_], _ => rfl
  | [_, _], _ => rfl
theorem dec_plain {c : UInt8} (r : List UInt8) (h : c ≠ 92) : dec (c :: r) = (dec r).map (c :: ·) := by
  rw [dec.eq_def]; simp only [if_pos h]
theorem dec_four {a b d : UInt8} (r : List UInt8) : dec (92 :: a :: b :: d :: r) = if octB a = true ∧ octB b = true ∧ octB d = true ∧ val3 a b d ≤ 255 then (dec r).map (UInt8.ofNat (val3 a b d) :: ·) else none := by
  rw [dec.eq_def]; simp
theorem dec_short {r : List UInt8} (hr : r.length < 3) : dec (92 :: r) = none := by
  rw [dec.eq_def]; simp only
  match r, hr with
  | [], _ => rfl
  | [_], _ => rfl
  | [_, _], _ => rfl
theorem all_bytes (p : UInt8 → Bool) (h : (List.range 256).all (fun n => p (UInt8.ofNat n)) = true) (c : UInt8) : p c = true := by
  rw [List.all_eq_true] at h
  have := h c.toNat (by have := c.toNat_lt; simp; omega)
  simpa using this
theorem esc_digits (c : UInt8) : octB (48 + c / 64) = true ∧ octB (48 + c / 8 % 8) = true ∧ octB (48 + c % 8) = true ∧ (48 + c / 64).toNat ≤ 51 ∧ UInt8.ofNat (val3 (48 + c / 64) (48 + c / 8 % 8) (48 + c % 8)) = c := by
  have := all_bytes (fun c => decide (octB (48 + c / 64) = true ∧ octB (48 + c / 8 % 8) = true ∧ octB (48 + c % 8) = true ∧ (48 + c / 64).toNat ≤ 51 ∧ UInt8.ofNat (val3 (48 + c / 64) (48 + c / 8 % 8) (48 + c % 8)) = c)) (by decide +kernel) c
  simpa only [decide_eq_true_eq] using this
theorem octB_iff {a : UInt8} : octB a = true ↔ 48 ≤ a.toNat ∧ a.toNat ≤ 55 := by simp [octB]
theorem bare92 : bareB 92 = false := by decide
theorem esc_nil : esc [] = [] := rfl
theorem esc_cons (c : UInt8) (l : List UInt8) : esc (c :: l) = escB c ++ esc l := rfl
theorem esc_append (l k : List UInt8) : esc (l ++ k) = esc l ++ esc k := by simp [esc]
theorem escB_val {a b d : UInt8} (ha : octB a = true) (hb : octB b = true) (hd : octB d = true) (h : a.toNat ≤ 51) (hv : bareB (UInt8.ofNat (val3 a b d)) = false) : escB (UInt8.ofNat (val3 a b d)) = [92, a, b, d] := by
  rw [octB_iff] at ha hb hd
  unfold escB
  rw [if_neg (by simp [hv])]
  have hlt : val3 a b d < 256 := by unfold val3; omega
  have e : (UInt8.ofNat (val3 a b d)).toNat = val3 a b d := by simp [UInt8.toNat_ofNat', Nat.mod_eq_of_lt hlt]
  congr 1
  congr 1
  · apply UInt8.toNat_inj.1
    rw [UInt8.toNat_add, UInt8.toNat_div, e]
    simp [val3]; omega
  congr 1
  · apply UInt8.toNat_inj.1
    rw [UInt8.toNat_add, UInt8.toNat_mod, UInt8.toNat_div, e]
    simp [val3]; omega
  congr 1
  · apply UInt8.toNat_inj.1
    rw [UInt8.toNat_add, UInt8.toNat_mod, e]
    simp [val3]; omega

theorem unesc_escB (c : UInt8) (r : List UInt8) : unesc (escB c ++ r) = (unesc r).map (c :: ·) := by
  by_cases h : bareB c = true
  · rw [← unesc_bare r h]; simp [escB, h]
  · obtain ⟨h1, h2, h3, h4, h5⟩ := esc_digits c
    simp only [escB, if_neg h, List.cons_append, List.nil_append]
    rw [unesc_four _ bare92, if_pos ⟨rfl, h1, h2, h3, h4, by rw [h5]; simpa using h⟩, h5]
theorem unesc_esc (l : List UInt8) : unesc (esc l) = some l := by
  induction l with
  | nil => rfl
  | cons c l ih => rw [esc_cons, unesc_escB, ih]; rfl
theorem esc_of_unesc {s t : List UInt8} (h : unesc s = some t) : esc t = s ∧ dec s = some t := by
  induction s using unesc.induct generalizing t with
  | case1 => simp [unesc] at h; subst h; exact ⟨rfl, rfl⟩
  | case2 c r hb ih =>
    rw [unesc_bare _ hb, Option.map_eq_some_iff] at h
    obtain ⟨t', h1, rfl⟩ := h
    obtain ⟨h2, h3⟩ := ih h1
    have hc : c ≠ 92 := by rintro rfl; simp [bare92] at hb
    exact ⟨by rw [esc_cons, h2]; simp [escB, hb], by rw [dec_plain _ hc, h3]; rfl⟩
  | case3 c hb a b d r hc ih =>
    rw [unesc_four _ (by simpa using hb), if_pos hc] at h
    rw [Option.map_eq_some_iff] at h
    obtain ⟨t', h1, rfl⟩ := h
    obtain ⟨h2, h3⟩ := ih h1
    obtain ⟨rfl, ha, hb', hd, hlt, hv⟩ := hc
    refine ⟨by rw [esc_cons, h2, escB_val ha hb' hd hlt hv]; rfl, ?_⟩
    rw [dec_four, if_pos ⟨ha, hb', hd, by rw [octB_iff] at ha hb' hd; unfold val3; omega⟩, h3]
    rfl
  | case4 c hb a b d r hc =>
    rw [unesc_four _ (by simpa using hb), if_neg hc] at h
    cases h
  | case5 c r hb hr =>
    rw [unesc_short (by simpa using hb)] at h
    · cases h
    · match r, hr with
      | [], _ => simp
      | [_], _ => simp
      | [_, _], _ => simp
      | a :: b :: d :: r', hr => exact absurd rfl (hr a b d r')
theorem unesc_eq_dec (s : List UInt8) : unesc s = (dec s).filter (fun t => decide (esc t = s)) := by
  cases h : unesc s with
  | some t => obtain ⟨h1, h2⟩ := esc_of_unesc h; rw [h2]; simp [Option.filter, h1]
  | none =>
    cases h' : dec s with
    | none => rfl
    | some t =>
      have : esc t ≠ s := by rintro rfl; rw [unesc_esc] at h; cases h
      simp [Option.filter, this]
theorem esc_prints {l : List UInt8} {c : UInt8} (h : c ∈ esc l) : 33 ≤ c.toNat ∧ c.toNat ≤ 126 := by
  unfold esc at h
  rw [List.mem_flatMap] at h
  obtain ⟨x, -, hx⟩ := h
  have := all_bytes (fun x => (escB x).all fun c => decide (33 ≤ c.toNat ∧ c.toNat ≤ 126)) (by decide +kernel) x
  rw [List.all_eq_true] at this
  simpa using this c hx
theorem esc_len (l : List UInt8) : l.length ≤ (esc l).length ∧ (esc l).length ≤ 4 * l.length := by
  induction l with
  | nil => simp [esc]
  | cons c l ih =>
    rw [esc_cons, List.length_append, List.length_cons]
    have : (escB c).length = 1 ∨ (escB c).length = 4 := by unfold escB; split <;> simp
    omega
end Go.Proofs.YtdlkgpnfhmablaaDoor
