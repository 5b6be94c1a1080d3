/- Texts in bytes that print, plain: what is escaped, and what an escaped text says. No condition. Byte lists of the call's own: appending a byte; a byte list as a text. No condition but room. Byte lists: their elements. No condition. Storing into a list of the call's own whose elements lead nowhere and take one cell; turning a list round, plain; the decimal numeral by its last digits. No condition. The reference's Escape: what it computes. No condition but room. -/
import Derived.Test.YtfhfcipelgogjaaGreatDoorBaseAt
import Derived.Laws.IdiomStrings
import Derived.BigGuardPart
import Derived.Lib.ItoaNum
namespace Go.Proofs.YtfhfcipelgogjaaGreatDoor

def bareB (c : UInt8) : Bool := decide (32 < c.toNat) && decide (c.toNat < 127) && decide (c.toNat ≠ 92)
def escB (c : UInt8) : List UInt8 := if bareB c then [c] else [92, 48 + c / 64, 48 + c / 8 % 8, 48 + c % 8]
def esc (l : List UInt8) : List UInt8 := l.flatMap escB
def octB (a : UInt8) : Bool := decide (48 ≤ a.toNat) && decide (a.toNat ≤ 55)
def val3 (a b d : UInt8) : Nat := (a.toNat - 48) * 64 + (b.toNat - 48) * 8 + (d.toNat - 48)
def unesc : List UInt8 → Option (List UInt8)
  | [] => some []
  | c :: r =>
    if bareB c then (unesc r).map (c :: ·)
    else match r with
      | a :: b :: d :: r' => if c = 92 ∧ octB a = true ∧ octB b = true ∧ octB d = true ∧ a.toNat ≤ 51 ∧ bareB (UInt8.ofNat (val3 a b d)) = false then (unesc r').map (UInt8.ofNat (val3 a b d) :: ·) else none
      | _ => none
def dec : List UInt8 → Option (List UInt8)
  | [] => some []
  | c :: r =>
    if c ≠ 92 then (dec r).map (c :: ·)
    else match r with
      | a :: b :: d :: r' => if octB a = true ∧ octB b = true ∧ octB d = true ∧ val3 a b d ≤ 255 then (dec r').map (UInt8.ofNat (val3 a b d) :: ·) else none
      | _ => none

theorem unesc_bare {c : UInt8} (r : List UInt8) (h : bareB c = true) : unesc (c :: r) = (unesc r).map (c :: ·) := by
  rw [unesc.eq_def]; simp only [if_pos h]
theorem unesc_four {c a b d : UInt8} (r : List UInt8) (h : bareB c = false) : unesc (c :: a :: b :: d :: r) = if c = 92 ∧ octB a = true ∧ octB b = true ∧ octB d = true ∧ a.toNat ≤ 51 ∧ bareB (UInt8.ofNat (val3 a b d)) = false then (unesc r).map (UInt8.ofNat (val3 a b d) :: ·) else none := by
  rw [unesc.eq_def]; simp [h]
theorem unesc_short {c : UInt8} {r : List UInt8} (h : bareB c = false) (hr : r.length < 3) : unesc (c :: r) = none := by
  rw [unesc.eq_def]; simp only [h]
  match r, hr with
  | [], _ => rfl
  | [_], _ => rfl
  | [_, _], _ => rfl
theorem dec_plain {c : UInt8} (r : List UInt8) (h : c ≠ 92) : dec (c :: r) = (dec r).map (c :: ·) := by
  rw [dec.eq_def]; simp only [if_pos h]
theorem dec_four {a b d : UInt8} (r : List UInt8) : dec (92 :: a :: b :: d :: r) = if octB a = true ∧ octB b = true ∧ octB d = true ∧ val3 a b d ≤ 255 then (dec r).map (UInt8.ofNat (val3 a b d) :: ·) else none := by
  rw [dec.eq_def]; simp
theorem dec_short {r : List UInt8} (hr : r.length < 3) : dec (92 :: r) = none := by
  rw [dec.eq_def]; simp only
  match r, hr with
  | [], _ => rfl
  | [_], _ => rfl
  | [_, _], _ => rfl
theorem all_bytes (p : UInt8 → Bool) (h : (List.range 256).all (fun n => p (UInt8.ofNat n)) = true) (c : UInt8) : p c = true := by
  rw [List.all_eq_true] at h
  have := h c.toNat (by have := c.toNat_lt; simp; omega)
  simpa using this
theorem esc_digits (c : UInt8) : octB (48 + c / 64) = true ∧ octB (48 + c / 8 % 8) = true ∧ octB (48 + c % 8) = true ∧ (48 + c / 64).toNat ≤ 51 ∧ UInt8.ofNat (val3 (48 + c / 64) (48 + c / 8 % 8) (48 + c % 8)) = c := by
  have := all_bytes (fun c => decide (octB (48 + c / 64) = true ∧ octB (48 + c / 8 % 8) = true ∧ octB (48 + c % 8) = true ∧ (48 + c / 64).toNat ≤ 51 ∧ UInt8.ofNat (val3 (48 + c / 64) (48 + c / 8 % 8) (48 + c % 8)) = c)) (by decide +kernel) c
  simpa only [decide_eq_true_eq] using this
theorem octB_iff {a : UInt8} : octB a = true ↔ 48 ≤ a.toNat ∧ a.toNat ≤ 55 := by simp [octB]
theorem bare92 : bareB 92 = false := by decide
theorem esc_nil : esc [] = [] := rfl
theorem esc_cons (c : UInt8) (l : List UInt8) : esc (c :: l) = escB c ++ esc l := rfl
theorem esc_append (l k : List UInt8) : esc (l ++ k) = esc l ++ esc k := by simp [esc]
theorem escB_val {a b d : UInt8} (ha : octB a = true) (hb : octB b = true) (hd : octB d = true) (h : a.toNat ≤ 51) (hv : bareB (UInt8.ofNat (val3 a b d)) = false) : escB (UInt8.ofNat (val3 a b d)) = [92, a, b, d] := by
  rw [octB_iff] at ha hb hd
  unfold escB
  rw [if_neg (by simp [hv])]
  have hlt : val3 a b d < 256 := by unfold val3; omega
  have e : (UInt8.ofNat (val3 a b d)).toNat = val3 a b d := by simp [UInt8.toNat_ofNat', Nat.mod_eq_of_lt hlt]
  congr 1
  congr 1
  · apply UInt8.toNat_inj.1
    rw [UInt8.toNat_add, UInt8.toNat_div, e]
    simp [val3]; omega
  congr 1
  · apply UInt8.toNat_inj.1
    rw [UInt8.toNat_add, UInt8.toNat_mod, UInt8.toNat_div, e]
    simp [val3]; omega
  congr 1
  · apply UInt8.toNat_inj.1
    rw [UInt8.toNat_add, UInt8.toNat_mod, e]
    simp [val3]; omega

theorem unesc_escB (c : UInt8) (r : List UInt8) : unesc (escB c ++ r) = (unesc r).map (c :: ·) := by
  by_cases h : bareB c = true
  · rw [← unesc_bare r h]; simp [escB, h]
  · obtain ⟨h1, h2, h3, h4, h5⟩ := esc_digits c
    simp only [escB, if_neg h, List.cons_append, List.nil_append]
    rw [unesc_four _ bare92, if_pos ⟨rfl, h1, h2, h3, h4, by rw [h5]; simpa using h⟩, h5]
theorem unesc_esc (l : List UInt8) : unesc (esc l) = some l := by
  induction l with
  | nil => rfl
  | cons c l ih => rw [esc_cons, unesc_escB, ih]; rfl
theorem esc_of_unesc {s t : List UInt8} (h : unesc s = some t) : esc t = s ∧ dec s = some t := by
  induction s using unesc.induct generalizing t with
  | case1 => simp [unesc] at h; subst h; exact ⟨rfl, rfl⟩
  | case2 c r hb ih =>
    rw [unesc_bare _ hb, Option.map_eq_some_iff] at h
    obtain ⟨t', h1, rfl⟩ := h
    obtain ⟨h2, h3⟩ := ih h1
    have hc : c ≠ 92 := by rintro rfl; simp [bare92] at hb
    exact ⟨by rw [esc_cons, h2]; simp [escB, hb], by rw [dec_plain _ hc, h3]; rfl⟩
  | case3 c hb a b d r hc ih =>
    rw [unesc_four _ (by simpa using hb), if_pos hc] at h
    rw [Option.map_eq_some_iff] at h
    obtain ⟨t', h1, rfl⟩ := h
    obtain ⟨h2, h3⟩ := ih h1
    obtain ⟨rfl, ha, hb', hd, hlt, hv⟩ := hc
    refine ⟨by rw [esc_cons, h2, escB_val ha hb' hd hlt hv]; rfl, ?_⟩
    rw [dec_four, if_pos ⟨ha, hb', hd, by rw [octB_iff] at ha hb' hd; unfold val3; omega⟩, h3]
    rfl
  | case4 c hb a b d r hc =>
    rw [unesc_four _ (by simpa using hb), if_neg hc] at h
    cases h
  | case5 c r hb hr =>
    rw [unesc_short (by simpa using hb)] at h
    · cases h
    · match r, hr with
      | [], _ => simp
      | [_], _ => simp
      | [_, _], _ => simp
      | a :: b :: d :: r', hr => exact absurd rfl (hr a b d r')
theorem unesc_eq_dec (s : List UInt8) : unesc s = (dec s).filter (fun t => decide (esc t = s)) := by
  cases h : unesc s with
  | some t => obtain ⟨h1, h2⟩ := esc_of_unesc h; rw [h2]; simp [Option.filter, h1]
  | none =>
    cases h' : dec s with
    | none => rfl
    | some t =>
      have : esc t ≠ s := by rintro rfl; rw [unesc_esc] at h; cases h
      simp [Option.filter, this]
theorem esc_prints {l : List UInt8} {c : UInt8} (h : c ∈ esc l) : 33 ≤ c.toNat ∧ c.toNat ≤ 126 := by
  unfold esc at h
  rw [List.mem_flatMap] at h
  obtain ⟨x, -, hx⟩ := h
  have := all_bytes (fun x => (escB x).all fun c => decide (33 ≤ c.toNat ∧ c.toNat ≤ 126)) (by decide +kernel) x
  rw [List.all_eq_true] at this
  simpa using this c hx
theorem esc_len (l : List UInt8) : l.length ≤ (esc l).length ∧ (esc l).length ≤ 4 * l.length := by
  induction l with
  | nil => simp [esc]
  | cons c l ih =>
    rw [esc_cons, List.length_append, List.length_cons]
    have : (escB c).length = 1 ∨ (escB c).length = 4 := by unfold escB; split <;> simp
    omega
end Go.Proofs.YtfhfcipelgogjaaGreatDoor
namespace Go.Proofs.YtfhfcipelgogjaaGreatDoor
open Go.RowKit
set_option linter.unusedSectionVars false
set_option linter.unusedVariables false
set_option linter.unusedSimpArgs false

/-- a byte list of the call's own -/
abbrev OwnB (e : TypeId) (w : World) (base : Nat) (v : Value) (l : List UInt8) : Prop := Own Shape.byte e w base (fun _ => False) v l
def strV (l : List UInt8) : Value := .string ⟨l.toArray⟩
theorem strV_data (s : ByteArray) : strV s.data.toList = .string s := by simp [strV]
section
variable {P : Program} {w W w' : World} {v : Value} {l : List UInt8} {e : TypeId} {base : Nat} {ops : Array Oper} {rest : List Oper} {o : Oper} {a : Act} {Q : Exit → Act → World → Prop}
theorem Own.ff {M M' : Nat → Prop} (h : Own Shape.byte e w base (fun n => M n ∨ M' n) v l) : OwnB e w base v l := by
  obtain ⟨xs, h1, h2, h3⟩ := h
  exact ⟨xs, h1, h2.flat flat_byte, fun _ h => h.elim⟩
theorem below_append {B : Nat} {W w w1 : World} {v : Value} (hb : Below B W w) (hB : B ≤ w.heap.size) (hg : w.grownBy w1 v.ownBlock) (hlt : ∀ k, v.ownBlock = some k → B ≤ k) : Below B W w1 :=
  hb.grown hg hB hlt
theorem wpList_append_b1 (hgd : o.guard = none) (sv x : Operand) (t : TypeId) (ho : o.op = .call { callee := .builtin .append, args := #[sv, x], argTypes := #[t, t] }) (el : Elem P t e Shape.byte 1)
    (hs : a.eval sv = v) (h : OwnB e w base v l) (n : Int) (c : UInt8) (hx : a.eval x = .slice (some ⟨w.heap.size, 0, none⟩) 1 1) (hn : n = (c.toNat : Int)) (hlen : l.length ≤ 1000000000000) (hB : Below base W w) (hbase : base ≤ w.heap.size)
    (K : ∀ v' w', OwnB e w' base v' (l ++ [c]) → Below base W w' → base ≤ w'.heap.size → wpList P ops Q rest (a.put o.dst v') w') : wpList P ops Q (o :: rest) a (w.alloc (.cells #[.int .u8 n] e)) := by
  subst hn
  refine wpList_append_list hgd sv x t ho el hs (h.alloc _) hx (Src.single (s := Shape.byte) (es := [.int .u8 c.toNat]) (a := c) e (M := fun _ => False) (fun _ h => h.elim) rfl) (fun _ h => h.elim) ?_ ?_ ?_ ?_
  · simp; omega
  · simp [maxLen]; omega
  · simp; omega
  · intro v' w1 hown hg hat
    have hb : Below base W w1 := (hB.alloc hbase _).grown hg (by simp; omega) (fun k hk => (h.lt k hk).1)
    exact K v' w1 hown.ff hb (by have := hg.size; simp at this; omega)
theorem run_str_of (src dst : TypeId) (hs : P.underlying src = some (.slice e)) (he : P.underlying e = some (.int .u8)) (hd : P.underlying dst = some .string) {M : Nat → Prop} (h : SliceRd Shape.byte w M v l) :
    (convert src dst v).run P w = .ok (strV l) w := by
  obtain ⟨A, n, c, rfl, hnc, hcm, hlen, hrow⟩ := h
  rcases Nat.eq_zero_or_pos n with hn | hn
  · subst hn
    have : l = [] := List.eq_nil_of_length_eq_zero hlen
    subst this
    rw [run_convert_bytes_string w src dst e A 0 c hs he hd]
    cases A <;> simp [Conv.bytesToString, strV, loadCells, Sem.run_bind, Sem.run_pure] <;> rfl
  · obtain ⟨b, off, rfl, hb, hi⟩ := hrow hn
    subst hlen
    refine run_convert_bytes_back w src dst e _ c l hs he hd fun j hj => ?_
    obtain ⟨es, h1, h2⟩ := hi j hj
    have := h1 0 (by decide)
    simp only [Shape.byte] at h2 this
    subst h2
    unfold Addr.add
    by_cases h0 : j = 0
    · subst h0; simpa using this
    · rw [if_neg h0]; simpa using this
/-- '[]byte(s)': new memory that reads as the text's bytes -/
theorem run_bytes_of (src dst : TypeId) (hs : P.underlying src = some .string) (hd : P.underlying dst = some (.slice e)) (he : P.underlying e = some (.int .u8)) (w : World) (s : ByteArray) :
    ∃ c w', (convert src dst (.string s)).run P w = .ok (.slice (some ⟨w.heap.size, 0, none⟩) s.size c) w' ∧ w.grownBy w' none ∧ w'.heap.size = w.heap.size + 1 ∧ s.size ≤ c ∧
      ∀ j (hj : j < s.data.size), w'.cell? ⟨w.heap.size, j, none⟩ = some (.int .u8 (s.data[j].toNat : Int)) := by
  refine ⟨_, _, run_bytes_of_string w src dst e s hs hd he, ⟨rfl, rfl, rfl, by simp, fun k hk _ => Below.heap_alloc w.drew _ k hk⟩, by simp, grownCap_ge w _ _ _, fun j hj => ?_⟩
  have := World.cell?_alloc_mark w.drew (bytesRow s (grownCap w s.size 0 e)) e ((bytesRow s (grownCap w s.size 0 e)).size, (bytesRow s (grownCap w s.size 0 e)).size + 1) j
  rw [bytesRow_at s _ j hj] at this
  exact this
theorem Own.low {α : Type} {s : Shape α} {M : Nat → Prop} {l : List α} {base' : Nat} (h : Own s e w base M v l) (hb : base' ≤ base) : Own s e w base' M v l := by
  obtain ⟨xs, ⟨h1, h2⟩, h3⟩ := h
  refine ⟨xs, ⟨h1, ?_⟩, h3⟩
  rcases h2 with h | ⟨g, cap, cur, hv, hg, r⟩
  · exact .inl h
  · exact .inr ⟨g, cap, cur, hv, Nat.le_trans hb hg, r⟩
/-- one new element that leads nowhere -/
theorem wpList_append_one {α : Type} {s : Shape α} {l : List α} (hf : s.Flat) (hgd : o.guard = none) (sv x : Operand) (t : TypeId) (ho : o.op = .call { callee := .builtin .append, args := #[sv, x], argTypes := #[t, t] }) {bytes : Nat} (el : Elem P t e s bytes)
    (hs : a.eval sv = v) (h : Own s e w base (fun _ => False) v l) {es : List Value} {b : α} (hx : a.eval x = .slice (some ⟨w.heap.size, 0, none⟩) 1 1) (hr : s.rd w (fun _ => False) es b) (hlen : (l.length + 1) * bytes ≤ 140737488355328) (hlen' : l.length + 1 ≤ maxLen) (hbase : base ≤ w.heap.size)
    (K : ∀ v' w', Own s e w' base (fun _ => False) v' (l ++ [b]) → w.grownBy w' v.ownBlock → w.heap.size ≤ w'.heap.size → (v'.ownBlock = v.ownBlock ∨ v'.ownBlock = some (w.heap.size + 1)) → wpList P ops Q rest (a.put o.dst v') w') : wpList P ops Q (o :: rest) a (w.alloc (.cells es.toArray e)) := by
  refine wpList_append_list hgd sv x t ho el hs (h.alloc _) hx (Src.single (s := s) (es := es) (a := b) e (M := fun _ => False) (fun _ h => h.elim) hr) (fun _ h => h.elim) hlen hlen' (by simp; omega) ?_
  intro v' w1 hown hg hat
  have hz := hg.size
  simp at hz
  refine K v' w1 ?_ ?_ (by omega) (by simpa using hat)
  · obtain ⟨xs, h1, h2, h3⟩ := hown
    exact ⟨xs, h1, h2.flat hf, fun _ h => h.elim⟩
  · exact ⟨hg.os, hg.tape, hg.output, by omega, fun n hn hne => (hg.block n (by simp; omega) hne).trans (Below.heap_alloc w _ n hn)⟩
end
end Go.Proofs.YtfhfcipelgogjaaGreatDoor
namespace Go.Proofs.YtfhfcipelgogjaaGreatDoor
open Go.RowKit
set_option linter.unusedVariables false
set_option linter.unusedSimpArgs false
theorem elem_byte : Elem Tryz.prog 58 5 Shape.byte 1 := ⟨Tryz.underlying58, by kernel_rfl⟩
end Go.Proofs.YtfhfcipelgogjaaGreatDoor
namespace Go.Proofs.YtfhfcipelgogjaaGreatDoor
open Go.RowKit
set_option linter.unusedSectionVars false
set_option linter.unusedVariables false
set_option linter.unusedSimpArgs false

theorem Cells.set1 {α : Type} {s : Shape α} (h1 : s.size = 1) (hf : s.Flat) {w : World} {M : Nat → Prop} {xs : List Value} {l : List α} (h : Cells s w M xs l) {i : Nat} {u : Value} {a : α} (hr : s.rd w (fun _ => False) [u] a) : Cells s w M (xs.set i u) (l.set i a) := by
  induction l generalizing xs i with
  | nil => have : xs = [] := h; subst this; rfl
  | cons b l ih =>
    obtain ⟨es, rest, e, h2, h3⟩ := h
    have hl := s.len h2
    rw [h1] at hl
    obtain ⟨x, rfl⟩ := List.length_eq_one_iff.1 hl
    subst e
    cases i with
    | zero => exact ⟨[u], rest, rfl, hf hr, h3⟩
    | succ i => exact ⟨[x], rest.set i u, rfl, h2, ih h3⟩
/-- a store into a list of the call's own -/
theorem Own.set1 {α : Type} {s : Shape α} (h1 : s.size = 1) (hf : s.Flat) {w : World} {e : TypeId} {base : Nat} {M : Nat → Prop} {v : Value} {l : List α} (h : Own s e w base M v l) {g n cap : Nat} (hv : v = .slice (some ⟨g, 0, none⟩) n cap)
    {i : Nat} {u : Value} {a : α} (hr : s.rd w (fun _ => False) [u] a) : Own s e (w.setCell ⟨g, i, none⟩ u) base M v (l.set i a) := by
  obtain ⟨xs, ⟨hx, hc⟩, hcs, hM⟩ := h
  subst hv
  have hb : (Value.slice (some ⟨g, 0, none⟩) n cap).ownBlock = some g := rfl
  refine ⟨xs.set i u, ⟨by simpa using hx, .inr ?_⟩, ?_, fun k hk => ⟨by simpa [World.setCell] using (hM k hk).1, (hM k hk).2⟩⟩
  · rcases hc with ⟨h, _⟩ | ⟨g', cap', cur, hv, h2, h3, h4, h5, h6, h7⟩
    · cases h
    · injection hv with e1 e2 e3
      injection e1 with e1
      injection e1 with e1
      subst e1 e2 e3
      refine ⟨g, cap, cur.setIfInBounds i u, by simp, h2, ?_, by simpa using h4, h5, by simpa using h6, ?_⟩
      · simp [World.setCell, Array.getElem?_modify, h3]
      · rw [List.length_set, Array.toList_setIfInBounds, List.take_set, h7]
  · have hkeep : Cells s (w.setCell ⟨g, i, none⟩ u) M xs l := hcs.keep (Keeps.set w _ _ fun n hn e => by
      have := (hM n hn).2
      rw [hb] at this
      exact this (by rw [e]))
    exact hkeep.set1 h1 hf (hf hr)
/-- a cell of a list of bytes of the call's own -/
theorem OwnB.cell {w : World} {e : TypeId} {base : Nat} {v : Value} {l : List UInt8} (h : OwnB e w base v l) {g n cap : Nat} (hv : v = .slice (some ⟨g, 0, none⟩) n cap) {i : Nat} {c : UInt8} (hi : l[i]? = some c) :
    w.cell? ⟨g, i, none⟩ = some (.int .u8 c.toNat) ∧ w.frozen? ⟨g, i, none⟩ = false := by
  obtain ⟨xs, ⟨hx, hc⟩, hcs, hM⟩ := h
  subst hv
  rcases hc with ⟨h, _⟩ | ⟨g', cap', cur, hv, h2, h3, h4, h5, h6, h7⟩
  · cases h
  · injection hv with e1 e2 e3
    injection e1 with e1
    injection e1 with e1
    subst e1 e2 e3
    have hil : i < l.length := (List.getElem?_eq_some_iff.1 hi).1
    obtain ⟨es, he, hr⟩ := hcs.get i hil
    have hr' : es = [.int .u8 l[i].toNat] := hr
    subst hr'
    have hil2 := (List.getElem?_eq_some_iff.1 hi).2
    have h0 := he 0 (by decide)
    have e13 : Shape.byte.size = 1 := rfl
    simp only [e13, Nat.mul_one, Nat.add_zero] at h0 h6 h7
    have hcur : cur[i]? = some (.int .u8 c.toNat) := by
      have : (cur.toList.take l.length)[i]? = cur.toList[i]? := by rw [List.getElem?_take, if_pos hil]
      rw [← Array.getElem?_toList, ← this, h7, h0, hil2]
      rfl
    constructor
    · simp only [World.cell?, h3, Option.bind_some]
      first
        | exact hcur
        | simpa using hcur
    · have := Lib.frozen_of_heap h3 i
      exact this
theorem OwnB.get {w : World} {e : TypeId} {base : Nat} {v : Value} {l : List UInt8} (h : OwnB e w base v l) (hl : 0 < l.length) : ∃ g cap, v = .slice (some ⟨g, 0, none⟩) l.length cap ∧ base ≤ g ∧ g < w.heap.size ∧ l.length ≤ cap := by
  rcases h.form with ⟨_, h⟩ | ⟨g, cap, hv, h1, h2, h3, _⟩
  · subst h; simp at hl
  · exact ⟨g, cap, hv, h1, h2, h3⟩

def revAt (l cur : List UInt8) (k : Nat) : Prop := cur.length = l.length ∧ ∀ p, p < l.length → cur[p]? = if p < k ∨ l.length - k ≤ p then l[l.length - 1 - p]? else l[p]?
theorem revAt_0 (l : List UInt8) : revAt l l 0 := ⟨rfl, fun p hp => by rw [if_neg (by omega)]⟩
theorem revAt_step {l cur : List UInt8} {k : Nat} (h : revAt l cur k) (hk : k + 1 + k < l.length) {a b : UInt8} (ha : cur[k]? = some a) (hb : cur[l.length - 1 - k]? = some b) :
    revAt l ((cur.set k b).set (l.length - 1 - k) a) (k + 1) := by
  obtain ⟨h1, h2⟩ := h
  have a1 := h2 k (by omega)
  have b1 := h2 (l.length - 1 - k) (by omega)
  rw [if_neg (by omega), ha] at a1
  rw [if_neg (by omega), hb] at b1
  refine ⟨by simp [h1], fun p hp => ?_⟩
  by_cases hp1 : p = l.length - 1 - k
  · subst hp1
    rw [List.getElem?_set_self (by simp; omega), if_pos (by omega), a1]
    congr 1; omega
  · rw [List.getElem?_set_ne (by omega)]
    by_cases hp2 : p = k
    · subst hp2
      rw [List.getElem?_set_self (by omega), if_pos (by omega), b1]
    · rw [List.getElem?_set_ne (by omega), h2 p hp]
      by_cases hc : p < k ∨ l.length - k ≤ p
      · rw [if_pos hc, if_pos (by omega)]
      · rw [if_neg hc, if_neg (by omega)]
theorem revAt_end {l cur : List UInt8} {k : Nat} (h : revAt l cur k) (hk : ¬ k + 1 + k < l.length) : cur = l.reverse := by
  apply List.ext_getElem?
  intro p
  by_cases hp : p < l.length
  · rw [h.2 p hp, List.getElem?_reverse hp]
    by_cases hc : p < k ∨ l.length - k ≤ p
    · rw [if_pos hc]
    · rw [if_neg hc]; congr 1; omega
  · rw [List.getElem?_eq_none (by rw [h.1]; omega), List.getElem?_eq_none (by simp; omega)]
/-- the digits of u, none of nought -/
def decR (u : Nat) : List UInt8 := if u = 0 then [] else Lib.decDigits u
theorem decR_step {u : Nat} (h : u ≠ 0) : decR u = decR (u / 10) ++ [UInt8.ofNat (48 + u % 10)] := by
  unfold decR
  rw [if_neg h, Lib.decDigits.eq_def]
  by_cases h1 : u < 10
  · rw [dif_pos h1, if_pos (by omega), show u % 10 = u by omega]; rfl
  · rw [dif_neg h1, if_neg (by omega)]
theorem decR_len (u : Nat) : ∀ k, u < 10 ^ k → (decR u).length ≤ k := by
  induction u using Nat.strongRecOn with
  | _ u ih =>
    intro k hk
    by_cases h : u = 0
    · subst h; simp [decR]
    · cases k with
      | zero => simp at hk; omega
      | succ k =>
        rw [decR_step h, List.length_append]
        have := ih (u / 10) (by omega) k (by rw [Nat.pow_succ] at hk; omega)
        simp; omega
theorem itoa_decR {v : Int} (h : v ≠ 0) : Lib.itoa v = (if v < 0 then [45] else []) ++ decR v.natAbs := by
  unfold Lib.itoa decR
  by_cases h1 : v < 0
  · rw [if_pos h1, if_pos h1, if_neg (by omega)]; rfl
  · rw [if_neg h1, if_neg h1, if_neg (by omega), show v.toNat = v.natAbs by omega]; rfl
theorem itoa_0 : Lib.itoa 0 = [48] := by
  unfold Lib.itoa
  rw [if_neg (by decide), Lib.decDigits.eq_def, dif_pos (by decide)]
  rfl
end Go.Proofs.YtfhfcipelgogjaaGreatDoor
namespace Go.Proofs.YtfhfcipelgogjaaGreatDoor
open Go.RowKit
set_option linter.unusedVariables false
set_option linter.unusedSimpArgs false
attribute [local go_sem] cell?_over frozen?_over lt_over le_over

theorem esc_take {l : List UInt8} {k : Nat} (h : k < l.length) : esc (l.take (k + 1)) = esc (l.take k) ++ escB l[k] := by
  rw [List.take_succ_eq_append_getElem h, esc_append]; simp [esc]
theorem u8_d1 (c : UInt8) : (48 + (c.toNat : Int) / 64) = ((48 + c / 64 : UInt8).toNat : Int) := by
  have := all_bytes (fun c => decide ((48 + (c.toNat : Int) / 64) = ((48 + c / 64 : UInt8).toNat : Int))) (by decide +kernel) c
  simpa only [decide_eq_true_eq] using this
theorem u8_d2 (c : UInt8) : (48 + (c.toNat : Int) / 8 % 8) = ((48 + c / 8 % 8 : UInt8).toNat : Int) := by
  have := all_bytes (fun c => decide ((48 + (c.toNat : Int) / 8 % 8) = ((48 + c / 8 % 8 : UInt8).toNat : Int))) (by decide +kernel) c
  simpa only [decide_eq_true_eq] using this
theorem u8_d3 (c : UInt8) : (48 + (c.toNat : Int) % 8) = ((48 + c % 8 : UInt8).toNat : Int) := by
  have := all_bytes (fun c => decide ((48 + (c.toNat : Int) % 8) = ((48 + c % 8 : UInt8).toNat : Int))) (by decide +kernel) c
  simpa only [decide_eq_true_eq] using this
theorem bareB_true {c : UInt8} (h1 : 33 ≤ (c.toNat : Int)) (h2 : (c.toNat : Int) ≤ 126) (h3 : ((c.toNat : Int) != 92) = true) : bareB c = true := by
  simp only [bne_iff_ne, ne_eq] at h3
  simp only [bareB, Bool.and_eq_true, decide_eq_true_eq]
  omega
theorem bareB_out {c : UInt8} (h : ((c.toNat : Int) < 33 ∨ 126 < (c.toNat : Int)) ∨ ((c.toNat : Int) != 92) = false) : bareB c = false := by
  have hn : ¬ (32 < c.toNat ∧ c.toNat < 127 ∧ c.toNat ≠ 92) := by
    rcases h with h | h
    · omega
    · simp only [bne_eq_false_iff_eq] at h; omega
  rw [← Bool.not_eq_true]
  simp only [bareB, Bool.and_eq_true, decide_eq_true_eq]
  intro hc
  exact hn ⟨hc.1.1, hc.1.2, hc.2⟩
end Go.Proofs.YtfhfcipelgogjaaGreatDoor
