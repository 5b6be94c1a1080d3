/- Plain words for data in memory: a shape says how a list of cells reads as a datum, and that this reading stays while the blocks that it leads through stay. No condition. -/
import Derived.Test.YtnadldcdckjifaaDoorOver
import Derived.Deep.Slices
import Derived.Maps.AppendAt
namespace Go.Proofs.YtnadldcdckjifaaDoor
open Go.RowKit

/-- the blocks of M are in w' as they were in w -/
def Keeps (M : Nat → Prop) (w w' : World) : Prop := ∀ n, M n → w'.heap[n]? = w.heap[n]?
theorem Keeps.refl (M : Nat → Prop) (w : World) : Keeps M w w := fun _ _ => rfl
theorem Keeps.of_below {B : Nat} {w w' : World} (h : Below B w w') : Keeps (fun n => n < B) w w' := h.block
theorem Keeps.of_over (w δ : World) : Keeps (fun n => n < w.heap.size) w (over w δ) := (below_over w δ).block
theorem Keeps.of_grown {w w' : World} {row : Option Nat} (h : w.grownBy w' row) : Keeps (fun n => n < w.heap.size ∧ some n ≠ row) w w' := fun n hn => h.block n hn.1 hn.2
theorem Keeps.mono {M M' : Nat → Prop} {w w' : World} (h : Keeps M w w') (hM : ∀ n, M' n → M n) : Keeps M' w w' := fun n hn => h n (hM n hn)
theorem Keeps.trans {M : Nat → Prop} {a b c : World} (h : Keeps M a b) (k : Keeps M b c) : Keeps M a c := fun n hn => (k n hn).trans (h n hn)
theorem Keeps.cell {M : Nat → Prop} {w w' : World} (h : Keeps M w w') {b o : Nat} (hb : M b) : w'.cell? ⟨b, o, none⟩ = w.cell? ⟨b, o, none⟩ :=
  World.cell?_of_block (w := w) (h b hb)

structure Shape (α : Type) where
  size : Nat
  pos : 0 < size
  rd : World → (Nat → Prop) → List Value → α → Prop
  bulk : α → Nat
  bpos : ∀ a, 1 ≤ bulk a
  len : ∀ {w M cs a}, rd w M cs a → cs.length = size
  keep : ∀ {w w' M cs a}, rd w M cs a → Keeps M w w' → rd w' M cs a
  more : ∀ {w M M' cs a}, rd w M cs a → (∀ n, M n → M' n) → rd w M' cs a
  one : ∀ {w M cs a}, rd w M cs a → ∀ v ∈ cs, v.oneCell' = true

def I64 (n : Int) : Prop := -9223372036854775808 ≤ n ∧ n ≤ 9223372036854775807

def Shape.int : Shape Int where
  size := 1
  pos := Nat.one_pos
  rd _ _ cs n := cs = [.int .i64 n] ∧ I64 n
  bulk _ := 1
  bpos _ := Nat.le_refl _
  len h := by rw [h.1]; rfl
  keep h _ := h
  more h _ := h
  one h v hv := by rw [h.1] at hv; simp at hv; subst hv; rfl
def Shape.byte : Shape UInt8 where
  size := 1
  pos := Nat.one_pos
  rd _ _ cs b := cs = [.int .u8 b.toNat]
  bulk _ := 1
  bpos _ := Nat.le_refl _
  len h := by rw [h]; rfl
  keep h _ := h
  more h _ := h
  one h v hv := by rw [h] at hv; simp at hv; subst hv; rfl
def Shape.bool : Shape Bool where
  size := 1
  pos := Nat.one_pos
  rd _ _ cs b := cs = [.bool b]
  bulk _ := 1
  bpos _ := Nat.le_refl _
  len h := by rw [h]; rfl
  keep h _ := h
  more h _ := h
  one h v hv := by rw [h] at hv; simp at hv; subst hv; rfl
def Shape.str : Shape ByteArray where
  size := 1
  pos := Nat.one_pos
  rd _ _ cs s := cs = [.string s] ∧ s.size ≤ maxLen
  bulk s := s.size + 1
  bpos _ := by omega
  len h := by rw [h.1]; rfl
  keep h _ := h
  more h _ := h
  one h v hv := by rw [h.1] at hv; simp at hv; subst hv; rfl

/-- n elements of a shape, at A. -/
def Row {α : Type} (s : Shape α) (w : World) (M : Nat → Prop) (A : Option Addr) (n : Nat) (l : List α) : Prop :=
  l.length = n ∧ (0 < n → ∃ b off, A = some ⟨b, off, none⟩ ∧ M b ∧ ∀ i (hi : i < l.length), ∃ es, (∀ j, j < s.size → w.cell? ⟨b, off + i * s.size + j, none⟩ = es[j]?) ∧ s.rd w M es l[i])
section
variable {α : Type} {s : Shape α} {w w' : World} {M M' : Nat → Prop} {n : Nat} {A : Option Addr} {l : List α}
theorem Row.nil : Row s w M A 0 [] := ⟨rfl, fun h => absurd h (by omega)⟩
theorem Row.keep (h : Row s w M A n l) (k : Keeps M w w') : Row s w' M A n l :=
  ⟨h.1, fun hn => by
    obtain ⟨b, off, e, hb, hi⟩ := h.2 hn
    refine ⟨b, off, e, hb, fun i hil => ?_⟩
    obtain ⟨es, hc, hr⟩ := hi i hil
    exact ⟨es, fun j hj => (k.cell hb).trans (hc j hj), s.keep hr k⟩⟩
theorem Row.more (h : Row s w M A n l) (k : ∀ n, M n → M' n) : Row s w M' A n l :=
  ⟨h.1, fun hn => by
    obtain ⟨b, off, e, hb, hi⟩ := h.2 hn
    refine ⟨b, off, e, k b hb, fun i hil => ?_⟩
    obtain ⟨es, hc, hr⟩ := hi i hil
    exact ⟨es, hc, s.more hr k⟩⟩
/-- the element i: where it lies, its cells, and how they read -/
theorem Row.at_ (h : Row s w M A n l) {i : Nat} (hi : i < n) : ∃ b off es, ∃ hl : i < l.length, A = some ⟨b, off, none⟩ ∧ M b ∧ (∀ j, j < s.size → w.cell? ⟨b, off + i * s.size + j, none⟩ = es[j]?) ∧ s.rd w M es l[i] := by
  obtain ⟨b, off, e, hb, hr⟩ := h.2 (by omega)
  have hl : i < l.length := by rw [h.1]; exact hi
  obtain ⟨es, hc, hrd⟩ := hr i hl
  exact ⟨b, off, es, hl, e, hb, hc, hrd⟩
end
/-- the same in a world in which it stays -/
theorem Row.elem {α : Type} {s : Shape α} {w w' : World} {M : Nat → Prop} {n : Nat} {A : Option Addr} {l : List α} (h : Row s w M A n l) (k : Keeps M w w') {i : Nat} (hi : i < n) :
    ∃ b off es, ∃ hl : i < l.length, A = some ⟨b, off, none⟩ ∧ M b ∧ (∀ j, j < s.size → w'.cell? ⟨b, off + i * s.size + j, none⟩ = es[j]?) ∧ w'.cell? ⟨b, off + i * s.size, none⟩ = es[0]? ∧ s.rd w' M es l[i] := by
  obtain ⟨b, off, es, hl, e, hb, hc, hr⟩ := (h.keep k).at_ hi
  exact ⟨b, off, es, hl, e, hb, hc, by simpa using hc 0 s.pos, hr⟩
/-- a slice value that reads as a list -/
def SliceRd {α : Type} (s : Shape α) (w : World) (M : Nat → Prop) (v : Value) (l : List α) : Prop :=
  ∃ A n c, v = .slice A n c ∧ n ≤ c ∧ c ≤ maxLen ∧ Row s w M A n l
section
variable {α : Type} {s : Shape α} {w w' : World} {M M' : Nat → Prop} {v : Value} {l : List α}
theorem SliceRd.keep (h : SliceRd s w M v l) (k : Keeps M w w') : SliceRd s w' M v l :=
  let ⟨A, n, c, hv, h1, h2, hr⟩ := h
  ⟨A, n, c, hv, h1, h2, hr.keep k⟩
theorem SliceRd.more (h : SliceRd s w M v l) (k : ∀ n, M n → M' n) : SliceRd s w M' v l :=
  let ⟨A, n, c, hv, h1, h2, hr⟩ := h
  ⟨A, n, c, hv, h1, h2, hr.more k⟩
theorem SliceRd.one (h : SliceRd s w M v l) : v.oneCell' = true := by
  obtain ⟨A, n, c, rfl, _⟩ := h
  rfl
theorem SliceRd.nil_ : SliceRd s w M (.slice none 0 0) [] := ⟨none, 0, 0, rfl, Nat.le_refl _, by simp [maxLen], Row.nil⟩
end
def bulkAll {α : Type} (f : α → Nat) : List α → Nat
  | [] => 0
  | a :: l => f a + bulkAll f l
theorem mem_bulk {α : Type} (f : α → Nat) {l : List α} {a : α} (h : a ∈ l) : f a ≤ bulkAll f l := by
  induction l with
  | nil => cases h
  | cons x l ih =>
    simp only [bulkAll]
    rcases List.mem_cons.1 h with rfl | h
    · omega
    · have := ih h; omega
theorem len_bulk {α : Type} (s : Shape α) (l : List α) : l.length ≤ bulkAll s.bulk l := by
  induction l with
  | nil => simp [bulkAll]
  | cons x l ih => have := s.bpos x; simp only [bulkAll, List.length_cons]; omega
def Shape.slice {α : Type} (s : Shape α) : Shape (List α) where
  size := 1
  pos := Nat.one_pos
  rd w M cs l := ∃ v, cs = [v] ∧ SliceRd s w M v l
  bulk l := bulkAll s.bulk l + 1
  bpos _ := by omega
  len := fun ⟨_, h, _⟩ => by rw [h]; rfl
  keep := fun ⟨v, h, k⟩ hk => ⟨v, h, k.keep hk⟩
  more := fun ⟨v, h, k⟩ hk => ⟨v, h, k.more hk⟩
  one := fun ⟨v, h, k⟩ u hu => by rw [h] at hu; simp at hu; subst hu; exact k.one

/-! ### Cells in a row -/
/-- the cells xs are the elements l, one behind another -/
def Cells {α : Type} (s : Shape α) (w : World) (M : Nat → Prop) : List Value → List α → Prop
  | xs, [] => xs = []
  | xs, a :: l => ∃ es rest, xs = es ++ rest ∧ s.rd w M es a ∧ Cells s w M rest l
section
variable {α : Type} {s : Shape α} {w w' : World} {M M' : Nat → Prop}
theorem Cells.keep {xs : List Value} {l : List α} (h : Cells s w M xs l) (k : Keeps M w w') : Cells s w' M xs l := by
  induction l generalizing xs with
  | nil => exact h
  | cons a l ih => obtain ⟨es, rest, e, h1, h2⟩ := h; exact ⟨es, rest, e, s.keep h1 k, ih h2⟩
theorem Cells.more {xs : List Value} {l : List α} (h : Cells s w M xs l) (k : ∀ n, M n → M' n) : Cells s w M' xs l := by
  induction l generalizing xs with
  | nil => exact h
  | cons a l ih => obtain ⟨es, rest, e, h1, h2⟩ := h; exact ⟨es, rest, e, s.more h1 k, ih h2⟩
theorem Cells.append {xs ys : List Value} {l k : List α} (h : Cells s w M xs l) (h' : Cells s w M ys k) : Cells s w M (xs ++ ys) (l ++ k) := by
  induction l generalizing xs with
  | nil => have : xs = [] := h; subst this; exact h'
  | cons a l ih => obtain ⟨es, rest, e, h1, h2⟩ := h; exact ⟨es, rest ++ ys, by rw [e, List.append_assoc], h1, ih h2⟩
theorem Cells.single {es : List Value} {a : α} (h : s.rd w M es a) : Cells s w M es [a] := ⟨es, [], by simp, h, rfl⟩
theorem Cells.length {xs : List Value} {l : List α} (h : Cells s w M xs l) : xs.length = l.length * s.size := by
  induction l generalizing xs with
  | nil => have : xs = [] := h; subst this; simp
  | cons a l ih => obtain ⟨es, rest, e, h1, h2⟩ := h; rw [e, List.length_append, s.len h1, ih h2, List.length_cons, Nat.add_mul]; omega
theorem Cells.one {xs : List Value} {l : List α} (h : Cells s w M xs l) : ∀ v ∈ xs, v.oneCell' = true := by
  induction l generalizing xs with
  | nil => have : xs = [] := h; subst this; simp
  | cons a l ih =>
    obtain ⟨es, rest, e, h1, h2⟩ := h
    intro v hv
    rw [e, List.mem_append] at hv
    exact hv.elim (s.one h1 v) (ih h2 v)
theorem Cells.get {xs : List Value} {l : List α} (h : Cells s w M xs l) (i : Nat) (hi : i < l.length) : ∃ es, (∀ j, j < s.size → xs[i * s.size + j]? = es[j]?) ∧ s.rd w M es l[i] := by
  induction l generalizing xs i with
  | nil => simp at hi
  | cons a l ih =>
    obtain ⟨es, rest, e, h1, h2⟩ := h
    have hlen := s.len h1
    cases i with
    | zero =>
      refine ⟨es, fun j hj => ?_, h1⟩
      rw [e, List.getElem?_append_left (by omega)]
      simp
    | succ i =>
      obtain ⟨es', hc, hr⟩ := ih h2 i (by simpa using hi)
      refine ⟨es', fun j hj => ?_, hr⟩
      rw [e, List.getElem?_append_right (by rw [hlen, Nat.add_mul]; omega), ← hc j hj, hlen]
      congr 1
      rw [Nat.add_mul]; omega
/-- a row that lies at an address, out of its cells -/
theorem Cells.row {xs : List Value} {l : List α} (h : Cells s w M xs l) {b off : Nat} (hM : M b) (hc : ∀ j u, xs[j]? = some u → w.cell? ⟨b, off + j, none⟩ = some u) : Row s w M (some ⟨b, off, none⟩) l.length l := by
  refine ⟨rfl, fun _ => ⟨b, off, rfl, hM, fun i hi => ?_⟩⟩
  obtain ⟨es, he, hr⟩ := h.get i hi
  refine ⟨es, fun j hj => ?_, hr⟩
  have hl := h.length
  have hb : i * s.size + j < xs.length := by
    rw [hl]
    have : (i + 1) * s.size ≤ l.length * s.size := Nat.mul_le_mul_right _ hi
    rw [Nat.add_mul] at this; omega
  rw [← he j hj, List.getElem?_eq_getElem hb, Nat.add_assoc]
  exact hc _ _ (List.getElem?_eq_getElem hb)
theorem Row.cells {A : Option Addr} {n : Nat} {l : List α} (h : Row s w M A n l) : ∃ xs, Cells s w M xs l ∧ (∀ ad, A = some ad → ∀ j u, xs[j]? = some u → w.cell? (ad.add j) = some u) := by
  rcases Nat.eq_zero_or_pos n with hn | hn
  · have hl := h.1
    subst hn
    have hl0 : l = [] := List.eq_nil_of_length_eq_zero hl
    subst hl0
    exact ⟨[], rfl, by simp⟩
  · obtain ⟨b, off, e, hM, hr⟩ := h.2 hn
    subst e
    suffices H : ∀ (k : List α) (o : Nat), (∀ i (hi : i < k.length), ∃ es, (∀ j, j < s.size → w.cell? ⟨b, o + i * s.size + j, none⟩ = es[j]?) ∧ s.rd w M es k[i]) → ∃ xs, Cells s w M xs k ∧ ∀ j u, xs[j]? = some u → w.cell? ⟨b, o + j, none⟩ = some u by
      obtain ⟨xs, h1, h2⟩ := H l off hr
      refine ⟨xs, h1, fun ad e j u hu => ?_⟩
      injection e with e; subst e
      have := h2 j u hu
      unfold Addr.add
      by_cases hj : j = 0
      · subst hj; simpa using this
      · rw [if_neg hj]; exact this
    intro k
    induction k with
    | nil => intro o _; exact ⟨[], rfl, by simp⟩
    | cons a k ih =>
      intro o hk
      obtain ⟨es, hc, hrd⟩ := hk 0 (by simp)
      obtain ⟨xs, h1, h2⟩ := ih (o + s.size) (fun i hi => by
        obtain ⟨es', hc', hr'⟩ := hk (i + 1) (by simpa using hi)
        refine ⟨es', fun j hj => ?_, by simpa using hr'⟩
        rw [← hc' j hj]
        congr 2
        rw [Nat.add_mul]; omega)
      refine ⟨es ++ xs, ⟨es, xs, rfl, by simpa using hrd, h1⟩, fun j u hu => ?_⟩
      have hlen := s.len hrd
      by_cases hj : j < es.length
      · rw [List.getElem?_append_left hj] at hu
        have := hc j (by omega)
        rw [hu] at this
        simpa using this
      · rw [List.getElem?_append_right (by omega)] at hu
        have := h2 _ u hu
        rw [← this]
        congr 2
        omega
end

/-- what an append takes: m elements at A, by their cells; M: the blocks that they lead through (the row's own block not among them) -/
def Src {α : Type} (s : Shape α) (w : World) (M : Nat → Prop) (A : Option Addr) (m : Nat) (k : List α) : Prop :=
  k.length = m ∧ (A = none → m = 0) ∧ ∃ news, Cells s w M news k ∧ ∀ ad, A = some ad → ∀ j u, news[j]? = some u → w.cell? (ad.add j) = some u
section
variable {α : Type} {s : Shape α} {w w' : World} {M M' : Nat → Prop} {A : Option Addr} {m : Nat} {k : List α}
theorem Row.src (h : Row s w M A m k) : Src s w M A m k := by
  refine ⟨h.1, fun hA => ?_, h.cells⟩
  rcases Nat.eq_zero_or_pos m with h0 | h0
  · exact h0
  · obtain ⟨_, _, e, _⟩ := h.2 h0
    rw [e] at hA; cases hA
/-- a shape that leads nowhere -/
def Shape.Flat (s : Shape α) : Prop := ∀ {w w' M M' cs a}, s.rd w M cs a → s.rd w' M' cs a
theorem Cells.flat (hf : s.Flat) {xs : List Value} {l : List α} (h : Cells s w M xs l) : Cells s w' M' xs l := by
  induction l generalizing xs with
  | nil => exact h
  | cons a l ih => obtain ⟨es, rest, e, h1, h2⟩ := h; exact ⟨es, rest, e, hf h1, ih h2⟩
theorem Src.flat (hf : s.Flat) (h : Src s w M A m k) : Src s w M' A m k :=
  let ⟨h1, h2, news, h3, h4⟩ := h
  ⟨h1, h2, news, h3.flat hf, h4⟩
/-- one new element, in a block that was just made for it -/
theorem Src.single {es : List Value} {a : α} (e : TypeId) (hM : ∀ n, M n → n < w.heap.size) (h : s.rd w M es a) : Src s (w.alloc (.cells es.toArray e)) M (some ⟨w.heap.size, 0, none⟩) 1 [a] := by
  refine ⟨rfl, by simp, es, Cells.single (s.keep h fun n hn => Below.heap_alloc _ _ _ (hM n hn)), fun ad e j u hu => ?_⟩
  injection e with e; subst e
  have : (Addr.add ⟨w.heap.size, 0, none⟩ j) = ⟨w.heap.size, j, none⟩ := by
    unfold Addr.add
    by_cases hj : j = 0
    · subst hj; rfl
    · rw [if_neg hj]; simp
  rw [this, World.cell?_alloc_new]
  simpa using hu
end
theorem flat_int : Shape.int.Flat := fun h => h
theorem flat_byte : Shape.byte.Flat := fun h => h
theorem flat_bool : Shape.bool.Flat := fun h => h
theorem flat_str : Shape.str.Flat := fun h => h

/-! ### A slice of the call's own, that grows -/
/-- v is a slice of the call's own (blocks from base on), it reads as l; M: the blocks that its elements lead through; v's own block is none of them. -/
def Own {α : Type} (s : Shape α) (e : TypeId) (w : World) (base : Nat) (M : Nat → Prop) (v : Value) (l : List α) : Prop :=
  ∃ xs, w.ownsRow base e s.size v l.length xs ∧ Cells s w M xs l ∧ ∀ n, M n → n < w.heap.size ∧ some n ≠ v.ownBlock
section
variable {α : Type} {s : Shape α} {w w' : World} {M : Nat → Prop} {v : Value} {l : List α} {e : TypeId} {base : Nat}
theorem Own.start (s : Shape α) (e : TypeId) (w : World) (base : Nat) : Own s e w base (fun _ => False) (.slice none 0 0) ([] : List α) :=
  ⟨[], World.ownsRow_nil w base e s.size, rfl, fun _ h => h.elim⟩
/-- '[]T{}' -/
theorem Own.made (s : Shape α) (e : TypeId) (w : World) (base : Nat) (hb : base ≤ w.heap.size) : Own s e (w.alloc (.cells #[] e)) base (fun _ => False) (.slice (some ⟨w.heap.size, 0, none⟩) 0 0) ([] : List α) :=
  ⟨[], by have := World.ownsRow_made (e := e) (size := s.size) w #[] 0 hb (by simp [maxLen]) (by simp); simpa using this, rfl, fun _ h => h.elim⟩
theorem Own.kept {row : Option Nat} (h : Own s e w base M v l) (hg : w.grownBy w' row) (hne : v.ownBlock = none ∨ v.ownBlock ≠ row) (hM : ∀ n, M n → some n ≠ row) : Own s e w' base M v l := by
  obtain ⟨xs, h1, h2, h3⟩ := h
  exact ⟨xs, h1.kept hg hne, h2.keep ((Keeps.of_grown hg).mono fun n hn => ⟨(h3 n hn).1, hM n hn⟩), fun n hn => ⟨Nat.lt_of_lt_of_le (h3 n hn).1 hg.size, (h3 n hn).2⟩⟩
theorem grownBy_over (w δ : World) : w.grownBy (over w δ) none := ⟨rfl, rfl, rfl, size_over_le w δ, fun _ h _ => over_heap_lt h⟩
theorem Own.over_ (h : Own s e w base M v l) (δ : World) : Own s e (over w δ) base M v l :=
  h.kept (grownBy_over w δ) (by cases hv : v.ownBlock <;> simp) (fun _ _ => by simp)
theorem Own.alloc (h : Own s e w base M v l) (o : Obj) : Own s e (w.alloc o) base M v l :=
  h.kept (World.grownBy_alloc w o none) (by cases hv : v.ownBlock <;> simp) (fun _ _ => by simp)
theorem Own.drew (h : Own s e w base M v l) : Own s e w.drew base M v l := h.kept ⟨rfl, rfl, rfl, Nat.le_refl _, fun _ _ _ => rfl⟩ (row := none) (by cases hv : v.ownBlock <;> simp) (fun _ _ => by simp)
theorem Own.lt (h : Own s e w base M v l) : ∀ k, v.ownBlock = some k → base ≤ k ∧ k < w.heap.size := by
  obtain ⟨xs, h1, _⟩ := h
  exact h1.lt
/-- it reads as a slice -/
theorem Own.rd (h : Own s e w base M v l) : SliceRd s w (fun n => M n ∨ some n = v.ownBlock) v l := by
  obtain ⟨xs, h1, h2, h3⟩ := h
  have hl := h2.length
  have hc := fun (g : Nat) => h1.cells (g := g)
  rcases h1.2 with ⟨rfl, hn⟩ | ⟨g, cap, cur, rfl, hb, hh, hnc, hcm, _⟩
  · have hl0 : l = [] := List.eq_nil_of_length_eq_zero hn
    subst hl0
    exact SliceRd.nil_
  · refine ⟨_, _, _, rfl, hnc, hcm, (h2.more fun n hn => Or.inl hn).row (Or.inr rfl) (fun j u hu => ?_)⟩
    have := hc g rfl j u hu
    rw [← this]
    unfold Addr.add
    by_cases hj : j = 0
    · subst hj; rfl
    · rw [if_neg hj]
theorem Own.form (h : Own s e w base M v l) : (v = .slice none 0 0 ∧ l = []) ∨ ∃ g cap, v = .slice (some ⟨g, 0, none⟩) l.length cap ∧ base ≤ g ∧ g < w.heap.size ∧ l.length ≤ cap ∧ cap ≤ maxLen := by
  obtain ⟨xs, h1, _⟩ := h
  rcases h1.2 with ⟨rfl, hn⟩ | ⟨g, cap, cur, hv, hb, hh, hnc, hcm, _⟩
  · exact .inl ⟨rfl, List.eq_nil_of_length_eq_zero hn⟩
  · refine .inr ⟨g, cap, hv, hb, ?_, hnc, hcm⟩
    rcases Nat.lt_or_ge g w.heap.size with hlt | hge
    · exact hlt
    · rw [Array.getElem?_eq_none hge] at hh; cases hh
/-- what an append leaves: the new value owns what it had and the new elements -/
theorem Own.appended {M' : Nat → Prop} {v' : Value} {news : List Value} {k : List α} {xs : List Value} (h2 : Cells s w M xs l) (h3 : ∀ n, M n → n < w.heap.size ∧ some n ≠ v.ownBlock)
    (hn : Cells s w M' news k) (h3' : ∀ n, M' n → n < w.heap.size ∧ some n ≠ v.ownBlock)
    (hown : w'.ownsRow base e s.size v' (l.length + k.length) (xs ++ news)) (hg : w.grownBy w' v.ownBlock) (hat : v'.ownBlock = v.ownBlock ∨ v'.ownBlock = some w.heap.size) :
    Own s e w' base (fun n => M n ∨ M' n) v' (l ++ k) := by
  have kk : ∀ n, (M n ∨ M' n) → n < w.heap.size ∧ some n ≠ v.ownBlock := fun n hn => hn.elim (h3 n) (h3' n)
  refine ⟨xs ++ news, by rw [List.length_append]; exact hown, ?_, fun n hn => ⟨Nat.lt_of_lt_of_le (kk n hn).1 hg.size, ?_⟩⟩
  · exact ((h2.more fun n hn => Or.inl hn).append (hn.more fun n hn => Or.inr hn)).keep ((Keeps.of_grown hg).mono kk)
  · rcases hat with e' | e' <;> rw [e']
    · exact (kk n hn).2
    · intro hc; injection hc with hc; have := (kk n hn).1; omega
end

/-- all that is there -/
abbrev Old (w : World) (n : Nat) : Prop := n < w.heap.size
theorem Keeps.old {w w' : World} (h : Below w.heap.size w w') : Keeps (Old w) w w' := h.block
theorem Keeps.old_over (w δ : World) : Keeps (Old w) w (over w δ) := (below_over w δ).block
theorem Keeps.old_alloc (w : World) (o : Obj) : Keeps (Old w) w (w.alloc o) := fun n hn => Below.heap_alloc w o n hn
theorem Old.over_ {w : World} {n : Nat} (h : Old w n) (δ : World) : Old (over w δ) n := lt_over h
theorem Old.below {w w' : World} (hb : Below w.heap.size w w') {n : Nat} (h : Old w n) : Old w' n := Nat.lt_of_lt_of_le h hb.size
theorem Old.alloc {w : World} {o : Obj} {n : Nat} (h : Old w n) : Old (w.alloc o) n := by unfold Old at *; simp; omega
/-- an argument's reading, still there behind calls -/
theorem SliceRd.below {α : Type} {s : Shape α} {w w' : World} {v : Value} {l : List α} (h : SliceRd s w (Old w) v l) (hb : Below w.heap.size w w') : SliceRd s w' (Old w') v l := (h.keep (Keeps.old hb)).more fun _ hn => Old.below hb hn
theorem Row.below {α : Type} {s : Shape α} {w w' : World} {A : Option Addr} {n : Nat} {l : List α} (h : Row s w (Old w) A n l) (hb : Below w.heap.size w w') : Row s w' (Old w') A n l := (h.keep (Keeps.old hb)).more fun _ hn => Old.below hb hn
theorem Shape.below {α : Type} (s : Shape α) {w w' : World} {cs : List Value} {a : α} (h : s.rd w (Old w) cs a) (hb : Below w.heap.size w w') : s.rd w' (Old w') cs a := s.more (s.keep h (Keeps.old hb)) fun _ hn => Old.below hb hn
/-- made since w -/
abbrev New (w w' : World) (n : Nat) : Prop := w.heap.size ≤ n ∧ n < w'.heap.size
theorem Own.rd_old {α : Type} {s : Shape α} {w : World} {M : Nat → Prop} {v : Value} {l : List α} {e : TypeId} {base : Nat} (h : Own s e w base M v l) : SliceRd s w (Old w) v l :=
  h.rd.more fun n hn => hn.elim (fun h' => by obtain ⟨_, _, _, h3⟩ := h; exact (h3 n h').1) (fun h' => (h.lt n h'.symm).2)
theorem Own.rd_new {α : Type} {s : Shape α} {w w' : World} {M : Nat → Prop} {v : Value} {l : List α} {e : TypeId} {base : Nat} (h : Own s e w' base M v l) (hb : w.heap.size ≤ base) (hM : ∀ n, M n → w.heap.size ≤ n) : SliceRd s w' (New w w') v l :=
  h.rd.more fun n hn => hn.elim (fun h' => by obtain ⟨_, _, _, h3⟩ := h; exact ⟨hM n h', (h3 n h').1⟩) (fun h' => by have := h.lt n h'.symm; exact ⟨by omega, this.2⟩)

/-- blocks from B on -/
abbrev From (B : Nat) (w : World) (n : Nat) : Prop := B ≤ n ∧ n < w.heap.size
theorem Own.rd_from {α : Type} {s : Shape α} {w : World} {M : Nat → Prop} {v : Value} {l : List α} {e : TypeId} {base B : Nat} (h : Own s e w base M v l) (hb : B ≤ base) (hM : ∀ n, M n → B ≤ n) : SliceRd s w (From B w) v l :=
  h.rd.more fun n hn => hn.elim (fun h' => by obtain ⟨_, _, _, h3⟩ := h; exact ⟨hM n h', (h3 n h').1⟩) (fun h' => by have := h.lt n h'.symm; exact ⟨by omega, this.2⟩)
theorem Keeps.set {M : Nat → Prop} (w : World) (p : Addr) (v : Value) (h : ∀ n, M n → n ≠ p.block) : Keeps M w (w.setCell p v) := fun n hn => Below.heap_setCell w p v n (h n hn)
theorem Keeps.grown {M : Nat → Prop} {w w' : World} {row : Option Nat} (hg : w.grownBy w' row) (h : ∀ n, M n → n < w.heap.size ∧ some n ≠ row) : Keeps M w w' := fun n hn => hg.block n (h n hn).1 (h n hn).2

/-! ### append, for the walk -/
section
variable {P : Program} {α : Type} {s : Shape α} {w : World} {M M' : Nat → Prop} {v : Value} {l k : List α} {e : TypeId} {base : Nat}
theorem run_append_of_nil (base : Nat) (t ty e : TypeId) (i : TypeInfo) (size : Nat) (ht : P.underlying t = some (.slice e)) (hi : P.info? e = some i)
    (v : Value) (n : Nat) (xs : List Value) (hown : w.ownsRow base e size v n xs) (c : Nat) : (Builtin.append_ #[t, t] ty #[v, .slice none 0 c]).run P w = .ok v w := by
  rcases hown.2 with ⟨rfl, rfl⟩ | ⟨g, cap, cur, rfl, _, _, hnc, _⟩
  · simp [Builtin.append_, run_underlying ht, sizeOf, typeInfo, hi, Builtin.lenOf, Builtin.firstCells]
  · simp [Builtin.append_, run_underlying ht, sizeOf, typeInfo, hi, Builtin.lenOf, Builtin.firstCells, hnc, storeCells]
/-- what an element type's row of the table says -/
structure Elem (P : Program) (t e : TypeId) (s : Shape α) (bytes : Nat) : Prop where
  ty : P.underlying t = some (.slice e)
  info : (P.info? e).map (fun i => (i.size, i.bytes, i.zero.map (·.cells.size))) = some (s.size, bytes, some s.size)
theorem Elem.parts {t : TypeId} {bytes : Nat} (h : Elem P t e s bytes) : ∃ i z, P.info? e = some i ∧ i.zero = some z ∧ i.size = s.size ∧ i.bytes = bytes ∧ z.cells.size = s.size := by
  have := h.info
  rw [Option.map_eq_some_iff] at this
  obtain ⟨i, hi, hx⟩ := this
  simp only [Prod.mk.injEq, Option.map_eq_some_iff] at hx
  obtain ⟨h1, h2, z, hz, h3⟩ := hx
  exact ⟨i, z, hi, hz, h1, h2, h3⟩
theorem run_append_list {t ty : TypeId} {bytes : Nat} (el : Elem P t e s bytes) (h : Own s e w base M v l) {A : Option Addr} {m c : Nat} (hk : Src s w M' A m k) (h3' : ∀ n, M' n → n < w.heap.size ∧ some n ≠ v.ownBlock)
    (hroom : (l.length + k.length) * bytes ≤ 140737488355328) (h63 : l.length + k.length ≤ maxLen) (hbase : base ≤ w.heap.size) :
    ∃ v' w', (Builtin.append_ #[t, t] ty #[v, .slice A m c]).run P w = .ok v' w' ∧ Own s e w' base (fun n => M n ∨ M' n) v' (l ++ k) ∧ w.grownBy w' v.ownBlock ∧ (v'.ownBlock = v.ownBlock ∨ v'.ownBlock = some w.heap.size) := by
  obtain ⟨i, z, hi, hz, h1, h2, h3⟩ := el.parts
  obtain ⟨xs, hown, hcs, hM⟩ := h
  have hm := hk.1
  obtain ⟨news, hn, hcell⟩ := hk.2.2
  rcases A with _ | ad
  · have hm0 : m = 0 := hk.2.1 rfl
    have hk0 : k = [] := List.eq_nil_of_length_eq_zero (by rw [hm]; exact hm0)
    subst hm0 hk0
    exact ⟨v, w, run_append_of_nil base t ty e i s.size el.ty hi v l.length xs hown c, ⟨xs, by simpa using hown, by simpa using hcs.more fun n hn => Or.inl hn, fun n hn => hn.elim (hM n) (h3' n)⟩, World.grownBy.refl w _, .inl rfl⟩
  · obtain ⟨v', w', hrun, hown', hg, _, hat⟩ := run_append_own_at (P := P) w base t ty e i z s.size bytes el.ty hi hz h1 h2 h3 s.pos v l.length xs hown ad m c news (by rw [hn.length, hm]) (hcell ad rfl) hn.one (by rw [← hm]; exact h63) (by rw [← hm]; exact hroom) hbase
    exact ⟨v', w', hrun, Own.appended hcs hM hn h3' (by rw [hm]; exact hown') hg hat, hg, hat⟩
theorem wpList_append_list {ops : Array Oper} {rest : List Oper} {o : Oper} {a : Act} {Q : Exit → Act → World → Prop} (hgd : o.guard = none) (sv x : Operand) (t : TypeId)
    (ho : o.op = .call { callee := .builtin .append, args := #[sv, x], argTypes := #[t, t] }) {bytes : Nat} (el : Elem P t e s bytes)
    (hs : a.eval sv = v) (h : Own s e w base M v l) {A : Option Addr} {m c : Nat} (hx : a.eval x = .slice A m c) (hk : Src s w M' A m k) (h3' : ∀ n, M' n → n < w.heap.size ∧ some n ≠ v.ownBlock)
    (hroom : (l.length + k.length) * bytes ≤ 140737488355328) (h63 : l.length + k.length ≤ maxLen) (hbase : base ≤ w.heap.size)
    (K : ∀ v' w', Own s e w' base (fun n => M n ∨ M' n) v' (l ++ k) → w.grownBy w' v.ownBlock → (v'.ownBlock = v.ownBlock ∨ v'.ownBlock = some w.heap.size) → wpList P ops Q rest (a.put o.dst v') w') : wpList P ops Q (o :: rest) a w := by
  refine wpList_plain hgd fun K' hK => ?_
  obtain ⟨v', w', hrun, h2, h3, h4⟩ := run_append_list (P := P) (ty := o.type) (c := c) el h hk h3' hroom h63 hbase
  unfold Oper.wp execOp
  simp only [ho, resolve, invoke, builtin, Sem.run_bind, Sem.run_pure, Result.andThen_ok, List.map_toArray, List.map_cons, List.map_nil, hs, hx, hrun]
  exact hK _ _ (K v' w' h2 h3 h4)
end
end Go.Proofs.YtnadldcdckjifaaDoor
