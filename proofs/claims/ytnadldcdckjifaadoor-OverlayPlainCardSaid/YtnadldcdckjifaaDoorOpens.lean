/- Arguments that came in, read by shapes; and the bound of the second form. No condition. -/
import Derived.Test.YtnadldcdckjifaaDoorBlk
import Derived.ProofKit
namespace Go.Proofs.YtnadldcdckjifaaDoor
open Go.RowKit Go.ChangeShapes Go.WideShapes Go.Deep

theorem bulk_append {H : Type} (l r : List (DataW H)) : Rows.uptoBulkAll (l ++ r) = Rows.uptoBulkAll l + Rows.uptoBulkAll r := by
  induction l with
  | nil => simp [Rows.uptoBulkAll]
  | cons x l ih => simp only [List.cons_append, Rows.uptoBulkAll, ih]; omega

/-- whatever reads as data at type t reads by the shape s, and its bulk is at most the datum's -/
def Opens (P : Program) {α : Type} (s : Shape α) (t : TypeId) : Prop :=
  P.cellsOf t = s.size ∧ ∀ {H : Type} {enc : TypeId × Value → H} {w : World} {fuel : Nat} {cs : List Value} {x : DataW H × List MemPlace},
    DataW.trod enc P w 0 (fun _ => true) true fuel t cs = some x → ∃ a, s.rd w (fun n => n < w.heap.size) cs a ∧ s.bulk a ≤ Rows.uptoBulk x.1

section
variable {P : Program} {t : TypeId}
theorem wf_I64 {n : Int} (h : (Lit.int .i64 n).wf = true) : I64 n := by
  simpa [I64, Lit.wf, IntKind.min, IntKind.max, IntKind.signed, IntKind.bits] using h
theorem opens_int (hc : P.cellsOf t = 1) (ht : P.underlying t = some (.int .i64)) : Opens P Shape.int t :=
  ⟨hc, fun h => by
    obtain ⟨n, rfl, rfl, hw⟩ := DataW.trod_int ht h
    exact ⟨n, ⟨rfl, wf_I64 hw⟩, by simp [Shape.int, Rows.uptoBulk]⟩⟩
theorem opens_byte (hc : P.cellsOf t = 1) (ht : P.underlying t = some (.int .u8)) : Opens P Shape.byte t :=
  ⟨hc, fun h => by
    obtain ⟨n, rfl, rfl, hw⟩ := DataW.trod_int ht h
    have hb : 0 ≤ n ∧ n ≤ 255 := by simpa [Lit.wf, IntKind.min, IntKind.max, IntKind.signed, IntKind.bits] using hw
    refine ⟨UInt8.ofNat n.toNat, ?_, by simp [Shape.byte, Rows.uptoBulk]⟩
    show [Value.int .u8 n] = [.int .u8 ((UInt8.ofNat n.toNat).toNat : Int)]
    have : ((UInt8.ofNat n.toNat).toNat : Int) = n := by
      have h2 : n.toNat < 256 := by omega
      simp [UInt8.toNat_ofNat', Nat.mod_eq_of_lt h2]
      omega
    rw [this]⟩
theorem opens_bool (hc : P.cellsOf t = 1) (ht : P.underlying t = some .bool) : Opens P Shape.bool t :=
  ⟨hc, fun h => by
    obtain ⟨b, rfl, rfl⟩ := DataW.trod_bool ht h
    exact ⟨b, rfl, by simp [Shape.bool, Rows.uptoBulk]⟩⟩
theorem opens_str (hc : P.cellsOf t = 1) (ht : P.underlying t = some .string) : Opens P Shape.str t :=
  ⟨hc, fun h => by
    obtain ⟨s, rfl, rfl, hs⟩ := DataW.trod_string ht h
    refine ⟨s, ⟨rfl, hs⟩, ?_⟩
    show s.size + 1 ≤ s.data.toList.length + 1
    rw [Array.length_toList]
    exact Nat.le_refl _⟩
theorem bulkAll_le {H : Type} {α : Type} (f : α → Nat) (D : Nat → DataW H) : ∀ (l : List α) (o : Nat), (∀ i (hi : i < l.length), f l[i] ≤ Rows.uptoBulk (D (o + i))) → bulkAll f l ≤ Rows.uptoBulkAll ((List.range' o l.length).map D)
  | [], o, _ => by simp [bulkAll]
  | a :: l, o, h => by
    have h0 := h 0 (by simp)
    have ih := bulkAll_le f D l (o + 1) (fun i hi => by have := h (i + 1) (by simpa using hi); rw [show o + 1 + i = o + (i + 1) from by omega]; simpa using this)
    simp only [List.length_cons, List.range'_succ, List.map_cons, Rows.uptoBulkAll, bulkAll]
    simp at h0
    omega
theorem opens_slice {α : Type} {s : Shape α} {e : TypeId} (hc : P.cellsOf t = 1) (ht : P.underlying t = some (.slice e)) (he : Opens P s e) : Opens P s.slice t :=
  ⟨hc, fun {H enc w fuel cs x} h => by
    obtain ⟨hce, hop⟩ := he
    have hlt := DataW.trod_lt fuel t cs x h
    rcases open_slice ht h with ⟨rfl, rfl⟩ | ⟨a, n, c, m, fu, D, Pl, rfl, hb, hnc, hcm, hm, rfl, hel⟩
    · exact ⟨[], ⟨_, rfl, SliceRd.nil_⟩, by simp [Shape.slice, bulkAll, Rows.uptoBulk]⟩
    · have hmn : n ≤ m := by rw [hm]; simpa using hnc
      have key : ∀ i, i < n → ∃ (es : List Value) (d : α), (∀ j, j < s.size → w.cell? (a.add (i * s.size + j)) = es[j]?) ∧ s.rd w (fun n => n < w.heap.size) es d ∧ s.bulk d ≤ Rows.uptoBulk (D i) := by
        intro i hi
        obtain ⟨es, hcs, htr⟩ := hel i (by omega)
        obtain ⟨_, hlen, hat⟩ := World.cells?_some hcs
        obtain ⟨d, hd, hbk⟩ := hop htr
        refine ⟨es, d, fun j hj => ?_, hd, hbk⟩
        have := hat j (by rw [hce]; exact hj)
        rw [Go.Deep.add_add] at this
        rw [← this, hce]
      have hl : ∃ l : List α, l.length = n ∧ ∀ i (hi : i < l.length), ∃ es, (∀ j, j < s.size → w.cell? (a.add (i * s.size + j)) = es[j]?) ∧ s.rd w (fun n => n < w.heap.size) es l[i] ∧ s.bulk l[i] ≤ Rows.uptoBulk (D i) := by
        clear hel hlt hm hmn hnc h
        induction n with
        | zero => exact ⟨[], rfl, fun i hi => by simp at hi⟩
        | succ n ih =>
          obtain ⟨l, hl, hi⟩ := ih (fun i hi => key i (by omega))
          obtain ⟨es, d, h1, h2, h3⟩ := key n (by omega)
          refine ⟨l ++ [d], by simp [hl], fun i hil => ?_⟩
          by_cases hin : i < l.length
          · rw [List.getElem_append_left hin]; exact hi i hin
          · have : i = n := by simp at hil; omega
            subst this
            refine ⟨es, h1, ?_⟩
            rw [List.getElem_append_right (by omega)]
            simp only [hl, Nat.sub_self, List.getElem_cons_zero]
            exact ⟨h2, h3⟩
      obtain ⟨l, hln, hli⟩ := hl
      refine ⟨l, ⟨_, rfl, some a, n, c, rfl, hnc, hcm, hln, fun hn => ?_⟩, ?_⟩
      · obtain ⟨b, off, sp⟩ := a
        obtain ⟨es, hc0, hr0, _⟩ := hli 0 (by omega)
        have hs0 := s.pos
        have hlen := s.len hr0
        have h00 := hc0 0 hs0
        rw [List.getElem?_eq_getElem (by omega)] at h00
        have h00' : w.cell? ⟨b, off, sp⟩ = some es[0] := by simpa [Addr.add] using h00
        have hsp := World.cell?_spot h00'
        simp at hsp
        subst hsp
        refine ⟨b, off, rfl, World.block_lt_of_cell? w _ h00', fun i hi => ?_⟩
        obtain ⟨es, h1, h2, _⟩ := hli i hi
        refine ⟨es, fun j hj => ?_, h2⟩
        rw [← h1 j hj]
        unfold Addr.add
        by_cases h0 : i * s.size + j = 0
        · rw [if_pos h0]
          congr 2
          omega
        · rw [if_neg h0, Nat.add_assoc]
      · have := bulkAll_le s.bulk D l 0 (fun i hi => by obtain ⟨_, _, _, h3⟩ := hli i hi; simpa using h3)
        rw [hln, ← List.range_eq_range'] at this
        simp only [Shape.slice, Rows.uptoBulk]
        omega⟩
end
end Go.Proofs.YtnadldcdckjifaaDoor
