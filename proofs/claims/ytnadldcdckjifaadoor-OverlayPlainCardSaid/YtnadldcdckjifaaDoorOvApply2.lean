/- overlay.Apply: what it answers. No condition but room and what the library's variables hold. -/
import Derived.Test.YtnadldcdckjifaaDoorOvApply1
namespace Go.Proofs.YtnadldcdckjifaaDoor
open Go.RowKit
set_option linter.unusedVariables false
set_option linter.unusedSimpArgs false
attribute [local go_sem] cell?_over frozen?_over lt_over le_over lt2 lt3 lt4
def StopQ (p : Prop) : Prop := p
theorem StopQ.mk {p : Prop} (h : StopQ p) : p := h
def pairCells (xs : List PairD) : List Value := xs.flatMap fun p => [.string p.key, .string p.value]
theorem cells_pairs {w : World} {M : Nat → Prop} : ∀ (xs : List PairD), (∀ p ∈ xs, p.key.size ≤ maxLen ∧ p.value.size ≤ maxLen) → Cells Shape.PairD w M (pairCells xs) xs
  | [], _ => rfl
  | p :: xs, h => ⟨[.string p.key, .string p.value], pairCells xs, rfl, ⟨rfl, (h p (List.mem_cons_self ..)).1, (h p (List.mem_cons_self ..)).2⟩, cells_pairs xs fun q hq => h q (List.mem_cons_of_mem _ hq)⟩
theorem row_pairs (w : World) (T : TypeId) (xs : List PairD) (h : ∀ p ∈ xs, p.key.size ≤ maxLen ∧ p.value.size ≤ maxLen) :
    Row Shape.PairD (w.alloc (.cells (pairCells xs).toArray T)) (fun n => n = w.heap.size) (some ⟨w.heap.size, 0, none⟩) xs.length xs := by
  refine Cells.row (cells_pairs xs h) rfl ?_
  intro j u hj
  rw [Nat.zero_add, World.cell?_alloc_new]
  simpa using hj
theorem keys_len : kPath.size ≤ maxLen ∧ kLink.size ≤ maxLen ∧ kUname.size ≤ maxLen ∧ kGname.size ≤ maxLen := by decide
theorem row_hd (w : World) (T : TypeId) {a b c d : ByteArray} (h : a.size ≤ maxLen ∧ b.size ≤ maxLen ∧ c.size ≤ maxLen ∧ d.size ≤ maxLen) :
    Row Shape.PairD (w.alloc (.cells #[.string kPath, .string a, .string kLink, .string b, .string kUname, .string c, .string kGname, .string d] T)) (fun n => n = w.heap.size) (some ⟨w.heap.size, 0, none⟩) 4 (hdPairs a b c d) :=
  row_pairs w T (hdPairs a b c d) (by
    intro p hp
    simp only [hdPairs, List.mem_cons, List.not_mem_nil, or_false] at hp
    rcases hp with rfl | rfl | rfl | rfl
    · exact ⟨keys_len.1, h.1⟩
    · exact ⟨keys_len.2.1, h.2.1⟩
    · exact ⟨keys_len.2.2.1, h.2.2.1⟩
    · exact ⟨keys_len.2.2.2, h.2.2.2⟩)
theorem row_lg (w : World) (T : TypeId) {a b : ByteArray} (h : a.size ≤ maxLen ∧ b.size ≤ maxLen) :
    Row Shape.PairD (w.alloc (.cells #[.string kPath, .string a, .string kLink, .string b] T)) (fun n => n = w.heap.size) (some ⟨w.heap.size, 0, none⟩) 2 (lgPairs a b) :=
  row_pairs w T (lgPairs a b) (by
    intro p hp
    simp only [lgPairs, List.mem_cons, List.not_mem_nil, or_false] at hp
    rcases hp with rfl | rfl
    · exact ⟨keys_len.1, h.1⟩
    · exact ⟨keys_len.2.1, h.2⟩)
theorem hd_cells {w : World} {g : Nat} {t : TypeId} {x : ApIn} (h : Blk w g t #[.string x.h.name, .string x.h.link, .int .i64 x.h.mode, .int .i64 x.h.uid, .int .i64 x.h.gid, .int .i64 x.h.size, .int .i64 x.h.mtime, .int .u8 x.h.type.toNat, .string x.h.user, .string x.h.group, .int .i64 x.h.major, .int .i64 x.h.minor, .int .i64 x.h.form]) :
    w.cell? ⟨g, 0, none⟩ = some (.string x.h.name) ∧ w.cell? ⟨g, 1, none⟩ = some (.string x.h.link) ∧ w.cell? ⟨g, 2, none⟩ = some (.int .i64 x.h.mode) ∧ w.cell? ⟨g, 3, none⟩ = some (.int .i64 x.h.uid) ∧ w.cell? ⟨g, 4, none⟩ = some (.int .i64 x.h.gid) ∧
    w.cell? ⟨g, 5, none⟩ = some (.int .i64 x.h.size) ∧ w.cell? ⟨g, 6, none⟩ = some (.int .i64 x.h.mtime) ∧ w.cell? ⟨g, 7, none⟩ = some (.int .u8 x.h.type.toNat) ∧ w.cell? ⟨g, 8, none⟩ = some (.string x.h.user) ∧ w.cell? ⟨g, 9, none⟩ = some (.string x.h.group) :=
  ⟨h.cell 0, h.cell 1, h.cell 2, h.cell 3, h.cell 4, h.cell 5, h.cell 6, h.cell 7, h.cell 8, h.cell 9⟩
theorem size_ent {n : Nat} (h : n = 11) : (Tryd.prog.info? 41).map (·.size) = some n := by subst h; kernel_rfl
structure ApStr (x : ApIn) : Prop where
  hd : x.h.name.size ≤ maxLen ∧ x.h.link.size ≤ maxLen ∧ x.h.user.size ≤ maxLen ∧ x.h.group.size ≤ maxLen
  lg : x.ln.size ≤ maxLen ∧ x.ll.size ≤ maxLen
end Go.Proofs.YtnadldcdckjifaaDoor
