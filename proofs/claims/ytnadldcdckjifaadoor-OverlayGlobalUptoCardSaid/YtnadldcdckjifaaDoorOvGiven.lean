/- What OverlayLocal and OverlayGlobal are given: its cells, its bounds. No condition. -/
import Derived.Test.YtnadldcdckjifaaDoorOvSame
import Derived.Test.YtnadldcdckjifaaDoorOvPlainLaw
import Derived.Test.YtnadldcdckjifaaDoorRegG
namespace Go.Proofs.YtnadldcdckjifaaDoor
open Go.RowKit
set_option linter.unusedVariables false
set_option linter.unusedSimpArgs false
def GivenD.cells (d : GivenD) (A1 : Option Addr) (n1 c1 : Nat) (A2 : Option Addr) (n2 c2 : Nat) : Array Value := #[.string d.h.name, .string d.h.link, .int .i64 d.h.mode, .int .i64 d.h.uid, .int .i64 d.h.gid, .int .i64 d.h.size, .int .i64 d.h.mtime, .int .u8 (d.h.type).toNat, .string d.h.user, .string d.h.group, .int .i64 d.h.major, .int .i64 d.h.minor, .int .i64 d.h.form, .slice A1 n1 c1, .slice A2 n2 c2, .string d.longName, .string d.longLink]
theorem gv_cells {w : World} {g : Nat} {t : TypeId} {d : GivenD} {A1 A2 : Option Addr} {n1 c1 n2 c2 : Nat} (h : Blk w g t (d.cells A1 n1 c1 A2 n2 c2)) :
    w.cell? ⟨g, 0, none⟩ = some (.string d.h.name) ∧ w.cell? ⟨g, 1, none⟩ = some (.string d.h.link) ∧ w.cell? ⟨g, 2, none⟩ = some (.int .i64 d.h.mode) ∧ w.cell? ⟨g, 3, none⟩ = some (.int .i64 d.h.uid) ∧ w.cell? ⟨g, 4, none⟩ = some (.int .i64 d.h.gid) ∧
    w.cell? ⟨g, 5, none⟩ = some (.int .i64 d.h.size) ∧ w.cell? ⟨g, 6, none⟩ = some (.int .i64 d.h.mtime) ∧ w.cell? ⟨g, 7, none⟩ = some (.int .u8 d.h.type.toNat) ∧ w.cell? ⟨g, 8, none⟩ = some (.string d.h.user) ∧ w.cell? ⟨g, 9, none⟩ = some (.string d.h.group) ∧
    w.cell? ⟨g, 10, none⟩ = some (.int .i64 d.h.major) ∧ w.cell? ⟨g, 11, none⟩ = some (.int .i64 d.h.minor) ∧ w.cell? ⟨g, 12, none⟩ = some (.int .i64 d.h.form) ∧ w.cell? ⟨g, 13, none⟩ = some (.slice A1 n1 c1) ∧ w.cell? ⟨g, 14, none⟩ = some (.slice A2 n2 c2) ∧
    w.cell? ⟨g, 15, none⟩ = some (.string d.longName) ∧ w.cell? ⟨g, 16, none⟩ = some (.string d.longLink) :=
  ⟨h.cell 0, h.cell 1, h.cell 2, h.cell 3, h.cell 4, h.cell 5, h.cell 6, h.cell 7, h.cell 8, h.cell 9, h.cell 10, h.cell 11, h.cell 12, h.cell 13, h.cell 14, h.cell 15, h.cell 16⟩
theorem small_pairs {l : List PairD} {m : Nat} (h : bulkAll Shape.PairD.bulk l ≤ m) : ∀ p ∈ l, p.value.size ≤ m := fun p hp => by
  have h1 := mem_bulk Shape.PairD.bulk hp
  have h2 : p.value.size + 1 ≤ Shape.PairD.bulk p := by simp only [Shape.PairD, Shape.str]; omega
  omega
structure GvOk (d : GivenD) : Prop where
  s : (d.h.name).size ≤ 1048576 ∧ (d.h.link).size ≤ 1048576 ∧ (d.h.user).size ≤ 1048576 ∧ (d.h.group).size ≤ 1048576 ∧ (d.longName).size ≤ 1048576 ∧ (d.longLink).size ≤ 1048576
  i : I64 d.h.mode ∧ I64 d.h.uid ∧ I64 d.h.gid ∧ I64 d.h.size ∧ I64 d.h.mtime
  g : bulkAll Shape.PairD.bulk d.global ≤ 1048576
  l : bulkAll Shape.PairD.bulk d.local_ ≤ 1048576
theorem given_ok {d : GivenD} (h : Shape.GivenD.bulk d ≤ 1048576) (hi : I64 d.h.mode ∧ I64 d.h.uid ∧ I64 d.h.gid ∧ I64 d.h.size ∧ I64 d.h.mtime) : GvOk d := by
  simp only [Shape.GivenD, Shape.HeaderD, Shape.slice, Shape.str] at h
  exact ⟨by omega, hi, by omega, by omega⟩
theorem ap_of {x : ApIn} {w : World} {A A' : Option Addr} {n n' : Nat} (hh : x.h.name.size ≤ 1048576 ∧ x.ln.size ≤ 1048576) (hi : I64 x.h.mode ∧ I64 x.h.uid ∧ I64 x.h.gid ∧ I64 x.h.size ∧ I64 x.h.mtime) (hg : ∀ p ∈ x.g, p.value.size ≤ 1048576) (hl : ∀ p ∈ x.l, p.value.size ≤ 1048576) (hn : n ≤ 1048577) (hn' : n' ≤ 1048577)
    (h : Row Shape.PairD w (Old w) A n x.g) (h' : Row Shape.PairD w (Old w) A' n' x.l) : ApOk x w A A' n n' := by
  have hv : ∀ k, (x.v k).size ≤ 1048576 := v_small hg hl
  refine ⟨h, h', by omega, by omega, fun k => Nat.le_trans (hv k) (by decide), ?_, hi⟩
  exact Nat.le_trans (text_small (hv kPath) hh.2 hh.1) (by decide)
theorem ap_strs {x : ApIn} (h : x.h.name.size ≤ 1048576 ∧ x.h.link.size ≤ 1048576 ∧ x.h.user.size ≤ 1048576 ∧ x.h.group.size ≤ 1048576 ∧ x.ln.size ≤ 1048576 ∧ x.ll.size ≤ 1048576) : ApStr x :=
  ⟨⟨Nat.le_trans h.1 (by decide), Nat.le_trans h.2.1 (by decide), Nat.le_trans h.2.2.1 (by decide), Nat.le_trans h.2.2.2.1 (by decide)⟩, Nat.le_trans h.2.2.2.2.1 (by decide), Nat.le_trans h.2.2.2.2.2 (by decide)⟩
def gvIn (d : GivenD) : ApIn := ⟨d.h, d.global, d.local_, d.longName, d.longLink⟩
theorem ap_given {d : GivenD} {w : World} {A A' : Option Addr} {n n' : Nat} (hd : GvOk d) (h : Row Shape.PairD w (Old w) A n d.global) (h' : Row Shape.PairD w (Old w) A' n' d.local_) : ApOk (gvIn d) w A A' n n' := by
  have hn := len_bulk Shape.PairD d.global
  have hn' := len_bulk Shape.PairD d.local_
  have h1 := h.1; have h2 := h'.1
  have hg := hd.g; have hl := hd.l
  exact ap_of ⟨hd.s.1, hd.s.2.2.2.2.1⟩ hd.i (small_pairs hg) (small_pairs hl) (by omega) (by omega) h h'
theorem ap_one {d : GivenD} {nm : ByteArray} {w : World} {A A' : Option Addr} {n n' : Nat} (hd : GvOk d) (hnm : nm.size ≤ 1048576) (h : Row Shape.PairD w (Old w) A n d.global) (h' : Row Shape.PairD w (Old w) A' n' (d.local_ ++ [⟨kPath, nm⟩])) : ApOk (onePath (gvIn d) nm) w A A' n n' := by
  have hn := len_bulk Shape.PairD d.global
  have hn' := len_bulk Shape.PairD d.local_
  have h1 := h.1; have h2 := h'.1
  have hg := hd.g; have hl := hd.l
  rw [List.length_append] at h2
  simp only [List.length_cons, List.length_nil] at h2
  refine ap_of (x := onePath (gvIn d) nm) ⟨hd.s.1, hd.s.2.2.2.2.1⟩ hd.i (small_pairs hg) (fun p hp => ?_) (by omega) (by omega) h h'
  rcases List.mem_append.1 hp with hp | hp
  · exact small_pairs hl p hp
  · rw [List.mem_singleton] at hp; subst hp; exact hnm
theorem ap_str_given {d : GivenD} (hd : GvOk d) : ApStr (gvIn d) := ap_strs ⟨hd.s.1, hd.s.2.1, hd.s.2.2.1, hd.s.2.2.2.1, hd.s.2.2.2.2.1, hd.s.2.2.2.2.2⟩
theorem ap_str_one {d : GivenD} {nm : ByteArray} (hd : GvOk d) : ApStr (onePath (gvIn d) nm) := ap_strs ⟨hd.s.1, hd.s.2.1, hd.s.2.2.1, hd.s.2.2.2.1, hd.s.2.2.2.2.1, hd.s.2.2.2.2.2⟩
end Go.Proofs.YtnadldcdckjifaaDoor
