/- The library's part of reading numbers and times. No condition but room and what the library's variables hold. -/
import Derived.Test.YtnadldcdckjifaaDoorLayParse
import Derived.Test.YtnadldcdckjifaaDoorRefDec
namespace Go.Proofs.YtnadldcdckjifaaDoor
open Go.RowKit
set_option linter.unusedVariables false
set_option linter.unusedSimpArgs false

/-- the library's variable MaxLen holds some number -/
def MaxLenOk (w : World) : Prop := ∃ m : Int, w.cell? ⟨0, 0, none⟩ = some (.int .i64 m)
/-- the library's ErrRange holds an error -/
def ErrRangeOk (w : World) : Prop := ∃ (tp : TypeId) (p : Value), w.cell? ⟨2, 0, none⟩ = some (.iface tp p)
theorem cell_lt {w : World} {g i : Nat} {v : Value} (h : w.cell? ⟨g, i, none⟩ = some v) : g < w.heap.size := by
  rcases Nat.lt_or_ge g w.heap.size with hlt | hge
  · exact hlt
  · unfold World.cell? at h
    simp only at h
    rw [Array.getElem?_eq_none hge] at h
    simp at h
theorem MaxLenOk.keep {w w' : World} (h : MaxLenOk w) (hb : Below w.heap.size w w') : MaxLenOk w' := by
  obtain ⟨m, hm⟩ := h
  exact ⟨m, (World.cell?_of_block (hb.block _ (cell_lt hm))).trans hm⟩
theorem ErrRangeOk.keep {w w' : World} (h : ErrRangeOk w) (hb : Below w.heap.size w w') : ErrRangeOk w' := by
  obtain ⟨t, p, hm⟩ := h
  exact ⟨t, p, (World.cell?_of_block (hb.block _ (cell_lt hm))).trans hm⟩
theorem cutPrefix_calls (s p : ByteArray) (w : World) :
    Calls Tryd.prog 24 #[.string s, .string p] w fun e w' => e = .returned (.tuple #[.string ⟨(Lib.trimPrefix s.data.toList p.data.toList).toArray⟩, .bool (Lib.hasPrefix s.data.toList p.data.toList)]) ∧ w' = w :=
  Any.strings_CutPrefix Tryd.lays103 s p w
theorem cut_calls (s sep : ByteArray) (w : World) (hs : s.size < 4294967281) (hm : MaxLenOk w) :
    Calls Tryd.prog 25 #[.string s, .string sep] w fun e w' => e = .returned (.tuple #[.string ⟨(Lib.cut s.data.toList sep.data.toList).1.toArray⟩, .string ⟨(Lib.cut s.data.toList sep.data.toList).2.1.toArray⟩, .bool (Lib.cut s.data.toList sep.data.toList).2.2]) ∧ Below w.heap.size w w' := by
  obtain ⟨m, hm⟩ := hm
  refine (Any.strings_Cut Tryd.lays145 s sep m w hs hm).mono ?_
  rintro e w' ⟨he, n, rfl⟩
  exact ⟨he, ⟨rfl, rfl, rfl, Nat.le_refl _, fun _ _ => rfl⟩⟩
theorem trim_calls (s cs : ByteArray) (w : World) (hs : s.size ≤ 9223372036854775807) (hc : cs.size < 4294967281) (ha : ∀ (j : Nat) b, cs.data.toList[j]? = some b → b.toNat < 128) :
    Calls Tryd.prog 29 #[.string s, .string cs] w fun e w' => e = .returned (.string ⟨(Lib.trimS s.data.toList cs.data.toList).toArray⟩) ∧ Below w.heap.size w w' :=
  Any.strings_Trim_laid Tryd.lays160 (by kernel_rfl) s cs w hs hc ha
theorem below_bytes (w : World) (e : TypeId) (t : ByteArray) : Below w.heap.size w (Lib.bytesWorld w e t) := by
  exact Lib.bytesWorld_below w e t
theorem parseInt_ok (s : ByteArray) (w : World) (hs : s.size ≤ 140737488355328) (v : Int) (h : Lib.parseIntB 64 s.data.toList = .ok v) :
    Calls Tryd.prog 49 #[.string s, .int .i64 10, .int .i64 64] w fun e w' => e = .returned (.tuple #[.int .i64 v, .nilIface]) ∧ Below w.heap.size w w' := by
  refine (Any.strconv_ParseInt_10_at64_ok Tryd.laysC174 s (by omega) v h w).mono ?_
  rintro e w' ⟨he, rfl | ⟨t, rfl⟩⟩
  · exact ⟨he, Below.refl _ _⟩
  · exact ⟨he, below_bytes _ _ _⟩
theorem parseInt_range (s : ByteArray) (w : World) (hs : s.size ≤ 140737488355328) (h : Lib.parseIntB 64 s.data.toList = .range) (hv : ErrRangeOk w) :
    Calls Tryd.prog 49 #[.string s, .int .i64 10, .int .i64 64] w fun e w' => ∃ (n : Int) (t : TypeId) (v : Value), e = .returned (.tuple #[.int .i64 n, .iface t v]) ∧ Below w.heap.size w w' := by
  obtain ⟨tp, p, hp⟩ := hv
  refine (Any.strconv_ParseInt_10_at64_range Tryd.laysC174 s (by omega) h (.iface tp p) w hp (.inr ⟨tp, p, rfl⟩)).mono ?_
  rintro e w' ⟨N, he, _, _, hb⟩
  exact ⟨_, _, _, he, hb⟩
theorem atoi_calls (s : ByteArray) (w : World) (n : Int) (hl : s.size ≤ 18) (h : Lib.atoi s.data.toList = some n) :
    Calls Tryd.prog 28 #[.string s] w fun e w' => e = .returned (.tuple #[.int .i64 n, .nilIface]) ∧ Below w.heap.size w w' := by
  refine (Any.strconv_Atoi Tryd.lays172 s n hl h w).mono ?_
  rintro e w' ⟨he, t, rfl⟩
  exact ⟨he, below_bytes _ _ _⟩
end Go.Proofs.YtnadldcdckjifaaDoor
