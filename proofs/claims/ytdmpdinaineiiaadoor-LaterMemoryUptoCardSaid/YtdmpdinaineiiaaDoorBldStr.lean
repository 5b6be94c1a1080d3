/- A strings.Builder of the call's own: WriteString. No condition but room. -/
import Derived.Test.YtdmpdinaineiiaaDoorBuilder
namespace Go.Proofs.YtdmpdinaineiiaaDoor
open Go.RowKit
set_option linter.unusedSectionVars false
set_option linter.unusedVariables false
set_option linter.unusedSimpArgs false

section
variable {w w' w1 : World} {base b : Nat} {v v' : Value} {l : List UInt8}
theorem bytes_cells (w : World) (M : Nat → Prop) (l : List UInt8) : Cells Shape.byte w M (l.map fun b => Value.int .u8 b.toNat) l := by
  induction l with
  | nil => rfl
  | cons a l ih => exact ⟨[.int .u8 a.toNat], _, rfl, rfl, ih⟩
theorem builder_u8 : 5 ≠ 87 := by decide
set_option maxHeartbeats 1000000 in
set_option maxRecDepth 100000 in
theorem writeString (h : Bld w base b v l) (s : ByteArray) (hlen : l.length + s.size ≤ 1000000000000) (hbase : base ≤ w.heap.size) :
    Calls Tryd.prog 42 #[.pointer (some ⟨b, 0, none⟩), .string s] w fun e w' => e = .returned (.tuple #[.int .i64 s.size, .nilIface]) ∧ ∃ v', Bld w' base b v' (l ++ s.data.toList) ∧ Turned b v w w' := by
  go_enter Tryd.func42, Tryd.ntmps42
  go_wp2_with (go_at_call 52; refine (copyCheck h).mono ?_)
  rintro e w1 ⟨rfl, h1, hbk, t1⟩
  have c1 : w1.cell? ⟨b, 1, none⟩ = some v := by rw [Lib.cell_of_heap hbk]; rfl
  have hsz := t1.size
  have B1 := Lib.hid h1; have T1 := Lib.hid t1; have HB := Lib.hid hbk
  obtain ⟨xs, hrow, hcs, _⟩ := h1.own
  have hxs := cells_bytes hcs
  subst hxs
  have hlt := h1.lt
  clear h1 t1 hbk h hcs
  obtain ⟨i, hi, hi2⟩ := Option.map_eq_some_iff.1 (show (Tryd.prog.info? 5).map (fun i => (i.zero, i.size, i.bytes)) = some (some (.int .u8 0), 1, 1) by kernel_rfl)
  injection hi2 with e1 e2; injection e2 with e2 e3
  have I1 := Lib.hid e1; have I2 := Lib.hid e2; have I3 := Lib.hid e3; have I4 := Lib.hid hi
  clear e1 e2 e3 hi
  go_wp2_with (at_builtin; refine Lib.wpList_append_own_string w1 rfl (.tmp 12) (.tmp 13) 85 9 rfl base 5 i (by kernel_rfl) (by kernel_rfl) I4.out I1.out I2.out I3.out v l.length _ rfl hrow s rfl ?c1 ?c2 ?c3 ?_)
  case c1 => simp [maxLen]; omega
  case c2 => omega
  case c3 => omega
  intro v' w2 hown' hg _
  have hg2 := hg.size
  have hb2 : w2.heap[b]? = some (.cells #[.pointer (some ⟨b, 0, none⟩), v] 87 (0, 0)) := by
    rw [hg.block b hlt (fun e => B1.out.ne e.symm)]
    exact HB.out
  have d0 : w2.cell? ⟨b, 0, none⟩ = some (.pointer (some ⟨b, 0, none⟩)) := by rw [Lib.cell_of_heap hb2]; rfl
  have d1 : w2.cell? ⟨b, 1, none⟩ = some v := by rw [Lib.cell_of_heap hb2]; rfl
  have f1 : w2.frozen? ⟨b, 1, none⟩ = false := Lib.frozen_of_heap hb2 1
  have hne' : v'.ownBlock ≠ some b := by
    rcases hown'.2 with ⟨rfl, _⟩ | ⟨g, cap, cur, rfl, _, hcur, _⟩
    · simp [Value.ownBlock]
    · intro e'
      have e' : g = b := by injection e'
      subst e'
      rw [hb2] at hcur
      injection hcur with hcur
      injection hcur with _ hcur _
      exact builder_u8 hcur.symm
  have hown2 : OwnB 5 w2 base v' (l ++ s.data.toList) := by
    refine ⟨_, ?_, bytes_cells w2 _ _, fun _ h => h.elim⟩
    have := hown'
    simp only [Lib.strCells] at this
    rw [List.map_append, List.length_append]
    first
      | exact this
      | (simpa using this)
  have hfin : Bld (w2.setCell ⟨b, 1, none⟩ v') base b v' (l ++ s.data.toList) :=
    ⟨B1.out.hb, ⟨_, .inr rfl, (show Blk w2 b _ _ from hb2).set_ 1 v'⟩, hown2.kept (grown_setCell w2 ⟨b, 1, none⟩ v') (Or.inr hne') (fun _ h => h.elim), hne'⟩
  have htur : Turned b v w (w2.setCell ⟨b, 1, none⟩ v') := by
    refine (T1.out.grown hg (fun k e => .inr (.inl e.symm))).grown (grown_setCell w2 ⟨b, 1, none⟩ v') (fun k e => .inl (by injection e with e; exact e.symm))
  have F := Lib.hid hfin; have T := Lib.hid htur
  have hform : (∃ ao n c, v' = .slice ao n c) := by
    rcases hown'.2 with ⟨h, _⟩ | ⟨g, cap, cur, h, _⟩
    · exact ⟨_, _, _, h⟩
    · exact ⟨_, _, _, h⟩
  clear hfin htur hne' hown' hown2 hg hb2
  obtain ⟨ao, n', cap, rfl⟩ := hform
  go_wp2
  go_ret2
  exact ⟨rfl, _, F.out, T.out⟩
theorem writeStringW {W w : World} {base b : Nat} {l : List UInt8} (h : BW W base b l w) (s : ByteArray) (hlen : l.length + s.size ≤ 1000000000000) :
    Calls Tryd.prog 42 #[.pointer (some ⟨b, 0, none⟩), .string s] w fun e w' => e = .returned (.tuple #[.int .i64 s.size, .nilIface]) ∧ BW W base b (l ++ s.data.toList) w' := by
  obtain ⟨v, h1, h2, h3⟩ := h
  refine (writeString h1 s hlen h3).mono ?_
  rintro e w' ⟨rfl, v', k1, k2⟩
  exact ⟨rfl, v', k1, k2.below h2 h3 h1.hb (fun k hk => (h1.own.lt k hk).1), Nat.le_trans h3 k2.size⟩
end
end Go.Proofs.YtdmpdinaineiiaaDoor
