/- The reference's copy of a list of pairs, and its comparison of two such lists. No condition but room. The reference's comparisons of two entries and of two lists of pairs that are the same. No condition but room. -/
import Derived.Test.YtnadldcdckjifaaDoorOvApply6
import Derived.Laws.StructEq
import Derived.Test.YtnadldcdckjifaaDoorSameB
namespace Go.Proofs.YtnadldcdckjifaaDoor
open Go.RowKit
set_option linter.unusedVariables false
set_option linter.unusedSimpArgs false
attribute [local go_sem] cell?_over frozen?_over lt_over le_over
theorem flat_PairD : Shape.PairD.Flat := fun h => h
theorem elem_pair : Elem Tryd.prog 35 49 Shape.PairD 32 := ⟨Tryd.underlying35, by kernel_rfl⟩
theorem copyPairs {A : Option Addr} {n c : Nat} {l : List PairD} (w : World) (h : Row Shape.PairD w (Old w) A n l) (hn : n ≤ 1000000000000) :
    Calls Tryd.prog 19 #[.slice A n c] w fun e w' => ∃ v δ, e = .returned v ∧ w' = over w δ ∧ Own Shape.PairD 49 w' w.heap.size (fun _ => False) v l := by
  have hs := (Row.src (h.keep (Keeps.old_alloc w (.cells #[] 49)))).flat (M' := fun _ => False) flat_PairD
  have hl := Nat.le_of_eq h.1
  go_enter Tryd.func19, Tryd.ntmps19
  go_wp2_with (first
    | (at_builtin
       refine wpList_append_list (v := .slice (some ⟨w.heap.size, 0, none⟩) 0 0) rfl (.tmp 5) (.tmp 6) _ rfl elem_pair rfl (Own.made Shape.PairD _ w _ (Nat.le_refl _)) rfl hs (fun _ h => h.elim) ?_ ?_ ?_ ?_
       · simp; omega
       · simp [maxLen]; omega
       · simp
       intro v' w1 hown hg hat))
  go_ret
  have hb : Below w.heap.size w w1 := ((Below.refl _ _).alloc (Nat.le_refl _) _).grown hg (by simp) (by simp [Value.ownBlock])
  have e := over_of_below hb
  rw [e] at hown ⊢
  exact ⟨v', _, rfl, rfl, by simpa using hown⟩
theorem own_row {α : Type} {s : Shape α} {e : TypeId} {w : World} {base : Nat} {M : Nat → Prop} {v : Value} {l : List α} (h : Own s e w base M v l) : ∃ A c, v = .slice A l.length c ∧ l.length ≤ c ∧ Row s w (Old w) A l.length l := by
  obtain ⟨A, n, c, rfl, hnc, _, hrow⟩ := h.rd_old
  have := hrow.1
  subst this
  exact ⟨A, c, rfl, hnc, hrow⟩
end Go.Proofs.YtnadldcdckjifaaDoor
namespace Go.Proofs.YtnadldcdckjifaaDoor
open Go.RowKit
set_option linter.unusedVariables false
set_option linter.unusedSimpArgs false
attribute [local go_sem] cell?_over frozen?_over lt_over le_over
set_option maxHeartbeats 1000000 in
set_option maxRecDepth 100000 in
theorem sameEntry (k : Int) (nm lk : ByteArray) (md u g : Int) (us gr : ByteArray) (s n : Int) (w : World) :
    Calls Tryd.prog 22 #[.agg (entCells k nm lk md u g us gr s n), .agg (entCells k nm lk md u g us gr s n)] w fun e w' => e = .returned (.bool true) ∧ Below w.heap.size w w' := by
  unfold entCells
  go_enter Tryd.func22, Tryd.ntmps22
  go_wp2_with fail
  refine (sameBytes (l := []) (l' := []) (c := 0) (c' := 0) _ Row.nil Row.nil (by decide) (by decide)).mono ?_
  rintro e w1 ⟨rfl, δ, hw⟩
  have hb := below_of hw
  obtain ⟨_, _, hbw, _⟩ := blks2 hb
  have HB := Lib.hid hbw
  clear hw hb hbw
  go_wp2_with fail
  go_ret
  exact ⟨rfl, HB.out⟩
set_option maxHeartbeats 1000000 in
set_option maxRecDepth 100000 in
theorem samePairs {A A' : Option Addr} {n c c' : Nat} {l : List PairD} (w : World) (h : Row Shape.PairD w (Old w) A n l) (h' : Row Shape.PairD w (Old w) A' n l) (hn : n ≤ 140737488355328) :
    Calls Tryd.prog 23 #[.slice A n c, .slice A' n c'] w fun e w' => e = .returned (.bool true) ∧ Below w.heap.size w w' := by
  have HL := Lib.hid h.1
  have hb0 : ((n : Int) != n) = false := by simp
  go_enter Tryd.func23, Tryd.ntmps23
  go_wp2_with fail
  go_loopw [5] (fun i wr => ∃ k : Nat, k ≤ n ∧ i = .int .i64 k ∧ Below w.heap.size w wr) (fun i _ => n - (intOf i).toNat)
  case atStart => exact ⟨0, Nat.zero_le _, rfl, Below.refl _ _⟩
  case round =>
    obtain ⟨k, hk, rfl, hbel⟩ := hrel
    by_cases hlt : k < n
    · obtain ⟨b, off, es, hkl, rfl, hb, hc, hc0, hr⟩ := h.elem (Keeps.old hbel) hlt
      obtain ⟨b', off', es', hkl', rfl, hb', hc', hc0', hr'⟩ := h'.elem (Keeps.old hbel) hlt
      obtain ⟨rfl, -⟩ := hr
      obtain ⟨rfl, -⟩ := hr'
      have e13 : Shape.PairD.size = 2 := rfl
      simp only [e13] at hc hc0 hc' hc0'
      clear e13
      have c1 := hc 1 (by decide); have c1' := hc' 1 (by decide)
      simp only [List.getElem?_cons_succ, List.getElem?_cons_zero] at c1 hc0 c1' hc0'
      have hb2 := Nat.lt_of_lt_of_le hb hbel.size
      have hb2' := Nat.lt_of_lt_of_le hb' hbel.size
      have hks : (k : Int) < n := by omega
      clear hc hc'
      generalize l[k] = d at *
      go_wp2
      refine wp_region_over (by kernel_rfl) (by kernel_rfl) ?_
      repeat (go_big_quiet_step (fail))
      refine wpQuiet_nil ?_
      rintro _ ⟨δ', rfl⟩
      go_wp2
      go_roundw
      case rel => exact ⟨k + 1, by omega, by go_num, below_trans_over hbel hbel.size _⟩
      case measure => simp [intOf]; omega
    · go_wp2
      go_ret
      exact ⟨rfl, hbel⟩
theorem res_form (x : ApIn) : ∃ (k : Int) (nm lk : ByteArray) (md u g : Int) (us gr : ByteArray) (s n sz c : Int), x.res = .tuple #[.agg (entCells k nm lk md u g us gr s n), .int .i64 sz, .int .i64 c] := by
  unfold ApIn.res
  split
  · exact ⟨_, _, _, _, _, _, _, _, _, _, _, _, rfl⟩
  split
  · exact ⟨_, _, _, _, _, _, _, _, _, _, _, _, rfl⟩
  split
  · exact ⟨_, _, _, _, _, _, _, _, _, _, _, _, rfl⟩
  split
  · exact ⟨_, _, _, _, _, _, _, _, _, _, _, _, rfl⟩
  · exact ⟨_, _, _, _, _, _, _, _, _, _, _, _, rfl⟩
end Go.Proofs.YtnadldcdckjifaaDoor
