/- overlay.Apply: what it answers, whatever it is given. No condition but room and what the library's variables hold. -/
import Derived.Test.YtnadldcdckjifaaDoorOvApply3
import Derived.Test.YtnadldcdckjifaaDoorOvApply4
import Derived.Test.YtnadldcdckjifaaDoorOvApply5
namespace Go.Proofs.YtnadldcdckjifaaDoor
open Go.RowKit
set_option linter.unusedVariables false
set_option linter.unusedSimpArgs false
attribute [local go_sem] cell?_over frozen?_over lt_over le_over
theorem ovApply {x : ApIn} {A A' : Option Addr} {n c n' c' : Nat} (w : World) (ho : ApOk x w A A' n n') (hstr : ApStr x) (hm : MaxLenOk w) (hv : ErrRangeOk w) :
    Calls Tryd.prog 20 (x.args A A' n c n' c') w fun e w' => e = .returned x.res ∧ Below w.heap.size w w' := by
  cases hx : x.typeBad
  · cases hs : x.sparseBad
    · cases hn : x.numBad
      · by_cases hz : (x.v kMtime).size = 0
        · exact ovApply_m1 w ho hstr hx hs hm hv (Lib.hid hn) (Lib.hid hz)
        · exact ovApply_m2 w ho hstr hx hs hm hv (Lib.hid hn) (Lib.hid hz)
      · exact ovApply_bad w ho hstr hx hs hm hv (Lib.hid hn)
    · refine (ovApply_sparse w ho hx hs).mono ?_
      rintro e w' ⟨rfl, hb⟩
      refine ⟨?_, hb⟩
      unfold ApIn.res
      rw [hx, hs]; rfl
  · refine (ovApply_type w hx).mono ?_
    rintro e w' ⟨rfl, hb⟩
    refine ⟨?_, hb⟩
    unfold ApIn.res
    rw [hx]; rfl
/-- the header a, a regular file of seven bytes, and one pair that names it b -/
def xAlive : ApIn := ⟨⟨⟨#[97]⟩, ⟨#[]⟩, 0, 0, 0, 7, 0, 48, ⟨#[]⟩, ⟨#[]⟩, 0, 0, 0⟩, [], [⟨⟨#[112, 97, 116, 104]⟩, ⟨#[98]⟩⟩], ⟨#[]⟩, ⟨#[]⟩⟩
theorem res_alive : xAlive.res = .tuple #[.agg (entCells 1 ⟨#[98]⟩ ⟨#[]⟩ 0 0 0 ⟨#[]⟩ ⟨#[]⟩ 0 0), .int .i64 7, .int .i64 0] := by
  have e : xAlive.res = .tuple #[.agg xAlive.ent, .int .i64 xAlive.size, .int .i64 0] := by
    unfold ApIn.res
    rw [show xAlive.typeBad = false by decide +kernel, show xAlive.sparseBad = false by decide +kernel, show xAlive.numBad = false by decide +kernel, show xAlive.timeBad = false by decide +kernel]
    rfl
  rw [e]
  unfold ApIn.ent
  rw [show xAlive.kind = 1 by decide +kernel, show xAlive.name = ⟨#[98]⟩ by decide +kernel, show xAlive.link = ⟨#[]⟩ by decide +kernel, show xAlive.mode = 0 by decide +kernel, show numN (xAlive.v kUid) xAlive.h.uid = 0 by decide +kernel,
    show numN (xAlive.v kGid) xAlive.h.gid = 0 by decide +kernel, show xAlive.user = ⟨#[]⟩ by decide +kernel, show xAlive.group = ⟨#[]⟩ by decide +kernel, show xAlive.sec = 0 by decide +kernel, show xAlive.nano = 0 by decide +kernel, show xAlive.size = 7 by decide +kernel]
theorem row_one (w : World) (T : TypeId) {k v : ByteArray} (h : k.size ≤ maxLen ∧ v.size ≤ maxLen) :
    Row Shape.PairD (w.alloc (.cells #[.string k, .string v] T)) (fun n => n = w.heap.size) (some ⟨w.heap.size, 0, none⟩) 1 [⟨k, v⟩] :=
  row_pairs w T [⟨k, v⟩] (by
    intro p hp
    simp only [List.mem_cons, List.not_mem_nil, or_false] at hp
    subst hp
    exact h)
theorem v_small {x : ApIn} {m : Nat} (hg : ∀ p ∈ x.g, p.value.size ≤ m) (hl : ∀ p ∈ x.l, p.value.size ≤ m) (k : ByteArray) : (x.v k).size ≤ m := by
  have lat : ∀ (l : List PairD) v, latest l k = some v → ∃ p ∈ l, p.value = v := by
    intro l v h
    unfold latest at h
    cases hf : l.reverse.find? fun p => decide (p.key = k) with
    | none => rw [hf] at h; cases h
    | some p =>
      rw [hf] at h
      injection h with h
      exact ⟨p, List.mem_reverse.1 (List.mem_of_find?_eq_some hf), h⟩
  unfold ApIn.v foundV
  cases hl' : latest x.l k with
  | some v =>
    obtain ⟨p, hp, e⟩ := lat _ _ hl'
    simp only
    rw [← e]; exact hl p hp
  | none =>
    simp only
    cases hg' : latest x.g k with
    | some v =>
      obtain ⟨p, hp, e⟩ := lat _ _ hg'
      simp only [Option.getD_some]
      rw [← e]; exact hg p hp
    | none => exact Nat.zero_le _
theorem text_small {g l : List PairD} {k long plain : ByteArray} {m : Nat} (hv : (foundV g l k).size ≤ m) (h1 : long.size ≤ m) (h2 : plain.size ≤ m) : (textOf g l k long plain).size ≤ m := by
  unfold textOf
  split
  · exact hv
  split
  · exact h1
  split
  · exact hv
  · exact h2
set_option maxRecDepth 100000 in
theorem alive06 (w : World) (hm : MaxLenOk w) (hv : ErrRangeOk w) :
    Calls Tryd.prog 18 #[] w fun e w' => e = .returned (.bool true) ∧ Below w.heap.size w w' := by
  go_enter Tryd.func18, Tryd.ntmps18
  go_wp2_with fail
  have hrow := row_one w 49 (k := ⟨#[112, 97, 116, 104]⟩) (v := ⟨#[98]⟩) (by decide)
  have ho : ApOk xAlive (w.alloc (.cells #[.string ⟨#[112, 97, 116, 104]⟩, .string ⟨#[98]⟩] 49)) none (some ⟨w.heap.size, 0, none⟩) 0 1 :=
    ⟨Row.nil, hrow.more (fun n hn => by subst hn; simp [Old]), by decide, by decide, v_small (m := 140737488355328) (by intro p hp; cases hp) (by intro p hp; simp only [xAlive, List.mem_cons, List.not_mem_nil, or_false] at hp; subst hp; decide), by decide +kernel, ⟨⟨by decide, by decide⟩, ⟨by decide, by decide⟩, ⟨by decide, by decide⟩, ⟨by decide, by decide⟩, ⟨by decide, by decide⟩⟩⟩
  refine (ovApply (c := 0) (c' := 1) _ ho ⟨by decide, by decide⟩ (hm.keep (below_alloc' w _)) (hv.keep (below_alloc' w _))).mono ?_
  rintro e w1 ⟨rfl, hb⟩
  rw [res_alive]
  obtain ⟨bT, hbw1, hsz1⟩ := blks1 hb
  have HB := Lib.hid hbw1
  clear hb bT hbw1 ho hrow
  unfold entCells
  go_wp2_with fail
  go_ret
  exact ⟨rfl, HB.out.alloc HB.out.size _⟩
end Go.Proofs.YtnadldcdckjifaaDoor
