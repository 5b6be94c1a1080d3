/- What one more path among the local pairs changes; global pairs whose keys are all local change nothing; plain. No condition. -/
import Derived.Test.YtnadldcdckjifaaDoorOvSt
namespace Go.Proofs.YtnadldcdckjifaaDoor
open Go.RowKit
set_option linter.unusedVariables false
set_option linter.unusedSimpArgs false
def ApIn.code (x : ApIn) : Int := if x.typeBad then 73 else if x.sparseBad then 61 else if x.numBad then 60 else if x.timeBad then 60 else 0
theorem res_code (x : ApIn) : ∃ (k : Int) (nm lk : ByteArray) (md u g : Int) (us gr : ByteArray) (s n sz : Int), x.res = .tuple #[.agg (entCells k nm lk md u g us gr s n), .int .i64 sz, .int .i64 x.code] ∧ (x.code = 0 → nm = x.name) := by
  unfold ApIn.res ApIn.code
  split
  · exact ⟨_, _, _, _, _, _, _, _, _, _, _, rfl, fun h => absurd h (by decide)⟩
  split
  · exact ⟨_, _, _, _, _, _, _, _, _, _, _, rfl, fun h => absurd h (by decide)⟩
  split
  · exact ⟨_, _, _, _, _, _, _, _, _, _, _, rfl, fun h => absurd h (by decide)⟩
  split
  · exact ⟨_, _, _, _, _, _, _, _, _, _, _, rfl, fun h => absurd h (by decide)⟩
  · exact ⟨_, _, _, _, _, _, _, _, _, _, _, rfl, fun _ => rfl⟩
/-- one more local path -/
def onePath (x : ApIn) (nm : ByteArray) : ApIn := { x with l := x.l ++ [⟨kPath, nm⟩] }
theorem one_v (x : ApIn) (nm k : ByteArray) (hk : k ≠ kPath) : (onePath x nm).v k = x.v k := by
  unfold ApIn.v foundV onePath
  simp only
  rw [latest_snoc, if_neg (fun e => hk e.symm)]
theorem one_code (x : ApIn) (nm : ByteArray) : (onePath x nm).code = x.code := by
  have e1 : (onePath x nm).typeBad = x.typeBad := rfl
  have e2 : (onePath x nm).sparseBad = x.sparseBad := by
    unfold ApIn.sparseBad sparseL onePath
    simp only
    rw [List.any_append]
    have : ([⟨kPath, nm⟩] : List PairD).any spOf = false := by
      simp only [List.any_cons, List.any_nil, Bool.or_false]
      exact (by decide +kernel : Lib.hasPrefix kPath.data.toList spKey = false)
    rw [this, Bool.or_false]
  have e3 : (onePath x nm).numBad = x.numBad := by
    unfold ApIn.numBad
    rw [one_v x nm kSize (by decide), one_v x nm kUid (by decide), one_v x nm kGid (by decide)]
  have e4 : (onePath x nm).timeBad = x.timeBad := by
    unfold ApIn.timeBad
    rw [one_v x nm kMtime (by decide)]
  unfold ApIn.code
  rw [e1, e2, e3, e4]
theorem one_name (x : ApIn) (nm : ByteArray) : (onePath x nm).name = if nm.size ≠ 0 then nm else if x.ln.size ≠ 0 then x.ln else x.h.name := by
  have el : latest (onePath x nm).l kPath = some nm := by
    unfold onePath
    simp only
    rw [latest_snoc, if_pos rfl]
  unfold ApIn.name textOf
  have e1 : foundL (onePath x nm).l kPath = decide (nm.size ≠ 0) := by unfold foundL; rw [el]
  have e2 : foundV (onePath x nm).g (onePath x nm).l kPath = nm := by unfold foundV; rw [el]
  rw [e1, e2]
  by_cases h : nm.size = 0
  · simp only [h, ne_eq, not_true_eq_false, decide_false, Bool.false_eq_true, if_false]
    rfl
  · simp [h]
/-- global pairs with the local ones' keys -/
def sevens (l : List PairD) : List PairD := l.map fun p => ⟨p.key, ⟨#[55]⟩⟩
theorem latest_none {l : List PairD} {k : ByteArray} : latest l k = none ↔ ∀ p ∈ l, p.key ≠ k := by
  unfold latest
  rw [Option.map_eq_none_iff, List.find?_eq_none]
  simp
theorem sevens_none {l : List PairD} {k : ByteArray} (h : latest l k = none) : latest (sevens l) k = none := by
  rw [latest_none] at *
  intro p hp
  unfold sevens at hp
  obtain ⟨q, hq, rfl⟩ := List.mem_map.1 hp
  exact h q hq
theorem sevens_v (l : List PairD) (k : ByteArray) : foundV (sevens l) l k = foundV [] l k := by
  unfold foundV
  cases h : latest l k with
  | some v => rfl
  | none => simp only; rw [sevens_none h]; rfl
theorem sevens_sparse (l : List PairD) : sparseL (sevens l) = sparseL l := by
  unfold sparseL sevens
  rw [List.any_map]; rfl
theorem sevens_res (h : HeaderD) (l : List PairD) (ln ll : ByteArray) : (ApIn.mk h (sevens l) l ln ll).res = (ApIn.mk h [] l ln ll).res := by
  have ev : ∀ k, (ApIn.mk h (sevens l) l ln ll).v k = (ApIn.mk h [] l ln ll).v k := fun k => sevens_v l k
  have et : ∀ k a b, textOf (sevens l) l k a b = textOf [] l k a b := fun k a b => by unfold textOf; rw [sevens_v]
  have e2 : (ApIn.mk h (sevens l) l ln ll).sparseBad = (ApIn.mk h [] l ln ll).sparseBad := by
    show (sparseL (sevens l) || sparseL l) = (sparseL [] || sparseL l)
    rw [sevens_sparse]
    show (sparseL l || sparseL l) = (false || sparseL l)
    cases sparseL l <;> rfl
  have e3 : (ApIn.mk h (sevens l) l ln ll).numBad = (ApIn.mk h [] l ln ll).numBad := by unfold ApIn.numBad; rw [ev, ev, ev]
  have e4 : (ApIn.mk h (sevens l) l ln ll).timeBad = (ApIn.mk h [] l ln ll).timeBad := by unfold ApIn.timeBad; rw [ev]
  have en : (ApIn.mk h (sevens l) l ln ll).name = (ApIn.mk h [] l ln ll).name := et _ _ _
  have e5 : (ApIn.mk h (sevens l) l ln ll).ent = (ApIn.mk h [] l ln ll).ent := by
    unfold ApIn.ent ApIn.kind ApIn.sec ApIn.nano ApIn.link ApIn.user ApIn.group
    rw [en, ev, ev, ev]
    simp only [et]
    rfl
  have e6 : (ApIn.mk h (sevens l) l ln ll).size = (ApIn.mk h [] l ln ll).size := by unfold ApIn.size; rw [ev]
  have e1 : (ApIn.mk h (sevens l) l ln ll).typeBad = (ApIn.mk h [] l ln ll).typeBad := rfl
  unfold ApIn.res
  rw [e1, e2, e3, e4, e5, e6]
end Go.Proofs.YtnadldcdckjifaaDoor
