/- graph.begin: the index of a well-formed graph and the node of the root. No condition but room. -/
import Derived.Test.YtfhfcipelgogjaaGreatDoorGread
import Derived.OwnWalk
namespace Go.Proofs.YtfhfcipelgogjaaGreatDoor
open Go.RowKit
set_option linter.unusedSectionVars false
set_option linter.unusedVariables false
set_option linter.unusedSimpArgs false
attribute [local go_sem] cell?_over frozen?_over lt_over le_over
/-- the root can be gone from -/
def RootG (gs : List NodeD) (root : Int) (i : Nat) : Prop := WfG gs ∧ getKv (idx gs) root = some i ∧ (gs.getD i default).kind = 2
def NoRootG (gs : List NodeD) (root : Int) : Prop := NotWfG gs ∨ getKv (idx gs) root = none ∨ ∃ i, getKv (idx gs) root = some i ∧ (gs.getD i default).kind ≠ 2
def BeginEnd (gs : List NodeD) (root : Int) (bg offg : Nat) (w : World) (e : Ending) (w' : World) : Prop :=
  Below w.heap.size w w' ∧ ((∃ bi i, w.heap.size ≤ bi ∧ e = .returned (.tuple #[.map (some bi), nodeV bg offg i, .int .i64 0]) ∧ IsMap kI (nodeV bg offg) w' bi (idx gs) ∧ RootG gs root i) ∨
    ∃ err : Int, (err != 0) = true ∧ e = .returned (.tuple #[.map none, .pointer none, .int .i64 err]) ∧ NoRootG gs root)
set_option maxHeartbeats 2000000 in
set_option maxRecDepth 100000 in
theorem graphBegin {bg offg N c : Nat} {gs : List NodeD} (root : Int) (w : World) (hg : Row Shape.NodeD w (Old w) (some ⟨bg, offg, none⟩) N gs) (hs : SmallG gs) (hN : N ≤ 1000000000) :
    Calls Tryz.prog 26 #[.agg #[.slice (some ⟨bg, offg, none⟩) N c], .int .i64 root] w (BeginEnd gs root bg offg w) := by
  have HG := Lib.hid hg; have HS := Lib.hid hs
  have hzp : ∀ w, (zeroValue 70).run Tryz.prog w = .ok (.pointer none) w := fun w => Tryz.zeroValue70 w
  have B0 : Hid (Below w.heap.size w (w.alloc (.cells #[.slice (some ⟨bg, offg, none⟩) N c] 24))) := Lib.hid (below_alloc' _ _)
  have RD := Lib.hid (graphRead (c := c) _ (HG.out.below B0.out) HS.out hN)
  clear hg hs
  go_enter Tryz.func26, Tryz.ntmps26
  go_wp2_with fail
  refine RD.out.mono ?_
  rintro e w1 ⟨hb1, m, ok, rfl, hok, hno⟩
  have hb := below_old B0.out hb1
  have HB := Lib.hid hb; have HOK := Lib.hid hok; have HNO := Lib.hid hno
  have hsz0 : (w.alloc (.cells #[.slice (some ⟨bg, offg, none⟩) N c] 24)).heap.size = w.heap.size + 1 := by simp
  clear hb1 hb hok hno RD
  cases ok with
  | false =>
    go_wp2_with fail
    go_ret3
    exact ⟨HB.out, .inr ⟨140, rfl, rfl, .inl (HNO.out (by simp))⟩⟩
  | true =>
    obtain ⟨bi, hbi, rfl, hmap, hwf⟩ := HOK.out (by simp)
    have HM := Lib.hid hmap; have WF := Lib.hid hwf
    have hbi2 : w.heap.size ≤ bi := by omega
    clear hmap hwf hbi hsz0
    cases hk : getKv (idx gs) root with
    | none =>
      have HK := Lib.hid hk
      clear hk
      go_wp2_with (first
        | ((with_reducible refine at_look (t := 69) (m := .tmp 17) (x := .tmp 18) (c := false) ?_ ?_); exact rfl; go_loud (refine wpList_lookup_kv0 rfl (.tmp 17) (.tmp 18) _ rfl und_index HM.out root (hzp _) rfl rfl ?_); rw [HK.out]; simp only [Option.map_none, Option.getD_none]))
      go_ret3
      exact ⟨HB.out, .inr ⟨141, rfl, rfl, .inr (.inl HK.out)⟩⟩
    | some i =>
      have HK := Lib.hid hk
      obtain ⟨hi, hid⟩ := idx_get hk
      have hiN : i < N := by rw [← HG.out.1]; exact hi
      obtain ⟨bg', offg', esg, hkg, hAg, hbg, hcg, hrg⟩ := HG.out.at_ hiN
      injection hAg with hAg
      injection hAg with hAg1 hAg2
      subst hAg1 hAg2
      obtain ⟨_, _, _, _, _, _, heg, _⟩ := hrg
      subst heg
      have cg := hcg 1 (by decide)
      have e10 : Shape.NodeD.size = 10 := rfl
      simp only [e10, List.getElem?_cons_zero, List.getElem?_cons_succ] at cg
      rw [← HB.out.cell hbg] at cg
      have lbg : bg < w1.heap.size := Nat.lt_of_lt_of_le hbg HB.out.size
      obtain ⟨kd, hkd⟩ : ∃ x, x = gs[i].kind := ⟨_, rfl⟩
      rw [← hkd] at cg
      have HKD : Hid (kd = (gs.getD i default).kind) := Lib.hid (by rw [hkd, List.getD_eq_getElem?_getD, List.getElem?_eq_getElem hi]; rfl)
      clear hcg hid hiN hbg hkd e10 hk
      by_cases h2 : kd = 2
      · subst h2
        go_wp2_with (first
          | ((with_reducible refine at_look (t := 69) (m := .tmp 17) (x := .tmp 18) (c := false) ?_ ?_); exact rfl; go_loud (refine wpList_lookup_kv0 rfl (.tmp 17) (.tmp 18) _ rfl und_index HM.out root (hzp _) rfl rfl ?_); rw [HK.out]; simp only [Option.map_some, Option.getD_some, nodeV]))
        go_ret3
        exact ⟨HB.out, .inl ⟨bi, i, hbi2, rfl, HM.out, WF.out, HK.out, HKD.out.symm⟩⟩
      · have h2' : (kd != 2) = true := by rw [bne_iff_ne]; exact h2
        have HNE : Hid ((gs.getD i default).kind ≠ 2) := Lib.hid (by rw [← HKD.out]; exact h2)
        clear h2
        go_wp2_with (first
          | ((with_reducible refine at_look (t := 69) (m := .tmp 17) (x := .tmp 18) (c := false) ?_ ?_); exact rfl; go_loud (refine wpList_lookup_kv0 rfl (.tmp 17) (.tmp 18) _ rfl und_index HM.out root (hzp _) rfl rfl ?_); rw [HK.out]; simp only [Option.map_some, Option.getD_some, nodeV]))
        go_ret3
        exact ⟨HB.out, .inr ⟨173, rfl, rfl, .inr (.inr ⟨i, HK.out, HNE.out⟩)⟩⟩
end Go.Proofs.YtfhfcipelgogjaaGreatDoor
