/- The lines of a tree print, their text is small, and they are planted as they are: plain. No condition. -/
import Derived.Test.YtfhfcipelgogjaaGreatDoorPlant
import Derived.Test.YtfhfcipelgogjaaGreatDoorPLawAll
import Derived.Test.YtfhfcipelgogjaaGreatDoorPrintAll
namespace Go.Proofs.YtfhfcipelgogjaaGreatDoor
open Go.RowKit
set_option linter.unusedSectionVars false
set_option linter.unusedVariables false
set_option linter.unusedSimpArgs false
theorem empty_size (s : ByteArray) : s.toList.isEmpty = decide (s.size = 0) := isEmpty_size s
theorem tl_ok {gs : List NodeD} (hW : WfG gs) {l : LineD} (h : TL gs l) : rOk l = true := by
  obtain ⟨hb, _⟩ := hW
  have hsc : scanB gs 0 = true := by unfold basicB at hb; simp only [Bool.and_eq_true] at hb; exact hb.1.2
  obtain ⟨id, path, peer, hk, rfl, hp, -, -, hd⟩ := h
  have hs := (scan_all gs 0 hsc _ (G_mem hk)).1
  revert hs hd
  generalize G gs id = n
  intro hd hs
  unfold soundB withinB at hs
  simp only [Bool.and_eq_true, decide_eq_true_eq, Bool.not_eq_true', Bool.or_eq_false_iff, decide_eq_false_iff_not, not_and] at hs
  obtain ⟨⟨⟨⟨⟨⟨⟨k1, k2⟩, m1, m2⟩, u1, u2⟩, g1, g2⟩, dd, _⟩, st⟩, tx⟩ := hs
  have e1 : decide (1 ≤ n.kind ∧ n.kind ≤ 3 ∧ 0 ≤ n.mode ∧ n.mode ≤ 4095) = true := decide_eq_true ⟨k1, k2, m1, m2⟩
  have e2 : decide (0 ≤ n.uid ∧ n.uid ≤ 2147483647) = true := decide_eq_true ⟨u1, u2⟩
  have e3 : decide (0 ≤ n.gid ∧ n.gid ≤ 2147483647) = true := decide_eq_true ⟨g1, g2⟩
  have e4 : path.toList.isEmpty = false := by rw [isEmpty_size]; exact decide_eq_false hp
  by_cases hp0 : peer.size = 0
  · have e : lineAt path n peer = ⟨path, n.kind, n.mode, n.uid, n.gid, n.mtime, n.data, n.target, peer⟩ := if_pos hp0
    have e5 : peer.toList.isEmpty = true := by rw [isEmpty_size]; exact decide_eq_true hp0
    rw [e]
    unfold rOk ownerOk
    simp only
    rw [e1, e2, e3, st, e4, e5, if_pos rfl]
    have e6 : ((n.kind == 1) || (n.data.length == 0)) = true := by
      by_cases hk1 : n.kind = 1
      · rw [hk1]; rfl
      · have := dd hk1
        have hz : n.data.length = 0 := by omega
        rw [hz]; simp
    have e7 : ((n.kind == 3) == !n.target.toList.isEmpty) = true := by
      unfold textB at tx
      rw [isEmpty_size]
      by_cases hk3 : n.kind = 3
      · rw [if_pos hk3] at tx
        have := (of_decide_eq_true tx).1
        rw [hk3, decide_eq_false (by omega)]; rfl
      · rw [if_neg hk3] at tx
        have := of_decide_eq_true tx
        rw [decide_eq_true this]
        have : (n.kind == 3) = false := by simpa using hk3
        rw [this]; rfl
    rw [e6, e7]; rfl
  · have e : lineAt path n peer = ⟨path, n.kind, n.mode, n.uid, n.gid, n.mtime, [], ⟨#[]⟩, peer⟩ := if_neg hp0
    have e5 : peer.toList.isEmpty = false := by rw [isEmpty_size]; exact decide_eq_false hp0
    rw [e]
    unfold rOk ownerOk
    simp only
    rw [e1, e2, e3, st, e4, e5, if_neg (by decide)]
    have e6 : (n.kind == 2) = false := by simpa using hd hp0
    have e7 : (⟨#[]⟩ : ByteArray).toList.isEmpty = true := by rw [isEmpty_size]; rfl
    rw [e6, e7]
    rfl
theorem tl_sizes {gs : List NodeD} (hW : WfG gs) (hd : ∀ n ∈ gs, n.data.length ≤ 1048576) {l : LineD} (h : TL gs l) : l.path.size ≤ 4194304 ∧ l.peer.size ≤ 4194304 ∧ l.target.size ≤ 4096 ∧ l.data.length ≤ 1048576 := by
  obtain ⟨hb, _⟩ := hW
  have hsc : scanB gs 0 = true := by unfold basicB at hb; simp only [Bool.and_eq_true] at hb; exact hb.1.2
  obtain ⟨id, path, peer, hk, rfl, hp, hp2, hp3, -⟩ := h
  have hs := small_target (scan_all gs 0 hsc _ (G_mem hk)).1
  have hdt := hd _ (G_mem hk)
  unfold lineAt
  split
  · exact ⟨hp2, hp3, hs, hdt⟩
  · exact ⟨hp2, hp3, by show (0 : Nat) ≤ 4096; omega, Nat.zero_le _⟩
theorem tl_small {gs : List NodeD} (hW : WfG gs) (hd : ∀ n ∈ gs, n.data.length ≤ 1048576) {l : LineD} (h : TL gs l) : SmallD l := by
  obtain ⟨a, b, c, d⟩ := tl_sizes hW hd h
  exact ⟨by omega, by omega, by omega, by omega⟩
theorem tl_len {gs : List NodeD} (hW : WfG gs) (hd : ∀ n ∈ gs, n.data.length ≤ 1048576) {l : LineD} (h : TL gs l) : (lineBody l).length ≤ 33554632 := by
  have h1 := line_len (tl_small hW hd h) (tl_ok hW h)
  obtain ⟨a, b, c, d⟩ := tl_sizes hW hd h
  have h2 : (tailField l).size ≤ 4194304 := by
    unfold tailField
    split
    · split
      · split
        · omega
        · exact Nat.zero_le _
      · show l.data.toArray.size ≤ _; simp; omega
    · exact b
  omega
theorem tree_text_len {l : List LineD} {m : Nat} (h : ∀ d ∈ l, (lineBody d).length ≤ m) : (textOf l).length ≤ l.length * (m + 1) := by
  induction l with
  | nil => simp [textOf]
  | cons d l ih =>
    have h1 := ih fun x hx => h x (List.mem_cons_of_mem _ hx)
    have h2 := h d (List.mem_cons_self ..)
    have e : textOf (d :: l) = lineBody d ++ [10] ++ textOf l := by simp [textOf]
    rw [e]
    simp only [List.length_append, List.length_cons, List.length_nil]
    rw [Nat.add_mul]
    omega
/-! how many lines there are -/
theorem entsSum_add : ∀ (ns : List NodeD) (k : Nat) (e : EntD), k < ns.length → entsSum (addEnt ns k e) = entsSum ns + 1
  | [], k, e, h => by simp at h
  | n :: ns, 0, e, h => by
    unfold addEnt
    rw [List.modify_zero_cons]
    simp only [entsSum, List.length_append, List.length_cons, List.length_nil]
    omega
  | n :: ns, k + 1, e, h => by
    have ih := entsSum_add ns k e (by simpa using h)
    unfold addEnt at ih ⊢
    rw [List.modify_succ_cons]
    simp only [entsSum, ih]
    omega
theorem nodes1_sum (ps : PSt) (l : LineD) : entsSum (nodes1 ps l) = entsSum ps.nodes := by
  unfold nodes1
  split
  · rw [entsSum_map, entsSum_map, List.map_append, List.sum_append]
    simp [nodeOf]
  · rfl
theorem plantR_sum : ∀ (L : List LineD) (ps ps' : PSt), plantR L ps = some ps' → (∀ q ∈ ps.ids, 1 ≤ q.2 ∧ q.2 ≤ ps.nodes.length) → 0 < ps.nodes.length → entsSum ps'.nodes = entsSum ps.nodes + L.length
  | [], ps, ps', h, _, _ => by injection h with h; subst h; rfl
  | l :: L, ps, ps', h, hids, hpos => by
    unfold plantR at h
    rw [Option.bind_eq_some_iff] at h
    obtain ⟨p1, h1, h2⟩ := h
    have hs : entsSum p1.nodes = entsSum ps.nodes + 1 ∧ (∀ q ∈ p1.ids, 1 ≤ q.2 ∧ q.2 ≤ p1.nodes.length) ∧ 0 < p1.nodes.length := by
      unfold plant1 at h1
      split at h1
      · cases h1
      · rename_i hc
        have h0 : ¬ newId ps l = 0 := fun e => hc (.inr e)
        obtain ⟨a, b, c, c'⟩ := newId_range hids h0
        rw [if_neg (by decide)] at h1
        split at h1
        · cases h1
        · rename_i hp
          have hr := parent_range (p := l.path) hids hpos hp
          injection h1 with h1
          subst h1
          have hl := addEnt_len (nodes1 ps l) ((parentOf ps.ids l.path).1 - 1).toNat ⟨(parentOf ps.ids l.path).2, newId ps l⟩
          refine ⟨?_, fun q hq => ?_, ?_⟩
          · show entsSum (addEnt _ _ _) = _
            rw [entsSum_add _ _ _ (by omega), nodes1_sum]
          · show 1 ≤ q.2 ∧ q.2 ≤ (addEnt _ _ _).length
            rw [hl]
            rcases putKv_mem q hq with h | h
            · have := hids q h; omega
            · rw [h]; omega
          · show 0 < (addEnt _ _ _).length
            omega
    have := plantR_sum L p1 ps' h2 hs.2.1 hs.2.2
    rw [this, hs.1, List.length_cons]
    omega
theorem plantL_sum {L : List LineD} {ps : PSt} (h : plantL 0 L ⟨[], []⟩ = some ps) (hne : L ≠ []) : L.length = entsSum ps.nodes + 1 := by
  cases L with
  | nil => exact absurd rfl hne
  | cons l L =>
    unfold plantL at h
    rw [decide_eq_true rfl, Option.bind_eq_some_iff] at h
    obtain ⟨p1, h1, h2⟩ := h
    rw [plantL_succ] at h2
    have hk := plant1_keeps (i := 0) h1 (Nat.le_refl _) (fun x hx => (by cases hx)) (fun q hq => (by cases hq))
    unfold plant1 at h1
    split at h1
    · cases h1
    · rename_i hc
      have h0 : ¬ newId ⟨[], []⟩ l = 0 := fun e => hc (.inr e)
      obtain ⟨a, b, c, c'⟩ := newId_range (ps := ⟨[], []⟩) (fun q hq => (by cases hq)) h0
      rw [if_pos rfl] at h1
      injection h1 with h1
      subst h1
      have := plantR_sum L _ ps h2 (fun q hq => by
        rcases putKv_mem (kv := []) (k := l.path) (v := newId ⟨[], []⟩ l) q hq with h | h
        · cases h
        · rw [h]; exact ⟨a, b⟩) (by show 0 < (nodes1 ⟨[], []⟩ l).length; omega)
      rw [this]
      have e : entsSum (nodes1 ⟨[], []⟩ l) = 0 := nodes1_sum _ _
      show _ = entsSum (nodes1 ⟨[], []⟩ l) + L.length + 1
      rw [e, List.length_cons]; omega
theorem plant1_data {top : Bool} {ps p1 : PSt} {l : LineD} (h1 : plant1 top ps l = some p1) (hl : l.data.length ≤ 1000000000) (hx : ∀ x ∈ ps.nodes, x.data.length ≤ 1000000000) : ∀ x ∈ p1.nodes, x.data.length ≤ 1000000000 := by
  have hn : ∀ x ∈ nodes1 ps l, x.data.length ≤ 1000000000 := by
    intro x hxm
    unfold nodes1 at hxm
    split at hxm
    · rcases List.mem_append.1 hxm with h | h
      · exact hx x h
      · simp only [List.mem_singleton] at h
        subst h; exact hl
    · exact hx x hxm
  unfold plant1 at h1
  split at h1
  · cases h1
  · split at h1
    · injection h1 with h1
      subst h1; exact hn
    · split at h1
      · cases h1
      · injection h1 with h1
        subst h1
        intro x hxm
        obtain ⟨y, hy, e, _⟩ := addEnt_mem x hxm
        rw [e]; exact hn y hy
theorem plantR_data : ∀ (L : List LineD) (ps ps' : PSt), plantR L ps = some ps' → (∀ d ∈ L, d.data.length ≤ 1000000000) → (∀ x ∈ ps.nodes, x.data.length ≤ 1000000000) → ∀ x ∈ ps'.nodes, x.data.length ≤ 1000000000
  | [], ps, ps', h, _, hx => by injection h with h; subst h; exact hx
  | l :: L, ps, ps', h, hL, hx => by
    unfold plantR at h
    rw [Option.bind_eq_some_iff] at h
    obtain ⟨p1, h1, h2⟩ := h
    exact plantR_data L p1 ps' h2 (fun d hd => hL d (List.mem_cons_of_mem _ hd)) (plant1_data h1 (hL l (List.mem_cons_self ..)) hx)
theorem plantL_data {L : List LineD} {ps : PSt} (h : plantL 0 L ⟨[], []⟩ = some ps) (hL : SmallP L) : ∀ x ∈ ps.nodes, x.data.length ≤ 1000000000 := by
  cases L with
  | nil => injection h with h; subst h; intro x hx; cases hx
  | cons l L =>
    unfold plantL at h
    rw [Option.bind_eq_some_iff] at h
    obtain ⟨p1, h1, h2⟩ := h
    rw [plantL_succ] at h2
    exact plantR_data L p1 ps h2 (fun d hd => (hL d (List.mem_cons_of_mem _ hd)).1) (plant1_data h1 (hL l (List.mem_cons_self ..)).1 (fun x hx => (by cases hx)))
/-- what the law wants of a tree's lines -/
theorem tree_facts {gs : List NodeD} {root : Int} {i : Nat} {st : LSt} (hr : RootG gs root i) (h : tree0 gs i = (st, true)) (hd : ∀ n ∈ gs, n.data.length ≤ 1048576) :
    okAll st.out = true ∧ (∀ l ∈ st.out, SmallD l) ∧ (∀ l ∈ st.out, (lineBody l).length ≤ 67108864) ∧ st.out.length ≤ 8193 ∧ st.out ≠ [] ∧ (∀ k, (textOf (st.out.take k)).length ≤ 900000000000) ∧ SmallP st.out ∧
    ∃ ps, plantL 0 st.out ⟨[], []⟩ = some ps ∧ ¬ NoRootG ps.nodes 1 ∧ ∀ j, RootG ps.nodes 1 j → tree0 ps.nodes j = (⟨st.out, (tree0 ps.nodes j).1.first, (tree0 ps.nodes j).1.bytes⟩, true) := by
  have hW := hr.1
  obtain ⟨ps, ks, h1, h2, h3, h4, h5, h6⟩ := tree_plants (fuel := 4194304) hr h
  have hne : st.out ≠ [] := by
    intro e
    rw [e] at h1
    injection h1 with h1
    subst h1
    cases h5
  have hsum := plantL_sum h1 hne
  have hs2 := h3.sum.2
  have hb3 : entsSum gs ≤ 8192 := by
    have := hW.1
    unfold basicB at this
    simp only [Bool.and_eq_true, decide_eq_true_eq] at this
    exact this.2
  have hlen : st.out.length ≤ 8193 := by omega
  have hbody : ∀ l ∈ st.out, (lineBody l).length ≤ 33554632 := fun l hl => tl_len hW hd (h2 l hl)
  refine ⟨List.all_eq_true.2 fun l hl => tl_ok hW (h2 l hl), fun l hl => tl_small hW hd (h2 l hl), fun l hl => by have := hbody l hl; omega, hlen, hne, fun k => ?_, fun l hl => ?_, ps, h1, h4, fun j hj => ?_⟩
  · have := tree_text_len (l := st.out.take k) (m := 33554632) fun d hd' => hbody d (List.mem_of_mem_take hd')
    have h7 : (st.out.take k).length ≤ 8193 := by rw [List.length_take]; omega
    have h8 : (st.out.take k).length * 33554633 ≤ 8193 * 33554633 := Nat.mul_le_mul_right _ h7
    omega
  · have := tl_sizes hW hd (h2 l hl)
    exact ⟨by omega, by omega⟩
  · have hj0 : j = 0 := by
      have := hj.2.1
      rw [h5] at this
      injection this with this
      exact this.symm
    subst hj0
    have h6' : tree0 ps.nodes 0 = (mapSt ks st, true) := h6
    rw [h6']
    rfl
end Go.Proofs.YtfhfcipelgogjaaGreatDoor
