/- slices.SortFunc at a list of the call's own whose elements may lead on. No condition but room. -/
import Derived.Test.YtdmpdinaineiiaaDoorLaySort
import Derived.Test.YtdmpdinaineiiaaDoorBase
import Derived.Shelf.SlSortCmp.WholeK
namespace Go.Proofs.YtdmpdinaineiiaaDoor
open Go.RowKit Go.Sort
set_option linter.unusedVariables false
set_option linter.unusedSimpArgs false
set_option linter.unusedSectionVars false
section
variable {α β : Type} [Inhabited α] {s : Shape β} {f : α → β} {enc : α → List Value} {w : World} {M : Nat → Prop}
theorem cells_enc (hrd : ∀ w M cs x, s.rd w M cs (f x) → cs = enc x) {xs : List Value} {l : List α} (h : Cells s w M xs (l.map f)) : xs = l.flatMap enc ∧ ∀ x ∈ l, s.rd w M (enc x) (f x) := by
  induction l generalizing xs with
  | nil => exact ⟨h, fun _ h => by cases h⟩
  | cons a l ih =>
    obtain ⟨es, rest, e, h1, h2⟩ := h
    obtain ⟨i1, i2⟩ := ih h2
    have h3 := hrd _ _ _ _ h1
    subst h3
    refine ⟨by rw [e, i1]; rfl, fun x hx => ?_⟩
    rcases List.mem_cons.1 hx with rfl | hx
    · exact h1
    · exact i2 x hx
theorem cells_of_enc {l : List α} (h : ∀ x ∈ l, s.rd w M (enc x) (f x)) : Cells s w M (l.flatMap enc) (l.map f) := by
  induction l with
  | nil => rfl
  | cons a l ih => exact ⟨enc a, l.flatMap enc, rfl, h a (by simp), ih fun x hx => h x (by simp [hx])⟩
theorem flat_lenG {k : Nat} (hk : ∀ x, (enc x).length = k) (l : List α) : (l.flatMap enc).length = l.length * k := by
  induction l with
  | nil => simp
  | cons a l ih => rw [List.flatMap_cons, List.length_append, ih, List.length_cons, hk, Nat.succ_mul]; omega
theorem flat_getG {k : Nat} (hk : ∀ x, (enc x).length = k) (hpos : 0 < k) (l : List α) (t : Nat) (ht : t < l.length * k) : (l.flatMap enc)[t]? = some ((flatK enc k l.toArray)[t]!) := by
  rw [get_flatK _ _ _ _ (by simpa using ht)]
  induction l generalizing t with
  | nil => simp at ht
  | cons a l ih =>
    rw [List.flatMap_cons]
    have hl := hk a
    by_cases h2 : t < k
    · rw [List.getElem?_append_left (by omega)]
      rw [Nat.div_eq_of_lt h2, Nat.mod_eq_of_lt h2]
      simp only [List.getElem!_toArray, List.getElem!_cons_zero]
      rw [getElem!_pos (enc a) t (by omega), List.getElem?_eq_getElem (by omega)]
    · rw [List.getElem?_append_right (by omega), hl]
      rw [List.length_cons, Nat.succ_mul] at ht
      rw [ih (t - k) (by omega)]
      have h0 : t / k = (t - k) / k + 1 := by
        conv => lhs; rw [show t = (t - k) + k by omega]
        exact Nat.add_div_right _ hpos
      have h1 : t % k = (t - k) % k := by
        conv => lhs; rw [show t = (t - k) + k by omega]
        exact Nat.add_mod_right _ _
      rw [h0, h1]
      simp only [List.getElem!_toArray, List.getElem!_cons_succ]
theorem own_holdsG {e : TypeId} {base g cap k : Nat} {l : List α} (hs : s.size = k) (hk : ∀ x, (enc x).length = k) (hrd : ∀ w M cs x, s.rd w M cs (f x) → cs = enc x)
    (h : Own s e w base M (.slice (some ⟨g, 0, none⟩) l.length cap) (l.map f)) : HoldsK enc k w g 0 l.toArray := by
  have hpos : 0 < k := by have := s.pos; omega
  obtain ⟨xs, hrow, hcs, -⟩ := h
  obtain ⟨rfl, -⟩ := cells_enc hrd hcs
  rw [List.length_map] at hrow
  intro t ht
  have ht' : t < l.length * k := by simpa using ht
  have hc := hrow.cells (g := g) rfl t _ (flat_getG hk hpos l t ht')
  refine ⟨?_, ?_⟩
  · show w.cell? ⟨g, 0 + t, none⟩ = some (id ((flatK enc k l.toArray)[t]!))
    unfold Addr.add at hc
    by_cases h0 : t = 0
    · subst h0; simpa using hc
    · rw [if_neg h0] at hc; exact hc
  · rcases hrow.2 with ⟨hv, _⟩ | ⟨g', cap', cur, hv, _, hh, _⟩
    · cases hv
    · cases hv
      simp [World.frozen?, hh]
theorem sortWorld_grownG (w : World) (g n k : Nat) (d : Array α) (os : Array Obj) : w.grownBy (sortWorldK enc k w g 0 n d os) (some g) := by
  refine ⟨rfl, rfl, rfl, by simp [sortWorldK, putRowK, putRow, mapBlock, ahead], fun k hk hne => ?_⟩
  simp only [sortWorldK, grow, putRowK, putRow, mapBlock, ahead]
  rw [Array.getElem?_append_left (by simpa using hk), Array.getElem?_modify, if_neg (fun e => hne (by rw [e]))]
  rfl
theorem sortWorld_atG (w : World) (g n k : Nat) (d : Array α) (os : Array Obj) {cur : Array Value} {e : TypeId} (h : w.heap[g]? = some (.cells cur e (0, 0))) :
    (sortWorldK enc k w g 0 n d os).heap[g]? = some (.cells (putCells id 0 (flatK enc k d) cur) e (0, 0)) := by
  have hlt : g < w.heap.size := (Array.getElem?_eq_some_iff.1 h).1
  simp only [sortWorldK, grow, putRowK, putRow, mapBlock, ahead]
  rw [Array.getElem?_append_left (by simpa using hlt), Array.getElem?_modify, if_pos rfl, show (Sort.ahead w n).heap[g]? = _ from h]
  rfl
theorem sort_ownG {e : TypeId} {base g cap n k : Nat} {l : List α} {d : Array α} {os : Array Obj} (hs : s.size = k) (hk : ∀ x, (enc x).length = k) (hrd : ∀ w M cs x, s.rd w M cs (f x) → cs = enc x)
    (h : Own s e w base M (.slice (some ⟨g, 0, none⟩) l.length cap) (l.map f)) (hp : d.toList.Perm l) :
    Own s e (sortWorldK enc k w g 0 n d os) base M (.slice (some ⟨g, 0, none⟩) l.length cap) (d.toList.map f) := by
  have hpos : 0 < k := by have := s.pos; omega
  obtain ⟨xs, hrow, hcs, hM⟩ := h
  obtain ⟨rfl, hok⟩ := cells_enc hrd hcs
  have hgr := sortWorld_grownG (enc := enc) w g n k d os
  have hdl : d.toList.length = l.length := hp.length_eq
  have hds : d.size = l.length := by rw [← hdl, Array.length_toList]
  have hkp : Keeps M w (sortWorldK enc k w g 0 n d os) := (Keeps.of_grown hgr).mono fun n hn => ⟨(hM n hn).1, fun e => (hM n hn).2 (by rw [e]; rfl)⟩
  refine ⟨d.toList.flatMap enc, ⟨by rw [flat_lenG hk, List.length_map, hs], ?_⟩, cells_of_enc fun x hx => s.keep (hok x (hp.subset hx)) hkp, fun n hn => ⟨Nat.lt_of_lt_of_le (hM n hn).1 hgr.size, (hM n hn).2⟩⟩
  rw [List.length_map] at hrow ⊢
  rcases hrow.2 with ⟨hv, _⟩ | ⟨g', cap', cur, hv, hbg, hh, hnc, hcm, hcz, htake⟩
  · cases hv
  · cases hv
    rw [hs] at hcz
    refine .inr ⟨g, cap, _, by rw [hdl], hbg, sortWorld_atG w g n k d os hh, by rw [hdl]; exact hnc, hcm, by rw [hs]; simp [putCells]; exact hcz, ?_⟩
    apply List.ext_getElem?
    intro t
    rw [hdl, hs]
    have hle : l.length * k ≤ cap * k := Nat.mul_le_mul_right _ hnc
    by_cases ht : t < l.length * k
    · rw [List.getElem?_take_of_lt ht, Array.getElem?_toList]
      rw [flat_getG hk hpos d.toList t (by rw [hdl]; exact ht)]
      have htc : t < cur.size := by omega
      simp only [putCells, Array.getElem?_mapIdx, Array.getElem?_eq_getElem htc, Option.map_some]
      rw [if_pos ⟨Nat.zero_le _, by rw [size_flatK, hds]; omega⟩]
      simp
    · rw [List.getElem?_eq_none (by rw [List.length_take]; omega), List.getElem?_eq_none (by rw [flat_lenG hk, hdl]; omega)]
theorem permIn_permG {d d' : Array α} (h : PermIn 0 d.size d d') : d'.toList.Perm d.toList := by
  obtain ⟨h1, _, h3⟩ := h
  have e1 : d.extract 0 d.size = d := by simp
  have e2 : d'.extract 0 d.size = d' := by rw [← h1]; simp
  rw [e1, e2] at h3
  exact h3
theorem sortedIn_pairG {lt : α → α → Bool} {d : Array α} (h : SortedIn lt 0 d.size d) : d.toList.Pairwise fun x y => lt y x = false := by
  rw [List.pairwise_iff_getElem]
  intro i j hi hj hij
  rw [Array.length_toList] at hi hj
  have := h i j (Nat.zero_le _) hij hj
  rw [getElem!_pos d i hi, getElem!_pos d j hj] at this
  rw [Array.getElem_toList, Array.getElem_toList]
  exact this
end
end Go.Proofs.YtdmpdinaineiiaaDoor
