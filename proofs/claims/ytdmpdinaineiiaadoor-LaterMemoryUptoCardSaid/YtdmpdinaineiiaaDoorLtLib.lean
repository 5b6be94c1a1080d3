/- What the laws of later share: a copy of a path that is then written into; items as the document's. No condition but room. -/
import Derived.Test.YtdmpdinaineiiaaDoorAlive21
namespace Go.Proofs.YtdmpdinaineiiaaDoor
open Go.RowKit
set_option linter.unusedVariables false
set_option linter.unusedSimpArgs false
attribute [local go_sem] cell?_over frozen?_over lt_over le_over
theorem copyTextsG {A : Option Addr} {n c : Nat} {l : List ByteArray} (w : World) (h : Row Shape.str w (Old w) A n l) (hn : n ≤ 1000000000000) :
    Calls Tryd.prog 11 #[.slice A n c] w fun e w' => ∃ g c', e = .returned (.slice (some ⟨g, 0, none⟩) l.length c') ∧ Below w.heap.size w w' ∧ Own Shape.str 9 w' w.heap.size (fun _ => False) (.slice (some ⟨g, 0, none⟩) l.length c') l := by
  have hs := (Row.src (h.keep (Keeps.old_alloc w (.cells #[] 9)))).flat (M' := fun _ => False) flat_str
  have hl := Nat.le_of_eq h.1
  go_enter Tryd.func11, Tryd.ntmps11
  go_wp2_with (first
    | (at_builtin
       refine wpList_append_list (v := .slice (some ⟨w.heap.size, 0, none⟩) 0 0) rfl (.tmp 5) (.tmp 6) _ rfl elem_str rfl (Own.made Shape.str _ w _ (Nat.le_refl _)) rfl hs (fun _ h => h.elim) ?_ ?_ ?_ ?_
       · simp; omega
       · simp [maxLen]; omega
       · simp
       intro v' w1 hown hg hat))
  go_ret
  have hb : Below w.heap.size w w1 := ((Below.refl _ _).alloc (Nat.le_refl _) _).grown hg (by simp) (by simp [Value.ownBlock])
  have hvb : v'.ownBlock ≠ none := by rcases hat with e | e <;> rw [e] <;> simp [Value.ownBlock]
  have ho : Own Shape.str 9 w1 w.heap.size (fun _ => False) v' l := by simpa using hown
  rcases ho.form with ⟨hv, _⟩ | ⟨g, cap, hv, _⟩
  · exact absurd (by rw [hv]; rfl) hvb
  · subst hv
    exact ⟨g, cap, by first | rfl | simp, hb, ho⟩
theorem Row.mapS {α β : Type} {s : Shape α} {t : Shape β} {f : α → β} (hsz : s.size = t.size) (hrd : ∀ w M cs a, s.rd w M cs a → t.rd w M cs (f a)) {w : World} {M : Nat → Prop} {A : Option Addr} {n : Nat} {l : List α} (h : Row s w M A n l) : Row t w M A n (l.map f) := by
  refine ⟨by rw [List.length_map]; exact h.1, fun hn => ?_⟩
  obtain ⟨b, off, e, hb, hi⟩ := h.2 hn
  refine ⟨b, off, e, hb, fun i hil => ?_⟩
  have hil' : i < l.length := by rwa [List.length_map] at hil
  obtain ⟨es, hc, hr⟩ := hi i hil'
  rw [hsz] at hc
  exact ⟨es, hc, by rw [List.getElem_map]; exact hrd _ _ _ _ hr⟩
theorem ovI_item {w : World} {M : Nat → Prop} {cs : List Value} {o : OV} (h : Shape.OVI.rd w M cs o) : Shape.ItemD.rd w M cs o.d := by
  obtain ⟨rfl, ho⟩ := h
  obtain ⟨A, c, e, h1, _, h2, h3⟩ := ho.slice
  rw [e]
  exact ⟨A, o.d.parts.length, c, rfl, h2, h3, h1, ho.2.2.1⟩
theorem items_rd {w : World} {base : Nat} {M : Nat → Prop} {v : Value} {lo : List OV} (h : Own Shape.OVI 38 w base M v lo) : SliceRd Shape.ItemD w (Old w) v (lo.map (·.d)) := by
  obtain ⟨A, n, c, e, h1, h2, hr⟩ := h.rd_old
  exact ⟨A, n, c, e, h1, h2, Row.mapS (s := Shape.OVI) (t := Shape.ItemD) (f := fun o : OV => o.d) rfl (fun _ _ _ _ h => ovI_item h) hr⟩
theorem small_put {r : List ItemD} (h : SmallI r) {d : ItemD} (hd : sizeAll d.parts ≤ 1048576) : SmallI (putI' r d) := fun x hx => by
  unfold putI' at hx
  rcases List.mem_cons.1 ((insertI_perm d _).subset hx) with rfl | hx
  · exact hd
  · exact h x (List.mem_filter.1 hx).1
theorem len_put (r : List ItemD) (d : ItemD) : (putI' r d).length ≤ r.length + 1 := by
  unfold putI'
  rw [(insertI_perm d _).length_eq, List.length_cons]
  have := List.length_filter_le (fun x : ItemD => !decide (x.parts = d.parts)) r
  omega
theorem small_drop {r : List ItemD} (h : SmallI r) (dir : List ByteArray) : SmallI (dropI' r dir) := fun x hx => h x (List.mem_filter.1 hx).1
theorem len_drop (r : List ItemD) (dir : List ByteArray) : (dropI' r dir).length ≤ r.length := List.length_filter_le _ _
/-- the document's list, behind a round -/
structure LRow (X : List Nat) (w : World) (A : Option Addr) (n c : Nat) (r : List ItemD) : Prop where
  row : Row Shape.ItemD w (Out X w) A n r
  nc : n ≤ c
  cm : c ≤ maxLen
theorem LRow.grown {X : List Nat} {w w' : World} {A : Option Addr} {n c : Nat} {r : List ItemD} (h : LRow X w A n c r) {row : Option Nat} (hg : w.grownBy w' row) (hr : ∀ k, row = some k → k ∈ X) : LRow X w' A n c r :=
  ⟨(h.row.keep ((Keeps.of_grown hg).mono fun n hn => ⟨hn.1, fun e => hn.2 (hr n e.symm)⟩)).more fun n hn => ⟨Nat.lt_of_lt_of_le hn.1 hg.size, hn.2⟩, h.nc, h.cm⟩
theorem LRow.below {X : List Nat} {w w' : World} {A : Option Addr} {n c : Nat} {r : List ItemD} (h : LRow X w A n c r) (hb : Below w.heap.size w w') : LRow X w' A n c r := h.grown (grownBy_of_below hb) (fun _ e => by cases e)
theorem LRow.excl {X : List Nat} {w w' : World} {A : Option Addr} {n c : Nat} {r : List ItemD} (h : LRow X w A n c r) (hb : Below w.heap.size w w') {g : Nat} (hg : w.heap.size ≤ g) : LRow (g :: X) w' A n c r :=
  ⟨(h.row.keep (Keeps.of_below hb |>.mono fun n hn => hn.1)).more fun n hn => ⟨Nat.lt_of_lt_of_le hn.1 hb.size, fun e => by
    rcases List.mem_cons.1 e with rfl | e
    · have := hn.1; omega
    · exact hn.2 e⟩, h.nc, h.cm⟩
theorem LRow.less {X : List Nat} {w : World} {A : Option Addr} {n c g : Nat} {r : List ItemD} (h : LRow (g :: X) w A n c r) : LRow X w A n c r := ⟨h.row.more fun n hn => ⟨hn.1, fun e => hn.2 (List.mem_cons_of_mem _ e)⟩, h.nc, h.cm⟩
theorem LRow.old {X : List Nat} {w : World} {A : Option Addr} {n c : Nat} {r : List ItemD} (h : LRow X w A n c r) : Row Shape.ItemD w (Old w) A n r := h.row.more fun n hn => hn.1
end Go.Proofs.YtdmpdinaineiiaaDoor
