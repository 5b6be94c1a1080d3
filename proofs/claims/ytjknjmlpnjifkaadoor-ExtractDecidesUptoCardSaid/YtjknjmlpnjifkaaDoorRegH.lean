/- A region that draws its order, whose operations may stand behind guards, and may write, as long as a relation between worlds is kept by all of them and what each one has made stays under it: one walk of the text's order serves every order. No condition. -/
import Derived.Test.YtjknjmlpnjifkaaDoorRegG
namespace Go.Proofs.YtjknjmlpnjifkaaDoor
open Go.RowKit
set_option linter.unusedVariables false
set_option linter.unusedSimpArgs false
set_option linter.unusedSectionVars false

/-- what an operation does: nothing where its guard says so -/
def noSkip : Result Next → Result Next
  | .ok .skip W => .ok (.value undef) W
  | r => r
def gop (P : Program) (ops : Array Oper) (a : Act) (o : Oper) (W : World) : Result Next := if Region.wanted o (yielded ops a.tmps) = true then noSkip ((execOp a.eval o).run P W) else .ok (.value undef) W
theorem wpOp_gop {P : Program} {ops : Array Oper} {Q : Exit → Act → World → Prop} {i : Nat} {o : Oper} {K : Act → World → Prop} {a : Act} {W : World} (ho : ops[i]? = some o) (h : o.upon P a K Q (gop P ops a o W)) : wpOp P ops Q i K a W := by
  unfold wpOp
  simp only [ho]
  unfold gop at h
  split at h
  · next hw =>
    rw [if_pos hw]
    refine .inl ?_
    unfold Oper.wp
    generalize (execOp a.eval o).run P W = r at h ⊢
    cases r with
    | ok n W' => cases n <;> exact h
    | halt x W' => exact h
  · next hw => rw [if_neg hw]; exact h
theorem gop_put {P : Program} {ops : Array Oper} {W : World} (o : Oper) (hs : ∀ cs b, o.op ≠ .select cs b) (a : Act) (d : Option Tmp) (v : Value) (h : ∀ e, d = some e → e ∉ o.looksAt ops) : gop P ops (a.put d v) o W = gop P ops a o W := by
  unfold gop
  rw [wanted_put o a d v h, execOp_put o hs a d v h]
/-- the walk in the text's order -/
def wpH (P : Program) (md : Region.Mode) (ops : Array Oper) (R : World → World → Prop) (w0 : World) (rets : List (Nat × Made)) (E : Act → World → Prop) : List (Nat × Oper) → (Nat → World → Prop) → Act → Prop
  | [], F, a => ∀ W, R w0 W → (∀ j, F j W) → E a W
  | (k, o) :: rest, F, a => match rets.lookup k with
    | none => ∃ v, (∀ W, R w0 W → (∀ j, befB md ops ops.size j k = true → F j W) → gop P ops a o W = .ok (.value v) W) ∧ wpH P md ops R w0 rets E rest F (a.put o.dst v)
    | some m => (∀ W, R w0 W → (∀ j, befB md ops ops.size j k = true → F j W) → m.upon P R W (gop P ops a o W)) ∧ ∀ x, wpH P md ops R w0 rets E rest (upd F k (m.Fact x)) (a.put o.dst (m.enc x))
section
variable {P : Program} {md : Region.Mode} {ops : Array Oper} {R : World → World → Prop} {w0 : World} {rets : List (Nat × Made)} {E : Act → World → Prop}
theorem wpH_nil {F : Nat → World → Prop} {a : Act} : wpH P md ops R w0 rets E [] F a = ∀ W, R w0 W → (∀ j, F j W) → E a W := by unfold wpH; rfl
theorem wpH_d {k : Nat} {o : Oper} {rest : List (Nat × Oper)} {F : Nat → World → Prop} {a : Act} (h : rets.lookup k = none) : wpH P md ops R w0 rets E ((k, o) :: rest) F a =
    ∃ v, (∀ W, R w0 W → (∀ j, befB md ops ops.size j k = true → F j W) → gop P ops a o W = .ok (.value v) W) ∧ wpH P md ops R w0 rets E rest F (a.put o.dst v) := by
  conv => lhs; unfold wpH
  rw [h]
theorem wpH_n {k : Nat} {o : Oper} {rest : List (Nat × Oper)} {F : Nat → World → Prop} {a : Act} {m : Made} (h : rets.lookup k = some m) : wpH P md ops R w0 rets E ((k, o) :: rest) F a =
    ((∀ W, R w0 W → (∀ j, befB md ops ops.size j k = true → F j W) → m.upon P R W (gop P ops a o W)) ∧ ∀ x, wpH P md ops R w0 rets E rest (upd F k (m.Fact x)) (a.put o.dst (m.enc x))) := by
  conv => lhs; unfold wpH
  rw [h]
/-- an operation that makes memory, taken ahead of others that are apart from it -/
theorem hoistH_n {j : Nat} {oj : Oper} {m : Made} (hm : rets.lookup j = some m) (hsj : ∀ cs b, oj.op ≠ .select cs b) {l2 : List (Nat × Oper)} : ∀ (l1 : List (Nat × Oper)) (F : Nat → World → Prop) (a : Act),
    (∀ p ∈ l1, Far md ops p.1 j p.2 oj ∧ ∀ cs b, p.2.op ≠ .select cs b) → wpH P md ops R w0 rets E (l1 ++ (j, oj) :: l2) F a →
    (∀ W, R w0 W → (∀ k, befB md ops ops.size k j = true → F k W) → m.upon P R W (gop P ops a oj W)) ∧ ∀ x, wpH P md ops R w0 rets E (l1 ++ l2) (upd F j (m.Fact x)) (a.put oj.dst (m.enc x))
  | [], F, a, _, h => by rw [List.nil_append, wpH_n hm] at h; exact h
  | (i, oi) :: l1, F, a, hf, h => by
    obtain ⟨hF, hsi⟩ := hf (i, oi) (by simp)
    simp only at hF hsi
    have hf' := fun p (hp : p ∈ l1) => hf p (List.mem_cons_of_mem _ hp)
    rw [List.cons_append] at h
    cases hi : rets.lookup i with
    | none =>
      rw [wpH_d hi] at h
      obtain ⟨v, hv, hT⟩ := h
      obtain ⟨g1, g2⟩ := hoistH_n hm hsj l1 F _ hf' hT
      simp only [gop_put oj hsj a oi.dst v hF.h1] at g1
      refine ⟨g1, fun x => ?_⟩
      rw [List.cons_append, wpH_d hi]
      refine ⟨v, fun W q1 q2 => ?_, ?_⟩
      · rw [gop_put oi hsi a oj.dst _ hF.h3]
        exact hv W q1 (dep_un hF.b2 q2)
      · rw [← Act.put_comm a v _ hF.h2]; exact g2 x
    | some mi =>
      rw [wpH_n hi] at h
      obtain ⟨hv, hT⟩ := h
      have g := fun y => hoistH_n hm hsj l1 _ _ hf' (hT y)
      refine ⟨fun W q1 q2 => ?_, fun x => ?_⟩
      · have := (g mi.x0).1 W q1 (dep_upd hF.b1 q2)
        rwa [gop_put oj hsj a oi.dst _ hF.h1] at this
      · rw [List.cons_append, wpH_n hi]
        refine ⟨fun W q1 q2 => ?_, fun y => ?_⟩
        · rw [gop_put oi hsi a oj.dst _ hF.h3]
          exact hv W q1 (dep_un hF.b2 q2)
        · rw [← Act.put_comm a _ _ hF.h2, upd_comm (Ne.symm hF.ne)]; exact (g y).2 x
/-- an operation that only reads, likewise -/
theorem hoistH_d {j : Nat} {oj : Oper} (hm : rets.lookup j = none) (hsj : ∀ cs b, oj.op ≠ .select cs b) {l2 : List (Nat × Oper)} {W : World} (hW : R w0 W) : ∀ (l1 : List (Nat × Oper)) (F : Nat → World → Prop) (a : Act),
    (∀ p ∈ l1, Far md ops p.1 j p.2 oj ∧ ∀ cs b, p.2.op ≠ .select cs b) → (∀ k, befB md ops ops.size k j = true → F k W) → wpH P md ops R w0 rets E (l1 ++ (j, oj) :: l2) F a →
    ∃ v, gop P ops a oj W = .ok (.value v) W ∧ wpH P md ops R w0 rets E (l1 ++ l2) F (a.put oj.dst v)
  | [], F, a, _, hd, h => by
    rw [List.nil_append, wpH_d hm] at h
    obtain ⟨v, hv, hT⟩ := h
    exact ⟨v, hv W hW hd, hT⟩
  | (i, oi) :: l1, F, a, hf, hd, h => by
    obtain ⟨hF, hsi⟩ := hf (i, oi) (by simp)
    simp only at hF hsi
    have hf' := fun p (hp : p ∈ l1) => hf p (List.mem_cons_of_mem _ hp)
    rw [List.cons_append] at h
    cases hi : rets.lookup i with
    | none =>
      rw [wpH_d hi] at h
      obtain ⟨v, hv, hT⟩ := h
      obtain ⟨u, g1, g2⟩ := hoistH_d hm hsj hW l1 F _ hf' hd hT
      rw [gop_put oj hsj a oi.dst v hF.h1] at g1
      refine ⟨u, g1, ?_⟩
      rw [List.cons_append, wpH_d hi]
      refine ⟨v, fun W q1 q2 => ?_, ?_⟩
      · rw [gop_put oi hsi a oj.dst _ hF.h3]
        exact hv W q1 q2
      · rw [← Act.put_comm a v _ hF.h2]; exact g2
    | some mi =>
      rw [wpH_n hi] at h
      obtain ⟨hv, hT⟩ := h
      have g := fun y => hoistH_d hm hsj hW l1 _ _ hf' (dep_upd hF.b1 hd) (hT y)
      obtain ⟨u, g1, g2⟩ := g mi.x0
      rw [gop_put oj hsj a oi.dst _ hF.h1] at g1
      refine ⟨u, g1, ?_⟩
      rw [List.cons_append, wpH_n hi]
      refine ⟨fun W q1 q2 => ?_, fun y => ?_⟩
      · rw [gop_put oi hsi a oj.dst _ hF.h3]
        exact hv W q1 q2
      · obtain ⟨u', k1, k2⟩ := g y
        rw [gop_put oj hsj a oi.dst _ hF.h1, g1] at k1
        have : u = u' := by injection k1 with k1; injection k1
        rw [← Act.put_comm a _ _ hF.h2, this]; exact k2
end
/-- what is looked up of a region's form -/
structure RegFormH (md : Region.Mode) (ops : Array Oper) : Prop where
  sel : Region.noSelect ops = true
  back : ∀ (k : Nat) (o : Oper), ops[k]? = some o → ∀ e ∈ o.after, Region.binds md e = true → e.on < k
  apart : ∀ (i j : Nat) (oi oj : Oper), ops[i]? = some oi → ops[j]? = some oj → i < j → befB md ops ops.size i j = true ∨ oi.apart ops oj = true
def formH (md : Region.Mode) (ops : Array Oper) : Bool :=
  Region.noSelect ops && (List.range ops.size).all fun j => match ops[j]? with
    | none => true
    | some oj => (oj.after.all fun e => !Region.binds md e || decide (e.on < j)) && (List.range j).all fun i => match ops[i]? with
      | none => true
      | some oi => oi.apart ops oj || befB md ops ops.size i j
theorem formH_of {md : Region.Mode} {ops : Array Oper} (h : formH md ops = true) : RegFormH md ops := by
  unfold formH at h
  rw [Bool.and_eq_true, List.all_eq_true] at h
  obtain ⟨h0, h⟩ := h
  have hh : ∀ j oj, ops[j]? = some oj → (oj.after.all fun e => !Region.binds md e || decide (e.on < j)) = true ∧ ((List.range j).all fun i => match ops[i]? with
      | none => true
      | some oi => oi.apart ops oj || befB md ops ops.size i j) = true := fun j oj ho => by
    have := h j (List.mem_range.2 (Array.getElem?_eq_some_iff.1 ho).1)
    simp only [ho, Bool.and_eq_true] at this
    exact ⟨this.1, this.2⟩
  refine ⟨h0, fun k o ho e he hb => ?_, fun i j oi oj hi hj hij => ?_⟩
  · have := Array.all_eq_true_iff_forall_mem.1 (hh k o ho).1 e he
    simpa [hb] using this
  · have := List.all_eq_true.1 (hh j oj hj).2 i (List.mem_range.2 hij)
    simp only [hi, Bool.or_eq_true] at this
    exact this.symm
section
variable {P : Program} {md : Region.Mode} {ops : Array Oper}
theorem bef_ltH (hF : RegFormH md ops) : ∀ (f k i : Nat), befB md ops f k i = true → k < i
  | 0, _, _, h => by simp [befB] at h
  | f + 1, k, i, h => by
    unfold befB at h
    cases ho : ops[i]? with
    | none => simp [ho] at h
    | some o =>
      simp only [ho] at h
      obtain ⟨e, he, hb⟩ := Array.any_eq_true'.1 h
      simp only [Bool.and_eq_true, Bool.or_eq_true, beq_iff_eq] at hb
      have hlt := hF.back i o ho e he hb.1
      rcases hb.2 with h1 | h1
      · omega
      · have := bef_ltH hF f k e.on h1; omega
theorem closed_setH (hF : RegFormH md ops) {listed : Array Bool} (hs : listed.size = ops.size) (hc : Closed md ops listed) {i : Nat} {o : Oper} (ho : ops[i]? = some o) (hd : ∀ e ∈ o.after, Region.binds md e = true → listed.getD e.on false = true) : Closed md ops (listed.setIfInBounds i true) := by
  intro k ok hk hl e he hb
  by_cases hki : k = i
  · subst hki
    rw [ho] at hk
    obtain rfl : o = ok := by injection hk
    exact getD_set_true (hd e he hb)
  · rw [getD_set_ne false (Ne.symm hki)] at hl
    exact getD_set_true (hc k ok hk hl e he hb)
/-- something that has not come up may come up -/
theorem ready_someH (hF : RegFormH md ops) {listed : Array Bool} (hs : listed.size = ops.size) : ∀ (n k : Nat) (o : Oper), k < n → ops[k]? = some o → listed.getD k true = false → Region.ready md ops listed ≠ []
  | 0, _, _, h, _, _ => absurd h (Nat.not_lt_zero _)
  | n + 1, k, o, hn, ho, hl => by
    by_cases hall : ∀ e ∈ o.after, Region.binds md e = true → listed.getD e.on false = true
    · intro h0
      have : k ∈ Region.ready md ops listed := mem_ready.2 ⟨hl, o, ho, hall⟩
      rw [h0] at this; cases this
    · have : ∃ e ∈ o.after, Region.binds md e = true ∧ listed.getD e.on false = false := by
        refine Classical.byContradiction fun hno => hall fun e he hb => ?_
        cases hc : listed.getD e.on false with
        | true => rfl
        | false => exact absurd ⟨e, he, hb, hc⟩ hno
      obtain ⟨e, he, hb, hf⟩ := this
      have hlt := hF.back k o ho e he hb
      have hks : k < ops.size := (Array.getElem?_eq_some_iff.1 ho).1
      have hes : e.on < ops.size := by omega
      refine ready_someH hF hs n e.on ops[e.on] (by omega) (Array.getElem?_eq_getElem hes) ?_
      rw [getD_ft (by omega)]; exact hf
theorem far_ofH (hF : RegFormH md ops) {listed : Array Bool} (hc : Closed md ops listed) {t : Option Nat} {l1 l2 : List (Nat × Oper)} {i : Nat} {o : Oper} (hs : listed.size = ops.size) (h : Rest ops listed t (l1 ++ (i, o) :: l2)) (hd : ∀ e ∈ o.after, Region.binds md e = true → listed.getD e.on false = true) :
    ∀ p ∈ l1, Far md ops p.1 i p.2 o ∧ ∀ cs b, p.2.op ≠ .select cs b := by
  rintro ⟨k, ok⟩ hp
  obtain ⟨hpw, hm⟩ := h
  have hki : k < i := (List.pairwise_append.1 hpw).2.2 _ hp (i, o) (by simp)
  obtain ⟨hk1, hk2, _⟩ := (hm k ok).1 (by simp [hp])
  obtain ⟨hi1, _, _⟩ := (hm i o).1 (by simp)
  have hks : k < listed.size := by rw [hs]; exact (Array.getElem?_eq_some_iff.1 hk1).1
  have b1 : befB md ops ops.size k i = false := by
    cases hb : befB md ops ops.size k i with
    | false => rfl
    | true =>
      have := bef_listed hc _ k i o hi1 hd hb
      rw [getD_ft hks, this] at hk2; cases hk2
  have b2 : befB md ops ops.size i k = false := by
    cases hb : befB md ops ops.size i k with
    | false => rfl
    | true => have := bef_ltH hF _ _ _ hb; omega
  have hap := (hF.apart k i ok o hk1 hi1 hki).resolve_left (by rw [b1]; exact Bool.false_ne_true)
  obtain ⟨a1, a2, a3⟩ := Oper.apart_spec hap
  exact ⟨⟨by omega, b1, b2, a1, a2, a3⟩, fun cs b => Region.noSelect_spec hF.sel k ok cs b hk1⟩
theorem any_of_wpH {Q : Exit → Act → World → Prop} {R : World → World → Prop} {w0 : World} {rets : List (Nat × Made)} (hF : RegFormH md ops) (hrr : ∀ w, R w w) (hrt : ∀ a b c, R a b → R b c → R a c) (hst : Stays R rets) : ∀ (fuel : Nat) (l : List (Nat × Oper)) (listed : Array Bool) (F : Nat → World → Prop) (a : Act) (W : World),
    l.length ≤ fuel → listed.size = ops.size → Closed md ops listed → Rest ops listed none l → wpH P md ops R w0 rets (fun a W => Q .normal a W) l F a → R w0 W → (∀ j, F j W) → (∀ j W W', R W W' → F j W → F j W') → wpAny P md ops Q fuel listed a W := by
  intro fuel
  induction fuel with
  | zero =>
    intro l listed F a W hl hs hc hR h hW hf hfs
    obtain rfl : l = [] := List.eq_nil_of_length_eq_zero (by omega)
    have hnone : Region.ready md ops listed = [] := by
      rw [List.eq_nil_iff_forall_not_mem]
      intro k hk
      obtain ⟨h0, o, ho, _⟩ := mem_ready.1 hk
      have := (hR.2 k o).2 ⟨ho, h0, fun _ hu => nomatch hu⟩
      cases this
    rw [wpH_nil] at h
    exact ⟨hnone, h W hW hf⟩
  | succ fuel ih =>
    intro l listed F a W hl hs hc hR h hW hf hfs
    refine ⟨fun h0 => ?_, fun i hi => ?_⟩
    · cases l with
      | nil => rw [wpH_nil] at h; exact h W hW hf
      | cons p l =>
        obtain ⟨k, o⟩ := p
        obtain ⟨g1, g2, _⟩ := (hR.2 k o).1 (by simp)
        exact absurd h0 (ready_someH hF hs (k + 1) k o (by omega) g1 g2)
    · obtain ⟨h0, o, ho, hd⟩ := mem_ready.1 hi
      obtain ⟨l1, l2, rfl⟩ := List.append_of_mem ((hR.2 i o).2 ⟨ho, h0, fun _ hu => nomatch hu⟩)
      have hfar := far_ofH hF hc hs hR hd
      have hsel : ∀ cs b, o.op ≠ .select cs b := fun cs b => Region.noSelect_spec hF.sel i o cs b ho
      have hR' := hR.set hs
      have hs' : (listed.setIfInBounds i true).size = ops.size := by simpa using hs
      have hc' := closed_setH hF hs hc ho hd
      have hl' : (l1 ++ l2).length ≤ fuel := by simp at hl ⊢; omega
      cases hm : rets.lookup i with
      | none =>
        obtain ⟨v, g1, g2⟩ := hoistH_d hm hsel hW l1 F a hfar (fun k _ => hf k) h
        refine wpOp_gop ho ?_
        rw [g1]
        exact ih _ _ F _ W hl' hs' hc' hR' g2 hW hf hfs
      | some m =>
        obtain ⟨g1, g2⟩ := hoistH_n hm hsel l1 F a hfar h
        have g3 := g1 W hW fun k _ => hf k
        have fin : ∀ x W', R W W' → m.Fact x W' → wpAny P md ops Q fuel (listed.setIfInBounds i true) (a.put o.dst (m.enc x)) W' := fun x W' q1 q2 => by
          refine ih _ _ (upd F i (m.Fact x)) _ W' hl' hs' hc' hR' (g2 x) (hrt _ _ _ hW q1) (fun j => ?_) (fun j W1 W2 r1 r2 => ?_)
          · by_cases hj : j = i
            · subst hj; rw [upd_at]; exact q2
            · rw [upd_ne hj]; exact hfs j W W' q1 (hf j)
          · by_cases hj : j = i
            · subst hj; rw [upd_at] at r2 ⊢; exact hst _ m hm x W1 W2 r1 r2
            · rw [upd_ne hj] at r2 ⊢; exact hfs j W1 W2 r1 r2
        refine wpOp_gop ho ?_
        generalize gop P ops a o W = r at g3 ⊢
        cases r with
        | ok n W' =>
          cases n <;> simp only [Made.upon] at g3 <;> simp only [Oper.upon]
          case value v => obtain ⟨x, rfl, q1, q2⟩ := g3; exact fin x W' q1 q2
          case enter f args => exact g3.mono fun e W'' ⟨x, he, q1, q2⟩ => by subst he; exact fin x W'' q1 q2
        | halt x W' => simp only [Made.upon] at g3
end
section
variable {P : Program} {id : Nat} {Q : Exit → Act → World → Prop} {a : Act} {w : World} {l : List Oper} {rets : List (Nat × Made)} {R : World → World → Prop}
theorem wp_region_H (R : World → World → Prop) (rets : List (Nat × Made)) (hm : P.follows .mixedOrders = true) (hB : formH .any l.toArray = true) (hrr : ∀ w, R w w) (hrt : ∀ a b c, R a b → R b c → R a c) (hdr : R w { w with drawn := w.drawn + 1 }) (hst : Stays R rets)
    (h : wpH P .any l.toArray R w rets (fun a W => Q .normal a W) (number 0 l) (fun _ _ => True) a) : (Code.region id l.toArray true).wp P Q a w :=
  wp_region_any hm (any_of_wpH (formH_of hB) hrr hrt hst _ _ _ _ _ _ (by simp [number_len]) (by simp) (closed_start _) (rest_number l) h hdr (fun _ => trivial) (fun _ _ _ _ _ => trivial))
end
/-! ### the steps -/
section
variable {P : Program} {md : Region.Mode} {ops : Array Oper} {R : World → World → Prop} {w : World} {rets : List (Nat × Made)} {E : Act → World → Prop} {k : Nat} {o : Oper} {l : List Oper} {F : Nat → World → Prop} {a : Act}
theorem gop_yes {W : World} (hg : Region.wanted o (yielded ops a.tmps) = true) {v : Value} {W' : World} (h : (execOp a.eval o).run P W = .ok (.value v) W') : gop P ops a o W = .ok (.value v) W' := by
  unfold gop; rw [if_pos hg, h]; rfl
theorem h_end (h : ∀ W, R w W → (∀ j, F j W) → E a W) : wpH P md ops R w rets E (number k []) F a := by
  unfold number
  rw [wpH_nil]
  exact h
/-- an operation whose guard says no -/
theorem h_no (hm : rets.lookup k = none) (hg : Region.wanted o (yielded ops a.tmps) = false) (h : wpH P md ops R w rets E (number (k + 1) l) F (a.put o.dst undef)) : wpH P md ops R w rets E (number k (o :: l)) F a := by
  rw [number_cons, wpH_d hm]
  exact ⟨undef, fun W _ _ => by unfold gop; rw [if_neg (by rw [hg]; decide)], h⟩
/-- one that looks at no world -/
theorem h_w (hm : rets.lookup k = none) (hg : Region.wanted o (yielded ops a.tmps) = true) (v : Value) (hv : ∀ W, (execOp a.eval o).run P W = .ok (.value v) W) (h : wpH P md ops R w rets E (number (k + 1) l) F (a.put o.dst v)) : wpH P md ops R w rets E (number k (o :: l)) F a := by
  rw [number_cons, wpH_d hm]
  exact ⟨v, fun W _ _ => gop_yes hg (hv W), h⟩
/-- one that reads what stays, or what operations ahead of it have made -/
theorem h_d (hm : rets.lookup k = none) (hg : Region.wanted o (yielded ops a.tmps) = true) (v : Value) (hv : ∀ W, R w W → (∀ j, befB md ops ops.size j k = true → F j W) → (execOp a.eval o).run P W = .ok (.value v) W) (h : wpH P md ops R w rets E (number (k + 1) l) F (a.put o.dst v)) : wpH P md ops R w rets E (number k (o :: l)) F a := by
  rw [number_cons, wpH_d hm]
  exact ⟨v, fun W q1 q2 => gop_yes hg (hv W q1 q2), h⟩
/-- a call -/
theorem h_call {m : Made} (hm : rets.lookup k = some m) (hg : Region.wanted o (yielded ops a.tmps) = true) (f : FuncId) (args : Array Value) (he : ∀ W, (execOp a.eval o).run P W = .ok (.enter f args) W)
    (hc : ∀ W, R w W → (∀ j, befB md ops ops.size j k = true → F j W) → Calls P f args W fun e W' => ∃ x, e = .returned (m.enc x) ∧ R W W' ∧ m.Fact x W')
    (h : ∀ x, wpH P md ops R w rets E (number (k + 1) l) (upd F k (m.Fact x)) (a.put o.dst (m.enc x))) : wpH P md ops R w rets E (number k (o :: l)) F a := by
  rw [number_cons, wpH_n hm]
  refine ⟨fun W q1 q2 => ?_, h⟩
  unfold gop
  rw [if_pos hg, he]
  exact hc W q1 q2
/-- one that writes or makes memory itself -/
theorem h_new {m : Made} (hm : rets.lookup k = some m) (hg : Region.wanted o (yielded ops a.tmps) = true)
    (hc : ∀ W, R w W → (∀ j, befB md ops ops.size j k = true → F j W) → ∃ x W', ((execOp a.eval o).run P W = .ok (.value (m.enc x)) W' ∨ ((execOp a.eval o).run P W = .ok .skip W' ∧ m.enc x = undef)) ∧ R W W' ∧ m.Fact x W')
    (h : ∀ x, wpH P md ops R w rets E (number (k + 1) l) (upd F k (m.Fact x)) (a.put o.dst (m.enc x))) : wpH P md ops R w rets E (number k (o :: l)) F a := by
  rw [number_cons, wpH_n hm]
  refine ⟨fun W q1 q2 => ?_, h⟩
  obtain ⟨x, W', h1, h2, h3⟩ := hc W q1 q2
  unfold gop
  rw [if_pos hg]
  rcases h1 with h1 | ⟨h1, h4⟩
  · rw [h1]; exact ⟨x, rfl, h2, h3⟩
  · rw [h1]; exact ⟨x, h4.symm, h2, h3⟩
/-- a store of a struct into a block that is known whole -/
theorem h_store {m : Made} (hm : rets.lookup k = some m) (hg : Region.wanted o (yielded ops a.tmps) = true) (ty : TypeId) (x y : Operand) (ho : o.op = .store ty x y) (g : Nat) (hx : a.eval x = .pointer (some ⟨g, 0, none⟩)) (x0 : m.X) (h0 : m.enc x0 = undef)
    (hy : a.eval y = .agg (a.eval y).cells) (hi : (P.info? ty).map (·.size) = some (a.eval y).cells.size) (h1 : (a.eval y).cells.toList.all (·.oneCell') = true)
    (hb : ∀ W, R w W → (∀ j, befB md ops ops.size j k = true → F j W) → ∃ (ty' : TypeId) (old : Array Value), Blk W g ty' old ∧ old.size = (a.eval y).cells.size ∧ ∀ W', Blk W' g ty' (a.eval y).cells → W.grownBy W' (some g) → W'.heap.size = W.heap.size → R W W' ∧ m.Fact x0 W')
    (h : ∀ x, wpH P md ops R w rets E (number (k + 1) l) (upd F k (m.Fact x)) (a.put o.dst (m.enc x))) : wpH P md ops R w rets E (number k (o :: l)) F a := by
  refine h_new hm hg (fun W q1 q2 => ?_) h
  obtain ⟨ty', old, hbl, hold, hk⟩ := hb W q1 q2
  clear hb
  generalize (a.eval y).cells = cs at *
  have g0 := hk (W.setRow g cs) (setRow_heap W g old _ ty' (0, 0) hbl) ⟨rfl, rfl, rfl, by simp, fun k _ hk => setRow_other W g k _ (fun e => hk (by rw [e]))⟩ (by simp)
  refine ⟨x0, W.setRow g cs, ?_, g0.1, g0.2⟩
  rw [h0]
  unfold execOp
  simp only [ho, hx, hy, Instr.storeAt, Instr.sureAddr, Sem.run_bind, Sem.run_pure, Result.andThen_ok, run_storeVar_row W g ty' ty old cs hbl hi hold (by simpa using h1)]
  first | exact .inl rfl | exact .inr ⟨rfl, rfl⟩ | exact .inr ⟨trivial, trivial⟩ | simp
/-- a load of a struct out of a block that is known whole -/
theorem h_load (hm : rets.lookup k = none) (hg : Region.wanted o (yielded ops a.tmps) = true) (ty : TypeId) (x : Operand) (ho : o.op = .load ty x) (g : Nat) (hx : a.eval x = .pointer (some ⟨g, 0, none⟩)) {t : TypeId} {cs : Array Value} (hw : Whole P ty cs.size)
    (hb : ∀ W, R w W → Blk W g t cs) (h : wpH P md ops R w rets E (number (k + 1) l) F (a.put o.dst (.agg cs))) : wpH P md ops R w rets E (number k (o :: l)) F a := by
  refine h_d hm hg (.agg cs) (fun W q1 _ => ?_) h
  obtain ⟨d, hu, hd⟩ := hw.parts
  have := run_loadVar_row (P := P) W g t ty cs (0, 0) d (hb W q1) hu (by revert hd; cases d <;> simp) hw.info
  unfold execOp
  simp only [ho, hx, Instr.loadAt, Instr.sureAddr, Sem.run_bind, Sem.run_pure, Result.andThen_ok, this]
end
/-- what was made of no value -/
def Made.stored (g : Nat) (t : TypeId) (cs : Array Value) : Made := ⟨Unit, (), fun _ => undef, fun _ W => Blk W g t cs⟩
theorem enc_stored (g : Nat) (t : TypeId) (cs : Array Value) (x : Unit) : (Made.stored g t cs).enc x = undef := rfl
/-- only block g may turn, and once it holds cs it stays -/
def GrB (g : Nat) (t : TypeId) (cs : Array Value) (w W : World) : Prop := w.grownBy W (some g) ∧ (Blk w g t cs → Blk W g t cs) ∧ ((∃ old, Blk w g t old ∧ old.size = cs.size) → ∃ old, Blk W g t old ∧ old.size = cs.size)
theorem grb_refl (g : Nat) (t : TypeId) (cs : Array Value) (w : World) : GrB g t cs w w := ⟨⟨rfl, rfl, rfl, Nat.le_refl _, fun _ _ _ => rfl⟩, id, id⟩
theorem grownBy_trans {a b c : World} {row : Option Nat} (h : a.grownBy b row) (k : b.grownBy c row) : a.grownBy c row :=
  ⟨k.os.trans h.os, k.tape.trans h.tape, k.output.trans h.output, Nat.le_trans h.size k.size, fun n hn hr => (k.block n (Nat.lt_of_lt_of_le hn h.size) hr).trans (h.block n hn hr)⟩
theorem grb_trans (g : Nat) (t : TypeId) (cs : Array Value) (a b c : World) (h : GrB g t cs a b) (k : GrB g t cs b c) : GrB g t cs a c := ⟨grownBy_trans h.1 k.1, fun x => k.2.1 (h.2.1 x), fun x => k.2.2 (h.2.2 x)⟩
theorem grb_draw (g : Nat) (t : TypeId) (cs : Array Value) (w : World) : GrB g t cs w { w with drawn := w.drawn + 1 } := ⟨⟨rfl, rfl, rfl, Nat.le_refl _, fun _ _ _ => rfl⟩, id, id⟩
theorem grb_below {g : Nat} {t : TypeId} {cs : Array Value} {w W : World} (h : Below w.heap.size w W) : GrB g t cs w W :=
  ⟨⟨h.os, h.tape, h.output, h.size, fun n hn _ => h.block n hn⟩, fun x => x.below h x.lt, fun ⟨old, x, y⟩ => ⟨old, x.below h x.lt, y⟩⟩
theorem grb_store {g : Nat} {t : TypeId} {cs : Array Value} {w W : World} (h : w.grownBy W (some g)) (hb : Blk W g t cs) : GrB g t cs w W := ⟨h, fun _ => hb, fun _ => ⟨cs, hb, rfl⟩⟩
theorem stored_stays (g : Nat) (t : TypeId) (cs : Array Value) : ∀ x W W', GrB g t cs W W' → (Made.stored g t cs).Fact x W → (Made.stored g t cs).Fact x W' := fun _ _ _ h k => h.2.1 k
theorem staysH_nil {R : World → World → Prop} : Stays R [] := fun k m h => by cases h
theorem staysH_cons {R : World → World → Prop} {p : Nat × Made} {r : List (Nat × Made)} (h1 : ∀ x W W', R W W' → p.2.Fact x W → p.2.Fact x W') (h2 : Stays R r) : Stays R (p :: r) := fun k m h => by
  obtain ⟨k', m'⟩ := p
  rw [List.lookup_cons] at h
  by_cases he : (k == k') = true
  · rw [he] at h; simp at h; subst h; exact h1
  · have : (k == k') = false := by simpa using he
    rw [this] at h
    exact h2 k m h
theorem oneH_stays {R : World → World → Prop} (v : Value) : ∀ x W W', R W W' → (Made.one v).Fact x W → (Made.one v).Fact x W' := fun _ _ _ _ _ => trivial
end Go.Proofs.YtjknjmlpnjifkaaDoor
