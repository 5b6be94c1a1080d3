/- A queue of later's, its values int: Items. No condition but room. -/
import Derived.Test.YtdmpdinaineiiaaDoorQI
import Derived.Test.YtdmpdinaineiiaaDoorOV
import Derived.Test.YtdmpdinaineiiaaDoorOrder
import Derived.Laws.MakeOwn
namespace Go.Proofs.YtdmpdinaineiiaaDoor
open Go.RowKit Go.Sort
set_option linter.unusedVariables false
set_option linter.unusedSimpArgs false
attribute [local go_sem] cell?_over frozen?_over lt_over le_over
def Shape.OVI : Shape OV where
  size := 2
  pos := by decide
  rd w M cs o := cs = [o.v, .int .i64 o.d.v] ∧ o.okB w M
  bulk _ := 1
  bpos _ := Nat.le_refl _
  len h := by rw [h.1]; rfl
  keep h k := ⟨h.1, h.2.keep k⟩
  more h k := ⟨h.1, h.2.more k⟩
  one h v hv := by
    rw [h.1] at hv
    simp only [List.mem_cons, List.not_mem_nil, or_false] at hv
    rcases hv with rfl | rfl
    · exact h.2.one
    · rfl
theorem elem_OVI : Elem Tryd.prog 34 38 Shape.OVI 32 := ⟨Tryd.underlying34, by kernel_rfl⟩
/-- items whose parts can be read behind a sort of block g -/
abbrev SubI (w : World) (g : Nat) := { o : OV // ∃ A c, o.v = .slice A o.d.parts.length c ∧ Row Shape.str w (fun n => n < w.heap.size ∧ n ≠ g) A o.d.parts.length o.d.parts ∧ o.d.parts.length ≤ 1048576 }
instance (w : World) (g : Nat) : Inhabited (SubI w g) := ⟨⟨⟨.slice none 0 0, ⟨[], 0⟩⟩, none, 0, rfl, Row.nil, by decide⟩⟩
section
variable {w : World} {g : Nat}
def encI (x : SubI w g) : List Value := [x.1.v, .int .i64 x.1.d.v]
def cfI (x y : SubI w g) : Int := ordL x.1.d.parts y.1.d.parts
theorem ltI (x y : SubI w g) : ltOf cfI x y = aheadL x.1.d.parts y.1.d.parts := by
  rw [← ordL_neg]; rfl
theorem swoI : SWO (ltOf (cfI (w := w) (g := g))) where
  irrefl x := by rw [ltI]; exact aheadL_irrefl _
  trans x y z h1 h2 := by rw [ltI] at *; exact aheadL_trans h1 h2
  ntrans x y z h1 h2 := by
    rw [ltI] at *
    cases h : aheadL x.1.d.parts z.1.d.parts with
    | false => rfl
    | true =>
      cases hzy : aheadL z.1.d.parts y.1.d.parts with
      | true => rw [aheadL_trans h hzy] at h1; cases h1
      | false => have := aheadL_tri h2 hzy; rw [this] at h1; rw [h1] at h; cases h
theorem cmpLaysI (size : Nat) : CmpLays Tryd.prog 37 #[] (encI (w := w) (g := g)) 2 cfI g 0 size w := by
  intro m os dk hdk x y
  have hk := (Keeps.of_grown (sortWorld_grownG (enc := encI) w g m 2 dk os)).mono (M' := fun n => n < w.heap.size ∧ n ≠ g) fun n hn => ⟨hn.1, fun e => hn.2 (by injection e)⟩
  have hsz := (sortWorld_grownG (enc := encI (w := w) (g := g)) w g m 2 dk os).size
  obtain ⟨x, A, c, hv, hr, hn⟩ := x
  obtain ⟨y, A', c', hv', hr', hn'⟩ := y
  have e1 : (encI (w := w) (g := g) ⟨x, A, c, hv, hr, hn⟩).toArray = #[.slice A x.d.parts.length c, .int .i64 x.d.v] := by simp only [encI, hv]
  have e2 : (encI (w := w) (g := g) ⟨y, A', c', hv', hr', hn'⟩).toArray = #[.slice A' y.d.parts.length c', .int .i64 y.d.v] := by simp only [encI, hv']
  rw [e1, e2]
  exact orderI _ _ _ ((hr.keep hk).more fun n hn => Nat.lt_of_lt_of_le hn.1 hsz) ((hr'.keep hk).more fun n hn => Nat.lt_of_lt_of_le hn.1 hsz) (by omega) (by omega)
theorem liftI : ∀ {lo : List OV}, (∀ o ∈ lo, ∃ A c, o.v = .slice A o.d.parts.length c ∧ Row Shape.str w (fun n => n < w.heap.size ∧ n ≠ g) A o.d.parts.length o.d.parts ∧ o.d.parts.length ≤ 1048576) → ∃ l : List (SubI w g), l.map (·.1) = lo
  | [], _ => ⟨[], rfl⟩
  | o :: lo, h => by
    obtain ⟨l, hl⟩ := liftI (lo := lo) fun x hx => h x (List.mem_cons_of_mem _ hx)
    exact ⟨⟨o, h o (by simp)⟩ :: l, by rw [List.map_cons, hl]⟩
theorem cells_okI {M : Nat → Prop} : ∀ {xs : List Value} {lo : List OV}, Cells Shape.OVI w M xs lo → ∀ o ∈ lo, o.okB w M
  | _, [], _ => fun _ h => by cases h
  | _, a :: lo, h => by
    obtain ⟨es, rest, e, h1, h2⟩ := h
    intro o ho
    rcases List.mem_cons.1 ho with rfl | ho
    · exact h1.2
    · exact cells_okI h2 o ho
end
theorem sortI {w : World} {base g cap : Nat} {M : Nat → Prop} {lo : List OV} (h : Own Shape.OVI 38 w base M (.slice (some ⟨g, 0, none⟩) lo.length cap) lo) (hl : lo.length ≤ 1000000000) :
    Calls Tryd.prog 36 #[.slice (some ⟨g, 0, none⟩) lo.length cap, .func (.func 37) #[] #[]] w fun e w' => e = .returned (.tuple #[]) ∧ ∃ lo' : List OV, lo'.Perm lo ∧ lo'.Pairwise (fun x y => aheadL y.d.parts x.d.parts = false) ∧ Own Shape.OVI 38 w' base M (.slice (some ⟨g, 0, none⟩) lo'.length cap) lo' ∧ w.grownBy w' (some g) := by
  have hlt : g < w.heap.size := (h.lt g rfl).2
  have hok : ∀ o ∈ lo, ∃ A c, o.v = .slice A o.d.parts.length c ∧ Row Shape.str w (fun n => n < w.heap.size ∧ n ≠ g) A o.d.parts.length o.d.parts ∧ o.d.parts.length ≤ 1048576 := by
    obtain ⟨xs, h1, h2, h3⟩ := h
    intro o ho
    obtain ⟨A, c, e1, e2, e3, _, _⟩ := (cells_okI h2 o ho).slice
    exact ⟨A, c, e1, e2.more fun n hn => ⟨(h3 n hn).1, fun e => (h3 n hn).2 (by rw [e]; rfl)⟩, e3⟩
  obtain ⟨l, rfl⟩ := liftI (w := w) (g := g) hok
  rw [List.length_map] at h hl ⊢
  have hrd : ∀ (W : World) (M : Nat → Prop) cs (x : SubI w g), Shape.OVI.rd W M cs x.1 → cs = encI x := fun W M cs x hx => hx.1
  have hk : ∀ x : SubI w g, (encI x).length = 2 := fun _ => rfl
  have h1 : ∀ x : SubI w g, ∀ v ∈ encI x, v.oneCell' = true := fun x v hv => by
    obtain ⟨o, A, c, hv', _⟩ := x
    simp only [encI, hv', List.mem_cons, List.not_mem_nil, or_false] at hv
    rcases hv with rfl | rfl <;> rfl
  have eg : ∀ args w, (callFunc 37 args).run Tryd.prog w = .ok (.enter 37 args) w := enters_of Tryd.func37 (by kernel_rfl) rfl
  have hH := own_holdsG (enc := encI) (k := 2) rfl hk hrd h
  have hcon := AnyQ.slices_SortFunc Tryd.sortI 2 Tryd.isAgg38 Tryd.sizeOf38 encI hk h1 cfI swoI 37 #[] g 0 cap l.toArray w eg (cmpLaysI _) hH hlt (by simp; omega)
  simp only [List.size_toArray] at hcon
  change Calls Tryd.prog 36 _ _ _ at hcon
  refine hcon.mono ?_
  rintro e w' ⟨rfl, d', n, os, hp, hs, rfl⟩
  have hpp : d'.toList.Perm l := by
    have := permIn_permG (d := l.toArray) (by simpa using hp)
    simpa using this
  have hso := sort_ownG (d := d') (n := n) (os := os) (k := 2) rfl hk hrd h hpp
  have hlen : (d'.toList.map (·.1)).length = l.length := by rw [List.length_map]; exact hpp.length_eq
  refine ⟨rfl, d'.toList.map (·.1), hpp.map _, ?_, by rw [hlen]; exact hso, sortWorld_grownG w g n 2 d' os⟩
  have hds : d'.size = l.length := by rw [← Array.length_toList]; exact hpp.length_eq
  have hps := sortedIn_pairG (lt := ltOf cfI) (d := d') (by rw [hds]; exact hs)
  rw [List.pairwise_map]
  exact hps.imp fun {x y} hxy => by rw [ltI] at hxy; exact hxy
def ItemsI (w : World) (kv : KV) (e : Ending) (w' : World) : Prop := ∃ v lo, e = .returned v ∧ Own Shape.OVI 38 w' w.heap.size (blkOf lo) v lo ∧ (lo.map (·.d)).Perm (kv.map (·.2.d)) ∧ lo.Pairwise (fun x y => aheadL y.d.parts x.d.parts = false) ∧ Below w.heap.size w w' ∧ Apart lo ∧ v.ownBlock ≠ none ∧ ∀ n, blkOf lo n → w.heap.size ≤ n
structure ItI (kv : KV) (w : World) (r b : Nat) (v : Value) (wr : World) (vis left : KV) (lo : List OV) : Prop where
  own : Own Shape.OVI 38 wr w.heap.size (blkOf lo) v lo
  vb : v.ownBlock ≠ none
  dat : lo.map (·.d) = vis.map (·.2.d)
  it : MapIt keyK cvI wr r b kv left
  perm : (vis ++ left).Perm kv
  bel : Below w.heap.size w wr
  ap : Apart lo
  rlt : ∀ n, blkOf lo n → r < n
def StopTI (p : Prop) : Prop := p
theorem StopTI.mk {p : Prop} (h : StopTI p) : p := h
set_option maxHeartbeats 1000000 in
set_option maxRecDepth 100000 in
theorem itemsI {w : World} {X : List Nat} {q b : Nat} {kv : KV} (hq : QuI w X q b kv) (hkv : kv.length ≤ 1000000000) :
    Calls Tryd.prog 13 #[.pointer (some ⟨q, 0, none⟩)] w (ItemsI w kv) := by
  have HQ := Lib.hid hq
  have c0 : w.cell? ⟨q, 0, none⟩ = some (.map (some b)) := hq.blk.cell 0
  have ltq := hq.blk.lt
  have ltb := hq.map.lt
  clear hq
  have hlen := run_len_map (ty := 3) undI HQ.out.map
  obtain ⟨i0, z0, hi, hz, hz1, hz2, hz3⟩ := elem_OVI.parts
  obtain ⟨w1, hmk, hown1, hg1⟩ := run_make_own (P := Tryd.prog) w w.heap.size 34 38 i0 z0 2 Tryd.underlying34 hi hz hz1 .i64 .i64 kv.length (by rw [hz2]; omega) (by unfold maxLen; omega) (Nat.le_refl _)
  have hb1 : Below w.heap.size w w1 := (Below.refl _ _).grown hg1 (Nat.le_refl _) (fun k e => by cases e)
  have O1 : Hid (Own Shape.OVI 38 w1 w.heap.size (blkOf []) (.slice (some ⟨w.heap.size, 0, none⟩) 0 kv.length) []) := Lib.hid ⟨[], hown1, rfl, fun n hn => by obtain ⟨o, ho, _⟩ := hn; cases ho⟩
  have M1 := Lib.hid (HQ.out.map.grown hg1 (by simp))
  have c1 : w1.cell? ⟨q, 0, none⟩ = some (.map (some b)) := (HQ.out.blk.grown hg1 (by simp)).cell 0
  have ltq1 : q < w1.heap.size := Nat.lt_of_lt_of_le ltq hg1.size
  have HB1 := Lib.hid hb1
  have hsz1 := hg1.size
  clear hi hz hz1 hz2 hz3 hown1 hg1 hb1
  go_enter Tryd.func13, Tryd.ntmps13
  go_wp2_with (first
    | (at_range; refine wpList_range_kv rfl (.tmp 15) _ rfl undI M1.out rfl ?_; intro w2 hit hg2 hz2))
  go_frame
  have H0 : Hid (ItI kv w w1.heap.size b (.slice (some ⟨w.heap.size, 0, none⟩) 0 kv.length) w2 [] kv []) := Lib.hid
    ⟨O1.out.kept hg2 (.inr (by show some _ ≠ none; simp)) (fun n hn => by obtain ⟨o, ho, _⟩ := hn; cases ho), (by show some _ ≠ none; simp), rfl, hit, List.Perm.refl _, HB1.out.grown hg2 hsz1 (fun k e => by cases e), by unfold Apart; exact List.Pairwise.nil, fun n hn => by obtain ⟨o, ho, _⟩ := hn; cases ho⟩
  clear hit hg2 hz2 c0 c1 O1 M1 hmk hlen ltq1
  go_loopw [3] (fun v wr => ∃ vis left lo, ItI kv w w1.heap.size b v wr vis left lo) (fun _ wr => wr.rangeLeft b w1.heap.size)
  case atStart => exact ⟨_, _, _, H0.out⟩
  case round =>
    clear H0
    obtain ⟨vis, left, lo, hI⟩ := hrel
    have I := Lib.hid hI
    have IT := Lib.hid hI.it
    clear hI
    go_wp2_with (first
      | (at_next; refine wpList_next_kv rfl (.tmp 16) rfl rfl IT.out (fun hl0 => StopTI.mk ?_) (fun k v left' w4 hpl hit4 hg4 hz4 hen => StopTI.mk ?_)))
    · unfold StopTI
      subst hl0
      obtain ⟨g, cap, hv⟩ : ∃ g cap, u3 = .slice (some ⟨g, 0, none⟩) lo.length cap := by
        rcases I.out.own.form with ⟨hv, _⟩ | ⟨g, cap, hv, _⟩
        · exact absurd (by rw [hv]; rfl) I.out.vb
        · exact ⟨g, cap, hv⟩
      subst hv
      have hvis : vis.Perm kv := by simpa using I.out.perm
      have hll : lo.length ≤ 1000000000 := by
        have h1 := congrArg List.length I.out.dat
        rw [List.length_map, List.length_map] at h1
        have h2 := hvis.length_eq
        omega
      have HV := Lib.hid hvis
      clear hvis
      have hbsz := I.out.bel.size
      go_wp2_with fail
      refine (sortI I.out.own hll).mono ?_
      rintro e w5 ⟨rfl, lo', hp, hs, ho, hg⟩
      have hlen' : lo'.length = lo.length := hp.length_eq
      rw [hlen'] at ho
      have HP := Lib.hid hp; have HS := Lib.hid hs; have HO := Lib.hid ho
      have HB := Lib.hid (I.out.bel.grown hg hbsz (fun n hn => (I.out.own.lt n hn).1))
      clear hp hs ho hg hlen'
      go_wp2_with fail
      go_ret
      refine ⟨_, lo', rfl, ?_, ?_, HS.out, HB.out, I.out.ap.perm HP.out.symm, (by show some _ ≠ none; simp), fun n hn => ?_⟩
      · rw [blkOf_perm HP.out]; exact HO.out
      · exact (HP.out.map _).trans (by rw [I.out.dat]; exact HV.out.map _)
      · rw [blkOf_perm HP.out] at hn
        have := I.out.rlt n hn
        omega
    · unfold StopTI
      have hen2 : (Instr.entry (.pointer (some ⟨w1.heap.size, 0, none⟩))).run Tryd.prog w4 = .ok (.tuple #[.string k, .agg #[.slice v.A v.n v.c, .int .i64 v.d.v]]) w4 := hen
      have hmem : (k, v) ∈ kv := I.out.perm.subset (List.mem_append_right _ (hpl.symm.subset (by simp)))
      have hrow := (HQ.out.rows _ hmem).2
      have hb4 : Below w.heap.size w w4 := I.out.bel.grown hg4 I.out.bel.size (fun n hn => by injection hn with hn; omega)
      have O4 := Lib.hid (I.out.own.kept hg4 (.inr (fun e => IT.out.ne_own I.out.own e.symm)) (fun n hn e => by have := I.out.rlt n hn; injection e with e; omega))
      have RW := Lib.hid hrow
      have HB4 := Lib.hid hb4; have IT4 := Lib.hid hit4; have PL := Lib.hid hpl
      have HZ4 := Lib.hid hz4
      clear hrow hb4 hit4 hpl hg4 hz4 hen hmem
      go_wp2_with fail
      obtain ⟨u, hu⟩ : ∃ u, u = w4.alloc (.cells #[.slice v.A v.n v.c, .int .i64 v.d.v] 38) := ⟨_, rfl⟩
      have BX : Blk u w4.heap.size 38 #[.slice v.A v.n v.c, .int .i64 v.d.v] := hu ▸ Blk.new w4 _ _
      have hb4u : Below w4.heap.size w4 u := by rw [hu]; exact below_alloc' _ _
      rw [← hu]
      clear hu hen2
      have x0 : u.cell? ⟨w4.heap.size, 0, none⟩ = some (.slice v.A v.n v.c) := BX.cell 0
      have x1 : u.cell? ⟨w4.heap.size, 1, none⟩ = some (.int .i64 v.d.v) := BX.cell 1
      have ltx := BX.lt
      have hbu := below_old HB4.out hb4u
      have RU := Lib.hid ((RW.out.1.more (M' := Old w) fun n hn => hn.1).below hbu)
      have OU := Lib.hid (O4.out.kept (grownBy_of_below hb4u) (by cases hv : u3.ownBlock <;> simp) (fun n hn => by simp))
      have ITU := Lib.hid (IT4.out.below hb4u)
      have HBU := Lib.hid hbu
      have hvn : v.n ≤ 1048576 := by
        have h1 := len_bulk Shape.str v.d.parts
        have h2 := RW.out.1.1
        have h3 : bulkAll Shape.str.bulk v.d.parts ≤ 1048576 := RW.out.2.2.2.2
        rw [← h2]
        exact Nat.le_trans h1 h3
      clear BX hb4u hbu O4 IT4
      refine wp_region_grow_t [(3, madeOwnT v.d.parts u.heap.size), (7, madeElem 38 [.int .i64 v.d.v] v.d.parts u.heap.size)] 8 _ rfl (by kernel_rfl) [3, 7] rfl (by kernel_rfl) (stays_cons (ownT_stays _ _) (stays_cons (elem_stays _ _ _ _) stays_nil)) ?_
      simp only [List.take_succ_cons, List.take_zero, List.drop_succ_cons, List.drop_zero]
      repeat (first
        | (refine g_w rfl ?_ (fun W => ?_) ?_; rotate_left; (focus (go_simp; (try with_reducible rfl); done)); simp only [Act.put, List.setIfInBounds_toArray, List.set_cons_zero, List.set_cons_succ])
        | (refine g_d rfl (by kernel_rfl) ?_ (fun δ => ?_) ?_; rotate_left; (focus (go_simp; (try with_reducible rfl); done)); simp only [Act.put, List.setIfInBounds_toArray, List.set_cons_zero, List.set_cons_succ]))
      refine g_call rfl ?_ ?_ (fun W => ?_) ?_ ?_
      rotate_left 2
      · go_simp; (constructor <;> with_reducible rfl)
      · intro δ hF
        refine (cloneTexts _ (RU.out.below (below_over u δ)) (by omega)).mono ?_
        rintro e u4 ⟨v4, δ4, rfl, hw4, hown4⟩
        obtain ⟨x, rfl, hx⟩ := ownT_of (n := u.heap.size) hown4 (size_over_le _ _)
        exact ⟨x, rfl, below_of hw4, hx⟩
      rintro ⟨A4, c4⟩
      simp only [Act.put, List.setIfInBounds_toArray, List.set_cons_zero, List.set_cons_succ, enc_ownT]
      repeat (first
        | (refine g_w rfl ?_ (fun W => ?_) ?_; rotate_left; (focus (go_simp; (try with_reducible rfl); done)); simp only [Act.put, List.setIfInBounds_toArray, List.set_cons_zero, List.set_cons_succ])
        | (refine g_d rfl (by kernel_rfl) ?_ (fun δ => ?_) ?_; rotate_left; (focus (go_simp; (try with_reducible rfl); done)); simp only [Act.put, List.setIfInBounds_toArray, List.set_cons_zero, List.set_cons_succ]))
      refine g_new rfl (fun δ hF => ⟨(over u δ).heap.size, (over u δ).alloc (.cells #[.slice A4 v.d.parts.length c4, .int .i64 v.d.v] 38), ?_, below_alloc' _ _, ?_⟩) (fun gE => ?_)
      · go_simp; rfl
      · have h3 : Own Shape.str 9 (over u δ) u.heap.size (fun _ => False) (.slice A4 v.d.parts.length c4) v.d.parts := hF 3 (by kernel_rfl)
        exact ⟨A4, c4, Blk.new _ _ _, own_below h3 (below_alloc' _ _), size_over_le _ _, fun k hk => by have := (h3.lt k hk).2; omega⟩
      simp only [Act.put, List.setIfInBounds_toArray, List.set_cons_zero, List.set_cons_succ, enc_ownT]
      refine g_end fun δ hF => ?_
      have h7 : ∃ A c, Blk (over u δ) gE 38 (.slice A v.d.parts.length c :: [.int .i64 v.d.v]).toArray ∧ Own Shape.str 9 (over u δ) u.heap.size (fun _ => False) (.slice A v.d.parts.length c) v.d.parts ∧ u.heap.size ≤ gE ∧ ∀ k, (Value.slice A v.d.parts.length c).ownBlock = some k → k ≠ gE := hF 7
      clear hF
      obtain ⟨A5, c5, hB5, hO5, hgE, hne5⟩ := h7
      obtain ⟨o5, ho5⟩ : ∃ o5 : OV, o5 = ⟨.slice A5 v.d.parts.length c5, v.d⟩ := ⟨_, rfl⟩
      have hv5 : o5.v = .slice A5 v.d.parts.length c5 := by rw [ho5]
      have hd5 : o5.d = v.d := by rw [ho5]
      have hrd5 : Shape.OVI.rd (over u δ) (fun n => o5.v.ownBlock = some n) [.slice A5 v.d.parts.length c5, .int .i64 v.d.v] o5 := by
        refine ⟨by rw [hv5, hd5], ?_, fun k hk => hk, by rw [hd5]; exact RW.out.2.2.2.1, by rw [hd5]; exact RW.out.2.2.2.2⟩
        rw [hv5, hd5]; exact hO5.low (Nat.zero_le _)
      have hsrc := src_blk hB5 hrd5
      have hlt5 : ∀ n, o5.v.ownBlock = some n → u.heap.size ≤ n ∧ n < (over u δ).heap.size := fun n hn => by rw [hv5] at hn; exact hO5.lt n hn
      have hlo : ∀ n, blkOf lo n → n < u.heap.size := fun n hn => by obtain ⟨_, _, _, h3⟩ := OU.out; exact (h3 n hn).1
      have hll : lo.length ≤ kv.length := by
        have h1 := congrArg List.length I.out.dat
        rw [List.length_map, List.length_map] at h1
        have h2 := I.out.perm.length_eq
        rw [List.length_append] at h2
        omega
      refine endT_append (M := blkOf lo) (M' := fun n => o5.v.ownBlock = some n) elem_OVI (.tmp 21) (.tmp 28) rfl rfl (OU.out.over_ δ) rfl hsrc (fun n hn => ⟨(hlt5 n hn).2, fun e => by have h1 := (hlt5 n hn).1; have h2 := (OU.out.lt n e.symm).2; omega⟩) (by simp only [List.length_cons, List.length_nil]; omega) (by simp only [List.length_cons, List.length_nil, maxLen]; omega) (Nat.le_trans HBU.out.size (size_over_le _ _)) (fun v' w6 hown6 hg6 hat6 => ?_)
      simp only [Act.put, List.setIfInBounds_toArray, List.set_cons_zero, List.set_cons_succ]
      repeat (refine g_tail ?_ ?_ ?_; rotate_left; (focus (go_simp; (try with_reducible rfl); done)); simp only [Act.put, List.setIfInBounds_toArray, List.set_cons_zero, List.set_cons_succ])
      refine g_tail_end ?_
      have heq : (fun n => blkOf lo n ∨ o5.v.ownBlock = some n) = blkOf (lo ++ [o5]) := funext fun n => propext (blkOf_snoc lo o5 n).symm
      rw [heq] at hown6
      have hit6 := (ITU.out.over_ δ).grown hg6 ((ITU.out.over_ δ).isMap.ne_own (OU.out.over_ δ)) ((ITU.out.over_ δ).ne_own (OU.out.over_ δ))
      have hrlt : w1.heap.size < u.heap.size := ITU.out.lt
      have HI : Hid (ItI kv w w1.heap.size b v' w6 (vis ++ [(k, v)]) left' (lo ++ [o5])) := Lib.hid
        ⟨hown6, by rcases hat6 with e | e <;> rw [e]; exact I.out.vb; simp, by rw [List.map_append, List.map_append, I.out.dat, List.map_cons, List.map_cons, hd5]; rfl, hit6, perm_next I.out.perm PL.out,
          (below_old HBU.out (below_over u δ)).grown hg6 (Nat.le_trans HBU.out.size (size_over_le _ _)) (fun n hn => ((OU.out.over_ δ).lt n hn).1),
          I.out.ap.snoc (fun n hn hb => by have h1 := (hlt5 n hn).1; have h2 := hlo n hb; omega), fun n hn => by
            rcases (blkOf_snoc lo o5 n).1 hn with hn | hn
            · exact I.out.rlt n hn
            · have := (hlt5 n hn).1; omega⟩
      have hpl2 := PL.out.length_eq
      have HPL := Lib.hid hpl2
      have HIT := Lib.hid hit6
      clear hpl2 hit6 heq hown6 hg6 hat6 hsrc hrd5 hlt5 hlo ho5 hv5 hd5 hB5 hO5 hne5
      go_wp2_with fail
      go_roundw
      case rel => exact ⟨_, _, _, HI.out⟩
      case measure =>
        rw [HIT.out.left_eq, IT.out.left_eq, HPL.out]
        simp
end Go.Proofs.YtdmpdinaineiiaaDoor

