/- OverlayPlain holds for every input: its tied card. Its condition: the listed package-level variables hold what they are laid with. -/
import Derived.Test.YtnadldcdckjifaaDoorOvApply6
import Derived.Test.YtnadldcdckjifaaDoorDoor
namespace Go.Proofs.YtnadldcdckjifaaDoor
open Go.RowKit
set_option linter.unusedVariables false
set_option linter.unusedSimpArgs false
attribute [local go_sem] cell?_over frozen?_over lt_over le_over
theorem whole_Hdr : Whole Tryd.prog 34 13 := ⟨by kernel_rfl, by kernel_rfl⟩
theorem at_load' {P : Program} {ops : Array Oper} {Q : Exit → Act → World → Prop} {o : Oper} {rest : List Oper} {a : Act} {w : World} {ty : TypeId} {x : Operand} (ho : o.op = .load ty x) (h : wpList P ops Q (o :: rest) a w) : wpList P ops Q (o :: rest) a w := h
namespace overlayPlain
open Go.ChangeShapes Go.WideShapes Go.ChangeAt Go.RowKit
def xp (h : HeaderD) : ApIn := ⟨h, [], [], noB, noB⟩
theorem res_bad {h : HeaderD} (ht : (xp h).typeBad = true) : (xp h).res = .tuple #[.agg ent0, .int .i64 0, .int .i64 73] := by unfold ApIn.res; rw [ht]; rfl
theorem text_plain (k p : ByteArray) : textOf [] [] k noB p = p := by
  unfold textOf
  have e0 : foundL [] k = false := rfl
  rw [e0, if_neg (by decide), if_neg (by decide), if_neg (by show ¬ (noB.size ≠ 0); decide)]
theorem res_ok {h : HeaderD} (ht : (xp h).typeBad = false) : (xp h).res = .tuple #[.agg (entCells (xp h).kind h.name (if h.type = 49 ∨ h.type = 50 then h.link else noB) (xp h).mode h.uid h.gid h.user h.group h.mtime 0), .int .i64 (if h.type = 48 then h.size else 0), .int .i64 0] := by
  have e1 : (xp h).res = .tuple #[.agg (xp h).ent, .int .i64 (xp h).size, .int .i64 0] := by
    unfold ApIn.res
    rw [ht, show (xp h).sparseBad = false from rfl, show (xp h).numBad = false from rfl, show (xp h).timeBad = false from rfl]
    rfl
  rw [e1]
  unfold ApIn.ent
  rw [show (xp h).name = h.name from text_plain _ _, show (xp h).user = h.user from text_plain _ _, show (xp h).group = h.group from text_plain _ _,
    show (xp h).sec = h.mtime from rfl, show (xp h).nano = 0 from rfl, show numN ((xp h).v kUid) (xp h).h.uid = h.uid from rfl, show numN ((xp h).v kGid) (xp h).h.gid = h.gid from rfl,
    show (xp h).size = (if h.type = 48 then h.size else 0) from rfl]
  have el : (xp h).link = if h.type = 49 ∨ h.type = 50 then h.link else noB := by
    unfold ApIn.link
    rw [show textOf (xp h).g (xp h).l kLink (xp h).ll (xp h).h.link = h.link from text_plain _ _]
    rfl
  rw [el]
set_option maxRecDepth 100000 in
set_option maxHeartbeats 2000000 in
theorem law (h : HeaderD) (w : World) (hi : I64 h.mode ∧ I64 h.uid ∧ I64 h.gid ∧ I64 h.size ∧ I64 h.mtime) (hs : h.name.size ≤ maxLen ∧ h.link.size ≤ maxLen ∧ h.user.size ≤ maxLen ∧ h.group.size ≤ maxLen) (hm : MaxLenOk w) (hv : ErrRangeOk w) :
    Calls Tryd.prog 8 #[.agg h.cells] w fun e w' => e = .returned (.bool true) ∧ Below w.heap.size w w' := by
  unfold HeaderD.cells
  go_enter Tryd.func8, Tryd.ntmps8
  go_wp2_with fail
  refine (alive06 _ (hm.keep (below_alloc' w _)) (hv.keep (below_alloc' w _))).mono ?_
  rintro e w1 ⟨rfl, hb1⟩
  obtain ⟨bT, hbw1, hsz1⟩ := blks1 hb1
  have HT := Lib.hid bT; have HB := Lib.hid hbw1
  have hlt := bT.lt
  clear hb1 bT hbw1
  go_wp2_with (first | (refine at_load' (ty := 34) (x := .tmp 1) rfl ?_; refine wpList_load_blk rfl 34 (.tmp 1) rfl _ rfl HT.out whole_Hdr ?_))
  have ho : ApOk (xp h) w1 none none 0 0 := ⟨Row.nil, Row.nil, by decide, by decide, fun k => Nat.zero_le _, by rw [show (xp h).name = h.name from text_plain _ _]; exact hs.1, hi⟩
  refine (ovApply (c := 0) (c' := 0) w1 ho ⟨hs, by show noB.size ≤ maxLen; decide, by show noB.size ≤ maxLen; decide⟩ (hm.keep HB.out) (hv.keep HB.out)).mono ?_
  rintro e w2 ⟨rfl, hb2⟩
  replace HT := Lib.hid (HT.out.below hb2 hlt); replace HB := Lib.hid (below_old HB.out hb2)
  clear hb2 hlt ho
  have kk := hd_cells (x := xp h) HT.out
  obtain ⟨k0, k1, k2, k3, k4, k5, k6, k7, k8, k9⟩ := kk
  have hlt := HT.out.lt
  simp only [xp] at k0 k1 k2 k3 k4 k5 k6 k7 k8 k9
  cases hx : (xp h).typeBad
  · rw [res_ok hx]
    have h12 := type_ok hx
    obtain ⟨h1, h2⟩ := h12
    simp only [xp] at h1 h2
    clear hx
    generalize (xp h).kind = KD
    generalize (xp h).mode = MD
    unfold entCells noB
    have tn : ∀ m : UInt8, (((h.type.toNat : Nat) : Int) == (m.toNat : Int)) = decide (h.type = m) := fun m => by
      rw [Bool.eq_iff_iff, beq_iff_eq, decide_eq_true_eq]
      exact ⟨fun h => UInt8.toNat_inj.1 (by omega), fun h => by rw [h]⟩
    have t48 : (((h.type.toNat : Nat) : Int) == 48) = decide (h.type = 48) := tn 48
    have t49 : (((h.type.toNat : Nat) : Int) == 49) = decide (h.type = 49) := tn 49
    have t50 : (((h.type.toNat : Nat) : Int) == 50) = decide (h.type = 50) := tn 50
    have u48 : (((h.type.toNat : Nat) : Int) != 48) = !decide (h.type = 48) := by unfold bne; rw [t48]
    clear tn
    by_cases hl : h.type = 49 ∨ h.type = 50
    · rw [if_pos hl]
      have n48 : h.type ≠ 48 := by rcases hl with e | e <;> rw [e] <;> decide
      rw [if_neg n48]
      rw [decide_eq_false n48] at t48 u48
      rcases (by rcases hl with e | e; exact .inl e; exact .inr ⟨by rw [e]; decide, e⟩ : h.type = 49 ∨ (h.type ≠ 49 ∧ h.type = 50)) with e | ⟨e1, e⟩
      · rw [decide_eq_true e] at t49
        clear t50 hl n48 e
        go_wp2_with fail
        go_ret
        exact ⟨rfl, HB.out.alloc HB.out.size _⟩
      · rw [decide_eq_true e] at t50
        rw [decide_eq_false e1] at t49
        clear hl n48 e e1
        go_wp2_with fail
        go_ret
        exact ⟨rfl, HB.out.alloc HB.out.size _⟩
    · rw [if_neg hl]
      rw [decide_eq_false (fun e => hl (.inl e))] at t49
      rw [decide_eq_false (fun e => hl (.inr e))] at t50
      clear hl
      by_cases h48 : h.type = 48
      · rw [if_pos h48]
        rw [decide_eq_true h48] at t48 u48
        clear h48
        go_wp2_with fail
        go_ret
        exact ⟨rfl, HB.out.alloc HB.out.size _⟩
      · rw [if_neg h48]
        rw [decide_eq_false h48] at t48 u48
        clear h48
        go_wp2_with fail
        go_ret
        exact ⟨rfl, HB.out.alloc HB.out.size _⟩
  · rw [res_bad hx]
    unfold ent0 entCells noB
    have hx' : h.type.toNat < 48 ∨ 54 < h.type.toNat := by
      unfold ApIn.typeBad at hx
      rw [Bool.or_eq_true] at hx
      exact hx.imp of_decide_eq_true of_decide_eq_true
    clear hx
    rcases hx' with hx | hx
    · have h1 : ((h.type.toNat : Nat) : Int) < 48 := by omega
      clear hx
      go_wp2_with fail
      go_ret
      exact ⟨rfl, HB.out.alloc HB.out.size _⟩
    · have h1 : ¬ ((h.type.toNat : Nat) : Int) < 48 := by omega
      have h2 : (54 : Int) < ((h.type.toNat : Nat) : Int) := by omega
      clear hx
      go_wp2_with fail
      go_ret
      exact ⟨rfl, HB.out.alloc HB.out.size _⟩
theorem own : ownKnob Tryd.prog.godebug = none := by kernel_rfl
theorem laidOut : laidOutB Tryd.prog = true := by kernel_rfl
set_option maxRecDepth 100000 in
theorem contract (H : Type) (enc : TypeId × Value → H) (W : World) (base : Nat) (args : Array Value) (ds gs : List (DataW H)) (before : List MemPlace)
    (hval : ∀ (j : Nat) t v, Tryd.f8.params[j]? = some t → args[j]? = some v → Value.okWide Tryd.prog W .any base t v)
    (hW : DataW.Whole enc Tryd.prog Tryd.f8.params.toList Rows.overlayPlainSpec.vars false W args.toList ds gs before) (hL : laidMetH Tryd.prog Rows.overlayPlainRow.laid W) (hsh : W.ShapedOpen Tryd.prog) :
    Calls Tryd.prog 8 args W fun e W' => ∃ v, e = .returned v ∧ Rows.overlayPlainSpec.post enc Tryd.prog Tryd.f8 false true false false W args v W' := by
  have hW' := hW
  obtain ⟨p, q, hA0, hV, rfl, hfz, hnd⟩ := hW
  have hA : DataW.TrodAll enc Tryd.prog W 0 (fun _ => true) true Tryd.f8.params.toList args.toList ds p := hA0
  rw [Tryd.params8] at hA hval
  obtain ⟨v0, vs0, d0, ds0, p0, q0, hargs, rfl, rfl, h0, r0⟩ := trodAll_cons hA
  obtain ⟨rfl, rfl, rfl⟩ := trodAll_nil r0
  obtain rfl : args = #[v0] := by cases args; simp_all
  obtain ⟨rfl, rfl⟩ := trodVars_none hV
  have k0 := h0
  have lt0 : ∀ x ∈ p0, x.block < W.heap.size := by obtain ⟨m, hm⟩ := k0; exact DataW.trod_lt m _ _ _ hm
  obtain ⟨m0, hm0⟩ := h0
  obtain ⟨cs, rfl, hsz⟩ := okWide_struct Tryd.underlying34 (hval 0 34 v0 rfl rfl)
  obtain ⟨h, hh, hbk⟩ := opens_HeaderD.2 hm0
  obtain ⟨hcs, j0, j1, j2, j3, j4, j5, j6, j7, j8, j9, j10, j11⟩ := hh
  obtain rfl : cs = h.cells := by apply Array.ext'; exact hcs
  clear hA0
  refine (law h W ⟨j2, j3, j4, j5, j6⟩ ⟨j0, j1, j7, j8⟩ (door_max hsh) (door_err hL)).mono fun e W' ⟨he, bel⟩ => ?_
  subst he
  exact ⟨_, rfl, _, _, _, [], _, [], hW', trodAll_mk1 (shut_bool Tryd.underlying4 _), (trodAll_cons_mk (Below.trod laidOut (by kernel_rfl) (of_decide_eq_true (by kernel_rfl)) k0 bel lt0) trodAll_mk0), rfl, bel.frame _, fun h => by cases h⟩
theorem laid_met (os : Os) : laidMetH Tryd.prog Rows.overlayPlainRow.laid ((laidWorld os).forCall (fun _ _ => 0) ⟨#[], #[.agg #[.string ⟨#[]⟩, .string ⟨#[]⟩, .int .i64 0, .int .i64 0, .int .i64 0, .int .i64 0, .int .i64 0, .int .u8 0, .string ⟨#[]⟩, .string ⟨#[]⟩, .int .i64 0, .int .i64 0, .int .i64 0]], []⟩).memory := laidMetH_of_parts3 (fuel := 8) (laidMet_of_run' 8 (by kernel_rfl) (by kernel_rfl)) (by kernel_rfl) (by kernel_rfl)
theorem reads (os : Os) {H : Type} (enc : TypeId × Value → H) : ∃ places, DataW.whole enc Tryd.prog ((laidWorld os).forCall (fun _ _ => 0) ⟨#[], #[.agg #[.string ⟨#[]⟩, .string ⟨#[]⟩, .int .i64 0, .int .i64 0, .int .i64 0, .int .i64 0, .int .i64 0, .int .u8 0, .string ⟨#[]⟩, .string ⟨#[]⟩, .int .i64 0, .int .i64 0, .int .i64 0]], []⟩).memory Tryd.f8.params.toList Rows.overlayPlainSpec.vars false (#[.agg #[.string ⟨#[]⟩, .string ⟨#[]⟩, .int .i64 0, .int .i64 0, .int .i64 0, .int .i64 0, .int .i64 0, .int .u8 0, .string ⟨#[]⟩, .string ⟨#[]⟩, .int .i64 0, .int .i64 0, .int .i64 0]] : Array Value).toList 8 = some ([.agg [.lit (.string []), .lit (.string []), .lit (.int .i64 0), .lit (.int .i64 0), .lit (.int .i64 0), .lit (.int .i64 0), .lit (.int .i64 0), .lit (.int .u8 0), .lit (.string []), .lit (.string []), .lit (.int .i64 0), .lit (.int .i64 0), .lit (.int .i64 0)]], [], places) := ⟨[], by kernel_rfl⟩
set_option maxRecDepth 100000 in
theorem lifted (os : Os) (started : os.Started) (H : Type) (enc : TypeId × Value → H) (F : Stop.Interp) :
    ReturnsInHanded {} Tryd.checked os 8 .any ((OpenSpec.ofChange Rows.overlayPlainSpec).preRow enc Tryd.prog Tryd.f8 Rows.overlayPlainRow.domain false Rows.overlayPlainRow.laid) (((OpenSpec.ofChange Rows.overlayPlainSpec).at F).post enc Tryd.prog Tryd.f8 false true false false) := by
  obtain ⟨places, hx⟩ := reads os enc
  refine returnsInHanded_of_row (C := Tryd.checked) (s := (OpenSpec.ofChange Rows.overlayPlainSpec)) own started (by kernel_rfl) Tryd.func8
    (witness_row_atRef (enc := enc) (C := Tryd.checked) false (laidWorld os) #[.agg #[.string ⟨#[]⟩, .string ⟨#[]⟩, .int .i64 0, .int .i64 0, .int .i64 0, .int .i64 0, .int .i64 0, .int .u8 0, .string ⟨#[]⟩, .string ⟨#[]⟩, .int .i64 0, .int .i64 0, .int .i64 0]] rfl (by kernel_rfl) (by kernel_rfl) (by kernel_rfl)
      (OpenSpec.preRow_of_cond 8 hx (by kernel_rfl) (fun k hk => by cases hk) (by kernel_rfl) (laid_met os))) ?_
  intro W base args ds gs before hval hW _ hcond _ hL hsh _
  exact contract H enc W base args ds gs before hval hW hL hsh
theorem said : Rows.overlayPlainRow.holds Tryd.pinned (OpenSpec.ofChange Rows.overlayPlainSpec) :=
  OpenClaim.holds_of_cond 8 Tryd.f8 rfl rfl rfl rfl rfl rfl rfl ⟨rfl, rfl, rfl, rfl, rfl⟩ rfl rfl rfl rfl rfl (by kernel_rfl) Tryd.func8 (by kernel_rfl)
    (of_decide_eq_true (by kernel_rfl)) (by unfold Func.isWrapper; first | (rw [if_pos (by decide +kernel)]; kernel_rfl) | (rw [if_neg (by decide +kernel)]; exact ⟨rfl, rfl⟩))
    (fun os started H enc _ F => by rw [OpenClaim.pre_eq_preRow]; exact lifted os started H enc F)
theorem plain (f : FuncId) (fn : Func) (hf : Tryd.pinned.checked.prog.funcNamed "valise/valiselaw06.OverlayPlain" = some f) (hfn : Tryd.pinned.checked.prog.funcs[f]? = some fn) :
    true = Tryd.pinned.checked.prog.looks [] ∧ ∀ (j : Nat) t, fn.params[j]? = some t → Tryd.pinned.checked.prog.wantsStandIn t = false := by
  obtain rfl : f = 8 := Option.some.inj ((show Tryd.prog.funcNamed "valise/valiselaw06.OverlayPlain" = some 8 by kernel_rfl).symm.trans hf) |>.symm
  obtain rfl : fn = Tryd.f8 := (Option.some.inj (Tryd.func8.symm.trans hfn)).symm
  refine ⟨by kernel_rfl, fun j t ht => ?_⟩
  rw [Tryd.params8] at ht
  have hm := Array.mem_of_getElem? ht
  simp only [List.mem_toArray, List.mem_cons, List.not_mem_nil, or_false] at hm
  rcases hm with rfl
  exact (show Tryd.prog.wantsStandIn 34 = false by kernel_rfl)
theorem proved : Rows.OverlayPlainCardSaid :=
  Claim7.holds_tied_plain_at .later [] _ _ _ _ said (fun _ h => by cases h) (by kernel_rfl) (fun _ h => by cases h) overlayPlain_row_tie rfl ⟨rfl, rfl⟩ (by kernel_rfl) rfl plain (by kernel_rfl)
end overlayPlain
end Go.Proofs.YtnadldcdckjifaaDoor
