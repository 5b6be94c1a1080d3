/- StampNoughts holds for every input: its tied card. Its condition: the listed package-level variables hold what they are laid with. -/
import Derived.Test.YtnadldcdckjifaaDoorAlive02
import Derived.Test.YtnadldcdckjifaaDoorStPlain
import Derived.Test.YtnadldcdckjifaaDoorDoor
import Derived.Laws.StructEq
namespace Go.Proofs.YtnadldcdckjifaaDoor
open Go.RowKit
set_option linter.unusedVariables false
set_option linter.unusedSimpArgs false
attribute [local go_sem] cell?_over frozen?_over lt_over le_over
namespace stampNoughts
open Go.ChangeShapes Go.WideShapes Go.ChangeAt Go.RowKit
theorem snoc_bytes (s : ByteArray) : (s ++ ByteArray.mk #[48]).data.toList = s.data.toList ++ [48] := by
  rw [ByteArray.data_append]; simp
theorem any_step {l : List UInt8} {k : Nat} (h : k < l.length) : (l.take (k + 1)).any (· == 46) = ((l.take k).any (· == 46) || (l[k] == 46)) := by
  rw [List.take_succ_eq_append_getElem h, List.any_append]; simp
theorem mem_any {l : List UInt8} (h : l.any (· == 46) = true) : 46 ∈ l := by
  obtain ⟨c, hc, e⟩ := List.any_eq_true.1 h
  rw [beq_iff_eq] at e; subst e; exact hc
set_option maxRecDepth 100000 in
set_option maxHeartbeats 1000000 in
theorem law (s : ByteArray) (w : World) (hs : s.size ≤ 9223372036854775807) (hm : MaxLenOk w) (hv : ErrRangeOk w) :
    Calls Tryd.prog 4 #[.string s] w fun e w' => e = .returned (.bool true) ∧ Below w.heap.size w w' := by
  have HL : Hid (s.data.toList.length = s.size) := Lib.hid (len_data s)
  go_enter Tryd.func4, Tryd.ntmps4
  go_wp2_with fail
  refine (alive02 _ hm hv).mono ?_
  rintro e w1 ⟨rfl, hb1⟩
  have HB := Lib.hid hb1
  clear hb1
  go_wp2_with fail
  go_loopw [3, 4] (fun d i wr => ∃ k : Nat, k ≤ s.size ∧ i = .int .i64 k ∧ d = .bool ((s.data.toList.take k).any (· == 46)) ∧ wr = w1) (fun _ i _ => s.size - (intOf i).toNat)
  case atStart => exact ⟨0, Nat.zero_le _, rfl, rfl, rfl⟩
  case round =>
    obtain ⟨k, hk, rfl, rfl, rfl⟩ := hrel
    by_cases hlt : k < s.size
    · have hlt2 : (k : Int) < s.size := by omega
      have hkl : k < s.data.toList.length := by rw [HL.out]; exact hlt
      have hE := any_step hkl
      have hsk : s.data.toList[k] = s[k] := rfl
      rw [hsk] at hE
      by_cases h46 : s[k] = 46
      · have h1 : (((s[k].toNat : Nat) : Int) == 46) = true := by rw [h46]; rfl
        have HE := Lib.hid (show (s.data.toList.take (k + 1)).any (· == 46) = true by rw [hE, h46]; simp)
        clear hE h46 hsk
        go_wp2_with fail
        go_roundw
        case rel => exact ⟨k + 1, by omega, by go_num, by rw [HE.out], trivial⟩
        case measure => simp [intOf]; omega
      · have h1 : (((s[k].toNat : Nat) : Int) == 46) = false := by
          rw [beq_eq_false_iff_ne]; intro e; exact h46 (by apply UInt8.toNat_inj.1; exact Int.ofNat.inj e)
        have HE := Lib.hid (show (s.data.toList.take (k + 1)).any (· == 46) = (s.data.toList.take k).any (· == 46) by rw [hE]; simp [h46])
        clear hE h46 hsk
        go_wp2_with fail
        go_roundw
        case rel => exact ⟨k + 1, by omega, by go_num, by rw [HE.out], trivial⟩
        case measure => simp [intOf]; omega
    · have htk : s.data.toList.take k = s.data.toList := List.take_of_length_le (by rw [HL.out]; omega)
      rw [htk]
      clear htk
      have hnl : ¬ (k : Int) < s.size := by omega
      cases hany : s.data.toList.any (· == 46)
      · go_wp2_with fail
        go_ret
        exact ⟨rfl, HB.out⟩
      have hmem := mem_any hany
      have HM := Lib.hid hmem
      clear hany hmem
      by_cases h64 : s.size < 64
      · have h642 : ¬ (64 : Int) ≤ s.size := by omega
        have HP1 := Lib.hid (fun w => stampParse s w (by omega))
        have HP2 := Lib.hid (fun w => stampParse (s ++ ByteArray.mk #[48]) w (by rw [ByteArray.size_append]; show s.size + 1 ≤ _; omega))
        rw [snoc_bytes] at HP2
        by_cases hp : stPart s.data.toList = []
        · obtain ⟨hne, hlast⟩ := nought_none HM.out hp
          have hpos : 0 < s.size := by
            rw [← HL.out]
            exact List.length_pos_iff.2 (fun e => by rw [e] at hlast; cases hlast)
          have hl46 : ((((s[s.size - 1]'(by omega)).toNat : Nat) : Int) == 46) = true := by
            rw [List.getLast?_eq_getElem?, List.getElem?_eq_getElem (by rw [HL.out]; omega)] at hlast
            injection hlast with hlast
            have e : s[s.size - 1]'(by omega) = 46 := by
              rw [← hlast]
              have : s.data.toList.length - 1 = s.size - 1 := by rw [HL.out]
              simp only [this]; rfl
            rw [e]; rfl
          have hE : (stErr s.data.toList != 0) = true := by simpa using hne
          have hpos2 : (0 : Int) < s.size := by omega
          clear hlast hne hp
          generalize stErr (s.data.toList ++ [48]) = F at *
          generalize stErr s.data.toList = E at *
          go_wp2_with fail
          refine (HP1.out _ (hm.keep HB.out) (hv.keep HB.out)).mono ?_
          rintro e w2 ⟨rfl, hb2⟩
          replace HB := Lib.hid (below_old HB.out hb2)
          clear hb2
          go_wp2_with fail
          refine (HP2.out _ (hm.keep (HB.out.alloc HB.out.size _)) (hv.keep (HB.out.alloc HB.out.size _))).mono ?_
          rintro e w3 ⟨rfl, hb3⟩
          obtain ⟨bT, hbw3, hsz3⟩ := blks1 hb3
          replace HB := Lib.hid (below_old HB.out hbw3)
          clear hb3 bT hbw3
          cases hF : (F != 0)
          all_goals
            go_wp2_with fail
            go_ret
            exact ⟨rfl, HB.out.alloc HB.out.size _⟩
        · obtain ⟨e1, e2, e3⟩ := nought (by rw [HL.out]; omega) HM.out hp
          rw [e1, e2, e3] at HP2
          clear e1 e2 e3 hp
          generalize stErr s.data.toList = E at *
          generalize stS s.data.toList = S at *
          generalize stN s.data.toList = N at *
          cases hE : (E != 0)
          all_goals
            have hE' : (E == 0) = !(E != 0) := by simp [bne]
            rw [hE] at hE'
            go_wp2_with fail
            refine (HP1.out _ (hm.keep HB.out) (hv.keep HB.out)).mono ?_
            rintro e w2 ⟨rfl, hb2⟩
            replace HB := Lib.hid (below_old HB.out hb2)
            clear hb2
            go_wp2_with fail
            refine (HP2.out _ (hm.keep (HB.out.alloc HB.out.size _)) (hv.keep (HB.out.alloc HB.out.size _))).mono ?_
            rintro e w3 ⟨rfl, hb3⟩
            obtain ⟨bT, hbw3, hsz3⟩ := blks1 hb3
            have HT := Lib.hid bT
            replace HB := Lib.hid (below_old HB.out hbw3)
            have k0 := bT.cell 0; have k1 := bT.cell 1
            simp only [List.getElem?_toArray, List.getElem?_cons_zero, List.getElem?_cons_succ] at k0 k1
            have hlt := bT.lt
            clear hb3 bT hbw3
            go_wp2_with fail
            go_ret
            exact ⟨rfl, HB.out.alloc HB.out.size _⟩
      · have h642 : (64 : Int) ≤ s.size := by omega
        go_wp2_with fail
        go_ret
        exact ⟨rfl, HB.out⟩
theorem own : ownKnob Tryd.prog.godebug = none := by kernel_rfl
theorem laidOut : laidOutB Tryd.prog = true := by kernel_rfl
set_option maxRecDepth 100000 in
theorem contract (H : Type) (enc : TypeId × Value → H) (W : World) (base : Nat) (args : Array Value) (ds gs : List (DataW H)) (before : List MemPlace)
    (hval : ∀ (j : Nat) t v, Tryd.f4.params[j]? = some t → args[j]? = some v → Value.okWide Tryd.prog W .any base t v)
    (hW : DataW.Whole enc Tryd.prog Tryd.f4.params.toList Rows.stampNoughtsSpec.vars false W args.toList ds gs before) (hL : laidMetH Tryd.prog Rows.stampNoughtsRow.laid W) (hsh : W.ShapedOpen Tryd.prog) :
    Calls Tryd.prog 4 args W fun e W' => ∃ v, e = .returned v ∧ Rows.stampNoughtsSpec.post enc Tryd.prog Tryd.f4 false true false false W args v W' := by
  have hW' := hW
  obtain ⟨p, q, hA0, hV, rfl, hfz, hnd⟩ := hW
  have hA : DataW.TrodAll enc Tryd.prog W 0 (fun _ => true) true Tryd.f4.params.toList args.toList ds p := hA0
  rw [Tryd.params4] at hA hval
  obtain ⟨v0, vs0, d0, ds0, p0, q0, hargs, rfl, rfl, h0, r0⟩ := trodAll_cons hA
  obtain ⟨rfl, rfl, rfl⟩ := trodAll_nil r0
  obtain rfl : args = #[v0] := by cases args; simp_all
  obtain ⟨rfl, rfl⟩ := trodVars_none hV
  have k0 := h0
  have lt0 : ∀ x ∈ p0, x.block < W.heap.size := by obtain ⟨m, hm⟩ := k0; exact DataW.trod_lt m _ _ _ hm
  obtain ⟨m0, hm0⟩ := h0
  obtain ⟨s, rfl⟩ := okWide_string Tryd.underlying9 (hval 0 9 v0 rfl rfl)
  obtain ⟨s', ⟨hcs, hmax⟩, hbk⟩ := (opens_str (by kernel_rfl) Tryd.underlying9).2 hm0
  simp only [Value.cells, List.cons.injEq, and_true, Value.string.injEq] at hcs
  subst hcs
  clear hA0
  refine (law s W hmax (door_max hsh) (door_err hL)).mono fun e W' ⟨he, bel⟩ => ?_
  subst he
  exact ⟨_, rfl, _, _, _, [], _, [], hW', trodAll_mk1 (shut_bool Tryd.underlying4 _), (trodAll_cons_mk (Below.trod laidOut (by kernel_rfl) (of_decide_eq_true (by kernel_rfl)) k0 bel lt0) trodAll_mk0), rfl, bel.frame _, fun h => by cases h⟩
theorem laid_met (os : Os) : laidMetH Tryd.prog Rows.stampNoughtsRow.laid ((laidWorld os).forCall (fun _ _ => 0) ⟨#[], #[.string ⟨#[]⟩], []⟩).memory := laidMetH_of_parts3 (fuel := 8) (laidMet_of_run' 8 (by kernel_rfl) (by kernel_rfl)) (by kernel_rfl) (by kernel_rfl)
theorem reads (os : Os) {H : Type} (enc : TypeId × Value → H) : ∃ places, DataW.whole enc Tryd.prog ((laidWorld os).forCall (fun _ _ => 0) ⟨#[], #[.string ⟨#[]⟩], []⟩).memory Tryd.f4.params.toList Rows.stampNoughtsSpec.vars false (#[.string ⟨#[]⟩] : Array Value).toList 8 = some ([.lit (.string [])], [], places) := ⟨[], by kernel_rfl⟩
set_option maxRecDepth 100000 in
theorem lifted (os : Os) (started : os.Started) (H : Type) (enc : TypeId × Value → H) (F : Stop.Interp) :
    ReturnsInHanded {} Tryd.checked os 4 .any ((OpenSpec.ofChange Rows.stampNoughtsSpec).preRow enc Tryd.prog Tryd.f4 Rows.stampNoughtsRow.domain false Rows.stampNoughtsRow.laid) (((OpenSpec.ofChange Rows.stampNoughtsSpec).at F).post enc Tryd.prog Tryd.f4 false true false false) := by
  obtain ⟨places, hx⟩ := reads os enc
  refine returnsInHanded_of_row (C := Tryd.checked) (s := (OpenSpec.ofChange Rows.stampNoughtsSpec)) own started (by kernel_rfl) Tryd.func4
    (witness_row_atRef (enc := enc) (C := Tryd.checked) false (laidWorld os) #[.string ⟨#[]⟩] rfl (by kernel_rfl) (by kernel_rfl) (by kernel_rfl)
      (OpenSpec.preRow_of_cond 8 hx (by kernel_rfl) (fun k hk => by cases hk) (by kernel_rfl) (laid_met os))) ?_
  intro W base args ds gs before hval hW _ hcond _ hL hsh _
  exact contract H enc W base args ds gs before hval hW hL hsh
theorem said : Rows.stampNoughtsRow.holds Tryd.pinned (OpenSpec.ofChange Rows.stampNoughtsSpec) :=
  OpenClaim.holds_of_cond 4 Tryd.f4 rfl rfl rfl rfl rfl rfl rfl ⟨rfl, rfl, rfl, rfl, rfl⟩ rfl rfl rfl rfl rfl (by kernel_rfl) Tryd.func4 (by kernel_rfl)
    (of_decide_eq_true (by kernel_rfl)) (by unfold Func.isWrapper; first | (rw [if_pos (by decide +kernel)]; kernel_rfl) | (rw [if_neg (by decide +kernel)]; exact ⟨rfl, rfl⟩))
    (fun os started H enc _ F => by rw [OpenClaim.pre_eq_preRow]; exact lifted os started H enc F)
theorem plain (f : FuncId) (fn : Func) (hf : Tryd.pinned.checked.prog.funcNamed "valise/valiselaw02.StampNoughts" = some f) (hfn : Tryd.pinned.checked.prog.funcs[f]? = some fn) :
    true = Tryd.pinned.checked.prog.looks [] ∧ ∀ (j : Nat) t, fn.params[j]? = some t → Tryd.pinned.checked.prog.wantsStandIn t = false := by
  obtain rfl : f = 4 := Option.some.inj ((show Tryd.prog.funcNamed "valise/valiselaw02.StampNoughts" = some 4 by kernel_rfl).symm.trans hf) |>.symm
  obtain rfl : fn = Tryd.f4 := (Option.some.inj (Tryd.func4.symm.trans hfn)).symm
  refine ⟨by kernel_rfl, fun j t ht => ?_⟩
  rw [Tryd.params4] at ht
  have hm := Array.mem_of_getElem? ht
  simp only [List.mem_toArray, List.mem_cons, List.not_mem_nil, or_false] at hm
  rcases hm with rfl
  exact (show Tryd.prog.wantsStandIn 9 = false by kernel_rfl)
theorem proved : Rows.StampNoughtsCardSaid :=
  Claim7.holds_tied_plain_at .later [] _ _ _ _ said (fun _ h => by cases h) (by kernel_rfl) (fun _ h => by cases h) stampNoughts_row_tie rfl ⟨rfl, rfl⟩ (by kernel_rfl) rfl plain (by kernel_rfl)
end stampNoughts
end Go.Proofs.YtnadldcdckjifaaDoor
