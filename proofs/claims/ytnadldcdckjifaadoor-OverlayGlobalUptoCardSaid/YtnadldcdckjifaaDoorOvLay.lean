/- overlay.lay: pairs laid at a level of the table. No condition but room. -/
import Derived.Test.YtnadldcdckjifaaDoorOvNumber
import Derived.Test.YtnadldcdckjifaaDoorMapDel
namespace Go.Proofs.YtnadldcdckjifaaDoor
open Go.RowKit
set_option linter.unusedVariables false
set_option linter.unusedSimpArgs false
attribute [local go_sem] cell?_over frozen?_over lt_over le_over lt2 lt3 lt4
theorem size_empty (s : ByteArray) : s.toList.isEmpty = decide (s.size = 0) := by
  rw [ByteArray.toList_eq]
  have : s.size = s.data.toList.length := by rw [Array.length_toList]; rfl
  rw [this]
  cases s.data.toList <;> simp
set_option maxHeartbeats 2000000 in
set_option maxRecDepth 100000 in
theorem lay_low {M Mr : Nat → Prop} {p : Nat} {rows : List OvKv} {A : Option Addr} {n c : Nat} {l : List PairD} (w : World) (m : Nat) (hM : ∀ n, M n → n < w.heap.size) (h : lvS.At w M p rows) (hm : m < rows.length) (hm3 : m ≠ 3)
    (hr : Row Shape.PairD w Mr A n l) (hd : ∀ n, Mr n → n < w.heap.size ∧ ¬ M n) (hn : n ≤ 140737488355328) :
    Calls Tryd.prog 38 #[.pointer (some ⟨p, 0, none⟩), .int .i64 m, .slice A n c] w fun e w' => e = .returned (.tuple #[]) ∧ Chg M w w' ∧ lvS.At w' M p (rows.set m (layKv rows[m] l)) := by
  have HL := Lib.hid hr.1
  have hm2 : ((m : Int) == 3) = false := by rw [beq_eq_false_iff_ne]; omega
  have HMl := Lib.hid hM
  clear hM
  go_enter Tryd.func38, Tryd.ntmps38
  go_wp2_with fail
  go_loopw [10] (fun i wr => ∃ k : Nat, k ≤ n ∧ i = .int .i64 k ∧ lvS.At wr M p (rows.set m (layKv rows[m] (l.take k))) ∧ Chg M w wr) (fun i _ => n - (intOf i).toNat)
  case atStart => exact ⟨0, Nat.zero_le _, rfl, by simpa [layKv] using h, Chg.of_below (Below.refl _ _)⟩
  case round =>
    obtain ⟨k, hk, rfl, hat, hchg⟩ := hrel
    by_cases hlt : k < n
    · obtain ⟨b, off, es, hkl, rfl, hb, hc, hc0, hrd⟩ := hr.elem (hchg.keeps hd) hlt
      obtain ⟨rfl, hs1, hs2⟩ := hrd
      have e13 : Shape.PairD.size = 2 := rfl
      simp only [e13] at hc hc0
      clear e13
      have hb2 := Nat.lt_of_lt_of_le (hd b hb).1 hchg.size
      have hks : (k : Int) < n := by omega
      have hst : layKv rows[m] (l.take (k + 1)) = layOne (layKv rows[m] (l.take k)) l[k] := by rw [List.take_succ_eq_append_getElem hkl, layKv_snoc]
      generalize layKv rows[m] (l.take k) = kv at *
      generalize l[k] = d at *
      have HST := Lib.hid hst; clear hst
      have HC := Lib.hid hchg; clear hchg
      have hML : ∀ n, M n → n < wr.heap.size := fun n hn => Nat.lt_of_lt_of_le (HMl.out n hn) HC.out.size
      have hse := size_empty d.value
      by_cases hv : d.value.size = 0
      · have HST2 := Lib.hid (show layKv rows[m] (l.take (k + 1)) = delKv kv d.key by rw [HST.out]; unfold layOne; rw [if_pos hv])
        have hse2 : d.value.toList.isEmpty = true := by rw [hse]; simpa using hv
        clear hse hv
        obtain ⟨r, cap, cur, refs, bp, br, hcur, hlen, hmaps, hnd, hp, hr2, hMM, hcap, hcap2⟩ := hat
        have kp := bp.cell 0
        simp only [List.getElem?_toArray, List.getElem?_cons_zero] at kp
        have hpl := bp.lt
        have hrl := br.lt
        have hlen2 : refs.length = rows.length := by rw [hlen, List.length_set]
        have hlr : m < refs.length := by omega
        have kr : wr.cell? ⟨r, m, none⟩ = some (.map (some refs[m])) := by rw [br.cell]; exact hcur m hlr
        have h1 : (m : Int) < refs.length := by omega
        have HCU := Lib.hid hcur; have HM := Lib.hid hmaps; have HLN := Lib.hid hlen; clear hcur hmaps hlen
        go_wp2_with fail
        refine wp_region_tail_of (fun u => ∃ bx, Blk u bx 49 #[.string d.key, .string d.value] ∧ u = (wr.alloc (.cells #[.string d.key, .string d.value] 49)).drew ∧ bx = wr.heap.size) ⟨_, Blk.new _ _ _, rfl, rfl⟩ 9 (by kernel_rfl) (by kernel_rfl) ?_
        rintro u ⟨bx, bbx, hu, hbx⟩
        have kp : u.cell? ⟨p, 0, none⟩ = some (.slice (some ⟨r, 0, none⟩) refs.length cap) := by rw [hu]; go_simp
        have kr : u.cell? ⟨r, m, none⟩ = some (.map (some refs[m])) := by rw [hu]; go_simp
        have kb := bbx.cell 0
        simp only [List.getElem?_toArray, List.getElem?_cons_zero] at kb
        rw [← hbx]
        have hbel : Below wr.heap.size wr u := by rw [hu]; go_grown
        clear hu hbx
        simp only [List.take_succ_cons, List.take_zero, List.drop_succ_cons, List.drop_zero]
        repeat still_step
        refine wpStill_nil ?_
        have hmm := HM.out m hlr (by rw [← HLN.out]; exact hlr)
        rw [List.getElem_set_self] at hmm
        refine wpList_delete_kv rfl (.tmp 30) (.tmp 32) 90 9 rfl lvS.map_ty (hmm.of_block (hbel.block _ hmm.lt)) d.key rfl rfl ?_
        intro w1 hkv hon
        have hat' := LvAt.set_ bp br HCU.out HLN.out HM.out hnd hp hr2 hMM hcap hcap2 hlr hbel hon hkv
        rw [List.set_set, ← HST2.out] at hat'
        have HC2 := Lib.hid ((HC.out.trans (Chg.of_below hbel)).trans (Chg.of_only hon (hMM _ (List.getElem_mem hlr))))
        have HAT := Lib.hid hat'
        clear hat' hmm hkv hon
        go_wp2_with fail
        go_roundw
        case rel => exact ⟨k + 1, by omega, by go_num, HAT.out, HC2.out⟩
        case measure => simp [intOf]; omega
      · have HST2 := Lib.hid (show layKv rows[m] (l.take (k + 1)) = putKv kv d.key (d.value, false) by rw [HST.out]; unfold layOne; rw [if_neg hv])
        have hse2 : d.value.toList.isEmpty = false := by rw [hse]; simpa using hv
        clear hse hv
        have HAT := Lib.hid (hat.keep (fun n hn => Below.heap_alloc wr (.cells #[.string d.key, .string d.value] 49) n (hML n hn)))
        clear hat
        have hml : m < (rows.set m kv).length := by rw [List.length_set]; exact hm
        go_wp2_with fail
        refine (lvS.set_yes _ m d.key d.value HAT.out hml).mono ?_
        rintro e w2 ⟨rfl, hc2, hat2⟩
        rw [List.getElem_set_self, List.set_set, ← HST2.out] at hat2
        have HAT2 := Lib.hid hat2
        have HC2 := Lib.hid ((HC.out.trans (Chg.of_below (below_alloc' wr (.cells #[.string d.key, .string d.value] 49)))).trans hc2)
        clear hat2 hc2
        go_wp2_with fail
        go_roundw
        case rel => exact ⟨k + 1, by omega, by go_num, HAT2.out, HC2.out⟩
        case measure => simp [intOf]; omega
    · have htk : l.take k = l := List.take_of_length_le (by rw [HL.out]; omega)
      rw [htk] at hat
      go_wp2
      go_returns
      exact ⟨rfl, hchg, hat⟩
set_option maxHeartbeats 2000000 in
set_option maxRecDepth 100000 in
theorem lay_top {M Mr : Nat → Prop} {p : Nat} {rows : List OvKv} {A : Option Addr} {n c : Nat} {l : List PairD} (w : World) (hM : ∀ n, M n → n < w.heap.size) (h : lvS.At w M p rows) (h4 : rows.length = 4)
    (hr : Row Shape.PairD w Mr A n l) (hd : ∀ n, Mr n → n < w.heap.size ∧ ¬ M n) (hn : n ≤ 140737488355328) :
    Calls Tryd.prog 38 #[.pointer (some ⟨p, 0, none⟩), .int .i64 3, .slice A n c] w fun e w' => e = .returned (.tuple #[]) ∧ Chg M w w' ∧ lvS.At w' M p ((rows.set 3 (layKv (rows[3]'(by omega)) l)).set 1 (hideKv (rows[1]'(by omega)) l)) := by
  have HL := Lib.hid hr.1
  have hl3 : 3 < rows.length := by omega
  have hl1 : 1 < rows.length := by omega
  have HMl := Lib.hid hM
  clear hM
  go_enter Tryd.func38, Tryd.ntmps38
  go_wp2_with fail
  go_loopw [10] (fun i wr => ∃ k : Nat, k ≤ n ∧ i = .int .i64 k ∧ lvS.At wr M p ((rows.set 3 (layKv rows[3] (l.take k))).set 1 (hideKv rows[1] (l.take k))) ∧ Chg M w wr) (fun i _ => n - (intOf i).toNat)
  case atStart => exact ⟨0, Nat.zero_le _, rfl, by simpa [layKv, hideKv] using h, Chg.of_below (Below.refl _ _)⟩
  case round =>
    obtain ⟨k, hk, rfl, hat, hchg⟩ := hrel
    by_cases hlt : k < n
    · obtain ⟨b, off, es, hkl, rfl, hb, hc, hc0, hrd⟩ := hr.elem (hchg.keeps hd) hlt
      obtain ⟨rfl, hs1, hs2⟩ := hrd
      have e13 : Shape.PairD.size = 2 := rfl
      simp only [e13] at hc hc0
      clear e13
      have hb2 := Nat.lt_of_lt_of_le (hd b hb).1 hchg.size
      have hks : (k : Int) < n := by omega
      have hst : layKv rows[3] (l.take (k + 1)) = layOne (layKv rows[3] (l.take k)) l[k] := by rw [List.take_succ_eq_append_getElem hkl, layKv_snoc]
      have hst1 : hideKv rows[1] (l.take (k + 1)) = hideOne (hideKv rows[1] (l.take k)) l[k] := by rw [List.take_succ_eq_append_getElem hkl, hideKv_snoc]
      have HST1 := Lib.hid hst1; clear hst1
      generalize layKv rows[3] (l.take k) = kv at *
      generalize hideKv rows[1] (l.take k) = kv1 at *
      generalize l[k] = d at *
      have HST := Lib.hid hst; clear hst
      have HC := Lib.hid hchg; clear hchg
      have hML : ∀ n, M n → n < wr.heap.size := fun n hn => Nat.lt_of_lt_of_le (HMl.out n hn) HC.out.size
      have hse := size_empty d.value
      by_cases hv : d.value.size = 0
      · have HST2 := Lib.hid (show layKv rows[3] (l.take (k + 1)) = delKv kv d.key ∧ hideKv rows[1] (l.take (k + 1)) = delKv kv1 d.key by rw [HST.out, HST1.out]; unfold layOne hideOne; rw [if_pos hv, if_pos hv]; exact ⟨rfl, rfl⟩)
        have hse2 : d.value.toList.isEmpty = true := by rw [hse]; simpa using hv
        clear hse hv
        obtain ⟨r, cap, cur, refs, bp, br, hcur, hlen, hmaps, hnd, hp, hr2, hMM, hcap, hcap2⟩ := hat
        have kp := bp.cell 0
        simp only [List.getElem?_toArray, List.getElem?_cons_zero] at kp
        have hpl := bp.lt
        have hrl := br.lt
        have hlen2 : refs.length = rows.length := by rw [hlen, List.length_set, List.length_set]
        have hlr : 3 < refs.length := by omega
        have hlr1 : 1 < refs.length := by omega
        have kr : wr.cell? ⟨r, 3, none⟩ = some (.map (some refs[3])) := by rw [br.cell]; exact hcur 3 hlr
        have h1 : (3 : Int) < refs.length := by omega
        have h11 : (1 : Int) < refs.length := by omega
        have HCU := Lib.hid hcur; have HM := Lib.hid hmaps; have HLN := Lib.hid hlen; clear hcur hmaps hlen
        go_wp2_with fail
        refine wp_region_tail_of (fun u => ∃ bx, Blk u bx 49 #[.string d.key, .string d.value] ∧ u = (wr.alloc (.cells #[.string d.key, .string d.value] 49)).drew ∧ bx = wr.heap.size) ⟨_, Blk.new _ _ _, rfl, rfl⟩ 9 (by kernel_rfl) (by kernel_rfl) ?_
        rintro u ⟨bx, bbx, hu, hbx⟩
        have kp' : u.cell? ⟨p, 0, none⟩ = some (.slice (some ⟨r, 0, none⟩) refs.length cap) := by rw [hu]; go_simp
        have kr' : u.cell? ⟨r, 3, none⟩ = some (.map (some refs[3])) := by rw [hu]; go_simp
        have kb := bbx.cell 0
        simp only [List.getElem?_toArray, List.getElem?_cons_zero] at kb
        rw [← hbx]
        have hbel : Below wr.heap.size wr u := by rw [hu]; go_grown
        clear hu hbx kp kr
        simp only [List.take_succ_cons, List.take_zero, List.drop_succ_cons, List.drop_zero]
        repeat still_step
        refine wpStill_nil ?_
        have hmm := HM.out 3 hlr (by rw [← HLN.out]; exact hlr)
        have hkv3 : ((rows.set 3 kv).set 1 kv1)[3]'(by rw [List.length_set, List.length_set]; omega) = kv := by rw [List.getElem_set_ne (by omega), List.getElem_set_self]
        rw [hkv3] at hmm
        refine wpList_delete_kv rfl (.tmp 30) (.tmp 32) 90 9 rfl lvS.map_ty (hmm.of_block (hbel.block _ hmm.lt)) d.key rfl rfl ?_
        intro w1 hkv hon
        have hat' := LvAt.set_ bp br HCU.out HLN.out HM.out hnd hp hr2 hMM hcap hcap2 hlr hbel hon hkv
        have hrows3 : ((rows.set 3 kv).set 1 kv1).set 3 (delKv kv d.key) = (rows.set 3 (delKv kv d.key)).set 1 kv1 := by rw [List.set_comm _ _ (by omega), List.set_set]
        rw [hrows3] at hat'
        have HC1 := Lib.hid ((HC.out.trans (Chg.of_below hbel)).trans (Chg.of_only hon (hMM _ (List.getElem_mem hlr))))
        have bbx1 := bbx.grown hon.grown (fun e => by injection e with e; exact (hmm.of_block (hbel.block _ hmm.lt)).ne_blk bbx e.symm)
        clear hmm hkv hon hkv3 hrows3 kp' kr' kb bp br hpl hrl hnd hp hr2 hMM h1 h11 HCU HM HLN hbel bbx
        obtain ⟨r', cap', cur', refs', bp', br', hcur', hlen', hmaps', hnd', hp', hr2', hMM', hcap', hcap2'⟩ := hat'
        have kp := bp'.cell 0
        simp only [List.getElem?_toArray, List.getElem?_cons_zero] at kp
        have hpl := bp'.lt
        have hrl := br'.lt
        have hbl := bbx1.lt
        have hlen2' : refs'.length = rows.length := by rw [hlen', List.length_set, List.length_set]
        have hlr1' : 1 < refs'.length := by omega
        have kr : w1.cell? ⟨r', 1, none⟩ = some (.map (some refs'[1])) := by rw [br'.cell]; exact hcur' 1 hlr1'
        have h11 : (1 : Int) < refs'.length := by omega
        have HCU' := Lib.hid hcur'; have HM' := Lib.hid hmaps'; have HLN' := Lib.hid hlen'; clear hcur' hmaps' hlen'
        have kb := bbx1.cell 0
        simp only [List.getElem?_toArray, List.getElem?_cons_zero] at kb
        go_wp2_with fail
        refine wp_region_tail_of (fun u => Blk u bx 49 #[.string d.key, .string d.value] ∧ u = w1.drew) ⟨bbx1, rfl⟩ 8 (by kernel_rfl) (by kernel_rfl) ?_
        rintro u ⟨bbx2, hu⟩
        have kp : u.cell? ⟨p, 0, none⟩ = some (.slice (some ⟨r', 0, none⟩) refs'.length cap') := by rw [hu]; go_simp
        have kr : u.cell? ⟨r', 1, none⟩ = some (.map (some refs'[1])) := by rw [hu]; go_simp
        have kb := bbx2.cell 0
        simp only [List.getElem?_toArray, List.getElem?_cons_zero] at kb
        have hbel : Below w1.heap.size w1 u := by rw [hu]; go_grown
        clear hu
        simp only [List.take_succ_cons, List.take_zero, List.drop_succ_cons, List.drop_zero]
        repeat still_step
        refine wpStill_nil ?_
        have hmm := HM'.out 1 hlr1' (by rw [← HLN'.out]; exact hlr1')
        rw [List.getElem_set_self] at hmm
        refine wpList_delete_kv rfl (.tmp 40) (.tmp 42) 90 9 rfl lvS.map_ty (hmm.of_block (hbel.block _ hmm.lt)) d.key rfl rfl ?_
        intro w2 hkv hon
        have hat2 := LvAt.set_ bp' br' HCU'.out HLN'.out HM'.out hnd' hp' hr2' hMM' hcap' hcap2' hlr1' hbel hon hkv
        rw [List.set_set, ← HST2.out.1, ← HST2.out.2] at hat2
        have HC2 := Lib.hid ((HC1.out.trans (Chg.of_below hbel)).trans (Chg.of_only hon (hMM' _ (List.getElem_mem hlr1'))))
        have HAT := Lib.hid hat2
        clear hat2 hmm hkv hon
        go_wp2_with fail
        go_roundw
        case rel => exact ⟨k + 1, by omega, by go_num, HAT.out, HC2.out⟩
        case measure => simp [intOf]; omega
      · have HST2 := Lib.hid (show layKv rows[3] (l.take (k + 1)) = putKv kv d.key (d.value, false) ∧ hideKv rows[1] (l.take (k + 1)) = kv1 by rw [HST.out, HST1.out]; unfold layOne hideOne; rw [if_neg hv, if_neg hv]; exact ⟨rfl, rfl⟩)
        have hse2 : d.value.toList.isEmpty = false := by rw [hse]; simpa using hv
        clear hse hv
        have HAT := Lib.hid (hat.keep (fun n hn => Below.heap_alloc wr (.cells #[.string d.key, .string d.value] 49) n (hML n hn)))
        clear hat
        have hml : 3 < ((rows.set 3 kv).set 1 kv1).length := by rw [List.length_set, List.length_set]; exact hl3
        have hkv3 : ((rows.set 3 kv).set 1 kv1)[3] = kv := by rw [List.getElem_set_ne (by omega), List.getElem_set_self]
        have HSY := Lib.hid (lvS.set_yes _ 3 d.key d.value HAT.out hml)
        rw [hkv3] at HSY
        clear hkv3 hml
        go_wp2_with fail
        refine HSY.out.mono ?_
        rintro e w2 ⟨rfl, hc2, hat2⟩
        rw [List.set_comm _ _ (by omega), List.set_set, ← HST2.out.1, ← HST2.out.2] at hat2
        have HAT2 := Lib.hid hat2
        have HC2 := Lib.hid ((HC.out.trans (Chg.of_below (below_alloc' wr (.cells #[.string d.key, .string d.value] 49)))).trans hc2)
        clear hat2 hc2
        go_wp2_with fail
        go_roundw
        case rel => exact ⟨k + 1, by omega, by go_num, HAT2.out, HC2.out⟩
        case measure => simp [intOf]; omega
    · have htk : l.take k = l := List.take_of_length_le (by rw [HL.out]; omega)
      rw [htk] at hat
      go_wp2
      go_returns
      exact ⟨rfl, hchg, hat⟩
end Go.Proofs.YtnadldcdckjifaaDoor
