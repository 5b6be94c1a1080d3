/- A queue of later's, its values int: Drop. No condition but room. -/
import Derived.Test.YtdmpdinaineiiaaDoorQI
import Derived.Test.YtdmpdinaineiiaaDoorQDropLaw
namespace Go.Proofs.YtdmpdinaineiiaaDoor
open Go.RowKit
set_option linter.unusedVariables false
set_option linter.unusedSimpArgs false
attribute [local go_sem] cell?_over frozen?_over lt_over le_over
def StopI (p : Prop) : Prop := p
theorem StopI.mk {p : Prop} (h : StopI p) : p := h
set_option maxHeartbeats 1000000 in
set_option maxRecDepth 100000 in
theorem dropI {w : World} {X : List Nat} {q b : Nat} {kv : KV} (hq : QuI w X q b kv) {A : Option Addr} {n c : Nat} {dir : List ByteArray} (h : Row Shape.str w (Out [b] w) A n dir) (hn : n ≤ 1048576) (hkv : kv.length ≤ 1000000000) :
    Calls Tryd.prog 17 #[.pointer (some ⟨q, 0, none⟩), .slice A n c] w (DropP cvI 63 w X q b kv dir) := by
  have HQ := Lib.hid hq
  have R := Lib.hid h
  have c0 : w.cell? ⟨q, 0, none⟩ = some (.map (some b)) := hq.blk.cell 0
  have ltq := hq.blk.lt
  have ltb := hq.map.lt
  have neqb := hq.qb
  clear h hq
  go_enter Tryd.func17, Tryd.ntmps17
  go_wp2_with (first
    | (at_range; refine wpList_range_kv rfl (.tmp 11) _ rfl undI HQ.out.map rfl ?_; intro w3 hit hg3 hz3))
  go_frame
  have hgb : w.grownBy w3 (some b) := grown_new (grown_refl w _) hg3 (fun k e => by cases e)
  have H0 := Lib.hid (DropI.mk (dir := dir) (v := .int .i64 0) (vis := []) rfl hit (List.Perm.refl _) (List.Perm.refl _) hgb)
  clear hit hg3 hgb hz3 c0
  go_loopw [5] (fun v wr => ∃ vis left kvc, DropI (cv := cvI) dir kv w w.heap.size b v wr vis left kvc) (fun _ wr => wr.rangeLeft b w.heap.size)
  case atStart => exact ⟨_, _, _, H0.out⟩
  case round =>
    clear H0
    obtain ⟨vis, left, kvc, hD⟩ := hrel
    obtain ⟨rfl, hit, hperm, hcur, hg⟩ := hD
    have IT := Lib.hid hit; have PM := Lib.hid hperm; have CU := Lib.hid hcur; have HG := Lib.hid hg
    clear hit hperm hcur hg
    go_wp2_with (first
      | (at_next; refine wpList_next_kv rfl (.tmp 12) rfl rfl IT.out (fun hl0 => StopI.mk ?_) (fun k v left' w4 hpl hit4 hg4 hz4 hen => StopI.mk ?_)))
    · unfold StopI
      subst hl0
      have hd := (DropI.mk (cv := cvI) (dir := dir) rfl IT.out PM.out CU.out HG.out).done
      obtain ⟨hd1, hd2⟩ := hd
      have HD1 := Lib.hid hd1; have HD2 := Lib.hid hd2
      clear hd1 hd2
      go_wp2_with fail
      go_ret
      refine ⟨kvc, HD1.out, by rw [← HD2.out]; first | rfl | simp, HG.out, HQ.out.sub HG.out IT.out.isMap fun p hp => ?_⟩
      exact (List.mem_filter.1 (HD1.out.subset hp)).1
    · unfold StopI
      have hen2 : (Instr.entry (.pointer (some ⟨w.heap.size, 0, none⟩))).run Tryd.prog w4 = .ok (.tuple #[.string k, .agg #[.slice v.A v.n v.c, .int .i64 v.d.v]]) w4 := hen
      have hknl : k ∉ left'.map (·.1) := by
        have := (List.Perm.nodup_iff (hpl.map _)).1 IT.out.nodup
        rw [List.map_cons, List.nodup_cons] at this
        exact this.1
      have hmem : (k, v) ∈ kv := PM.out.subset (List.mem_append_right _ (hpl.symm.subset (by simp)))
      have hg4' : w.grownBy w4 (some b) := grown_new HG.out hg4 (fun m e => by rw [Option.some.injEq] at e; exact Nat.le_of_eq e)
      have hrow := HQ.out.rows _ hmem
      have hkp : Keeps (Out X w) w w4 := (Keeps.of_grown hg4').mono fun n hn => ⟨hn.1, fun e => hn.2 (by injection e with e; rw [e]; exact HQ.out.bX)⟩
      have hkp0 : Keeps (Out [b] w) w w4 := (Keeps.of_grown hg4').mono fun n hn => ⟨hn.1, fun e => hn.2 (by injection e with e; rw [e]; simp)⟩
      have hR4 := (R.out.keep hkp0).more (M' := Old w4) fun n hn => Nat.lt_of_lt_of_le hn.1 hg4'.size
      have hV4 := (hrow.2.keep hkp).more (M' := Old w4) fun n hn => Nat.lt_of_lt_of_le hn.1 hg4'.size
      have hvl : v.n ≤ 1048576 := by
        have h1 := len_bulk Shape.str v.d.parts
        have h2 := hV4.1.1
        have h3 : bulkAll Shape.str.bulk v.d.parts ≤ 1048576 := hV4.2.2.2.2
        simp only at h2 h3
        rw [← h2]
        exact Nat.le_trans h1 h3
      have hq4 : w4.cell? ⟨q, 0, none⟩ = some (.map (some b)) := (HQ.out.blk.grown hg4' (fun e => neqb (by injection e))).cell 0
      have ltq4 : q < w4.heap.size := Nat.lt_of_lt_of_le ltq hg4'.size
      have hcnt : (vis.filter (wi dir)).length ≤ kv.length := by
        have h1 := List.length_filter_le (wi dir) vis
        have h2 := PM.out.length_eq
        rw [List.length_append] at h2
        omega
      have R4 := Lib.hid hR4; have V4 := Lib.hid hV4; have G4 := Lib.hid hg4'; have IT4 := Lib.hid hit4; have PL := Lib.hid hpl; have KN := Lib.hid hknl
      have HS4 := Lib.hid hg4'.size
      clear hR4 hV4 hg4' hit4 hpl hknl hkp hkp0 hrow hmem hen hz4 hg4
      have P6 := Lib.hid (perm_next PM.out PL.out)
      have hpl2 := PL.out.length_eq
      have HPL := Lib.hid hpl2
      clear hpl2
      go_wp2_with fail
      refine (routeWithin _ (R4.out.below (below_alloc' _ _)) (V4.out.1.below (below_alloc' _ _)) V4.out.2.1 V4.out.2.2.1 (by omega) (by omega)).mono ?_
      rintro e w5 ⟨rfl, δ, hw5⟩
      have hb5 := below_old (below_alloc' w4 _) (below_of hw5)
      have IT5 := Lib.hid (IT4.out.below hb5)
      have G5 := Lib.hid (grown_below G4.out hb5)
      have c5 : w5.cell? ⟨q, 0, none⟩ = some (.map (some b)) := (HQ.out.blk.grown G5.out (fun e => neqb (by injection e))).cell 0
      have ltq5 : q < w5.heap.size := Nat.lt_of_lt_of_le ltq G5.out.size
      clear hw5 hb5 hq4 ltq4 hen2 IT4 G4 R4 V4
      cases hw : within dir v.d.parts with
      | true =>
        have HF : ∀ (p : ByteArray × QV → Bool) (bv : Bool), p (k, v) = bv → (vis ++ [(k, v)]).filter p = vis.filter p ++ (if bv then [(k, v)] else []) := fun p bv hp => by rw [List.filter_append, List.filter_cons, List.filter_nil, hp]
        have hf1 := HF (wi dir) true hw
        have hf2 := HF (nw dir) false (by unfold nw; rw [hw]; rfl)
        simp only [if_true, Bool.false_eq_true, if_false, List.append_nil] at hf1 hf2
        have F1 := Lib.hid hf1; have F2 := Lib.hid hf2
        clear hw hf1 hf2 HF
        go_wp2_with (first
          | (refine wpList_delete_it (cv := cvI) (K := keyK) rfl (.tmp 25) (.tmp 26) 61 9 rfl undI IT5.out k KN.out rfl rfl ?_; intro w6 hit6 ho6))
        have G6 := Lib.hid (grown_trans G5.out ho6.grown)
        go_roundw
        case rel =>
          refine ⟨vis ++ [(k, v)], left', delKv kvc k, ⟨?_, hit6, P6.out, ?_, G6.out⟩⟩
          · rw [F1.out, List.length_append]; first | rfl | simp
          · rw [F2.out]
            exact del_perm (CU.out.trans (List.Perm.append_left _ PL.out)) IT5.out.isMap.nodup_keys
        case measure =>
          rw [hit6.left_eq, IT.out.left_eq, HPL.out]
          simp
      | false =>
        have HF : ∀ (p : ByteArray × QV → Bool) (bv : Bool), p (k, v) = bv → (vis ++ [(k, v)]).filter p = vis.filter p ++ (if bv then [(k, v)] else []) := fun p bv hp => by rw [List.filter_append, List.filter_cons, List.filter_nil, hp]
        have hf1 := HF (wi dir) false hw
        have hf2 := HF (nw dir) true (by unfold nw; rw [hw]; rfl)
        simp only [if_true, Bool.false_eq_true, if_false, List.append_nil] at hf1 hf2
        have F1 := Lib.hid hf1; have F2 := Lib.hid hf2
        clear hw hf1 hf2 HF
        go_wp2_with fail
        go_roundw
        case rel =>
          refine ⟨vis ++ [(k, v)], left', kvc, ⟨?_, IT5.out, P6.out, ?_, G5.out⟩⟩
          · rw [F1.out]
          · rw [F2.out, List.append_assoc]
            exact CU.out.trans (List.Perm.append_left _ PL.out)
        case measure =>
          rw [IT5.out.left_eq, IT.out.left_eq, HPL.out]
          simp
end Go.Proofs.YtdmpdinaineiiaaDoor
