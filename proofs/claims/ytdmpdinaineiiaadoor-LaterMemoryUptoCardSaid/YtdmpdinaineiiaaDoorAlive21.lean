/- alive of valiselaw21: the queue does what the document fixes. No condition but the table of powers of ten. -/
import Derived.Test.YtdmpdinaineiiaaDoorLtSame
import Derived.Test.YtdmpdinaineiiaaDoorTI
import Derived.Test.YtdmpdinaineiiaaDoorDI
import Derived.Test.YtdmpdinaineiiaaDoorOwnCell
namespace Go.Proofs.YtdmpdinaineiiaaDoor
open Go.RowKit
set_option linter.unusedVariables false
set_option linter.unusedSimpArgs false
attribute [local go_sem] cell?_over frozen?_over lt_over le_over
theorem row_strs (w : World) (T : TypeId) {l : List ByteArray} (h : ∀ x ∈ l, x.size ≤ maxLen) : Row Shape.str (w.alloc (.cells (l.map Value.string).toArray T)) (Old (w.alloc (.cells (l.map Value.string).toArray T))) (some ⟨w.heap.size, 0, none⟩) l.length l := by
  refine ⟨rfl, fun _ => ⟨w.heap.size, 0, rfl, by simp, fun i hi => ⟨[.string l[i]], fun j hj => ?_, rfl, h _ (List.getElem_mem hi)⟩⟩⟩
  have e13 : Shape.str.size = 1 := rfl
  rw [e13] at hj ⊢
  obtain rfl : j = 0 := by omega
  have := (Blk.new w T (l.map Value.string).toArray).cell (0 + i * 1 + 0)
  rw [this]
  simp [hi]
def tA : ByteArray := ⟨#[97]⟩
def tB : ByteArray := ⟨#[98]⟩
theorem alive_list : putI' (putI' [] ⟨[tA], 1⟩) ⟨[tA, tB], 3⟩ = [⟨[tA, tB], 3⟩, ⟨[tA], 1⟩] := by decide +kernel
set_option maxHeartbeats 1000000 in
set_option maxRecDepth 100000 in
theorem alive21 (w : World) (hp : Pow10 w) : Calls Tryd.prog 7 #[] w fun e w' => e = .returned (.bool true) ∧ Below w.heap.size w w' := by
  go_enter Tryd.func7, Tryd.ntmps7
  go_wp2_with fail
  refine (newI w).mono ?_
  rintro e w1 ⟨q, b, rfl, hb1, hQ1, hbb, hqq⟩
  have HB1 := Lib.hid hb1
  have Q1 := Lib.hid hQ1
  clear hb1 hQ1
  go_wp2_with fail
  have r1 := row_strs w1 9 (l := [tA]) (by decide)
  have R1 := Lib.hid r1
  clear r1
  refine (putI (kv := []) (Q1.out.below (below_alloc' w1 _)) 1 R1.out (by decide) ⟨by omega, by omega⟩ (hp.keep (below_old HB1.out (below_alloc' w1 _)))).mono ?_
  rintro e w2 ⟨x1, hx1, rfl, hg2, hQ2⟩
  have HB2 := Lib.hid ((below_old HB1.out (below_alloc' w1 _)).grown hg2 (Nat.le_trans HB1.out.size (by simp)) (fun k e => by injection e with e; omega))
  have Q2 := Lib.hid hQ2
  have REP2 := Lib.hid (Rep.nil.put (Q1.out.keyed) x1)
  rw [hx1] at REP2
  have HX1 := Lib.hid hx1
  clear hg2 hQ2 R1 hx1
  go_wp2_with fail
  have r2 := row_strs w2 9 (l := [tA, tB]) (by decide)
  have R2 := Lib.hid r2
  clear r2
  refine (putI (Q2.out.below (below_alloc' w2 _)) 3 R2.out (by decide) ⟨by omega, by omega⟩ (hp.keep (below_old HB2.out (below_alloc' w2 _)))).mono ?_
  rintro e w3 ⟨x2, hx2, rfl, hg3, hQ3⟩
  have HB3 := Lib.hid ((below_old HB2.out (below_alloc' w2 _)).grown hg3 (Nat.le_trans HB2.out.size (by simp)) (fun k e => by injection e with e; omega))
  have Q3 := Lib.hid hQ3
  have hrep := REP2.out.put (Q2.out.keyed) x2
  rw [hx2] at hrep
  simp only at hrep
  rw [alive_list] at hrep
  have REP3 := Lib.hid hrep
  clear hg3 hQ3 R2 hx2 hrep REP2
  obtain ⟨kv3, hkv3⟩ : ∃ kv3, kv3 = putKv (putKv [] (keyS [tA]) x1) (keyS [tA, tB]) x2 := ⟨_, rfl⟩
  have Q3' : Hid (QuI w3 [b] q b kv3) := Lib.hid (by rw [hkv3]; exact Q3.out)
  have REP3' : Hid (Rep kv3 [⟨[tA, tB], 3⟩, ⟨[tA], 1⟩]) := Lib.hid (by rw [hkv3]; exact REP3.out)
  have hl3 : kv3.length = 2 := REP3'.out.length
  clear Q3 REP3 hkv3
  go_wp2_with fail
  refine (itemsI Q3'.out (by omega)).mono ?_
  rintro e w4 ⟨v, lo, rfl, hown, hperm, hpair, hb4, _, hvb, _⟩
  have hlo := REP3'.out.items hperm hpair
  have hll : lo.length = 2 := by have := congrArg List.length hlo; simpa using this
  obtain ⟨g, cap, hv⟩ : ∃ g cap, v = .slice (some ⟨g, 0, none⟩) lo.length cap := by
    rcases hown.form with ⟨hv, _⟩ | ⟨g, cap, hv, _⟩
    · exact absurd (by rw [hv]; rfl) hvb
    · exact ⟨g, cap, hv⟩
  subst hv
  obtain ⟨es0, he0, hc0, _⟩ := hown.cellC rfl (i := 0) (by omega)
  obtain ⟨es1, he1, hc1, _⟩ := hown.cellC rfl (i := 1) (by omega)
  have hd0 : lo[0].d = ⟨[tA, tB], 3⟩ := by
    have := congrArg (fun l => l[0]?) hlo
    simp only [List.getElem?_map, List.getElem?_eq_getElem (show 0 < lo.length by omega), Option.map_some, List.getElem?_cons_zero, Option.some.injEq] at this
    exact this
  have hd1 : lo[1].d = ⟨[tA], 1⟩ := by
    have := congrArg (fun l => l[1]?) hlo
    simp only [List.getElem?_map, List.getElem?_eq_getElem (show 1 < lo.length by omega), Option.map_some, List.getElem?_cons_succ, List.getElem?_cons_zero, Option.some.injEq] at this
    exact this
  have e0 := he0.1
  have e1 := he1.1
  rw [hd0] at e0
  rw [hd1] at e1
  subst e0 e1
  have y1 : w4.cell? ⟨g, 1, none⟩ = some (.int .i64 3) := hc0 1 (by decide)
  have y3 : w4.cell? ⟨g, 3, none⟩ = some (.int .i64 1) := hc1 1 (by decide)
  have glt := (hown.lt g rfl).2
  have Q4 := Lib.hid (Q3'.out.below hb4)
  have HB4 := Lib.hid (below_old HB3.out hb4)
  rw [hll]
  clear hown hperm hpair hb4 hvb hlo hc0 hc1 he0 he1 hd0 hd1 Q3' hll
  go_wp2_with (first | (go_at_call 19; refine (lenI Q4.out).mono ?_; rintro e w5 ⟨rfl, rfl⟩; rw [hl3]))
  go_ret
  exact ⟨by first | rfl | simp, HB4.out⟩
end Go.Proofs.YtdmpdinaineiiaaDoor
