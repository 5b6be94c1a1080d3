/- manifest.show of a line that does not print; the text of a line, plain. No condition but room. -/
import Derived.Test.YtdlkgpnfhmablaaDoorTail
import Derived.Test.YtdlkgpnfhmablaaDoorStShow4
import Derived.Test.YtdlkgpnfhmablaaDoorRefStShow
import Derived.Test.YtdlkgpnfhmablaaDoorEsc
namespace Go.Proofs.YtdlkgpnfhmablaaDoor
open Go.RowKit
set_option linter.unusedVariables false
set_option linter.unusedSimpArgs false
attribute [local go_sem] cell?_over frozen?_over lt_over le_over

/-- the text of a line, without its end -/
def lineBody (d : LineD) : List UInt8 :=
  permText d.kind d.mode ++ [32] ++ Lib.itoa d.uid ++ [32] ++ Lib.itoa d.gid ++ [32] ++ stText d.mtime.sec d.mtime.nano ++ [32] ++ esc d.path.data.toList ++
    (if tailMark d = [] then [] else [32] ++ tailMark d ++ [32] ++ esc (tailField d).data.toList)
theorem stampAny (s n : Int) (w : World) (hp : Pow10 w) (hs : I64 s) (hn : I64 n) :
    Calls Tryd.prog 19 #[.agg #[.int .i64 s, .int .i64 n]] w fun e w' => ∃ t f, e = .returned (.tuple #[.string t, .int .i64 f]) ∧ Below w.heap.size w w' ∧ f = if stampOk s n then 0 else 20 := by
  by_cases hb : stampOk s n = true
  · exact (stampShow s n w hp hs hn hb).mono fun e w' ⟨he, h⟩ => ⟨_, _, he, h, by rw [if_pos hb]⟩
  · rw [Bool.not_eq_true] at hb
    exact (stampShow_bad s n w hb).mono fun e w' ⟨he, h⟩ => ⟨_, _, he, h, by rw [if_neg (by rw [hb]; decide)]⟩
theorem permsAny (k m : Int) (w : World) (hm : I64 m) :
    Calls Tryd.prog 18 #[.int .i64 k, .int .i64 m] w fun e w' => ∃ t f, e = .returned (.tuple #[.string t, .int .i64 f]) ∧ Below w.heap.size w w' ∧ f = if permOk k m then 0 else 120 := by
  by_cases hb : permOk k m = true
  · exact (permsText k m w hb).mono fun e w' ⟨he, h⟩ => ⟨_, _, he, h, by rw [if_pos hb]⟩
  · rw [Bool.not_eq_true] at hb
    exact (permsText_bad k m w hm hb).mono fun e w' ⟨he, h⟩ => ⟨_, _, he, by rw [h]; exact Below.refl _ _, by rw [if_neg (by rw [hb]; decide)]⟩
abbrev lineCs (d : LineD) (A : Option Addr) (n c : Nat) : Array Value := #[.string d.path, .int .i64 d.kind, .int .i64 d.mode, .int .i64 d.uid, .int .i64 d.gid, .int .i64 d.mtime.sec, .int .i64 d.mtime.nano, .slice A n c, .string d.target, .string d.peer]
set_option maxHeartbeats 2000000 in
set_option maxRecDepth 100000 in
theorem show_bad (d : LineD) {cs : List Value} (w : World) (h : LineD.rd w (Old w) cs d) (hp : Pow10 w) (hb : rOk d = false) :
    Calls Tryd.prog 10 #[.agg cs.toArray] w fun e w' => e = .returned (.tuple #[.string ⟨#[]⟩, .bool false]) ∧ Below w.heap.size w w' := by
  have HR := Lib.hid h
  obtain ⟨A, n, c, rfl, s0, i1, i2, i3, i4, i5, i6, hnc, hcm, hrow, s8, s9⟩ := h
  have hok := ok_same d
  rw [hb] at hok
  clear hb
  go_enter Tryd.func10, Tryd.ntmps10
  go_wp2_with fail
  refine (permsAny _ _ _ i2).mono ?_
  rintro e u ⟨t1, f1, rfl, hb1, hf1⟩
  obtain ⟨b1, hbw1, hsz1⟩ := blks1 hb1
  have k1 := b1.cell
  have HB1 := Lib.hid b1; have HW1 := Lib.hid hbw1; have HF1 := Lib.hid hf1
  clear hb1 b1 hbw1 hf1
  have HP1 := Lib.hid (hp.keep HW1.out)
  go_wp2_with fail
  refine (stampAny _ _ _ HP1.out i5 i6).mono ?_
  rintro e u2 ⟨t2, f2, rfl, hb2, hf2⟩
  have HB2 := Lib.hid (HB1.out.below hb2 HB1.out.lt)
  have k2 := HB2.out.cell
  have HW2 := Lib.hid (HW1.out.trans (hb2.mono (by omega)))
  have HF2 := Lib.hid hf2
  clear hb2 hf2 k1
  by_cases c1 : permOk d.kind d.mode = true
  · have e1 : f1 = 0 := by rw [HF1.out, if_pos c1]
    subst e1
    by_cases c2 : stampOk d.mtime.sec d.mtime.nano = true
    · have e2 : f2 = 0 := by rw [HF2.out, if_pos c2]
      subst e2
      by_cases c3 : 3 < d.kind
      · have d3 : decide (d.kind > 3) = true := by simpa using c3
        clear hok c1 c2
        go_wp2_with fail
        go_ret2
        exact ⟨rfl, HW2.out⟩
      · have d3 : decide (d.kind > 3) = false := by simpa using c3
        have c4 : pOk d = false := by
          rw [c1, c2, show decide (3 < d.kind) = false by simpa using c3] at hok
          simpa using hok
        clear hok c1 c2
        have HC4 := Lib.hid c4
        clear c4
        have HPR := Lib.hid (prints d u2 (Shape.LineD.below HR.out HW2.out))
        go_wp2_with (first | (go_at_call 20; refine HPR.out.mono ?_; rintro e u3 ⟨rfl, hb3⟩; rw [HC4.out]))
        go_ret2
        exact ⟨rfl, HW2.out.trans (hb3.mono HW2.out.size)⟩
    · have e2 : f2 = 20 := by rw [HF2.out, if_neg c2]
      subst e2
      go_wp2_with fail
      go_ret2
      exact ⟨rfl, HW2.out⟩
  · have e1 : f1 = 120 := by rw [HF1.out, if_neg c1]
    subst e1
    go_wp2_with fail
    go_ret2
    exact ⟨rfl, HW2.out⟩
end Go.Proofs.YtdlkgpnfhmablaaDoor
