/- manifest.Print and the reference's Print: the same text. No condition but room. -/
import Derived.Test.YtdlkgpnfhmablaaDoorRefLine
import Derived.Test.YtdlkgpnfhmablaaDoorBldStr
import Derived.Test.YtdlkgpnfhmablaaDoorLines
namespace Go.Proofs.YtdlkgpnfhmablaaDoor
open Go.RowKit
set_option linter.unusedVariables false
set_option linter.unusedSimpArgs false
attribute [local go_sem] cell?_over frozen?_over lt_over le_over

def textOf (l : List LineD) : List UInt8 := l.flatMap fun d => lineBody d ++ [10]
def okAll (l : List LineD) : Bool := l.all rOk
/-- what Print answers -/
def printText (l : List LineD) : List UInt8 := if okAll l then textOf l else []
def printErr (l : List LineD) : Int := if okAll l then 0 else 150
theorem print_ok {l : List LineD} (h : okAll l = true) : printText l = textOf l ∧ printErr l = 0 := ⟨if_pos h, if_pos h⟩
theorem print_no {l : List LineD} (h : okAll l = false) : printText l = [] ∧ printErr l = 150 := ⟨if_neg (by rw [h]; decide), if_neg (by rw [h]; decide)⟩
theorem text_take {l : List LineD} {k : Nat} (h : k < l.length) : textOf (l.take (k + 1)) = textOf (l.take k) ++ (lineBody l[k] ++ [10]) := by
  unfold textOf
  rw [List.take_succ_eq_append_getElem h, List.flatMap_append]
  simp
theorem ok_take {l : List LineD} {k : Nat} (h : k < l.length) (h1 : okAll (l.take k) = true) (h2 : rOk l[k] = true) : okAll (l.take (k + 1)) = true := by
  unfold okAll at *
  rw [List.take_succ_eq_append_getElem h, List.all_append, h1]
  simp [h2]
theorem not_ok {l : List LineD} {k : Nat} (h : k < l.length) (h2 : rOk l[k] = false) : okAll l = false := by
  rw [← Bool.not_eq_true]
  intro hc
  have := List.all_eq_true.1 hc l[k] (List.getElem_mem h)
  rw [h2] at this; cases this
theorem text_mono (l : List LineD) (k : Nat) : (textOf (l.take k)).length ≤ (textOf l).length := by
  have : textOf l = textOf (l.take k) ++ textOf (l.drop k) := by
    unfold textOf
    rw [← List.flatMap_append, List.take_append_drop]
  rw [this]; simp
theorem LineD.rd.uidI {w : World} {M : Nat → Prop} {cs : List Value} {d : LineD} (h : LineD.rd w M cs d) : I64 d.uid := by
  obtain ⟨_, _, _, _, _, _, _, h, _⟩ := h; exact h
theorem LineD.rd.gidI {w : World} {M : Nat → Prop} {cs : List Value} {d : LineD} (h : LineD.rd w M cs d) : I64 d.gid := by
  obtain ⟨_, _, _, _, _, _, _, _, h, _⟩ := h; exact h
theorem LineD.rd.secI {w : World} {M : Nat → Prop} {cs : List Value} {d : LineD} (h : LineD.rd w M cs d) : I64 d.mtime.sec := by
  obtain ⟨_, _, _, _, _, _, _, _, _, h, _⟩ := h; exact h
theorem strV_app (a b : List UInt8) : (ByteArray.mk a.toArray).data.toList = a := rfl
theorem bytes_src {w : World} {l : List UInt8} {B : Nat} (h : ∀ (j : Nat) (hj : j < (ByteArray.mk l.toArray).data.size), w.cell? ⟨B, j, none⟩ = some (.int .u8 ((ByteArray.mk l.toArray).data[j].toNat : Int))) : Src Shape.byte w (fun _ => False) (some ⟨B, 0, none⟩) (ByteArray.mk l.toArray).size l := by
  have hr : Row Shape.byte w (fun _ => True) (some ⟨B, 0, none⟩) l.length l := by
    refine ⟨rfl, fun _ => ⟨B, 0, rfl, trivial, fun i hi => ⟨[.int .u8 l[i].toNat], fun j hj => ?_, rfl⟩⟩⟩
    have e13 : Shape.byte.size = 1 := rfl
    have : j = 0 := by omega
    subst this
    have := h i (by simpa using hi)
    simpa [e13] using this
  exact (Row.src hr).flat flat_byte
set_option maxHeartbeats 1000000 in
set_option maxRecDepth 100000 in
theorem manPrint {A : Option Addr} {n c : Nat} {l : List LineD} (w : World) (h : Row Shape.LineD w (Old w) A n l) (hp : Pow10 w) (hs : ∀ d ∈ l, SmallD d) (hn : n ≤ 100000000) (ht : okAll l = true → (textOf l).length ≤ 900000000000) (hq : ∀ k, k ≤ n → okAll (l.take k) = true → (textOf (l.take k)).length ≤ 900000000000) :
    Calls Tryd.prog 6 #[.slice A n c] w fun e w' => e = .returned (.tuple #[strV (printText l), .int .i64 (printErr l)]) ∧ Below w.heap.size w w' := by
  have HL := Lib.hid h.1
  go_enter Tryd.func6, Tryd.ntmps6
  go_wp2_with fail
  go_loopw [11] (fun i wr => ∃ k : Nat, k ≤ n ∧ i = .int .i64 k ∧ BW w w.heap.size w.heap.size (textOf (l.take k)) wr ∧ okAll (l.take k) = true) (fun i _ => n - (intOf i).toNat)
  case atStart => exact ⟨0, Nat.zero_le _, rfl, BW.new w, rfl⟩
  case round =>
    obtain ⟨k, hk, rfl, hbw, hok⟩ := hrel
    have O := Lib.hid hbw; clear hbw
    by_cases hlt : k < n
    · obtain ⟨b, off, es, hkl, rfl, hb, hc, hc0, hr⟩ := h.elem (Keeps.old O.out.below) hlt
      have hsm := Lib.hid (hs _ (List.getElem_mem hkl))
      have hr2 : LineD.rd wr (Old wr) es l[k] := Shape.LineD.more hr fun _ hn => Old.below O.out.below hn
      have R := Lib.hid hr2; clear hr2
      have HOK := Lib.hid hok; clear hok
      have HT := Lib.hid (text_take hkl)
      have hle := hq k hk HOK.out
      have hP := Lib.hid (hp.keep O.out.below)
      obtain ⟨A1, n1, c1, rfl, -⟩ := hr
      have e13 : Shape.LineD.size = 10 := rfl
      simp only [e13] at hc hc0
      clear e13
      have hb2 := Nat.lt_of_lt_of_le hb O.out.below.size
      have hks : (k : Int) < n := by omega
      generalize textOf (l.take k) = acc at *
      have O2 := Lib.hid (O.out.alloc (.cells #[.string l[k].path, .int .i64 l[k].kind, .int .i64 l[k].mode, .int .i64 l[k].uid, .int .i64 l[k].gid, .int .i64 l[k].mtime.sec, .int .i64 l[k].mtime.nano, .slice A1 n1 c1, .string l[k].target, .string l[k].peer] 34))
      have R2 := Lib.hid (Shape.LineD.below R.out (below_alloc' wr (.cells #[.string l[k].path, .int .i64 l[k].kind, .int .i64 l[k].mode, .int .i64 l[k].uid, .int .i64 l[k].gid, .int .i64 l[k].mtime.sec, .int .i64 l[k].mtime.nano, .slice A1 n1 c1, .string l[k].target, .string l[k].peer] 34)))
      have P2 := Lib.hid (hP.out.keep (below_alloc' wr (.cells #[.string l[k].path, .int .i64 l[k].kind, .int .i64 l[k].mode, .int .i64 l[k].uid, .int .i64 l[k].gid, .int .i64 l[k].mtime.sec, .int .i64 l[k].mtime.nano, .slice A1 n1 c1, .string l[k].target, .string l[k].peer] 34)))
      by_cases hrk : rOk l[k] = true
      · have HOK2 := Lib.hid (ok_take hkl HOK.out hrk)
        have HRK := Lib.hid hrk
        have hlb := lineBody_len hsm.out R.out.uidI R.out.gidI R.out.secI (ok_parts hrk).2.1
        have hlt2 := tailField_size hsm.out
        have hps := hsm.out.1
        clear hrk
        go_wp2_with fail
        refine (show_ok l[k] _ R2.out P2.out hsm.out HRK.out).mono ?_
        rintro e w2 ⟨rfl, hb2⟩
        have O3 := Lib.hid (O2.out.grown (grownBy_of_below hb2))
        clear hb2
        unfold strV
        go_wp2_with (first
          | (go_at_call 11; refine (writeStringW O3.out ⟨(lineBody l[k]).toArray⟩ (by simp [ByteArray.size]; omega)).mono ?_; rintro e w3 ⟨rfl, h3⟩; have O4 := Lib.hid h3)
          | (go_at_call 12; refine (writeByteW O4.out _ 10 rfl (by simp; omega)).mono ?_; rintro e w4 ⟨rfl, h4⟩))
        go_roundw
        case rel => exact ⟨k + 1, by omega, by go_num, by rw [HT.out, ← List.append_assoc]; exact h4, HOK2.out⟩
        case measure => simp [intOf]; omega
      · rw [Bool.not_eq_true] at hrk
        have HNO := Lib.hid (not_ok hkl hrk)
        have HRK := Lib.hid hrk
        clear hrk
        go_wp2_with fail
        refine (show_bad l[k] _ R2.out P2.out HRK.out).mono ?_
        rintro e w2 ⟨rfl, hb2⟩
        have W2 := Lib.hid (O2.out.below.trans (hb2.mono O2.out.sz))
        clear hb2
        go_wp2_with fail
        go_ret2
        refine ⟨?_, W2.out⟩
        rw [(print_no HNO.out).1, (print_no HNO.out).2]
        rfl
    · have hkn : k = n := by omega
      have htk : l.take k = l := List.take_of_length_le (by rw [HL.out]; omega)
      rw [htk] at O hok
      clear htk
      have hks : ¬ (k : Int) < n := by omega
      have HOK := Lib.hid hok; clear hok
      go_wp2_with (first | (go_at_call 13; refine (bldStringW O.out).mono ?_; rintro e w1 ⟨rfl, h1⟩))
      go_ret2
      refine ⟨?_, h1⟩
      rw [(print_ok HOK.out).1, (print_ok HOK.out).2]
      rfl
set_option maxHeartbeats 1000000 in
set_option maxRecDepth 100000 in
theorem refPrint {A : Option Addr} {n c : Nat} {l : List LineD} (w : World) (h : Row Shape.LineD w (Old w) A n l) (hs : ∀ d ∈ l, SmallD d) (hn : n ≤ 100000000) (hq : ∀ k, k ≤ n → okAll (l.take k) = true → (textOf (l.take k)).length ≤ 900000000000) :
    Calls Tryd.prog 7 #[.slice A n c] w fun e w' => e = .returned (.tuple #[strV (printText l), .int .i64 (printErr l)]) ∧ Below w.heap.size w w' := by
  have HL := Lib.hid h.1
  go_enter Tryd.func7, Tryd.ntmps7
  go_wp2_with fail
  go_loopw [4, 5] (fun v i wr => ∃ k : Nat, k ≤ n ∧ i = .int .i64 k ∧ OwnB 5 wr w.heap.size v (textOf (l.take k)) ∧ Below w.heap.size w wr ∧ w.heap.size ≤ wr.heap.size ∧ okAll (l.take k) = true) (fun _ i _ => n - (intOf i).toNat)
  case atStart => exact ⟨0, Nat.zero_le _, rfl, Own.made Shape.byte _ w _ (Nat.le_refl _), by go_grown, by simp, rfl⟩
  case round =>
    obtain ⟨k, hk, rfl, hown, hbel, hsz, hok⟩ := hrel
    by_cases hlt : k < n
    · obtain ⟨b, off, es, hkl, rfl, hb, hc, hc0, hr⟩ := h.elem (Keeps.old hbel) hlt
      have hsm := Lib.hid (hs _ (List.getElem_mem hkl))
      have hr2 : LineD.rd wr (Old wr) es l[k] := Shape.LineD.more hr fun _ hn => Old.below hbel hn
      have R := Lib.hid hr2; clear hr2
      have HOK := Lib.hid hok; clear hok
      have HT := Lib.hid (text_take hkl)
      have hle := hq k hk HOK.out
      obtain ⟨A1, n1, c1, rfl, -⟩ := hr
      have e13 : Shape.LineD.size = 10 := rfl
      simp only [e13] at hc hc0
      clear e13
      have hb2 := Nat.lt_of_lt_of_le hb hbel.size
      have hks : (k : Int) < n := by omega
      have O := Lib.hid hown; clear hown
      generalize textOf (l.take k) = acc at *
      have HB := Lib.hid hbel; clear hbel
      by_cases hrk : rOk l[k] = true
      · have HOK2 := Lib.hid (ok_take hkl HOK.out hrk)
        have HRK := Lib.hid hrk
        clear hrk
        go_wp2_with fail
        refine (refPrints l[k] _ R.out).mono ?_
        rintro e w2 ⟨rfl, hbb⟩
        rw [HRK.out]
        have R2 := Lib.hid (Shape.LineD.below R.out hbb)
        have hc2 : ∀ j, j < 10 → w2.cell? ⟨b, off + k * 10 + j, none⟩ = _ := fun j hj => (World.cell?_of_block (hbb.block b hb2)).trans (hc j hj)
        have hc20 : w2.cell? ⟨b, off + k * 10, none⟩ = _ := (World.cell?_of_block (hbb.block b hb2)).trans hc0
        have O2 := Lib.hid (O.out.kept (grownBy_of_below hbb) (by cases hv : u4.ownBlock <;> simp) (fun _ h => h.elim))
        have HB2 := Lib.hid (HB.out.trans (hbb.mono hsz))
        clear hc hc0 hbb O
        go_wp2_with fail
        refine (refLine l[k] _ R2.out hsm.out HRK.out).mono ?_
        rintro e w3 ⟨rfl, hb3⟩
        unfold strV
        have hlb := lineBody_len hsm.out R.out.uidI R.out.gidI R.out.secI (ok_parts HRK.out).2.1
        have hlt2 := tailField_size hsm.out
        have hps := hsm.out.1
        have O3 := Lib.hid (O2.out.kept (grownBy_of_below hb3) (by cases hv : u4.ownBlock <;> simp) (fun _ h => h.elim))
        have HB3 := Lib.hid (HB2.out.trans (hb3.mono HB2.out.size))
        clear hb3 hc2 hc20 O2
        obtain ⟨c9, w9, hrun, hg9, hs9, hc9, hcell9⟩ := run_bytes_of (P := Tryd.prog) 9 32 Tryd.underlying9 Tryd.underlying32 Tryd.underlying5 w3 ⟨(lineBody l[k] ++ [10]).toArray⟩
        have O9 := Lib.hid (O3.out.kept hg9 (by cases hv : u4.ownBlock <;> simp) (fun _ h => h.elim))
        have HB9 := Lib.hid (HB3.out.grown hg9 HB3.out.size (fun _ h => by cases h))
        have HSRC : Hid (Src Shape.byte w9 (fun _ => False) (some ⟨w3.heap.size, 0, none⟩) ((lineBody l[k]).length + 1) (lineBody l[k] ++ [10])) := Lib.hid (by
          have h := bytes_src hcell9
          have e : (ByteArray.mk (lineBody l[k] ++ [10]).toArray).size = (lineBody l[k]).length + 1 := by simp [ByteArray.size]
          rw [e] at h
          exact h)
        have hsz9 := Lib.hid hs9
        clear hg9 hs9 hcell9 O3
        go_wp2_with (at_builtin; go_loud (refine wpList_append_list rfl (.tmp 19) (.tmp 25) _ rfl elem_byte rfl O9.out rfl HSRC.out ?c0 ?c1 ?c2 ?c3 ?_))
        case c0 => exact fun _ h => h.elim
        case c1 => simp; omega
        case c2 => simp [maxLen]; omega
        case c3 => exact HB9.out.size
        intro v1 w1 hown1 hg1 hat1
        have HBn := Lib.hid (HB9.out.grown hg1 HB9.out.size (fun k hk => (O9.out.lt k hk).1))
        have ON := Lib.hid hown1
        clear hown1 hg1 hat1
        go_wp2_with fail
        go_roundw
        case rel => exact ⟨k + 1, by omega, by go_num, by rw [HT.out]; exact ON.out, HBn.out, HBn.out.size, HOK2.out⟩
        case measure => simp [intOf]; omega
      · rw [Bool.not_eq_true] at hrk
        have HNO := Lib.hid (not_ok hkl hrk)
        have HRK := Lib.hid hrk
        clear hrk
        go_wp2_with fail
        refine (refPrints l[k] _ R.out).mono ?_
        rintro e w2 ⟨rfl, hbb⟩
        rw [HRK.out]
        have W2 := Lib.hid (HB.out.trans (hbb.mono hsz))
        clear hbb
        go_wp2_with fail
        go_ret2
        refine ⟨?_, W2.out⟩
        rw [(print_no HNO.out).1, (print_no HNO.out).2]
        rfl
    · have hkn : k = n := by omega
      have htk : l.take k = l := List.take_of_length_le (by rw [HL.out]; omega)
      rw [htk] at hown hok
      clear htk
      have hks : ¬ (k : Int) < n := by omega
      have HOK := Lib.hid hok; clear hok
      have hcv := run_str_of (P := Tryd.prog) 32 9 Tryd.underlying32 Tryd.underlying5 Tryd.underlying9 hown.rd
      have O := Lib.hid hown; clear hown
      go_wp2_with fail
      go_ret2
      refine ⟨?_, hbel⟩
      rw [(print_ok HOK.out).1, (print_ok HOK.out).2]
      rfl
end Go.Proofs.YtdlkgpnfhmablaaDoor
