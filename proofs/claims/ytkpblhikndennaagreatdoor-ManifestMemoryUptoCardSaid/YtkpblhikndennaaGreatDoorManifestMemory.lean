/- ManifestMemory holds for every input of the second form's bound, its tied card. Its condition: the arguments hold at most 1048576 values and letters; the listed package-level variables hold what they are laid with. -/
import Derived.Test.YtkpblhikndennaaGreatDoorReadG
import Derived.Test.YtkpblhikndennaaGreatDoorRefRead
import Derived.Test.YtkpblhikndennaaGreatDoorManDiffAll
import Derived.Test.YtkpblhikndennaaGreatDoorRefDiffAll
import Derived.Test.YtkpblhikndennaaGreatDoorDoorM
namespace Go.Proofs.YtkpblhikndennaaGreatDoor
open Go.RowKit
set_option linter.unusedVariables false
set_option linter.unusedSimpArgs false
attribute [local go_sem] cell?_over frozen?_over lt_over le_over
namespace manifestMemory
open Go.ChangeShapes Go.WideShapes Go.ChangeAt Go.RowKit
theorem text_allN {l : List LineD} (h : bulkAll Shape.LineD.bulk l ≤ 1048576) : ∃ l2, readW (lineF restC) (printText l) = some l2 ∧ (SmallL l2 ∧ ∀ d ∈ l2, SmallD d) ∧ l2.length ≤ 1048576 ∧ (printText l).length ≤ 1000000000 ∧ ∀ x ∈ splitW 10 (printText l), x.length ≤ 16777216 := by
  obtain ⟨l2, h1, h2, h3⟩ := text_allM h
  refine ⟨l2, h1, ⟨h2, ?_⟩, h3⟩
  cases hok : okAll l with
  | false =>
    rw [(print_no hok).1, readW_nil] at h1
    injection h1 with h1
    subst h1
    intro d hd
    cases hd
  | true =>
    rw [(print_ok hok).1, line_funM, text_read hok] at h1
    injection h1 with h1
    subst h1
    exact small_all h
theorem own_slots {w : World} {base : Nat} {v : Value} {ss : List Slot} (h : Own Shape.SlotV 44 w base (fun _ => False) v ss) (ho : v.ownBlock ≠ none) : ∃ b cap, v = .slice (some ⟨b, 0, none⟩) ss.length cap ∧ base ≤ b ∧ b < w.heap.size ∧ ∀ i (hi : i < ss.length), w.cell? ⟨b, 0 + i, none⟩ = some (slotV ss[i]) := by
  obtain ⟨xs, ⟨hx, hc⟩, hcs, _⟩ := h
  rcases hc with ⟨rfl, _⟩ | ⟨g, cap, cur, rfl, hbase, hg, hncap, _, hsz, ht⟩
  · exact absurd rfl ho
  · refine ⟨g, cap, rfl, hbase, (Array.getElem?_eq_some_iff.1 hg).1, fun i hi => ?_⟩
    obtain ⟨es, he, hr⟩ := hcs.get i hi
    have hr' : es = [slotV ss[i]] := hr
    subst hr'
    have h0 := he 0 (by decide)
    have e13 : Shape.SlotV.size = 1 := rfl
    simp only [e13, Nat.mul_one, Nat.add_zero] at h0 hsz ht
    have hcur : cur[i]? = some (slotV ss[i]) := by
      have : (cur.toList.take ss.length)[i]? = cur.toList[i]? := by rw [List.getElem?_take, if_pos hi]
      rw [← Array.getElem?_toList, ← this, ht, h0]
      rfl
    rw [Nat.zero_add]
    simp only [World.cell?, hg, Option.bind_some]
    first
      | exact hcur
      | simpa using hcur
theorem ap_of {w : World} {b off B : Nat} {ss : List Slot} (hrow : ∀ i (hi : i < ss.length), w.cell? ⟨b, off + i, none⟩ = some (slotV ss[i])) (hok : ∀ s ∈ ss, ∃ ms, SlotOk w U8 s ms) (hb : b < w.heap.size) (hB : B ≤ w.heap.size) (hapt : ss.Pairwise Apt)
    (haway : ∀ s ∈ ss, ∀ g, s.g = some g → g ≠ b ∧ B ≤ g ∧ g < w.heap.size) : ∃ f, Ap w b off B w.heap.size ss f := by
  refine ⟨fun i => if h : i < ss.length then Classical.choose (hok ss[i] (List.getElem_mem h)) else [], hrow, fun i hi => ?_, hb, Nat.le_refl _, hB, apt_inj hapt, fun i hi => haway _ (List.getElem_mem hi)⟩
  simp only [dif_pos hi]
  exact Classical.choose_spec (hok ss[i] (List.getElem_mem hi))
/-- all but the block g as it was -/
structure TurnedM (g : Nat) (w w' : World) : Prop where
  os : w'.os = w.os
  tape : w'.tape = w.tape
  output : w'.output = w.output
  size : w'.heap.size = w.heap.size
  block : ∀ b, b ≠ g → w'.heap[b]? = w.heap[b]?
theorem turnedM_refl (g : Nat) (w : World) : TurnedM g w w := ⟨rfl, rfl, rfl, rfl, fun _ _ => rfl⟩
theorem turnedM_cell (w : World) (g off : Nat) (u : Value) : TurnedM g w (w.setCell ⟨g, off, none⟩ u) := ⟨rfl, rfl, rfl, by simp, fun k hk => Below.heap_setCell w _ u k hk⟩
theorem TurnedM.trans {g : Nat} {a b c : World} (h : TurnedM g a b) (k : TurnedM g b c) : TurnedM g a c :=
  ⟨k.os.trans h.os, k.tape.trans h.tape, k.output.trans h.output, k.size.trans h.size, fun b hb => (k.block b hb).trans (h.block b hb)⟩
theorem TurnedM.below {g B : Nat} {w w' : World} (h : TurnedM g w w') (hB : B ≤ g) : Below B w w' := ⟨h.os, h.tape, h.output, Nat.le_of_eq h.size.symm, fun k hk => h.block k (by omega)⟩
theorem own_cells {w : World} {base : Nat} {v : Value} {l : List ChangeD} (h : Own Shape.ChangeD 52 w base (fun _ => False) v l) : (v = .slice none 0 0 ∧ l = []) ∨ ∃ g off cap cur, v = .slice (some ⟨g, off, none⟩) l.length cap ∧ off = 0 ∧ Blk w g 52 cur ∧ l.length * 2 ≤ cur.size ∧ Row Shape.ChangeD w (Old w) (some ⟨g, off, none⟩) l.length l := by
  obtain ⟨A, n, c, hv, _, _, hrow⟩ := h.rd_old
  obtain ⟨xs, ⟨hx, hc⟩, hcs, _⟩ := h
  rcases hc with ⟨e, hl⟩ | ⟨g, cap, cur, e, hbase, hg, hncap, _, hsz, ht⟩
  · exact .inl ⟨e, List.eq_nil_of_length_eq_zero hl⟩
  · rw [hv] at e
    injection e with e1 e2 e3
    subst e1 e2 e3
    refine .inr ⟨g, 0, c, cur, hv, rfl, hg, ?_, hrow⟩
    have e13 : Shape.ChangeD.size = 2 := rfl
    rw [e13] at hsz
    omega
def StopM (p : Prop) : Prop := p
theorem StopM.mk {p : Prop} (h : StopM p) : p := h
set_option maxRecDepth 100000 in
set_option maxHeartbeats 4000000 in
theorem law {A B : Option Addr} {n m c c' : Nat} {la lb : List LineD} (w : World) (hA : Row Shape.LineD w (Old w) A n la) (hB : Row Shape.LineD w (Old w) B m lb) (hb : bulkAll Shape.LineD.bulk la ≤ 1048576) (hb' : bulkAll Shape.LineD.bulk lb ≤ 1048576) (hm : MaxLenOk w) (hv : ErrRangeOk w) (hp : Pow10 w) :
    Calls Tryz.prog 6 #[.slice A n c, .slice B m c'] w fun e w' => e = .returned (.bool true) ∧ Below w.heap.size w w' := by
  have SA := Lib.hid (small_L hb); have SB := Lib.hid (small_L hb')
  have SD := Lib.hid (small_all hb)
  have TR := Lib.hid (text_room hb)
  have hln := len_bulk Shape.LineD la
  have hlm := len_bulk Shape.LineD lb
  have hla := hA.1
  subst hla
  have hlb := hB.1
  subst hlb
  obtain ⟨l2, h2, h3, h4, h5, h6⟩ := text_allN hb
  have RC := Lib.hid (fun (w : World) (hm : MaxLenOk w) (hv : ErrRangeOk w) (hp : Pow10 w) => manReadG ⟨(printText la).toArray⟩ w (by simpa [ByteArray.size] using h5) h6 hm hv hp)
  have RR := Lib.hid (fun (w : World) => refRead ⟨(printText la).toArray⟩ w (by simpa [ByteArray.size] using h5) h6)
  rw [show (ByteArray.mk (printText la).toArray).data.toList = printText la from rfl, h2] at RC
  rw [show (ByteArray.mk (printText la).toArray).data.toList = printText la from rfl, ← line_funM, h2] at RR
  have S2 := Lib.hid h3.1; have SD2 := Lib.hid h3.2; have N2 := Lib.hid h4
  have HA := Lib.hid hA; have HBB := Lib.hid hB
  have HM := Lib.hid hm; have HV := Lib.hid hv; have HP := Lib.hid hp
  clear h2 h3 h4 h5 h6 hA hB hm hv hp
  go_enter Tryz.func6, Tryz.ntmps6
  go_wp2_with fail
  refine (alive w HP.out).mono ?_
  rintro e w2 ⟨rfl, hb2⟩
  have B2 := Lib.hid hb2
  clear hb2
  go_wp2_with fail
  refine (refPrint (c := c) w2 (HA.out.below B2.out) SD.out (by omega) (fun k _ h => TR.out k h)).mono ?_
  rintro e w3 ⟨rfl, hb3⟩
  have B3 := Lib.hid (below_old B2.out hb3)
  have HB3 := Lib.hid B3.out.size
  clear hb3
  unfold strV
  go_wp2_with fail
  refine (RC.out w3 (HM.out.keep B3.out) (HV.out.keep B3.out) (HP.out.keep B3.out)).mono ?_
  rintro e w4 ⟨⟨v4, M4, lg4, rfl, hl4, hown4, hM4, hd4⟩, hb4⟩
  have B4 := Lib.hid (below_old B3.out hb4)
  obtain ⟨A4, n4, c4, rfl, hnc4, _, hrow4⟩ := hown4.rd_new (w := w3) (Nat.le_refl _) hM4
  have hn4 : n4 = l2.length := by rw [← hl4, List.length_map]; exact hrow4.1.symm
  subst hn4
  have R4 := Lib.hid hrow4; have L4 := Lib.hid hl4; have D4 := Lib.hid hd4
  have HS4 := Lib.hid hb4.size
  clear hb4 hown4 hM4 hrow4 hl4 hd4 hnc4
  go_wp2_with fail
  refine (RC.out w4 (HM.out.keep B4.out) (HV.out.keep B4.out) (HP.out.keep B4.out)).mono ?_
  rintro e w5 ⟨⟨v5, M5, lg5, rfl, hl5, hown5, hM5, hd5⟩, hb5⟩
  have B5 := Lib.hid (below_old B4.out hb5)
  obtain ⟨A5, n5, c5, rfl, hnc5, _, hrow5⟩ := hown5.rd_new (w := w4) (Nat.le_refl _) hM5
  have hn5 : n5 = l2.length := by rw [← hl5, List.length_map]; exact hrow5.1.symm
  subst hn5
  have R5 := Lib.hid hrow5; have L5 := Lib.hid hl5; have D5 := Lib.hid hd5
  have HS5 := Lib.hid hb5.size
  have R45 := Lib.hid (R4.out.keep fun b hb => hb5.block b hb.2)
  clear hb5 hown5 hM5 hrow5 hl5 hd5 hnc5 R4
  go_wp2_with fail
  refine (RR.out w5).mono ?_
  rintro e w6 ⟨he6, hb6⟩
  have B6 := Lib.hid (below_old B5.out hb6)
  obtain ⟨v6, M6, rfl, hown6, hM6⟩ := he6
  obtain ⟨A6, c6, rfl, _, hrow6⟩ := own_row hown6
  have R6 := Lib.hid hrow6
  have R46 := Lib.hid (R45.out.keep fun b hb => hb6.block b (Nat.lt_of_lt_of_le hb.2 HS5.out))
  have R56 := Lib.hid (R5.out.keep fun b hb => hb6.block b hb.2)
  have HS6 := Lib.hid hb6.size
  clear hown6 hM6 hrow6 hb6 R45 R5
  have P4 : Hid (Row Shape.LineD w6 (Old w6) A4 l2.length l2) := Lib.hid (by have := R46.out.plain; rw [L4.out] at this; exact this.more fun b hb => Nat.lt_of_lt_of_le hb.2 (Nat.le_trans HS5.out HS6.out))
  have P5 : Hid (Row Shape.LineD w6 (Old w6) A5 l2.length l2) := Lib.hid (by have := R56.out.plain; rw [L5.out] at this; exact this.more fun b hb => Nat.lt_of_lt_of_le hb.2 HS6.out)
  go_wp2_with fail
  refine (sameLines_eq (c := c4) (c' := c6) w6 P4.out R6.out S2.out (by have := N2.out; omega)).mono ?_
  rintro e w7 ⟨rfl, δ, rfl⟩
  have hb7 := below_over w6 δ
  have P57 := Lib.hid (P5.out.below hb7); have R67 := Lib.hid (R6.out.below hb7)
  go_wp2_with fail
  refine (sameLines_eq (c := c5) (c' := c6) _ P57.out R67.out S2.out (by have := N2.out; omega)).mono ?_
  rintro e w8 ⟨rfl, δ2, hw8⟩
  have hb8 : Below w6.heap.size w6 w8 := below_old hb7 (by rw [hw8]; exact below_over _ _)
  have B8 := Lib.hid (below_old B6.out hb8)
  have HS8 := Lib.hid hb8.size
  have R48 := Lib.hid (R46.out.keep fun b hb => hb8.block b (Nat.lt_of_lt_of_le hb.2 (Nat.le_trans HS5.out HS6.out)))
  have R58 := Lib.hid (R56.out.keep fun b hb => hb8.block b (Nat.lt_of_lt_of_le hb.2 HS6.out))
  clear hw8 hb7 hb8 P57 R67 P4 P5 R6 R46 R56 B6 B5 B4 B3 B2
  obtain ⟨L, hL⟩ : ∃ L, L = l2.length := ⟨_, rfl⟩
  rw [← hL] at R48 R58 ⊢
  have HL := Lib.hid hL
  clear hL
  obtain ⟨p4, hp4⟩ : ∃ p, p = lg4.map (·.2) := ⟨_, rfl⟩
  obtain ⟨p5, hp5⟩ : ∃ p, p = lg5.map (·.2) := ⟨_, rfl⟩
  have hlp4 : p4.length = L := by rw [hp4, List.length_map]; exact R48.out.1
  have hlp5 : p5.length = L := by rw [hp5, List.length_map]; exact R58.out.1
  have HP4 := Lib.hid hp4; have HP5 := Lib.hid hp5
  clear hp4 hp5
  go_wp2_with fail
  go_loopw [13, 14] (fun v i wq => ∃ k : Nat, k ≤ L ∧ k ≤ 9 ∧ i = .int .i64 k ∧ Own Shape.SlotV 44 wq w8.heap.size (fun _ => False) v (inter (p4.take k) (p5.take k)) ∧ v.ownBlock ≠ none ∧ Below w8.heap.size w8 wq) (fun _ i _ => 9 - (intOf i).toNat)
  case atStart => exact ⟨0, Nat.zero_le _, by omega, rfl, Own.made Shape.SlotV _ w8 w8.heap.size (Nat.le_refl _), by simp [Value.ownBlock], below_alloc' _ _⟩
  case round =>
    obtain ⟨k, hkL, hk9, rfl, hown, hob, hbel⟩ := hrel
    have OW := Lib.hid hown; have OB := Lib.hid hob; have HB := Lib.hid hbel
    clear hown hob hbel
    by_cases hlt : k < L ∧ k < 9
    · obtain ⟨hlt, hlt9⟩ := hlt
      have hs1 : (k : Int) < L := by omega
      have hs2 : (k : Int) < 9 := by omega
      have hk4 : k < p4.length := by omega
      have hk5 : k < p5.length := by omega
      obtain ⟨b, off, es, hkl, rfl, hbm, hc, _, hr⟩ := R48.out.elem (Keeps.refl _ _) hlt
      have h7 := hr.2.1
      have c7 := (HB.out.cell (p := ⟨b, off + k * 10 + 7, none⟩) (Nat.lt_of_lt_of_le hbm.2 (Nat.le_trans HS5.out (Nat.le_trans HS6.out HS8.out)))).trans ((hc 7 (by decide)).trans h7)
      have hs4 : p4[k] = (lg4[k]).2 := by have := HP4.out; subst this; exact List.getElem_map ..
      obtain ⟨x4, hx4⟩ : ∃ x, x = p4[k] := ⟨_, rfl⟩
      rw [← hs4, ← hx4] at c7
      unfold slotV at c7
      have HX4 := Lib.hid hx4
      have lb : b < wr.heap.size := Nat.lt_of_lt_of_le hbm.2 (Nat.le_trans HS5.out (Nat.le_trans HS6.out (Nat.le_trans HS8.out HB.out.size)))
      have hln4 : (inter (p4.take k) (p5.take k)).length ≤ 18 := by rw [inter_len _ _ (by rw [List.length_take, List.length_take]; omega), List.length_take]; omega
      have HLN := Lib.hid hln4
      have hsz8 := HB.out.size
      clear hc hr h7 hbm hs4 hx4 hln4
      go_wp2_with (at_builtin; go_loud (refine wpList_append_one (w := wr) (s := Shape.SlotV) (l := inter (p4.take k) (p5.take k)) flat_SlotV rfl (.tmp 62) (.tmp 68) _ rfl elem_SlotV rfl OW.out (es := [slotV x4]) (b := x4) rfl rfl (by have := HLN.out; omega) (by have := HLN.out; simp [maxLen]; omega) hsz8 ?_); intro v9 w9 hown hg hsz hob9; refine StopM.mk ?_)
      unfold StopM
      have hlt9 := OW.out.lt
      have HB9 := Lib.hid (HB.out.grown hg (by omega) fun k hk => (hlt9 k hk).1)
      have OW9 := Lib.hid hown
      have OB9 : Hid (v9.ownBlock ≠ none) := Lib.hid (by rcases hob9 with h | h <;> rw [h]; exact OB.out; simp)
      clear hown hg hsz hob9 hlt9 c7 lb
      obtain ⟨b', off', es', hkl', rfl, hbm', hc', _, hr'⟩ := R58.out.elem (Keeps.refl _ _) hlt
      have h7' := hr'.2.1
      have c7 := (HB9.out.cell (p := ⟨b', off' + k * 10 + 7, none⟩) (Nat.lt_of_lt_of_le hbm'.2 (Nat.le_trans HS6.out HS8.out))).trans ((hc' 7 (by decide)).trans h7')
      have hs5 : p5[k] = (lg5[k]).2 := by have := HP5.out; subst this; exact List.getElem_map ..
      obtain ⟨x5, hx5⟩ : ∃ x, x = p5[k] := ⟨_, rfl⟩
      rw [← hs5, ← hx5] at c7
      unfold slotV at c7
      have HX5 := Lib.hid hx5
      have lb : b' < w9.heap.size := Nat.lt_of_lt_of_le hbm'.2 (Nat.le_trans HS6.out (Nat.le_trans HS8.out HB9.out.size))
      have hsz9 := HB9.out.size
      clear hc' hr' h7' hbm' hs5 hx5
      go_wp2_with (at_builtin; go_loud (refine wpList_append_one (w := w9) (s := Shape.SlotV) (l := inter (p4.take k) (p5.take k) ++ [x4]) flat_SlotV rfl (.tmp 70) (.tmp 76) _ rfl elem_SlotV rfl OW9.out (es := [slotV x5]) (b := x5) rfl rfl (by have := HLN.out; simp; omega) (by have := HLN.out; simp [maxLen]; omega) hsz9 ?_); intro v10 w10 hown hg hsz hob10)
      have hlt10 := OW9.out.lt
      have HB10 := Lib.hid (HB9.out.grown hg (by omega) fun k hk => (hlt10 k hk).1)
      go_roundw
      case rel =>
        refine ⟨k + 1, by omega, by omega, by go_num, ?_, ?_, HB10.out⟩
        · rw [List.take_succ_eq_append_getElem hk4, List.take_succ_eq_append_getElem hk5, inter_more _ _ _ _ (by rw [List.length_take, List.length_take]; omega), ← HX4.out, ← HX5.out]
          have := hown
          rw [List.append_assoc] at this
          exact this
        · rcases hob10 with h | h <;> rw [h]
          · exact OB9.out
          · simp
      case measure => simp [intOf]; omega
    · have HSQ : True := trivial
      rcases Nat.lt_or_ge k L with h1 | h1
      · have hs1 : (k : Int) < L := by omega
        have hs2 : ¬ (k : Int) < 9 := by omega
        go_wp2_with fail
        obtain ⟨bq, cq, rfl, hbq1, hbq2, hcells⟩ := own_slots OW.out OB.out
        have R48q := R48.out.keep (w' := wr) fun b hb => HB.out.block b (Nat.lt_of_lt_of_le hb.2 (Nat.le_trans HS5.out (Nat.le_trans HS6.out HS8.out)))
        have R58q := R58.out.keep (w' := wr) fun b hb => HB.out.block b (Nat.lt_of_lt_of_le hb.2 (Nat.le_trans HS6.out HS8.out))
        have s4 := row_slots R48q; have s5 := row_slots R58q
        have n4 := row_slot_n R48q; have n5 := row_slot_n R58q
        rw [← HP4.out] at s4 n4
        rw [← HP5.out] at s5 n5
        rw [L4.out] at n4
        rw [L5.out] at n5
        have hz4 := HS4.out; have hz5 := HS5.out; have hz6 := HS6.out; have hz8 := HS8.out
        have hB8 := HB.out.size
        have hB3 : w.heap.size ≤ w3.heap.size := HB3.out
        have hmem : ∀ s ∈ inter (p4.take k) (p5.take k), (s ∈ p4) ∨ (s ∈ p5) := fun s hs => (inter_mem _ _ s hs).imp List.mem_of_mem_take List.mem_of_mem_take
        have hapt : (inter (p4.take k) (p5.take k)).Pairwise Apt := by
          refine inter_apt _ _ ((HP4.out ▸ dist_slots D4.out : p4.Pairwise Apt).sublist (List.take_sublist _ _)) ((HP5.out ▸ dist_slots D5.out : p5.Pairwise Apt).sublist (List.take_sublist _ _)) ?_
          intro a ha b hb g hg hg'
          have h1 := (s4 a (List.mem_of_mem_take ha)).2 g hg
          have h2 := (s5 b (List.mem_of_mem_take hb)).2 g hg'
          have := h1.2; have := h2.1
          omega
        obtain ⟨f0, hap⟩ := ap_of (B := w3.heap.size) (off := 0) hcells (fun s hs => (hmem s hs).elim (fun h => let ⟨ms, h1, _⟩ := (s4 s h).1; ⟨ms, h1⟩) (fun h => let ⟨ms, h1, _⟩ := (s5 s h).1; ⟨ms, h1⟩)) hbq2 (by omega) hapt (fun s hs g hg => (hmem s hs).elim (fun h => by have h1 := (s4 s h).2 g hg; have := h1.1; have := h1.2; omega) (fun h => by have h1 := (s5 s h).2 g hg; have := h1.1; have := h1.2; omega))
        have hln : (inter (p4.take k) (p5.take k)).length ≤ 18 := by rw [inter_len _ _ (by rw [List.length_take, List.length_take]; omega), List.length_take]; omega
        refine (apart (cap := cq) hap (by omega) (fun i hi => ?_)).mono ?_
        · rcases hmem _ (List.getElem_mem hi) with h | h
          · obtain ⟨d, hd, e⟩ := n4 _ h
            have := (SD2.out d hd).2.2.2
            omega
          · obtain ⟨d, hd, e⟩ := n5 _ h
            have := (SD2.out d hd).2.2.2
            omega
        rintro e w10 ⟨rfl, hb10⟩
        have B10 : Hid (Below w.heap.size w w10) := Lib.hid (B8.out.trans ((HB.out.mono (by omega)).trans (hb10.mono hB3)))
        clear hcells R48q R58q s4 s5 n4 n5 hz4 hz5 hz6 hz8 hB8 hB3 hmem hapt hap hln hb10 hbq1 hbq2 R48 R58 D4 D5 OW OB HB
        go_wp2_with fail
        refine (copyLines (c := c) w10 (HA.out.below B10.out) SA.out (by omega)).mono ?_
        rintro e w11 ⟨v11, δ, M11, rfl, hw11, hown11, hM11⟩
        have B11 := Lib.hid (below_old B10.out (below_of hw11))
        obtain ⟨A11, c11, rfl, _, hrow11⟩ := own_row hown11
        have Q11 := Lib.hid hrow11
        clear hw11 hown11 hM11 hrow11
        go_wp2_with fail
        refine (copyLines (c := c') w11 (HBB.out.below B11.out) SB.out (by omega)).mono ?_
        rintro e w12 ⟨v12, δ, M12, rfl, hw12, hown12, hM12⟩
        have B12 := Lib.hid (below_old B11.out (below_of hw12))
        obtain ⟨A12, c12, rfl, _, hrow12⟩ := own_row hown12
        have Q12 := Lib.hid hrow12; have Q11b := Lib.hid (Q11.out.below (below_of hw12))
        clear hw12 hown12 hM12 hrow12 Q11
        go_wp2_with fail
        refine (manDiff (c := c11) (c' := c12) w12 Q11b.out Q12.out SA.out SB.out (by omega) (by omega)).mono ?_
        rintro e w13 ⟨v13, rfl, hown13, hb13⟩
        have B13 := Lib.hid (below_old B12.out hb13)
        have X13 := Lib.hid hown13
        clear hown13 hb13 Q11b Q12
        go_wp2_with fail
        refine (copyLines (c := c) w13 (HA.out.below B13.out) SA.out (by omega)).mono ?_
        rintro e w14 ⟨v14, δ, M14, rfl, hw14, hown14, hM14⟩
        have hb14 := below_of hw14
        have B14 := Lib.hid (below_old B13.out hb14)
        obtain ⟨A14, c14, rfl, _, hrow14⟩ := own_row hown14
        have Q14 := Lib.hid hrow14
        clear hw14 hown14 hM14 hrow14
        go_wp2_with fail
        refine (copyLines (c := c') w14 (HBB.out.below B14.out) SB.out (by omega)).mono ?_
        rintro e w15 ⟨v15, δ, M15, rfl, hw15, hown15, hM15⟩
        have hb15 := below_of hw15
        have B15 := Lib.hid (below_old B14.out hb15)
        obtain ⟨A15, c15, rfl, _, hrow15⟩ := own_row hown15
        have Q15 := Lib.hid hrow15; have Q14b := Lib.hid (Q14.out.below hb15)
        clear hw15 hown15 hM15 hrow15 Q14
        go_wp2_with fail
        refine (manDiff (c := c14) (c' := c15) w15 Q14b.out Q15.out SA.out SB.out (by omega) (by omega)).mono ?_
        rintro e w16 ⟨v16, rfl, hown16, hb16⟩
        have B16 := Lib.hid (below_old B15.out hb16)
        have K16 : Hid (Below w13.heap.size w13 w16) := Lib.hid (below_old (below_old hb14 hb15) hb16)
        have YO := hown16.rd_new (w := w15) (Nat.le_refl _) (fun _ h => h.elim)
        obtain ⟨AY, nY, cY, rfl, _, _, hrowY⟩ := YO
        have hnY : nY = (diffL la lb).length := hrowY.1.symm
        subst hnY
        have hs1315 : w13.heap.size ≤ w15.heap.size := Nat.le_trans hb14.size hb15.size
        have Y16 : Hid (Row Shape.ChangeD w16 (New w13 w16) AY (diffL la lb).length (diffL la lb)) := Lib.hid (hrowY.more fun b hb => ⟨Nat.le_trans hs1315 hb.1, hb.2⟩)
        clear hown16 hb14 hb15 hb16 hrowY Q14b Q15
        go_wp2_with fail
        refine (refDiff (c := c) (c' := c') w16 (HA.out.below B16.out) (HBB.out.below B16.out) SA.out SB.out (by omega) (by omega)).mono ?_
        rintro e w17 ⟨v17, rfl, hown17, hb17⟩
        have B17 := Lib.hid (below_old B16.out hb17)
        have K17 : Hid (Below w13.heap.size w13 w17) := Lib.hid (below_old K16.out hb17)
        have ZO := hown17.rd_new (w := w16) (Nat.le_refl _) (fun _ h => h.elim)
        obtain ⟨AZ, nZ, cZ, rfl, _, _, hrowZ⟩ := ZO
        have hnZ : nZ = (diffL la lb).length := hrowZ.1.symm
        subst hnZ
        have hs1316 := K16.out.size
        have Z17 : Hid (Row Shape.ChangeD w17 (New w13 w17) AZ (diffL la lb).length (diffL la lb)) := Lib.hid (hrowZ.more fun b hb => ⟨Nat.le_trans hs1316 hb.1, hb.2⟩)
        have Y17 : Hid (Row Shape.ChangeD w17 (New w13 w17) AY (diffL la lb).length (diffL la lb)) := Lib.hid ((Y16.out.keep fun b hb => hb17.block b hb.2).more fun b hb => ⟨hb.1, Nat.lt_of_lt_of_le hb.2 hb17.size⟩)
        have X17 := Lib.hid (X13.out.kept (grownBy_of_below K17.out) (by cases hv : v13.ownBlock <;> simp) (fun _ h => h.elim))
        have hxl := X13.out.lt
        have HXL := Lib.hid hxl
        have HD1 : Hid ((diffL la lb).length ≤ 140737488355328) := Lib.hid (Nat.le_trans (diffL_len la lb) (by omega))
        clear hown17 hb17 hrowZ Y16 K16 X13 hs1315 hs1316 hxl
        obtain ⟨DL, hDL⟩ : ∃ x, x = diffL la lb := ⟨_, rfl⟩
        rw [← hDL] at X17 Y17 Z17 HD1 ⊢
        obtain ⟨D, hD⟩ : ∃ x, x = DL.length := ⟨_, rfl⟩
        have HDL := Lib.hid hD
        rw [← hD] at Y17 Z17 HD1 ⊢
        clear hD hDL
        rcases own_cells X17.out with ⟨rfl, hnil⟩ | ⟨g, off, cap, cur, rfl, hoff, hbk, hcs, hrowX⟩
        · have hD0 : D = 0 := by rw [HDL.out, hnil]; rfl
          subst hD0
          have HN := Lib.hid hnil
          clear hnil HXL X17
          go_wp2_with fail
          refine (sameChanges_eq (A := none) (n := 0) (c := 0) (c' := cZ) (l := DL) w17 (by rw [HN.out]; exact Row.nil) (Z17.out.more fun b hb => hb.2) (by omega)).mono ?_
          rintro e w18 ⟨rfl, δ18, hw18⟩
          have hb18 : Below w17.heap.size w17 w18 := by rw [hw18]; exact below_over _ _
          have Y18 := Lib.hid ((Y17.out.more (M' := Old w17) fun b hb => hb.2).below hb18); have Z18 := Lib.hid ((Z17.out.more (M' := Old w17) fun b hb => hb.2).below hb18)
          have B18 := Lib.hid (below_old B17.out hb18)
          clear hw18 hb18
          go_wp2_with fail
          refine (sameChanges_eq (c := cY) (c' := cZ) w18 Y18.out Z18.out (by omega)).mono ?_
          rintro e w19 ⟨rfl, δ19, hw19⟩
          have hb19 : Below w18.heap.size w18 w19 := by rw [hw19]; exact below_over _ _
          have YR := Lib.hid (Y18.out.below hb19); have ZR := Lib.hid (Z18.out.below hb19)
          have BL := Lib.hid (below_old B18.out hb19)
          clear hw19 hb19 Y17 Z17 Y18 Z18
          go_wp2_with fail
          go_loopw [18] (fun i wq => i = .int .i64 0 ∧ wq = w19) (fun _ _ => 0)
          case atStart => exact ⟨rfl, rfl⟩
          case round =>
            obtain ⟨rfl, rfl⟩ := hrel
            go_wp2_with fail
            refine (sameChanges_eq (c := cY) (c' := cZ) _ YR.out ZR.out (by have := HD1.out; omega)).mono ?_
            rintro e w30 ⟨rfl, δ30, hw30⟩
            have B30 := Lib.hid (below_old BL.out (show Below _ _ w30 by rw [hw30]; exact below_over _ _))
            clear hw30
            go_wp2_with fail
            go_ret
            exact ⟨rfl, B30.out⟩
        · have hgX := (HXL.out g rfl).2
          have HGX := Lib.hid (show w.heap.size ≤ g from Nat.le_trans B12.out.size (HXL.out g rfl).1)
          have HOFF := Lib.hid hoff; have HCS := Lib.hid hcs
          have HXR := Lib.hid hrowX; have HBK := Lib.hid hbk
          rw [← HDL.out] at HXR HCS ⊢
          clear hoff hcs hrowX hbk HXL X17
          go_wp2_with fail
          refine (sameChanges_eq (c := cap) (c' := cZ) w17 HXR.out (Z17.out.more fun b hb => hb.2) (by have := HD1.out; omega)).mono ?_
          rintro e w18 ⟨rfl, δ18, hw18⟩
          have hb18 : Below w17.heap.size w17 w18 := by rw [hw18]; exact below_over _ _
          have Y18 := Lib.hid ((Y17.out.keep fun b hb => hb18.block b hb.2).more (M' := New w13 w18) fun b hb => ⟨hb.1, Nat.lt_of_lt_of_le hb.2 hb18.size⟩); have Z18 := Lib.hid ((Z17.out.keep fun b hb => hb18.block b hb.2).more (M' := New w13 w18) fun b hb => ⟨hb.1, Nat.lt_of_lt_of_le hb.2 hb18.size⟩)
          have B18 := Lib.hid (below_old B17.out hb18)
          have BK18 := Lib.hid (HBK.out.below hb18 HBK.out.lt)
          clear hw18 hb18
          go_wp2_with fail
          refine (sameChanges_eq (c := cY) (c' := cZ) w18 (Y18.out.more fun b hb => hb.2) (Z18.out.more fun b hb => hb.2) (by have := HD1.out; omega)).mono ?_
          rintro e w19 ⟨rfl, δ19, hw19⟩
          have hb19 : Below w18.heap.size w18 w19 := by rw [hw19]; exact below_over _ _
          have Y19 := Lib.hid ((Y18.out.keep fun b hb => hb19.block b hb.2).more (M' := New w13 w19) fun b hb => ⟨hb.1, Nat.lt_of_lt_of_le hb.2 hb19.size⟩); have Z19 := Lib.hid ((Z18.out.keep fun b hb => hb19.block b hb.2).more (M' := New w13 w19) fun b hb => ⟨hb.1, Nat.lt_of_lt_of_le hb.2 hb19.size⟩)
          have B19 := Lib.hid (below_old B18.out hb19)
          have BK19 := Lib.hid (BK18.out.below hb19 BK18.out.lt)
          clear hw19 hb19 Y17 Z17 Y18 Z18 HBK BK18 HXR B17 B18
          go_wp2_with fail
          go_loopw [18] (fun i wq => ∃ (q : Nat) (cur' : Array Value), q ≤ D ∧ i = .int .i64 q ∧ Blk wq g 52 cur' ∧ cur'.size = cur.size ∧ TurnedM g w19 wq) (fun i _ => D - (intOf i).toNat)
          case atStart => exact ⟨0, cur, Nat.zero_le _, rfl, BK19.out, rfl, turnedM_refl _ _⟩
          case round =>
            obtain ⟨q, cur', hq, rfl, hbk, hcz, htu⟩ := hrel
            have BK := Lib.hid hbk; have CZ := Lib.hid hcz; have TU := Lib.hid htu
            clear hbk hcz htu
            by_cases hlq : q < D
            · have hqs : (q : Int) < D := by omega
              have hd1 := HD1.out
              have hqc : q * 2 < cur'.size := by have := HCS.out; have := CZ.out; omega
              have kq : wr.cell? ⟨g, off + q * 2, none⟩ = some cur'[q * 2] := by rw [HOFF.out, Nat.zero_add, BK.out.cell, Array.getElem?_eq_getElem hqc]
              have kf : wr.frozen? ⟨g, off + q * 2, none⟩ = false := by rw [HOFF.out, Nat.zero_add]; exact BK.out.frozen _
              have lg := BK.out.lt
              go_wp2_with fail
              go_roundw
              case rel =>
                refine ⟨q + 1, cur'.setIfInBounds (q * 2) (.string ⟨#[109, 97, 114, 107]⟩), by omega, by go_num, ?_, by simpa using CZ.out, TU.out.trans (turnedM_cell _ _ _ _)⟩
                have := BK.out.set_ (q * 2) (.string ⟨#[109, 97, 114, 107]⟩)
                rw [HOFF.out, Nat.zero_add]
                exact this
              case measure => simp [intOf]; omega
            · have hqs : ¬ (q : Int) < D := by omega
              have YR := Lib.hid ((Y19.out.keep fun b hb => TU.out.block b (by have := hb.1; omega)).more (M' := Old wr) fun b hb => by show b < wr.heap.size; have := hb.2; have := TU.out.size; omega)
              have ZR := Lib.hid ((Z19.out.keep fun b hb => TU.out.block b (by have := hb.1; omega)).more (M' := Old wr) fun b hb => by show b < wr.heap.size; have := hb.2; have := TU.out.size; omega)
              have BL := Lib.hid (B19.out.trans (TU.out.below HGX.out))
              go_wp2_with fail
              refine (sameChanges_eq (c := cY) (c' := cZ) _ YR.out ZR.out (by have := HD1.out; omega)).mono ?_
              rintro e w30 ⟨rfl, δ30, hw30⟩
              have B30 := Lib.hid (below_old BL.out (show Below _ _ w30 by rw [hw30]; exact below_over _ _))
              clear hw30
              go_wp2_with fail
              go_ret
              exact ⟨rfl, B30.out⟩
      · have hs1 : ¬ (k : Int) < L := by omega
        go_wp2_with fail
        obtain ⟨bq, cq, rfl, hbq1, hbq2, hcells⟩ := own_slots OW.out OB.out
        have R48q := R48.out.keep (w' := wr) fun b hb => HB.out.block b (Nat.lt_of_lt_of_le hb.2 (Nat.le_trans HS5.out (Nat.le_trans HS6.out HS8.out)))
        have R58q := R58.out.keep (w' := wr) fun b hb => HB.out.block b (Nat.lt_of_lt_of_le hb.2 (Nat.le_trans HS6.out HS8.out))
        have s4 := row_slots R48q; have s5 := row_slots R58q
        have n4 := row_slot_n R48q; have n5 := row_slot_n R58q
        rw [← HP4.out] at s4 n4
        rw [← HP5.out] at s5 n5
        rw [L4.out] at n4
        rw [L5.out] at n5
        have hz4 := HS4.out; have hz5 := HS5.out; have hz6 := HS6.out; have hz8 := HS8.out
        have hB8 := HB.out.size
        have hB3 : w.heap.size ≤ w3.heap.size := HB3.out
        have hmem : ∀ s ∈ inter (p4.take k) (p5.take k), (s ∈ p4) ∨ (s ∈ p5) := fun s hs => (inter_mem _ _ s hs).imp List.mem_of_mem_take List.mem_of_mem_take
        have hapt : (inter (p4.take k) (p5.take k)).Pairwise Apt := by
          refine inter_apt _ _ ((HP4.out ▸ dist_slots D4.out : p4.Pairwise Apt).sublist (List.take_sublist _ _)) ((HP5.out ▸ dist_slots D5.out : p5.Pairwise Apt).sublist (List.take_sublist _ _)) ?_
          intro a ha b hb g hg hg'
          have h1 := (s4 a (List.mem_of_mem_take ha)).2 g hg
          have h2 := (s5 b (List.mem_of_mem_take hb)).2 g hg'
          have := h1.2; have := h2.1
          omega
        obtain ⟨f0, hap⟩ := ap_of (B := w3.heap.size) (off := 0) hcells (fun s hs => (hmem s hs).elim (fun h => let ⟨ms, h1, _⟩ := (s4 s h).1; ⟨ms, h1⟩) (fun h => let ⟨ms, h1, _⟩ := (s5 s h).1; ⟨ms, h1⟩)) hbq2 (by omega) hapt (fun s hs g hg => (hmem s hs).elim (fun h => by have h1 := (s4 s h).2 g hg; have := h1.1; have := h1.2; omega) (fun h => by have h1 := (s5 s h).2 g hg; have := h1.1; have := h1.2; omega))
        have hln : (inter (p4.take k) (p5.take k)).length ≤ 18 := by rw [inter_len _ _ (by rw [List.length_take, List.length_take]; omega), List.length_take]; omega
        refine (apart (cap := cq) hap (by omega) (fun i hi => ?_)).mono ?_
        · rcases hmem _ (List.getElem_mem hi) with h | h
          · obtain ⟨d, hd, e⟩ := n4 _ h
            have := (SD2.out d hd).2.2.2
            omega
          · obtain ⟨d, hd, e⟩ := n5 _ h
            have := (SD2.out d hd).2.2.2
            omega
        rintro e w10 ⟨rfl, hb10⟩
        have B10 : Hid (Below w.heap.size w w10) := Lib.hid (B8.out.trans ((HB.out.mono (by omega)).trans (hb10.mono hB3)))
        clear hcells R48q R58q s4 s5 n4 n5 hz4 hz5 hz6 hz8 hB8 hB3 hmem hapt hap hln hb10 hbq1 hbq2 R48 R58 D4 D5 OW OB HB
        go_wp2_with fail
        refine (copyLines (c := c) w10 (HA.out.below B10.out) SA.out (by omega)).mono ?_
        rintro e w11 ⟨v11, δ, M11, rfl, hw11, hown11, hM11⟩
        have B11 := Lib.hid (below_old B10.out (below_of hw11))
        obtain ⟨A11, c11, rfl, _, hrow11⟩ := own_row hown11
        have Q11 := Lib.hid hrow11
        clear hw11 hown11 hM11 hrow11
        go_wp2_with fail
        refine (copyLines (c := c') w11 (HBB.out.below B11.out) SB.out (by omega)).mono ?_
        rintro e w12 ⟨v12, δ, M12, rfl, hw12, hown12, hM12⟩
        have B12 := Lib.hid (below_old B11.out (below_of hw12))
        obtain ⟨A12, c12, rfl, _, hrow12⟩ := own_row hown12
        have Q12 := Lib.hid hrow12; have Q11b := Lib.hid (Q11.out.below (below_of hw12))
        clear hw12 hown12 hM12 hrow12 Q11
        go_wp2_with fail
        refine (manDiff (c := c11) (c' := c12) w12 Q11b.out Q12.out SA.out SB.out (by omega) (by omega)).mono ?_
        rintro e w13 ⟨v13, rfl, hown13, hb13⟩
        have B13 := Lib.hid (below_old B12.out hb13)
        have X13 := Lib.hid hown13
        clear hown13 hb13 Q11b Q12
        go_wp2_with fail
        refine (copyLines (c := c) w13 (HA.out.below B13.out) SA.out (by omega)).mono ?_
        rintro e w14 ⟨v14, δ, M14, rfl, hw14, hown14, hM14⟩
        have hb14 := below_of hw14
        have B14 := Lib.hid (below_old B13.out hb14)
        obtain ⟨A14, c14, rfl, _, hrow14⟩ := own_row hown14
        have Q14 := Lib.hid hrow14
        clear hw14 hown14 hM14 hrow14
        go_wp2_with fail
        refine (copyLines (c := c') w14 (HBB.out.below B14.out) SB.out (by omega)).mono ?_
        rintro e w15 ⟨v15, δ, M15, rfl, hw15, hown15, hM15⟩
        have hb15 := below_of hw15
        have B15 := Lib.hid (below_old B14.out hb15)
        obtain ⟨A15, c15, rfl, _, hrow15⟩ := own_row hown15
        have Q15 := Lib.hid hrow15; have Q14b := Lib.hid (Q14.out.below hb15)
        clear hw15 hown15 hM15 hrow15 Q14
        go_wp2_with fail
        refine (manDiff (c := c14) (c' := c15) w15 Q14b.out Q15.out SA.out SB.out (by omega) (by omega)).mono ?_
        rintro e w16 ⟨v16, rfl, hown16, hb16⟩
        have B16 := Lib.hid (below_old B15.out hb16)
        have K16 : Hid (Below w13.heap.size w13 w16) := Lib.hid (below_old (below_old hb14 hb15) hb16)
        have YO := hown16.rd_new (w := w15) (Nat.le_refl _) (fun _ h => h.elim)
        obtain ⟨AY, nY, cY, rfl, _, _, hrowY⟩ := YO
        have hnY : nY = (diffL la lb).length := hrowY.1.symm
        subst hnY
        have hs1315 : w13.heap.size ≤ w15.heap.size := Nat.le_trans hb14.size hb15.size
        have Y16 : Hid (Row Shape.ChangeD w16 (New w13 w16) AY (diffL la lb).length (diffL la lb)) := Lib.hid (hrowY.more fun b hb => ⟨Nat.le_trans hs1315 hb.1, hb.2⟩)
        clear hown16 hb14 hb15 hb16 hrowY Q14b Q15
        go_wp2_with fail
        refine (refDiff (c := c) (c' := c') w16 (HA.out.below B16.out) (HBB.out.below B16.out) SA.out SB.out (by omega) (by omega)).mono ?_
        rintro e w17 ⟨v17, rfl, hown17, hb17⟩
        have B17 := Lib.hid (below_old B16.out hb17)
        have K17 : Hid (Below w13.heap.size w13 w17) := Lib.hid (below_old K16.out hb17)
        have ZO := hown17.rd_new (w := w16) (Nat.le_refl _) (fun _ h => h.elim)
        obtain ⟨AZ, nZ, cZ, rfl, _, _, hrowZ⟩ := ZO
        have hnZ : nZ = (diffL la lb).length := hrowZ.1.symm
        subst hnZ
        have hs1316 := K16.out.size
        have Z17 : Hid (Row Shape.ChangeD w17 (New w13 w17) AZ (diffL la lb).length (diffL la lb)) := Lib.hid (hrowZ.more fun b hb => ⟨Nat.le_trans hs1316 hb.1, hb.2⟩)
        have Y17 : Hid (Row Shape.ChangeD w17 (New w13 w17) AY (diffL la lb).length (diffL la lb)) := Lib.hid ((Y16.out.keep fun b hb => hb17.block b hb.2).more fun b hb => ⟨hb.1, Nat.lt_of_lt_of_le hb.2 hb17.size⟩)
        have X17 := Lib.hid (X13.out.kept (grownBy_of_below K17.out) (by cases hv : v13.ownBlock <;> simp) (fun _ h => h.elim))
        have hxl := X13.out.lt
        have HXL := Lib.hid hxl
        have HD1 : Hid ((diffL la lb).length ≤ 140737488355328) := Lib.hid (Nat.le_trans (diffL_len la lb) (by omega))
        clear hown17 hb17 hrowZ Y16 K16 X13 hs1315 hs1316 hxl
        obtain ⟨DL, hDL⟩ : ∃ x, x = diffL la lb := ⟨_, rfl⟩
        rw [← hDL] at X17 Y17 Z17 HD1 ⊢
        obtain ⟨D, hD⟩ : ∃ x, x = DL.length := ⟨_, rfl⟩
        have HDL := Lib.hid hD
        rw [← hD] at Y17 Z17 HD1 ⊢
        clear hD hDL
        rcases own_cells X17.out with ⟨rfl, hnil⟩ | ⟨g, off, cap, cur, rfl, hoff, hbk, hcs, hrowX⟩
        · have hD0 : D = 0 := by rw [HDL.out, hnil]; rfl
          subst hD0
          have HN := Lib.hid hnil
          clear hnil HXL X17
          go_wp2_with fail
          refine (sameChanges_eq (A := none) (n := 0) (c := 0) (c' := cZ) (l := DL) w17 (by rw [HN.out]; exact Row.nil) (Z17.out.more fun b hb => hb.2) (by omega)).mono ?_
          rintro e w18 ⟨rfl, δ18, hw18⟩
          have hb18 : Below w17.heap.size w17 w18 := by rw [hw18]; exact below_over _ _
          have Y18 := Lib.hid ((Y17.out.more (M' := Old w17) fun b hb => hb.2).below hb18); have Z18 := Lib.hid ((Z17.out.more (M' := Old w17) fun b hb => hb.2).below hb18)
          have B18 := Lib.hid (below_old B17.out hb18)
          clear hw18 hb18
          go_wp2_with fail
          refine (sameChanges_eq (c := cY) (c' := cZ) w18 Y18.out Z18.out (by omega)).mono ?_
          rintro e w19 ⟨rfl, δ19, hw19⟩
          have hb19 : Below w18.heap.size w18 w19 := by rw [hw19]; exact below_over _ _
          have YR := Lib.hid (Y18.out.below hb19); have ZR := Lib.hid (Z18.out.below hb19)
          have BL := Lib.hid (below_old B18.out hb19)
          clear hw19 hb19 Y17 Z17 Y18 Z18
          go_wp2_with fail
          go_loopw [18] (fun i wq => i = .int .i64 0 ∧ wq = w19) (fun _ _ => 0)
          case atStart => exact ⟨rfl, rfl⟩
          case round =>
            obtain ⟨rfl, rfl⟩ := hrel
            go_wp2_with fail
            refine (sameChanges_eq (c := cY) (c' := cZ) _ YR.out ZR.out (by have := HD1.out; omega)).mono ?_
            rintro e w30 ⟨rfl, δ30, hw30⟩
            have B30 := Lib.hid (below_old BL.out (show Below _ _ w30 by rw [hw30]; exact below_over _ _))
            clear hw30
            go_wp2_with fail
            go_ret
            exact ⟨rfl, B30.out⟩
        · have hgX := (HXL.out g rfl).2
          have HGX := Lib.hid (show w.heap.size ≤ g from Nat.le_trans B12.out.size (HXL.out g rfl).1)
          have HOFF := Lib.hid hoff; have HCS := Lib.hid hcs
          have HXR := Lib.hid hrowX; have HBK := Lib.hid hbk
          rw [← HDL.out] at HXR HCS ⊢
          clear hoff hcs hrowX hbk HXL X17
          go_wp2_with fail
          refine (sameChanges_eq (c := cap) (c' := cZ) w17 HXR.out (Z17.out.more fun b hb => hb.2) (by have := HD1.out; omega)).mono ?_
          rintro e w18 ⟨rfl, δ18, hw18⟩
          have hb18 : Below w17.heap.size w17 w18 := by rw [hw18]; exact below_over _ _
          have Y18 := Lib.hid ((Y17.out.keep fun b hb => hb18.block b hb.2).more (M' := New w13 w18) fun b hb => ⟨hb.1, Nat.lt_of_lt_of_le hb.2 hb18.size⟩); have Z18 := Lib.hid ((Z17.out.keep fun b hb => hb18.block b hb.2).more (M' := New w13 w18) fun b hb => ⟨hb.1, Nat.lt_of_lt_of_le hb.2 hb18.size⟩)
          have B18 := Lib.hid (below_old B17.out hb18)
          have BK18 := Lib.hid (HBK.out.below hb18 HBK.out.lt)
          clear hw18 hb18
          go_wp2_with fail
          refine (sameChanges_eq (c := cY) (c' := cZ) w18 (Y18.out.more fun b hb => hb.2) (Z18.out.more fun b hb => hb.2) (by have := HD1.out; omega)).mono ?_
          rintro e w19 ⟨rfl, δ19, hw19⟩
          have hb19 : Below w18.heap.size w18 w19 := by rw [hw19]; exact below_over _ _
          have Y19 := Lib.hid ((Y18.out.keep fun b hb => hb19.block b hb.2).more (M' := New w13 w19) fun b hb => ⟨hb.1, Nat.lt_of_lt_of_le hb.2 hb19.size⟩); have Z19 := Lib.hid ((Z18.out.keep fun b hb => hb19.block b hb.2).more (M' := New w13 w19) fun b hb => ⟨hb.1, Nat.lt_of_lt_of_le hb.2 hb19.size⟩)
          have B19 := Lib.hid (below_old B18.out hb19)
          have BK19 := Lib.hid (BK18.out.below hb19 BK18.out.lt)
          clear hw19 hb19 Y17 Z17 Y18 Z18 HBK BK18 HXR B17 B18
          go_wp2_with fail
          go_loopw [18] (fun i wq => ∃ (q : Nat) (cur' : Array Value), q ≤ D ∧ i = .int .i64 q ∧ Blk wq g 52 cur' ∧ cur'.size = cur.size ∧ TurnedM g w19 wq) (fun i _ => D - (intOf i).toNat)
          case atStart => exact ⟨0, cur, Nat.zero_le _, rfl, BK19.out, rfl, turnedM_refl _ _⟩
          case round =>
            obtain ⟨q, cur', hq, rfl, hbk, hcz, htu⟩ := hrel
            have BK := Lib.hid hbk; have CZ := Lib.hid hcz; have TU := Lib.hid htu
            clear hbk hcz htu
            by_cases hlq : q < D
            · have hqs : (q : Int) < D := by omega
              have hd1 := HD1.out
              have hqc : q * 2 < cur'.size := by have := HCS.out; have := CZ.out; omega
              have kq : wr.cell? ⟨g, off + q * 2, none⟩ = some cur'[q * 2] := by rw [HOFF.out, Nat.zero_add, BK.out.cell, Array.getElem?_eq_getElem hqc]
              have kf : wr.frozen? ⟨g, off + q * 2, none⟩ = false := by rw [HOFF.out, Nat.zero_add]; exact BK.out.frozen _
              have lg := BK.out.lt
              go_wp2_with fail
              go_roundw
              case rel =>
                refine ⟨q + 1, cur'.setIfInBounds (q * 2) (.string ⟨#[109, 97, 114, 107]⟩), by omega, by go_num, ?_, by simpa using CZ.out, TU.out.trans (turnedM_cell _ _ _ _)⟩
                have := BK.out.set_ (q * 2) (.string ⟨#[109, 97, 114, 107]⟩)
                rw [HOFF.out, Nat.zero_add]
                exact this
              case measure => simp [intOf]; omega
            · have hqs : ¬ (q : Int) < D := by omega
              have YR := Lib.hid ((Y19.out.keep fun b hb => TU.out.block b (by have := hb.1; omega)).more (M' := Old wr) fun b hb => by show b < wr.heap.size; have := hb.2; have := TU.out.size; omega)
              have ZR := Lib.hid ((Z19.out.keep fun b hb => TU.out.block b (by have := hb.1; omega)).more (M' := Old wr) fun b hb => by show b < wr.heap.size; have := hb.2; have := TU.out.size; omega)
              have BL := Lib.hid (B19.out.trans (TU.out.below HGX.out))
              go_wp2_with fail
              refine (sameChanges_eq (c := cY) (c' := cZ) _ YR.out ZR.out (by have := HD1.out; omega)).mono ?_
              rintro e w30 ⟨rfl, δ30, hw30⟩
              have B30 := Lib.hid (below_old BL.out (show Below _ _ w30 by rw [hw30]; exact below_over _ _))
              clear hw30
              go_wp2_with fail
              go_ret
              exact ⟨rfl, B30.out⟩
theorem own : ownKnob Tryz.prog.godebug = none := by kernel_rfl
theorem laidOut : laidOutB Tryz.prog = true := by kernel_rfl
set_option maxRecDepth 100000 in
theorem contract (H : Type) (enc : TypeId × Value → H) (W : World) (base : Nat) (args : Array Value) (ds gs : List (DataW H)) (before : List MemPlace)
    (hval : ∀ (j : Nat) t v, Tryz.f6.params[j]? = some t → args[j]? = some v → Value.okWide Tryz.prog W .any base t v)
    (hW : DataW.Whole enc Tryz.prog Tryz.f6.params.toList Rows.manifestMemorySpec.vars false W args.toList ds gs before) (hk : Rows.uptoSmall H (ds ++ gs) = true) (hL : laidMetH Tryz.prog Rows.manifestMemoryUptoRow.laid W) (hsh : W.ShapedOpen Tryz.prog) :
    Calls Tryz.prog 6 args W fun e W' => ∃ v, e = .returned v ∧ Rows.manifestMemorySpec.post enc Tryz.prog Tryz.f6 false true false false W args v W' := by
  have hW' := hW
  obtain ⟨p, q, hA0, hV, rfl, hfz, hnd⟩ := hW
  have hA : DataW.TrodAll enc Tryz.prog W 0 (fun _ => true) true Tryz.f6.params.toList args.toList ds p := hA0
  rw [Tryz.params6] at hA hval
  obtain ⟨v0, vs0, d0, ds0, p0, q0, hargs, rfl, rfl, h0, r0⟩ := trodAll_cons hA
  obtain ⟨v1, vs1, d1, ds1, p1, q1, rfl, rfl, rfl, h1, r1⟩ := trodAll_cons r0
  obtain ⟨rfl, rfl, rfl⟩ := trodAll_nil r1
  obtain rfl : args = #[v0, v1] := by cases args; simp_all
  obtain ⟨rfl, rfl⟩ := trodVars_none hV
  have k0 := h0
  have lt0 : ∀ x ∈ p0, x.block < W.heap.size := by obtain ⟨m, hm⟩ := k0; exact DataW.trod_lt m _ _ _ hm
  have k1 := h1
  have lt1 : ∀ x ∈ p1, x.block < W.heap.size := by obtain ⟨m, hm⟩ := k1; exact DataW.trod_lt m _ _ _ hm
  obtain ⟨m0, hm0⟩ := h0
  obtain ⟨a0, len0, cap0, rfl⟩ := okWide_slice Tryz.underlying23 (hval 0 23 v0 rfl rfl)
  obtain ⟨la, ⟨u0, hcs0, A0, n0, c0, rfl, hnc0, hcm0, hrow0⟩, hbk0⟩ := (opens_slice (by kernel_rfl) Tryz.underlying23 opens_LineD).2 hm0
  simp only [Value.cells, List.cons.injEq, and_true, Value.slice.injEq] at hcs0
  obtain ⟨rfl, rfl, rfl⟩ := hcs0
  obtain ⟨m1, hm1⟩ := h1
  obtain ⟨a1, len1, cap1, rfl⟩ := okWide_slice Tryz.underlying23 (hval 1 23 v1 rfl rfl)
  obtain ⟨lb, ⟨u1, hcs1, A1, n1, c1, rfl, hnc1, hcm1, hrow1⟩, hbk1⟩ := (opens_slice (by kernel_rfl) Tryz.underlying23 opens_LineD).2 hm1
  simp only [Value.cells, List.cons.injEq, and_true, Value.slice.injEq] at hcs1
  obtain ⟨rfl, rfl, rfl⟩ := hcs1
  have hbound : Rows.uptoBulkAll [d0, d1] ≤ 1048576 := of_decide_eq_true hk
  simp only [Rows.uptoBulkAll] at hbound
  have hb0 : bulkAll Shape.LineD.bulk la + 1 ≤ Rows.uptoBulk d0 := hbk0
  have hb1 : bulkAll Shape.LineD.bulk lb + 1 ≤ Rows.uptoBulk d1 := hbk1
  clear hA0
  refine (law W hrow0 hrow1 (by omega) (by omega) (door_max hsh) (door_err hL) (door_table hL)).mono fun e W' ⟨he, bel⟩ => ?_
  subst he
  exact ⟨_, rfl, _, _, _, [], _, [], hW', trodAll_mk1 (shut_bool Tryz.underlying4 _), (trodAll_cons_mk (Below.trod laidOut (by kernel_rfl) (of_decide_eq_true (by kernel_rfl)) k0 bel lt0) (trodAll_cons_mk (Below.trod laidOut (by kernel_rfl) (of_decide_eq_true (by kernel_rfl)) k1 bel lt1) trodAll_mk0)), rfl, bel.frame _, fun h => by cases h⟩
theorem laid_met (os : Os) : laidMetH Tryz.prog Rows.manifestMemoryUptoRow.laid ((laidWorld os).forCall (fun _ _ => 0) ⟨#[], #[.slice none 0 0, .slice none 0 0], []⟩).memory := laidMetH_of_parts3 (fuel := 8) (laidMet_of_run' 8 (by kernel_rfl) (by kernel_rfl)) (by kernel_rfl) (by kernel_rfl)
theorem reads (os : Os) {H : Type} (enc : TypeId × Value → H) : ∃ places, DataW.whole enc Tryz.prog ((laidWorld os).forCall (fun _ _ => 0) ⟨#[], #[.slice none 0 0, .slice none 0 0], []⟩).memory Tryz.f6.params.toList Rows.manifestMemorySpec.vars false (#[.slice none 0 0, .slice none 0 0] : Array Value).toList 8 = some ([.nil, .nil], [], places) := ⟨[], by kernel_rfl⟩
set_option maxRecDepth 100000 in
theorem lifted (os : Os) (started : os.Started) (H : Type) (enc : TypeId × Value → H) (F : Stop.Interp) :
    ReturnsInHanded {} Tryz.checked os 6 .any ((Rows.OpenSpec.upto Rows.manifestMemorySpec).preRow enc Tryz.prog Tryz.f6 Rows.manifestMemoryUptoRow.domain false Rows.manifestMemoryUptoRow.laid) (((Rows.OpenSpec.upto Rows.manifestMemorySpec).at F).post enc Tryz.prog Tryz.f6 false true false false) := by
  obtain ⟨places, hx⟩ := reads os enc
  refine returnsInHanded_of_row (C := Tryz.checked) (s := (Rows.OpenSpec.upto Rows.manifestMemorySpec)) own started (by kernel_rfl) Tryz.func6
    (witness_row_atRef (enc := enc) (C := Tryz.checked) false (laidWorld os) #[.slice none 0 0, .slice none 0 0] rfl (by kernel_rfl) (by kernel_rfl) (by kernel_rfl)
      (OpenSpec.preRow_of_cond 8 hx (by kernel_rfl) (fun k hk => by cases hk; kernel_rfl) (by kernel_rfl) (laid_met os))) ?_
  intro W base args ds gs before hval hW _ hcond _ hL hsh _
  exact contract H enc W base args ds gs before hval hW (hcond _ rfl) hL hsh
theorem said : Rows.manifestMemoryUptoRow.holds Tryz.pinned (Rows.OpenSpec.upto Rows.manifestMemorySpec) :=
  OpenClaim.holds_of_cond 6 Tryz.f6 rfl rfl rfl rfl rfl rfl rfl ⟨rfl, rfl, rfl, rfl, rfl⟩ rfl rfl rfl rfl rfl (by kernel_rfl) Tryz.func6 (by kernel_rfl)
    (of_decide_eq_true (by kernel_rfl)) (by unfold Func.isWrapper; first | (rw [if_pos (by decide +kernel)]; kernel_rfl) | (rw [if_neg (by decide +kernel)]; exact ⟨rfl, rfl⟩))
    (fun os started H enc _ F => by rw [OpenClaim.pre_eq_preRow]; exact lifted os started H enc F)
theorem plain (f : FuncId) (fn : Func) (hf : Tryz.pinned.checked.prog.funcNamed "valise/valiselaw15.ManifestMemory" = some f) (hfn : Tryz.pinned.checked.prog.funcs[f]? = some fn) :
    true = Tryz.pinned.checked.prog.looks [] ∧ ∀ (j : Nat) t, fn.params[j]? = some t → Tryz.pinned.checked.prog.wantsStandIn t = false := by
  obtain rfl : f = 6 := Option.some.inj ((show Tryz.prog.funcNamed "valise/valiselaw15.ManifestMemory" = some 6 by kernel_rfl).symm.trans hf) |>.symm
  obtain rfl : fn = Tryz.f6 := (Option.some.inj (Tryz.func6.symm.trans hfn)).symm
  refine ⟨by kernel_rfl, fun j t ht => ?_⟩
  rw [Tryz.params6] at ht
  have hm := Array.mem_of_getElem? ht
  simp only [List.mem_toArray, List.mem_cons, List.not_mem_nil, or_false] at hm
  rcases hm with rfl | rfl
  · exact (show Tryz.prog.wantsStandIn 23 = false by kernel_rfl)
  · exact (show Tryz.prog.wantsStandIn 23 = false by kernel_rfl)
theorem proved : Rows.ManifestMemoryUptoCardSaid :=
  Claim7.holds_tied_plain_at .later [] _ _ _ _ said (fun _ h => by cases h) (by kernel_rfl) (fun _ h => by cases h) manifestMemoryUpto_row_tie rfl ⟨rfl, rfl⟩ (by kernel_rfl) rfl plain (by kernel_rfl)
end manifestMemory
end Go.Proofs.YtkpblhikndennaaGreatDoor
