/- manifest.show of a line that does not print; the text of a line, plain. No condition but room. The library's part of printing: joined texts. No condition but room. manifest.show of a line that prints. No condition but room. The reference's line: the text of a line that prints. No condition but room. -/
import Derived.Test.YtfhfcipelgogjaaGreatDoorOwnerAll
import Derived.Test.YtfhfcipelgogjaaGreatDoorShowAll
import Derived.Test.YtfhfcipelgogjaaGreatDoorRefShowAll
import Derived.Test.YtfhfcipelgogjaaGreatDoorBldAll
namespace Go.Proofs.YtfhfcipelgogjaaGreatDoor
open Go.RowKit
set_option linter.unusedVariables false
set_option linter.unusedSimpArgs false
attribute [local go_sem] cell?_over frozen?_over lt_over le_over

/-- the text of a line, without its end -/
def lineBody (d : LineD) : List UInt8 :=
  permText d.kind d.mode ++ [32] ++ Lib.itoa d.uid ++ [32] ++ Lib.itoa d.gid ++ [32] ++ stText d.mtime.sec d.mtime.nano ++ [32] ++ esc d.path.data.toList ++
    (if tailMark d = [] then [] else [32] ++ tailMark d ++ [32] ++ esc (tailField d).data.toList)
theorem stampAny (s n : Int) (w : World) (hp : Pow10 w) (hs : I64 s) (hn : I64 n) :
    Calls Tryz.prog 55 #[.agg #[.int .i64 s, .int .i64 n]] w fun e w' => ∃ t f, e = .returned (.tuple #[.string t, .int .i64 f]) ∧ Below w.heap.size w w' ∧ f = if stampOk s n then 0 else 20 := by
  by_cases hb : stampOk s n = true
  · exact (stampShow s n w hp hs hn hb).mono fun e w' ⟨he, h⟩ => ⟨_, _, he, h, by rw [if_pos hb]⟩
  · rw [Bool.not_eq_true] at hb
    exact (stampShow_bad s n w hb).mono fun e w' ⟨he, h⟩ => ⟨_, _, he, h, by rw [if_neg (by rw [hb]; decide)]⟩
theorem permsAny (k m : Int) (w : World) (hm : I64 m) :
    Calls Tryz.prog 54 #[.int .i64 k, .int .i64 m] w fun e w' => ∃ t f, e = .returned (.tuple #[.string t, .int .i64 f]) ∧ Below w.heap.size w w' ∧ f = if permOk k m then 0 else 120 := by
  by_cases hb : permOk k m = true
  · exact (permsText k m w hb).mono fun e w' ⟨he, h⟩ => ⟨_, _, he, h, by rw [if_pos hb]⟩
  · rw [Bool.not_eq_true] at hb
    exact (permsText_bad k m w hm hb).mono fun e w' ⟨he, h⟩ => ⟨_, _, he, by rw [h]; exact Below.refl _ _, by rw [if_neg (by rw [hb]; decide)]⟩
abbrev lineCs (d : LineD) (A : Option Addr) (n c : Nat) : Array Value := #[.string d.path, .int .i64 d.kind, .int .i64 d.mode, .int .i64 d.uid, .int .i64 d.gid, .int .i64 d.mtime.sec, .int .i64 d.mtime.nano, .slice A n c, .string d.target, .string d.peer]
set_option maxHeartbeats 2000000 in
set_option maxRecDepth 100000 in
theorem show_bad (d : LineD) {cs : List Value} (w : World) (h : LineD.rd w (Old w) cs d) (hp : Pow10 w) (hb : rOk d = false) :
    Calls Tryz.prog 29 #[.agg cs.toArray] w fun e w' => e = .returned (.tuple #[.string ⟨#[]⟩, .bool false]) ∧ Below w.heap.size w w' := by
  have HR := Lib.hid h
  obtain ⟨A, n, c, rfl, s0, i1, i2, i3, i4, i5, i6, hnc, hcm, hrow, s8, s9⟩ := h
  have hok := ok_same d
  rw [hb] at hok
  clear hb
  go_enter Tryz.func29, Tryz.ntmps29
  go_wp2_with fail
  refine (permsAny _ _ _ i2).mono ?_
  rintro e u ⟨t1, f1, rfl, hb1, hf1⟩
  obtain ⟨b1, hbw1, hsz1⟩ := blks1 hb1
  have k1 := b1.cell
  have HB1 := Lib.hid b1; have HW1 := Lib.hid hbw1; have HF1 := Lib.hid hf1
  clear hb1 b1 hbw1 hf1
  have HP1 := Lib.hid (hp.keep HW1.out)
  go_wp2_with fail
  refine (stampAny _ _ _ HP1.out i5 i6).mono ?_
  rintro e u2 ⟨t2, f2, rfl, hb2, hf2⟩
  have HB2 := Lib.hid (HB1.out.below hb2 HB1.out.lt)
  have k2 := HB2.out.cell
  have HW2 := Lib.hid (HW1.out.trans (hb2.mono (by omega)))
  have HF2 := Lib.hid hf2
  clear hb2 hf2 k1
  by_cases c1 : permOk d.kind d.mode = true
  · have e1 : f1 = 0 := by rw [HF1.out, if_pos c1]
    subst e1
    by_cases c2 : stampOk d.mtime.sec d.mtime.nano = true
    · have e2 : f2 = 0 := by rw [HF2.out, if_pos c2]
      subst e2
      by_cases c3 : 3 < d.kind
      · have d3 : decide (d.kind > 3) = true := by simpa using c3
        clear hok c1 c2
        go_wp2_with fail
        go_ret2
        exact ⟨rfl, HW2.out⟩
      · have d3 : decide (d.kind > 3) = false := by simpa using c3
        have c4 : pOk d = false := by
          rw [c1, c2, show decide (3 < d.kind) = false by simpa using c3] at hok
          simpa using hok
        clear hok c1 c2
        have HC4 := Lib.hid c4
        clear c4
        have HPR := Lib.hid (prints d u2 (Shape.LineD.below HR.out HW2.out))
        go_wp2_with (first | (go_at_call 56; refine HPR.out.mono ?_; rintro e u3 ⟨rfl, hb3⟩; rw [HC4.out]))
        go_ret2
        exact ⟨rfl, HW2.out.trans (hb3.mono HW2.out.size)⟩
    · have e2 : f2 = 20 := by rw [HF2.out, if_neg c2]
      subst e2
      go_wp2_with fail
      go_ret2
      exact ⟨rfl, HW2.out⟩
  · have e1 : f1 = 120 := by rw [HF1.out, if_neg c1]
    subst e1
    go_wp2_with fail
    go_ret2
    exact ⟨rfl, HW2.out⟩
end Go.Proofs.YtfhfcipelgogjaaGreatDoor
namespace Go.Proofs.YtfhfcipelgogjaaGreatDoor
open Go.RowKit
set_option linter.unusedVariables false
set_option linter.unusedSimpArgs false
theorem bexL : Builder.Extra Tryz.prog Tryz.lays156_ren := {
  sizeBuilder := by kernel_rfl
  liesBuilder := by kernel_rfl
  t5 := Tryz.underlying5
  a5 := Tryz.isAgg5
  z5 := Tryz.sizeOf5
  v5 := Tryz.zeroValue5
  infoByte := by kernel_rfl
  cellsByte := by kernel_rfl
  sizeByte := by kernel_rfl
  neB5 := by decide }
theorem join_calls (bk o c : Nat) (xs : List ByteArray) (sep : ByteArray) (w : World) (hcells : ∀ (j : Nat) x, xs[j]? = some x → w.cell? ⟨bk, o + j, none⟩ = some (.string x)) (hbk : bk < w.heap.size) (hN : xs.length ≤ 140737488355328) (hcap : xs.length ≤ c) (hlen : (Lib.join (xs.map (·.data.toList)) sep.data.toList).length ≤ 140737488355328) :
    Calls Tryz.prog 60 #[.slice (some ⟨bk, o, none⟩) xs.length c, .string sep] w fun e w' => e = .returned (.string ⟨(Lib.join (xs.map (·.data.toList)) sep.data.toList).toArray⟩) ∧ Below w.heap.size w w' :=
  Any.strings_Join Tryz.lays156 bexL bk o c xs sep w hcells hbk hN hcap hlen
end Go.Proofs.YtfhfcipelgogjaaGreatDoor
namespace Go.Proofs.YtfhfcipelgogjaaGreatDoor
open Go.RowKit
set_option linter.unusedVariables false
set_option linter.unusedSimpArgs false
attribute [local go_sem] cell?_over frozen?_over lt_over le_over

/-- so much text in a line at the most -/
def SmallD (d : LineD) : Prop := d.path.size ≤ 67108864 ∧ d.peer.size ≤ 67108864 ∧ d.target.size ≤ 67108864 ∧ d.data.length ≤ 67108864
theorem ok_parts {d : LineD} (h : rOk d = true) : permOk d.kind d.mode = true ∧ stampOk d.mtime.sec d.mtime.nano = true ∧ decide (d.kind > 3) = false ∧ pOk d = true := by
  rw [← ok_same] at h
  simp only [Bool.and_eq_true, Bool.not_eq_true'] at h
  exact ⟨h.1.1.1, h.1.1.2, h.1.2, h.2⟩
theorem Own.made_of {α : Type} {s : Shape α} {e : TypeId} (w : World) (base : Nat) (hb : base ≤ w.heap.size) {xs : List Value} {l : List α} (hc : Cells s w (fun _ => False) xs l) (hf : s.Flat) (hm : l.length ≤ maxLen) :
    Own s e (w.alloc (.cells xs.toArray e)) base (fun _ => False) (.slice (some ⟨w.heap.size, 0, none⟩) l.length l.length) l := by
  have hl := hc.length
  refine ⟨xs, ⟨hl, .inr ⟨w.heap.size, l.length, xs.toArray, rfl, hb, heap_alloc_new w _, Nat.le_refl _, hm, by simpa using hl, ?_⟩⟩, hc.flat hf, fun _ h => h.elim⟩
  rw [← hl]; simp
theorem Src.made {α : Type} {s : Shape α} (hf : s.Flat) {w : World} {xs : List Value} {k : List α} (e : TypeId) (h : Cells s w (fun _ => False) xs k) : Src s (w.alloc (.cells xs.toArray e)) (fun _ => False) (some ⟨w.heap.size, 0, none⟩) k.length k := by
  refine ⟨rfl, by simp, xs, h.flat hf, fun ad e' j u hu => ?_⟩
  injection e' with e'; subst e'
  have : (Addr.add ⟨w.heap.size, 0, none⟩ j) = ⟨w.heap.size, j, none⟩ := by
    unfold Addr.add
    by_cases hj : j = 0
    · subst hj; rfl
    · rw [if_neg hj]; simp
  rw [this, World.cell?_alloc_new]
  simpa using hu
theorem Own.strs {w : World} {e : TypeId} {base : Nat} {M : Nat → Prop} {v : Value} {l : List ByteArray} (h : Own Shape.str e w base M v l) (hl : 0 < l.length) :
    ∃ g cap, v = .slice (some ⟨g, 0, none⟩) l.length cap ∧ g < w.heap.size ∧ l.length ≤ cap ∧ ∀ (j : Nat) x, l[j]? = some x → w.cell? ⟨g, 0 + j, none⟩ = some (.string x) := by
  rcases h.form with ⟨_, h0⟩ | ⟨g, cap, hv, h1, h2, h3, _⟩
  · subst h0; simp at hl
  · refine ⟨g, cap, hv, h2, h3, fun j x hj => ?_⟩
    obtain ⟨A, n, c, hv2, hnc, hcm, hrow⟩ := h.rd
    rw [hv] at hv2
    injection hv2 with a1 a2 a3
    subst a1 a2 a3
    have hjl : j < l.length := (List.getElem?_eq_some_iff.1 hj).1
    obtain ⟨b, off, es, hl2, hA, hM, hc, hr⟩ := hrow.at_ hjl
    injection hA with hA
    injection hA with b1 b2
    subst b1 b2
    have := hc 0 (by decide)
    obtain ⟨hr1, _⟩ := hr
    subst hr1
    have hx : l[j] = x := (List.getElem?_eq_some_iff.1 hj).2
    rw [hx] at this
    have e13 : Shape.str.size = 1 := rfl
    simpa [e13] using this
theorem elem_str : Elem Tryz.prog 40 9 Shape.str 16 := ⟨Tryz.underlying40, by kernel_rfl⟩
theorem cells_strs {w : World} {l : List ByteArray} (h : ∀ x ∈ l, x.size ≤ maxLen) : Cells Shape.str w (fun _ => False) (l.map Value.string) l := by
  induction l with
  | nil => rfl
  | cons a l ih => exact ⟨[.string a], _, rfl, ⟨rfl, h a (by simp)⟩, ih fun x hx => h x (by simp [hx])⟩
def words5 (d : LineD) : List ByteArray := [⟨(permText d.kind d.mode).toArray⟩, ⟨(Lib.itoa d.uid).toArray⟩, ⟨(Lib.itoa d.gid).toArray⟩, ⟨(stText d.mtime.sec d.mtime.nano).toArray⟩, ⟨(esc d.path.data.toList).toArray⟩]
def words7 (d : LineD) : List ByteArray := words5 d ++ [⟨(tailMark d).toArray⟩, ⟨(esc (tailField d).data.toList).toArray⟩]
theorem join5 (d : LineD) (h : tailMark d = []) : Lib.join ((words5 d).map (·.data.toList)) [32] = lineBody d := by
  unfold lineBody
  rw [if_pos h]
  simp [words5, Lib.join, List.intercalate]
theorem join7 (d : LineD) (h : tailMark d ≠ []) : Lib.join ((words7 d).map (·.data.toList)) [32] = lineBody d := by
  unfold lineBody
  rw [if_neg h]
  simp [words7, words5, Lib.join, List.intercalate]
theorem stText_len60 {s n : Int} (hs : I64 s) (hb : stampOk s n = true) : (stText s n).length ≤ 60 := by
  have hbs : 0 ≤ n ∧ n < 1000000000 ∧ -1099511627777 ≤ s ∧ s ≤ 1099511627776 := by simp [stampOk] at hb; omega
  have h1 : (Lib.itoa (stSec s n)).length ≤ 21 := by
    refine Lib.itoa_length_le _ ?_ ?_ <;> (unfold stSec; split <;> (try split) <;> omega)
  have h2 := trim_len ((Lib.itoa (1000000000 + stNano s n)).drop 1)
  have h3 : (Lib.itoa (1000000000 + stNano s n)).length ≤ 21 := by
    refine Lib.itoa_length_le _ ?_ ?_ <;> (unfold stNano; split <;> omega)
  unfold stText
  simp only [List.length_append]
  split <;> split <;> simp at * <;> omega
theorem tailMark_len (d : LineD) : (tailMark d).length ≤ 2 := by
  unfold tailMark
  split
  · split
    · split <;> simp
    · simp
  · simp
theorem tailField_size {d : LineD} (h : SmallD d) : (tailField d).size ≤ 67108864 := by
  obtain ⟨h1, h2, h3, h4⟩ := h
  unfold tailField
  split
  · split
    · split
      · exact h3
      · decide
    · simpa [ByteArray.size] using h4
  · exact h2
theorem esc_size {s : ByteArray} {n : Nat} (h : s.size ≤ n) : (esc s.data.toList).length ≤ 4 * n := by
  have := (esc_len s.data.toList).2
  have e : s.data.toList.length = s.size := by rw [Array.length_toList]; rfl
  omega
theorem lineBody_len {d : LineD} (hs : SmallD d) (i3 : I64 d.uid) (i4 : I64 d.gid) (i5 : I64 d.mtime.sec) (hb : stampOk d.mtime.sec d.mtime.nano = true) : (lineBody d).length ≤ 200 + 4 * d.path.size + 4 * (tailField d).size := by
  have a1 := Lib.itoa_length_le _ i3.1 i3.2
  have a2 := Lib.itoa_length_le _ i4.1 i4.2
  have a3 := stText_len60 i5 hb
  have a4 := esc_size (s := d.path) (Nat.le_refl _)
  have a5 := esc_size (s := tailField d) (Nat.le_refl _)
  have a6 := tailMark_len d
  unfold lineBody
  split <;> simp [permText] <;> omega
theorem permsText' (kind mode : Int) (w : World) (hk : permOk kind mode = true) :
    Calls Tryz.prog 54 #[.int .i64 kind, .int .i64 mode] w fun e w' => e = .returned (.tuple #[.string ⟨(permText kind mode).toArray⟩, .int .i64 0]) ∧ Below w.heap.size w w' := permsText kind mode w hk
theorem manEscape' (s : ByteArray) (w : World) (hs : s.size ≤ 100000000000) :
    Calls Tryz.prog 58 #[.string s] w fun e w' => e = .returned (.string ⟨(esc s.data.toList).toArray⟩) ∧ Below w.heap.size w w' :=
  (manEscape s w hs).mono fun e w' ⟨he, δ, hw⟩ => ⟨he, below_of hw⟩
theorem line_cells {u : World} {b : Nat} {d : LineD} {A : Option Addr} {n c : Nat} (h : Blk u b 60 (lineCs d A n c)) :
    u.cell? ⟨b, 0, none⟩ = some (.string d.path) ∧ u.cell? ⟨b, 3, none⟩ = some (.int .i64 d.uid) ∧ u.cell? ⟨b, 4, none⟩ = some (.int .i64 d.gid) := ⟨h.cell 0, h.cell 3, h.cell 4⟩
set_option maxHeartbeats 4000000 in
set_option maxRecDepth 100000 in
theorem show_ok (d : LineD) {cs : List Value} (w : World) (h : LineD.rd w (Old w) cs d) (hp : Pow10 w) (hs : SmallD d) (hb : rOk d = true) :
    Calls Tryz.prog 29 #[.agg cs.toArray] w fun e w' => e = .returned (.tuple #[strV (lineBody d), .bool true]) ∧ Below w.heap.size w w' := by
  have HR := Lib.hid h
  obtain ⟨q1, q2, q3, q4⟩ := ok_parts hb
  obtain ⟨A, n, c, rfl, s0, i1, i2, i3, i4, i5, i6, hnc, hcm, hrow, s8, s9⟩ := h
  obtain ⟨z1, z2, z3, z4⟩ := hs
  have HQ1 := Lib.hid q1; have HQ2 := Lib.hid q2; have HQ4 := Lib.hid q4
  clear q1 q2 q4 hb
  go_enter Tryz.func29, Tryz.ntmps29
  go_wp2_with fail
  refine (permsText' _ _ _ HQ1.out).mono ?_
  rintro e u ⟨rfl, hb1⟩
  obtain ⟨b1, hbw1, hsz1⟩ := blks1 hb1
  have k1 := b1.cell
  have HB1 := Lib.hid b1; have HW1 := Lib.hid hbw1
  clear hb1 b1 hbw1
  have HP1 := Lib.hid (hp.keep HW1.out)
  go_wp2_with fail
  refine (stampShow _ _ _ HP1.out i5 i6 HQ2.out).mono ?_
  rintro e u2 ⟨rfl, hb2⟩
  have HB2 := Lib.hid (HB1.out.below hb2 HB1.out.lt)
  have k2 := HB2.out.cell
  have HW2 := Lib.hid (HW1.out.trans (hb2.mono (by omega)))
  clear hb2 k1
  have HPR := Lib.hid (prints d u2 (Shape.LineD.below HR.out HW2.out))
  go_wp2_with (first | (go_at_call 56; refine HPR.out.mono ?_; rintro e u3 ⟨rfl, hb3⟩; rw [HQ4.out]; have HB3 := Lib.hid (HB2.out.below hb3 HB2.out.lt); have k3 := HB3.out.cell; have HW3 := Lib.hid (HW2.out.trans (hb3.mono HW2.out.size)); clear hb3 k2))
  have HP3 := Lib.hid (hp.keep HW3.out)
  have hS3 : w.heap.size + 1 ≤ u3.heap.size := HB3.out.lt
  have K0 : Hid (Blk u3.drew w.heap.size 60 (lineCs d A n c)) := Lib.hid HB3.out.drew
  have P0 : Hid (Pow10 u3.drew) := Lib.hid HP3.out
  have W0 : Hid (Below w.heap.size w u3.drew) := Lib.hid HW3.out.drew
  clear k3

  go_region_held3 (fun w' => w'.cell? ⟨w.heap.size, 0, none⟩ = some (.string d.path) ∧ w'.cell? ⟨w.heap.size, 3, none⟩ = some (.int .i64 d.uid) ∧ w'.cell? ⟨w.heap.size, 4, none⟩ = some (.int .i64 d.gid))
    (first | assumption | exact line_cells (K3.out.alloc _) | exact line_cells K3.out | exact line_cells K2.out | exact line_cells K1.out | exact line_cells K0.out)
    (first
      | (go_at_call 57; refine (numeralShow d.uid i3 _ P0.out).mono ?_; rintro e v1 ⟨rfl, hv1⟩; have K1 := Lib.hid (K0.out.below hv1 K0.out.lt); have P1 := Lib.hid (P0.out.keep hv1); have W1 := Lib.hid (W0.out.trans (hv1.mono W0.out.size)); clear hv1)
      | (go_at_call 57; refine (numeralShow d.gid i4 _ P1.out).mono ?_; rintro e v2 ⟨rfl, hv2⟩; have K2 := Lib.hid (K1.out.below hv2 K1.out.lt); have P2 := Lib.hid (P1.out.keep hv2); have W2 := Lib.hid (W1.out.trans (hv2.mono W1.out.size)); clear hv2)
      | (go_at_call 58; refine (manEscape' d.path _ (by omega)).mono ?_; rintro e v3 ⟨rfl, hv3b⟩; have K3 := Lib.hid (K2.out.below hv3b K2.out.lt); have P3 := Lib.hid (P2.out.keep hv3b); have W3 := Lib.hid (W2.out.trans (hv3b.mono W2.out.size)); clear hv3b))
  have st60 := stText_len60 i5 HQ2.out
  have a1 := Lib.itoa_length_le _ i3.1 i3.2
  have a2 := Lib.itoa_length_le _ i4.1 i4.2
  have a4 := esc_size z1
  have O4 : Hid (Own Shape.str 9 (v3.alloc (.cells #[.string ⟨(permText d.kind d.mode).toArray⟩, .string ⟨(Lib.itoa d.uid).toArray⟩, .string ⟨(Lib.itoa d.gid).toArray⟩, .string ⟨(stText d.mtime.sec d.mtime.nano).toArray⟩, .string ⟨(esc d.path.data.toList).toArray⟩] 9)) w.heap.size (fun _ => False) (.slice (some ⟨v3.heap.size, 0, none⟩) 5 5) (words5 d)) := by
    refine Lib.hid (Own.made_of (s := Shape.str) (l := words5 d) (xs := (words5 d).map Value.string) v3 w.heap.size W3.out.size (cells_strs (fun x hx => ?_)) flat_str (by show 5 ≤ maxLen; decide))
    simp only [words5, List.mem_cons, List.not_mem_nil, or_false] at hx
    unfold maxLen
    rcases hx with rfl | rfl | rfl | rfl | rfl <;> simp [ByteArray.size, permText] <;> omega
  have K4 := Lib.hid (K3.out.alloc (.cells #[.string ⟨(permText d.kind d.mode).toArray⟩, .string ⟨(Lib.itoa d.uid).toArray⟩, .string ⟨(Lib.itoa d.gid).toArray⟩, .string ⟨(stText d.mtime.sec d.mtime.nano).toArray⟩, .string ⟨(esc d.path.data.toList).toArray⟩] 9))
  have W4 := Lib.hid (W3.out.alloc W3.out.size (.cells #[.string ⟨(permText d.kind d.mode).toArray⟩, .string ⟨(Lib.itoa d.uid).toArray⟩, .string ⟨(Lib.itoa d.gid).toArray⟩, .string ⟨(stText d.mtime.sec d.mtime.nano).toArray⟩, .string ⟨(esc d.path.data.toList).toArray⟩] 9))
  generalize v3.alloc (.cells #[.string ⟨(permText d.kind d.mode).toArray⟩, .string ⟨(Lib.itoa d.uid).toArray⟩, .string ⟨(Lib.itoa d.gid).toArray⟩, .string ⟨(stText d.mtime.sec d.mtime.nano).toArray⟩, .string ⟨(esc d.path.data.toList).toArray⟩] 9) = v4 at *
  generalize v3.heap.size = G at *
  have k4 : ∀ i, v4.cell? ⟨w.heap.size, i, none⟩ = (#[.string d.path, .int .i64 d.kind, .int .i64 d.mode, .int .i64 d.uid, .int .i64 d.gid, .int .i64 d.mtime.sec, .int .i64 d.mtime.nano, .slice A n c, .string d.target, .string d.peer] : Array Value)[i]? := K4.out.cell
  have HTL := Lib.hid (tail d v4 (Shape.LineD.below HR.out W4.out))
  go_wp2_with fail
  refine HTL.out.mono ?_
  rintro e v5 ⟨rfl, hb5⟩
  have O5 := Lib.hid (O4.out.kept (grownBy_of_below hb5) (.inr (by simp [Value.ownBlock])) (fun _ h => h.elim))
  have W5 := Lib.hid (W4.out.trans (hb5.mono W4.out.size))
  clear hb5 k4
  unfold strV
  by_cases hm : tailMark d = []
  · have hme : (tailMark d).isEmpty = true := by rw [hm]; rfl
    have HJ := Lib.hid (join5 d hm)
    clear hm
    obtain ⟨g, cap, hv, hg, hc5, hcell⟩ := O5.out.strs (by show 0 < 5; decide)
    injection hv with b1 b2 b3
    injection b1 with b1
    injection b1 with b1
    subst b1
    clear b2 b3
    have hjl : (Lib.join ((words5 d).map (·.data.toList)) (ByteArray.mk #[32]).data.toList).length ≤ 140737488355328 := by
      show (Lib.join ((words5 d).map (·.data.toList)) [32]).length ≤ _
      rw [HJ.out]
      have := lineBody_len ⟨z1, z2, z3, z4⟩ i3 i4 i5 HQ2.out
      have := tailField_size ⟨z1, z2, z3, z4⟩
      omega
    have HJC := Lib.hid (join_calls G 0 5 (words5 d) ⟨#[32]⟩ v5 hcell hg (by show 5 ≤ _; decide) (by show 5 ≤ 5; decide) hjl)
    clear hcell hjl
    go_wp2_with (first | (go_at_call 60; refine HJC.out.mono ?_; rintro e v6 ⟨rfl, hb6⟩))
    go_ret2
    refine ⟨congrArg (fun b => Ending.returned (Value.tuple #[Value.string ⟨b⟩, Value.bool true])) (congrArg List.toArray HJ.out), W5.out.trans (hb6.mono W5.out.size)⟩
  · have hme : (tailMark d).isEmpty = false := by simpa using hm
    have HJ := Lib.hid (join7 d hm)
    have HM := Lib.hid (tailMark_len d)
    have hts := tailField_size (d := d) ⟨z1, z2, z3, z4⟩
    clear hm
    go_wp2_with fail
    refine (manEscape' (tailField d) _ (by omega)).mono ?_
    rintro e v6 ⟨rfl, hb6⟩
    have O6 := Lib.hid (O5.out.kept (grownBy_of_below hb6) (.inr (by simp [Value.ownBlock])) (fun _ h => h.elim))
    have W6 := Lib.hid (W5.out.trans (hb6.mono W5.out.size))
    clear hb6
    have hae := esc_size hts
    have hcl : Cells Shape.str v6 (fun _ => False) (([⟨(tailMark d).toArray⟩, ⟨(esc (tailField d).data.toList).toArray⟩] : List ByteArray).map Value.string) [⟨(tailMark d).toArray⟩, ⟨(esc (tailField d).data.toList).toArray⟩] := cells_strs (fun x hx => by
      have := HM.out
      simp only [List.mem_cons, List.not_mem_nil, or_false] at hx
      unfold maxLen
      rcases hx with rfl | rfl <;> simp [ByteArray.size] <;> omega)
    have HSR := Lib.hid (Src.made flat_str 9 hcl)
    clear hcl
    go_wp2_with (at_builtin; go_loud (refine wpList_append_list (v := .slice (some ⟨G, 0, none⟩) 5 5) rfl (.tmp 60) (.tmp 64) _ rfl elem_str rfl (O6.out.alloc _) rfl HSR.out (fun _ h => h.elim) ?c1 ?c2 ?c3 ?_))
    case c1 => show (5 + 2) * 16 ≤ _; decide
    case c2 => show 5 + 2 ≤ maxLen; decide
    case c3 => have := W6.out.size; simp; omega
    intro v' w1 hown' hg hat
    obtain ⟨g, cap, hv, hg2, hc7, hcell⟩ := Own.strs (l := words7 d) hown' (by show 0 < 7; decide)
    have hv7 : v' = .slice (some ⟨g, 0, none⟩) 7 cap := hv
    subst hv7
    have W7 := Lib.hid (below_append (v := .slice (some ⟨G, 0, none⟩) 5 5) (W6.out.alloc W6.out.size _) (by have := W6.out.size; simp; omega) hg (fun k hk => (O6.out.lt k hk).1))
    have hjl : (Lib.join ((words7 d).map (·.data.toList)) (ByteArray.mk #[32]).data.toList).length ≤ 140737488355328 := by
      show (Lib.join ((words7 d).map (·.data.toList)) [32]).length ≤ _
      rw [HJ.out]
      have := lineBody_len ⟨z1, z2, z3, z4⟩ i3 i4 i5 HQ2.out
      omega
    have HJC := Lib.hid (join_calls g 0 cap (words7 d) ⟨#[32]⟩ w1 hcell hg2 (by show 7 ≤ _; decide) hc7 hjl)
    clear hcell hjl hown' hg hat hv
    go_wp2_with (first | (go_at_call 60; refine HJC.out.mono ?_; rintro e v8 ⟨rfl, hb8⟩))
    go_ret2
    exact ⟨congrArg (fun b => Ending.returned (Value.tuple #[Value.string ⟨b⟩, Value.bool true])) (congrArg List.toArray HJ.out), W7.out.trans (hb8.mono W7.out.size)⟩
end Go.Proofs.YtfhfcipelgogjaaGreatDoor
namespace Go.Proofs.YtfhfcipelgogjaaGreatDoor
open Go.RowKit
set_option linter.unusedVariables false
set_option linter.unusedSimpArgs false
attribute [local go_sem] cell?_over frozen?_over lt_over le_over

def lineHead (d : LineD) : List UInt8 := permText d.kind d.mode ++ [32] ++ Lib.itoa d.uid ++ [32] ++ Lib.itoa d.gid ++ [32] ++ stText d.mtime.sec d.mtime.nano ++ [32] ++ esc d.path.data.toList
end Go.Proofs.YtfhfcipelgogjaaGreatDoor
