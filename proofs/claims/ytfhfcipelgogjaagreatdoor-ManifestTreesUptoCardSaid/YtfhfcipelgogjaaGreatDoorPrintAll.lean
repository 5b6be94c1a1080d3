/- manifest.Print and the reference's Print: the same text. No condition but room. The one call whose answer the document fixes; bounds on the text of lines. No condition but room. What is read is small, and prints as it was; what is printed is read as it was, plain. No condition. -/
import Derived.Test.YtfhfcipelgogjaaGreatDoorLineAll
import Derived.Test.YtfhfcipelgogjaaGreatDoorBldAll
import Derived.Test.YtfhfcipelgogjaaGreatDoorSameAll
import Derived.Lib.SlBytesConst
import Derived.Test.YtfhfcipelgogjaaGreatDoorReadAll
namespace Go.Proofs.YtfhfcipelgogjaaGreatDoor
open Go.RowKit
set_option linter.unusedVariables false
set_option linter.unusedSimpArgs false
attribute [local go_sem] cell?_over frozen?_over lt_over le_over

def textOf (l : List LineD) : List UInt8 := l.flatMap fun d => lineBody d ++ [10]
def okAll (l : List LineD) : Bool := l.all rOk
/-- what Print answers -/
def printText (l : List LineD) : List UInt8 := if okAll l then textOf l else []
def printErr (l : List LineD) : Int := if okAll l then 0 else 150
theorem print_ok {l : List LineD} (h : okAll l = true) : printText l = textOf l ∧ printErr l = 0 := ⟨if_pos h, if_pos h⟩
theorem print_no {l : List LineD} (h : okAll l = false) : printText l = [] ∧ printErr l = 150 := ⟨if_neg (by rw [h]; decide), if_neg (by rw [h]; decide)⟩
theorem text_take {l : List LineD} {k : Nat} (h : k < l.length) : textOf (l.take (k + 1)) = textOf (l.take k) ++ (lineBody l[k] ++ [10]) := by
  unfold textOf
  rw [List.take_succ_eq_append_getElem h, List.flatMap_append]
  simp
theorem ok_take {l : List LineD} {k : Nat} (h : k < l.length) (h1 : okAll (l.take k) = true) (h2 : rOk l[k] = true) : okAll (l.take (k + 1)) = true := by
  unfold okAll at *
  rw [List.take_succ_eq_append_getElem h, List.all_append, h1]
  simp [h2]
theorem not_ok {l : List LineD} {k : Nat} (h : k < l.length) (h2 : rOk l[k] = false) : okAll l = false := by
  rw [← Bool.not_eq_true]
  intro hc
  have := List.all_eq_true.1 hc l[k] (List.getElem_mem h)
  rw [h2] at this; cases this
theorem text_mono (l : List LineD) (k : Nat) : (textOf (l.take k)).length ≤ (textOf l).length := by
  have : textOf l = textOf (l.take k) ++ textOf (l.drop k) := by
    unfold textOf
    rw [← List.flatMap_append, List.take_append_drop]
  rw [this]; simp
theorem LineD.rd.uidI {w : World} {M : Nat → Prop} {cs : List Value} {d : LineD} (h : LineD.rd w M cs d) : I64 d.uid := by
  obtain ⟨_, _, _, _, _, _, _, h, _⟩ := h; exact h
theorem LineD.rd.gidI {w : World} {M : Nat → Prop} {cs : List Value} {d : LineD} (h : LineD.rd w M cs d) : I64 d.gid := by
  obtain ⟨_, _, _, _, _, _, _, _, h, _⟩ := h; exact h
theorem LineD.rd.secI {w : World} {M : Nat → Prop} {cs : List Value} {d : LineD} (h : LineD.rd w M cs d) : I64 d.mtime.sec := by
  obtain ⟨_, _, _, _, _, _, _, _, _, h, _⟩ := h; exact h
theorem strV_app (a b : List UInt8) : (ByteArray.mk a.toArray).data.toList = a := rfl
theorem bytes_src {w : World} {l : List UInt8} {B : Nat} (h : ∀ (j : Nat) (hj : j < (ByteArray.mk l.toArray).data.size), w.cell? ⟨B, j, none⟩ = some (.int .u8 ((ByteArray.mk l.toArray).data[j].toNat : Int))) : Src Shape.byte w (fun _ => False) (some ⟨B, 0, none⟩) (ByteArray.mk l.toArray).size l := by
  have hr : Row Shape.byte w (fun _ => True) (some ⟨B, 0, none⟩) l.length l := by
    refine ⟨rfl, fun _ => ⟨B, 0, rfl, trivial, fun i hi => ⟨[.int .u8 l[i].toNat], fun j hj => ?_, rfl⟩⟩⟩
    have e13 : Shape.byte.size = 1 := rfl
    have : j = 0 := by omega
    subst this
    have := h i (by simpa using hi)
    simpa [e13] using this
  exact (Row.src hr).flat flat_byte
set_option maxHeartbeats 1000000 in
set_option maxRecDepth 100000 in
theorem manPrint {A : Option Addr} {n c : Nat} {l : List LineD} (w : World) (h : Row Shape.LineD w (Old w) A n l) (hp : Pow10 w) (hs : ∀ d ∈ l, SmallD d) (hn : n ≤ 100000000) (ht : okAll l = true → (textOf l).length ≤ 900000000000) (hq : ∀ k, k ≤ n → okAll (l.take k) = true → (textOf (l.take k)).length ≤ 900000000000) :
    Calls Tryz.prog 12 #[.slice A n c] w fun e w' => e = .returned (.tuple #[strV (printText l), .int .i64 (printErr l)]) ∧ Below w.heap.size w w' := by
  have HL := Lib.hid h.1
  go_enter Tryz.func12, Tryz.ntmps12
  go_wp2_with fail
  go_loopw [11] (fun i wr => ∃ k : Nat, k ≤ n ∧ i = .int .i64 k ∧ BW w w.heap.size w.heap.size (textOf (l.take k)) wr ∧ okAll (l.take k) = true) (fun i _ => n - (intOf i).toNat)
  case atStart => exact ⟨0, Nat.zero_le _, rfl, BW.new w, rfl⟩
  case round =>
    obtain ⟨k, hk, rfl, hbw, hok⟩ := hrel
    have O := Lib.hid hbw; clear hbw
    by_cases hlt : k < n
    · obtain ⟨b, off, es, hkl, rfl, hb, hc, hc0, hr⟩ := h.elem (Keeps.old O.out.below) hlt
      have hsm := Lib.hid (hs _ (List.getElem_mem hkl))
      have hr2 : LineD.rd wr (Old wr) es l[k] := Shape.LineD.more hr fun _ hn => Old.below O.out.below hn
      have R := Lib.hid hr2; clear hr2
      have HOK := Lib.hid hok; clear hok
      have HT := Lib.hid (text_take hkl)
      have hle := hq k hk HOK.out
      have hP := Lib.hid (hp.keep O.out.below)
      obtain ⟨A1, n1, c1, rfl, -⟩ := hr
      have e13 : Shape.LineD.size = 10 := rfl
      simp only [e13] at hc hc0
      clear e13
      have hb2 := Nat.lt_of_lt_of_le hb O.out.below.size
      have hks : (k : Int) < n := by omega
      generalize textOf (l.take k) = acc at *
      have O2 := Lib.hid (O.out.alloc (.cells #[.string l[k].path, .int .i64 l[k].kind, .int .i64 l[k].mode, .int .i64 l[k].uid, .int .i64 l[k].gid, .int .i64 l[k].mtime.sec, .int .i64 l[k].mtime.nano, .slice A1 n1 c1, .string l[k].target, .string l[k].peer] 60))
      have R2 := Lib.hid (Shape.LineD.below R.out (below_alloc' wr (.cells #[.string l[k].path, .int .i64 l[k].kind, .int .i64 l[k].mode, .int .i64 l[k].uid, .int .i64 l[k].gid, .int .i64 l[k].mtime.sec, .int .i64 l[k].mtime.nano, .slice A1 n1 c1, .string l[k].target, .string l[k].peer] 60)))
      have P2 := Lib.hid (hP.out.keep (below_alloc' wr (.cells #[.string l[k].path, .int .i64 l[k].kind, .int .i64 l[k].mode, .int .i64 l[k].uid, .int .i64 l[k].gid, .int .i64 l[k].mtime.sec, .int .i64 l[k].mtime.nano, .slice A1 n1 c1, .string l[k].target, .string l[k].peer] 60)))
      by_cases hrk : rOk l[k] = true
      · have HOK2 := Lib.hid (ok_take hkl HOK.out hrk)
        have HRK := Lib.hid hrk
        have hlb := lineBody_len hsm.out R.out.uidI R.out.gidI R.out.secI (ok_parts hrk).2.1
        have hlt2 := tailField_size hsm.out
        have hps := hsm.out.1
        clear hrk
        go_wp2_with fail
        refine (show_ok l[k] _ R2.out P2.out hsm.out HRK.out).mono ?_
        rintro e w2 ⟨rfl, hb2⟩
        have O3 := Lib.hid (O2.out.grown (grownBy_of_below hb2))
        clear hb2
        unfold strV
        go_wp2_with (first
          | (go_at_call 30; refine (writeStringW O3.out ⟨(lineBody l[k]).toArray⟩ (by simp [ByteArray.size]; omega)).mono ?_; rintro e w3 ⟨rfl, h3⟩; have O4 := Lib.hid h3)
          | (go_at_call 31; refine (writeByteW O4.out _ 10 rfl (by simp; omega)).mono ?_; rintro e w4 ⟨rfl, h4⟩))
        go_roundw
        case rel => exact ⟨k + 1, by omega, by go_num, by rw [HT.out, ← List.append_assoc]; exact h4, HOK2.out⟩
        case measure => simp [intOf]; omega
      · rw [Bool.not_eq_true] at hrk
        have HNO := Lib.hid (not_ok hkl hrk)
        have HRK := Lib.hid hrk
        clear hrk
        go_wp2_with fail
        refine (show_bad l[k] _ R2.out P2.out HRK.out).mono ?_
        rintro e w2 ⟨rfl, hb2⟩
        have W2 := Lib.hid (O2.out.below.trans (hb2.mono O2.out.sz))
        clear hb2
        go_wp2_with fail
        go_ret2
        refine ⟨?_, W2.out⟩
        rw [(print_no HNO.out).1, (print_no HNO.out).2]
        rfl
    · have hkn : k = n := by omega
      have htk : l.take k = l := List.take_of_length_le (by rw [HL.out]; omega)
      rw [htk] at O hok
      clear htk
      have hks : ¬ (k : Int) < n := by omega
      have HOK := Lib.hid hok; clear hok
      go_wp2_with (first | (go_at_call 32; refine (bldStringW O.out).mono ?_; rintro e w1 ⟨rfl, h1⟩))
      go_ret2
      refine ⟨?_, h1⟩
      rw [(print_ok HOK.out).1, (print_ok HOK.out).2]
      rfl
end Go.Proofs.YtfhfcipelgogjaaGreatDoor
namespace Go.Proofs.YtfhfcipelgogjaaGreatDoor
open Go.RowKit
set_option linter.unusedVariables false
set_option linter.unusedSimpArgs false
attribute [local go_sem] cell?_over frozen?_over lt_over le_over

theorem own_i64 {n : Int} (h : ownerOk n = true) : I64 n := by
  simp [ownerOk] at h
  exact ⟨by omega, by omega⟩
theorem line_len {d : LineD} (hs : SmallD d) (hb : rOk d = true) : (lineBody d).length ≤ 200 + 4 * d.path.size + 4 * (tailField d).size := by
  obtain ⟨_, q2, _, q4⟩ := ok_parts hb
  have h0 := q4
  unfold pOk at h0
  simp only [Bool.and_eq_true] at h0
  refine lineBody_len hs (own_i64 h0.1.1.2) (own_i64 h0.1.2) ?_ q2
  simp [stampOk] at q2
  exact ⟨by omega, by omega⟩
theorem field_bulk (d : LineD) : d.path.size + (tailField d).size + 1 ≤ Shape.LineD.bulk d := by
  have h2 := len_bulk Shape.byte d.data
  have h3 : (tailField d).size ≤ d.peer.size + d.target.size + d.data.length := by
    unfold tailField
    split
    · split
      · split
        · omega
        · exact Nat.zero_le _
      · show d.data.toArray.size ≤ _; simp
    · omega
  simp only [Shape.LineD, Shape.str, Shape.slice]
  omega
theorem small_bulk {d : LineD} (h : Shape.LineD.bulk d ≤ 1048576) : SmallD d := by
  have h2 := len_bulk Shape.byte d.data
  simp only [Shape.LineD, Shape.str, Shape.slice] at h
  exact ⟨by omega, by omega, by omega, by omega⟩
theorem text_bulk {l : List LineD} (hs : ∀ d ∈ l, SmallD d) (h : okAll l = true) : (textOf l).length ≤ 201 * bulkAll Shape.LineD.bulk l := by
  induction l with
  | nil => simp [textOf]
  | cons d l ih =>
    have h0 : rOk d = true ∧ okAll l = true := by simpa [okAll] using h
    have h1 := ih (fun x hx => hs x (by simp [hx])) h0.2
    have h2 := line_len (hs d (by simp)) h0.1
    have h3 := field_bulk d
    have e : textOf (d :: l) = lineBody d ++ [10] ++ textOf l := by simp [textOf]
    rw [e]
    simp only [List.length_append, bulkAll, List.length_cons, List.length_nil]
    omega
theorem bulk_take (l : List LineD) (k : Nat) : bulkAll Shape.LineD.bulk (l.take k) ≤ bulkAll Shape.LineD.bulk l := by
  induction l generalizing k with
  | nil => simp [bulkAll]
  | cons d l ih =>
    cases k with
    | zero => simp [bulkAll]
    | succ k => have := ih k; simp only [List.take_succ_cons, bulkAll]; omega
theorem text_room {l : List LineD} (h : bulkAll Shape.LineD.bulk l ≤ 1048576) (k : Nat) (hk : okAll (l.take k) = true) : (textOf (l.take k)).length ≤ 900000000000 := by
  have h1 := bulk_take l k
  have h2 := text_bulk (l := l.take k) (fun d hd => small_bulk (Nat.le_trans (mem_bulk Shape.LineD.bulk hd) (by omega))) hk
  omega
theorem small_all {l : List LineD} (h : bulkAll Shape.LineD.bulk l ≤ 1048576) : ∀ d ∈ l, SmallD d := fun d hd => small_bulk (Nat.le_trans (mem_bulk Shape.LineD.bulk hd) h)
def lineA : LineD := ⟨⟨#[97]⟩, 1, 420, 0, 0, ⟨5, 0⟩, [120, 121, 122], ⟨#[]⟩, ⟨#[]⟩⟩
theorem itoa_5 : Lib.itoa 5 = [53] := by
  unfold Lib.itoa
  rw [if_neg (by decide), Lib.decDigits.eq_def, dif_pos (by decide)]
  rfl
theorem lineA_ok : rOk lineA = true := by
  unfold rOk lineA
  simp [isEmpty_nil, ownerOk, stampOk]
theorem lineA_text : textOf [lineA] = [45, 114, 119, 45, 114, 45, 45, 114, 45, 45, 32, 48, 32, 48, 32, 53, 32, 97, 32, 58, 32, 120, 121, 122, 10] := by
  have hm : tailMark lineA = [58] := by unfold tailMark lineA; simp [isEmpty_nil]
  have hf : tailField lineA = ⟨#[120, 121, 122]⟩ := by unfold tailField lineA; simp [isEmpty_nil]
  have hp : permText 1 420 = [45, 114, 119, 45, 114, 45, 45, 114, 45, 45] := by decide
  have hst : stText 5 0 = [53] := by unfold stText stSec stNano; simp [itoa_5]
  have hb : lineBody lineA = [45, 114, 119, 45, 114, 45, 45, 114, 45, 45, 32, 48, 32, 48, 32, 53, 32, 97, 32, 58, 32, 120, 121, 122] := by
    unfold lineBody
    rw [hm, hf]
    show permText 1 420 ++ [32] ++ Lib.itoa 0 ++ [32] ++ Lib.itoa 0 ++ [32] ++ stText 5 0 ++ [32] ++ esc [97] ++ (if [58] = [] then [] else [32] ++ [58] ++ [32] ++ esc [120, 121, 122]) = _
    rw [hp, hst, itoa_0]
    decide
  simp [textOf, hb]
theorem lineA_rd (w : World) : LineD.rd (w.alloc (.cells #[.int .u8 120, .int .u8 121, .int .u8 122] 5 (3, 4))) (Old (w.alloc (.cells #[.int .u8 120, .int .u8 121, .int .u8 122] 5 (3, 4))))
    [.string ⟨#[97]⟩, .int .i64 1, .int .i64 420, .int .i64 0, .int .i64 0, .int .i64 5, .int .i64 0, .slice (some ⟨w.heap.size, 0, none⟩) 3 3, .string ⟨#[]⟩, .string ⟨#[]⟩] lineA := by
  refine ⟨some ⟨w.heap.size, 0, none⟩, 3, 3, rfl, by decide, by unfold lineA I64; simp, by unfold lineA I64; simp, by unfold lineA I64; simp, by unfold lineA I64; simp, by unfold lineA I64; simp, by unfold lineA I64; simp, Nat.le_refl _, by simp [maxLen], ?_, by decide, by decide⟩
  refine ⟨rfl, fun _ => ⟨w.heap.size, 0, rfl, by unfold Old; simp, fun i hi => ?_⟩⟩
  have e13 : Shape.byte.size = 1 := rfl
  have hi3 : i < 3 := hi
  refine ⟨[.int .u8 lineA.data[i].toNat], fun j hj => ?_, rfl⟩
  have : j = 0 := by omega
  subst this
  rw [e13]
  obtain rfl | rfl | rfl : i = 0 ∨ i = 1 ∨ i = 2 := by omega
  all_goals simp [World.cell?_alloc_mark, lineA]
theorem Row.single {α : Type} {s : Shape α} {w : World} {es : List Value} {a : α} (e : TypeId) (h : s.rd w (Old w) es a) : Row s (w.alloc (.cells es.toArray e)) (Old (w.alloc (.cells es.toArray e))) (some ⟨w.heap.size, 0, none⟩) 1 [a] := by
  refine ⟨rfl, fun _ => ⟨w.heap.size, 0, rfl, by unfold Old; simp, fun i hi => ?_⟩⟩
  have h0 : i = 0 := by simp at hi; omega
  subst h0
  refine ⟨es, fun j hj => ?_, ?_⟩
  · simp [World.cell?_alloc_new]
  · exact s.more (s.keep h (Keeps.old_alloc w _)) fun n hn => Old.alloc hn
theorem lineA_small : SmallD lineA := by unfold SmallD lineA; simp [ByteArray.size]
set_option maxHeartbeats 1000000 in
set_option maxRecDepth 100000 in
theorem alive (w : World) (hp : Pow10 w) : Calls Tryz.prog 9 #[] w fun e w' => e = .returned (.bool true) ∧ Below w.heap.size w w' := by
  go_enter Tryz.func9, Tryz.ntmps9
  have kc := fun (w : World) (C : Array Value) (n c : Nat) => Lib.run_convert_bytes_const (P := Tryz.prog) w 58 5 C n c Tryz.underlying58 Tryz.underlying5
  have hr := Row.single (s := Shape.LineD) 60 (lineA_rd w)
  have hz : (w.alloc (.cells #[.int .u8 120, .int .u8 121, .int .u8 122] 5 (3, 4))).heap.size = w.heap.size + 1 := by simp
  rw [hz] at hr
  have HRW := Lib.hid hr
  have hB := Lib.hid ((below_alloc' w (.cells #[.int .u8 120, .int .u8 121, .int .u8 122] 5 (3, 4))).alloc (by simp) (.cells #[.string ⟨#[97]⟩, .int .i64 1, .int .i64 420, .int .i64 0, .int .i64 0, .int .i64 5, .int .i64 0, .slice (some ⟨w.heap.size, 0, none⟩) 3 3, .string ⟨#[]⟩, .string ⟨#[]⟩] 60))
  have hP := Lib.hid (hp.keep hB.out)
  clear hr hz
  have hok : okAll [lineA] = true := by simp [okAll, lineA_ok]
  have HOK := Lib.hid hok
  clear hok
  have HC := Lib.hid (manPrint (c := 1) _ HRW.out hP.out (by intro d hd; simp at hd; subst hd; exact lineA_small) (by decide) (fun _ => by rw [lineA_text]; decide)
    (fun k hk _ => Nat.le_trans (text_mono [lineA] k) (by rw [lineA_text]; decide)))
  go_wp2_with fail
  refine HC.out.mono ?_
  rintro e w2 ⟨rfl, hb2⟩
  rw [(print_ok HOK.out).1, (print_ok HOK.out).2, lineA_text]
  have W2 := Lib.hid (hB.out.trans (hb2.mono hB.out.size))
  clear hb2
  unfold strV
  go_wp2_with fail
  go_ret
  exact ⟨rfl, W2.out⟩
end Go.Proofs.YtfhfcipelgogjaaGreatDoor
namespace Go.Proofs.YtfhfcipelgogjaaGreatDoor
open Go.RowKit
set_option linter.unusedVariables false
set_option linter.unusedSimpArgs false
theorem mapM_mem {α β : Type} {f : α → Option β} : ∀ {l : List α} {r : List β}, l.mapM f = some r → ∀ d ∈ r, ∃ w ∈ l, f w = some d
  | [], r, h, d, hd => by
    rw [List.mapM_nil] at h
    injection h with h; subst h; cases hd
  | w :: l, r, h, d, hd => by
    rw [List.mapM_cons] at h
    cases hf : f w with
    | none => rw [hf] at h; cases h
    | some a =>
      rw [hf] at h
      cases hl : l.mapM f with
      | none => rw [hl] at h; cases h
      | some r' =>
        rw [hl] at h
        have h' : a :: r' = r := by injection h
        subst h'
        rcases List.mem_cons.1 hd with rfl | hd
        · exact ⟨w, by simp, hf⟩
        · obtain ⟨w', h1, h2⟩ := mapM_mem hl d hd
          exact ⟨w', List.mem_cons_of_mem _ h1, h2⟩
theorem linesW_small {b : UInt8} : ∀ {l : List UInt8} {ws : List (List UInt8)}, linesW b l = some ws → ∀ w ∈ ws, w.length ≤ l.length
  | [], ws, h, w, hw => by unfold linesW at h; injection h with h; subst h; cases hw
  | c :: l, ws, h, w, hw => by
    unfold linesW at h
    split at h
    · rw [Option.map_eq_some_iff] at h
      obtain ⟨x, h1, rfl⟩ := h
      rcases List.mem_cons.1 hw with rfl | hw
      · simp
      · have := linesW_small h1 w hw; simp; omega
    · split at h
      · next w' r hs =>
        injection h with h; subst h
        rcases List.mem_cons.1 hw with rfl | hw
        · have := linesW_small hs w' (by simp); simpa using this
        · have := linesW_small hs w (by simp [hw]); simp; omega
      · cases h
theorem linesW_join : ∀ {l : List UInt8} {ws : List (List UInt8)}, linesW 10 l = some ws → ws.flatMap (· ++ [10]) = l
  | [], ws, h => by unfold linesW at h; injection h with h; subst h; rfl
  | c :: l, ws, h => by
    unfold linesW at h
    split at h
    · next hc =>
      rw [Option.map_eq_some_iff] at h
      obtain ⟨x, h1, rfl⟩ := h
      have := linesW_join h1
      rw [List.flatMap_cons, this, hc]; rfl
    · split at h
      · next w' r hs =>
        injection h with h; subst h
        have := linesW_join hs
        rw [List.flatMap_cons] at this ⊢
        rw [← this]; rfl
      · cases h
theorem mapM_text {rest : LineD → List UInt8 → List UInt8 → Option LineD} : ∀ {ws : List (List UInt8)} {l : List LineD}, ws.mapM (lineF rest) = some l → okAll l = true ∧ textOf l = ws.flatMap (· ++ [10])
  | [], l, h => by
    rw [List.mapM_nil] at h
    injection h with h; subst h; exact ⟨rfl, rfl⟩
  | w :: ws, l, h => by
    rw [List.mapM_cons] at h
    cases hf : lineF rest w with
    | none => rw [hf] at h; cases h
    | some d =>
      rw [hf] at h
      cases hl : ws.mapM (lineF rest) with
      | none => rw [hl] at h; cases h
      | some l' =>
        rw [hl] at h
        have h' : d :: l' = l := by injection h
        subst h'
        obtain ⟨h1, h2⟩ := mapM_text hl
        obtain ⟨h3, h4⟩ := lineF_sound hf
        refine ⟨by simp [okAll, h3]; simpa [okAll] using h1, ?_⟩
        show lineBody d ++ [10] ++ textOf l' = _
        rw [h2, h4, List.flatMap_cons]
/-- what is read prints as it was -/
theorem read_text {rest : LineD → List UInt8 → List UInt8 → Option LineD} {t : List UInt8} {l : List LineD} (h : readW (lineF rest) t = some l) : okAll l = true ∧ textOf l = t := by
  unfold readW at h
  obtain ⟨ws, h1, h2⟩ := Option.bind_eq_some_iff.1 h
  obtain ⟨h3, h4⟩ := mapM_text h2
  exact ⟨h3, h4.trans (linesW_join h1)⟩
theorem line_sizes {d : LineD} (h : rOk d = true) : d.path.size ≤ (lineBody d).length ∧ d.target.size ≤ (lineBody d).length ∧ d.peer.size ≤ (lineBody d).length ∧ d.data.length ≤ (lineBody d).length := by
  have hlen : ∀ s : ByteArray, s.size = s.data.toList.length := fun s => by rw [Array.length_toList]; rfl
  have h1 : d.path.size ≤ (lineBody d).length := by
    have := (esc_len d.path.data.toList).1
    rw [hlen]
    unfold lineBody
    simp only [List.length_append]
    omega
  have h2 : tailMark d ≠ [] → (tailField d).size ≤ (lineBody d).length := fun hm => by
    have := (esc_len (tailField d).data.toList).1
    rw [hlen]
    unfold lineBody
    rw [if_neg hm]
    simp only [List.length_append]
    omega
  have hm : tailMark d = if d.peer.toList.isEmpty then (if d.data.length = 0 then (if d.kind = 3 then [45, 62] else []) else [58]) else [61] := rfl
  have hf : tailField d = if d.peer.toList.isEmpty then (if d.data.length = 0 then (if d.kind = 3 then d.target else ⟨#[]⟩) else ⟨d.data.toArray⟩) else d.peer := rfl
  have z0 : ∀ s : ByteArray, s.toList.isEmpty = true → s.size = 0 := fun s hs => by rw [emp_iff hs]; rfl
  unfold rOk at h
  simp only [Bool.and_eq_true, decide_eq_true_eq] at h
  obtain ⟨⟨⟨⟨⟨hk, _⟩, _⟩, _⟩, _⟩, htl⟩ := h
  refine ⟨h1, ?_⟩
  by_cases hp : d.peer.toList.isEmpty = true
  · rw [if_pos hp, Bool.and_eq_true] at htl
    rw [if_pos hp] at hm hf
    have zp := z0 _ hp
    by_cases hd : d.data.length = 0
    · rw [if_pos hd] at hm hf
      by_cases hk3 : d.kind = 3
      · rw [if_pos hk3] at hm hf
        have := h2 (by rw [hm]; simp)
        rw [hf] at this
        exact ⟨this, by omega, by omega⟩
      · have h3 := htl.2
        have : (d.kind == 3) = false := by simpa using hk3
        rw [this, beq_iff_eq] at h3
        have h4 : d.target.toList.isEmpty = true := by simpa using h3.symm
        have := z0 _ h4
        exact ⟨by omega, by omega, by omega⟩
    · rw [if_neg hd] at hm hf
      have := h2 (by rw [hm]; simp)
      rw [hf] at this
      have e : (ByteArray.mk d.data.toArray).size = d.data.length := by simp [ByteArray.size]
      rw [e] at this
      have h1' := htl.1
      have hdb : (d.data.length == 0) = false := by simpa using hd
      rw [hdb, Bool.or_false, beq_iff_eq] at h1'
      have h3 := htl.2
      rw [h1'] at h3
      have h4 : d.target.toList.isEmpty = true := by simpa using h3
      have := z0 _ h4
      exact ⟨by omega, by omega, by omega⟩
  · have hpf : d.peer.toList.isEmpty = false := by simpa using hp
    rw [hpf] at htl hm hf
    simp only [Bool.false_eq_true, if_false, Bool.and_eq_true] at htl hm hf
    have := h2 (by rw [hm]; simp)
    rw [hf] at this
    have := z0 _ htl.1.2
    have := htl.1.1
    rw [beq_iff_eq] at this
    exact ⟨by omega, by omega, by omega⟩
theorem read_small {rest : LineD → List UInt8 → List UInt8 → Option LineD} {t : List UInt8} {l : List LineD} (h : readW (lineF rest) t = some l) (ht : t.length ≤ 16777216) : (∀ d ∈ l, SmallD d) ∧ SmallL l := by
  have key : ∀ d ∈ l, SmallD d := fun d hd => by
    unfold readW at h
    obtain ⟨ws, h1, h2⟩ := Option.bind_eq_some_iff.1 h
    obtain ⟨w, hw, hf⟩ := mapM_mem h2 d hd
    obtain ⟨h3, h4⟩ := lineF_sound hf
    have h5 := line_sizes h3
    rw [h4] at h5
    have h6 := linesW_small h1 w hw
    exact ⟨by omega, by omega, by omega, by omega⟩
  exact ⟨key, fun d hd => by have := (key d hd).2.2.2; omega⟩
theorem read_count {α : Type} {f : List UInt8 → Option α} {t : List UInt8} {l : List α} (h : readW f t = some l) : l.length ≤ t.length := by
  unfold readW at h
  obtain ⟨ws, h1, h2⟩ := Option.bind_eq_some_iff.1 h
  have h3 : ∀ {ws : List (List UInt8)} {l : List α}, ws.mapM f = some l → l.length = ws.length := fun {ws} => by
    induction ws with
    | nil => intro l h; rw [List.mapM_nil] at h; injection h with h; subst h; rfl
    | cons w ws ih =>
      intro l h
      rw [List.mapM_cons] at h
      cases hf : f w with
      | none => rw [hf] at h; cases h
      | some a =>
        rw [hf] at h
        cases hl : ws.mapM f with
        | none => rw [hl] at h; cases h
        | some r' =>
          rw [hl] at h
          have h' : a :: r' = l := by injection h
          subst h'
          simp [ih hl]
  have h4 := congrArg List.length (linesW_join h1)
  have h5 : ∀ ws : List (List UInt8), ws.length ≤ (ws.flatMap (· ++ [10])).length := fun ws => by
    induction ws with
    | nil => simp
    | cons w ws ih => rw [List.flatMap_cons, List.length_append, List.length_append, List.length_cons]; simp only [List.length_cons, List.length_nil]; omega
  have := h5 ws
  rw [h3 h2]
  omega
theorem small_L {l : List LineD} (h : bulkAll Shape.LineD.bulk l ≤ 1048576) : SmallL l := fun d hd => by have := (small_all h d hd).2.2.2; omega
theorem dig_ne10 {k : Nat} (h : k < 10) : (10 : UInt8) ≠ UInt8.ofNat (48 + k) := fun e => by
  have := congrArg UInt8.toNat e
  have h2 : (UInt8.ofNat (48 + k)).toNat = 48 + k := by rw [UInt8.toNat_ofNat']; omega
  have e10 : (10 : UInt8).toNat = 10 := rfl
  omega
theorem no10_dec (u : Nat) : (10 : UInt8) ∉ Lib.decDigits u := by
  induction u using Nat.strongRecOn with
  | _ u ih =>
    rw [Lib.decDigits.eq_def]
    split
    · next h => rw [List.mem_singleton]; exact dig_ne10 h
    · next h =>
      rw [List.mem_append, List.mem_singleton, not_or]
      exact ⟨ih _ (by omega), dig_ne10 (by omega)⟩
theorem no10_itoa (v : Int) : (10 : UInt8) ∉ Lib.itoa v := by
  unfold Lib.itoa
  split
  · rw [List.mem_cons, not_or]; exact ⟨by decide, no10_dec _⟩
  · exact no10_dec _
theorem no10_st (s n : Int) : (10 : UInt8) ∉ stText s n := by
  unfold stText
  rw [List.mem_append, List.mem_append, not_or, not_or]
  refine ⟨⟨?_, no10_itoa _⟩, ?_⟩
  · split
    · decide
    · simp
  · split
    · rw [List.mem_cons, not_or]
      exact ⟨by decide, fun h => no10_itoa _ (List.mem_of_mem_drop (mem_trimR h))⟩
    · simp
theorem permC_ne10 (m : Int) (i : Nat) : (10 : UInt8) ≠ permC m i := by
  unfold permC rwxC
  repeat' split
  all_goals decide
theorem permS_ne10 (m : Int) (b i : Nat) {x y : UInt8} (hx : 10 ≠ x) (hy : 10 ≠ y) : (10 : UInt8) ≠ permS m b i x y := by
  unfold permS
  split
  · split <;> assumption
  · exact permC_ne10 _ _
theorem no10_perm (k m : Int) : (10 : UInt8) ∉ permText k m := by
  unfold permText
  have hk : (10 : UInt8) ≠ kindC k := by
    unfold kindC
    repeat' split
    all_goals decide
  simp only [List.mem_cons, List.not_mem_nil, or_false, not_or]
  exact ⟨hk, permC_ne10 _ _, permC_ne10 _ _, permS_ne10 _ _ _ (by decide) (by decide), permC_ne10 _ _, permC_ne10 _ _, permS_ne10 _ _ _ (by decide) (by decide), permC_ne10 _ _, permC_ne10 _ _, permS_ne10 _ _ _ (by decide) (by decide)⟩
theorem no10_esc (l : List UInt8) : (10 : UInt8) ∉ esc l := fun h => by
  have h1 := (esc_prints h).1
  have e10 : (10 : UInt8).toNat = 10 := rfl
  omega
theorem no10_mark (d : LineD) : (10 : UInt8) ∉ tailMark d := by
  unfold tailMark
  repeat' split
  all_goals decide
theorem no10_body (d : LineD) : (10 : UInt8) ∉ lineBody d := by
  unfold lineBody
  simp only [List.mem_append, not_or]
  refine ⟨⟨⟨⟨⟨⟨⟨⟨⟨no10_perm _ _, by decide⟩, no10_itoa _⟩, by decide⟩, no10_itoa _⟩, by decide⟩, no10_st _ _⟩, by decide⟩, no10_esc _⟩, ?_⟩
  split
  · simp
  · simp only [List.mem_append, not_or]
    exact ⟨⟨⟨by decide, no10_mark _⟩, by decide⟩, no10_esc _⟩
/-- what is printed is read as it was -/
theorem text_read : ∀ {l : List LineD}, okAll l = true → readW (lineF restR) (textOf l) = some l
  | [], _ => rfl
  | d :: l, h => by
    have h0 : rOk d = true ∧ okAll l = true := by simpa [okAll] using h
    have e : textOf (d :: l) = lineBody d ++ 10 :: textOf l := by simp [textOf]
    rw [e, (readW_cut (f := lineF restR) (no10_body d)).2 d (lineF_text h0.1), text_read h0.2]
    rfl
theorem text_words : ∀ {l : List LineD} {m : Nat}, (∀ d ∈ l, (lineBody d).length ≤ m) → ∀ x ∈ splitW 10 (textOf l), x.length ≤ m
  | [], m, _, x, hx => by simp [textOf, splitW] at hx; subst hx; simp
  | d :: l, m, h, x, hx => by
    have e : textOf (d :: l) = lineBody d ++ 10 :: textOf l := by simp [textOf]
    rw [e, splitW_cut (no10_body d)] at hx
    rcases List.mem_cons.1 hx with rfl | hx
    · exact h d (by simp)
    · exact text_words (fun d hd => h d (by simp [hd])) x hx
end Go.Proofs.YtfhfcipelgogjaaGreatDoor
