/- The one call whose answer the document fixes; bounds on the text of lines. No condition but room. -/
import Derived.Test.YtdlkgpnfhmablaaDoorPrint
import Derived.Lib.SlBytesConst
namespace Go.Proofs.YtdlkgpnfhmablaaDoor
open Go.RowKit
set_option linter.unusedVariables false
set_option linter.unusedSimpArgs false
attribute [local go_sem] cell?_over frozen?_over lt_over le_over

theorem own_i64 {n : Int} (h : ownerOk n = true) : I64 n := by
  simp [ownerOk] at h
  exact ⟨by omega, by omega⟩
theorem line_len {d : LineD} (hs : SmallD d) (hb : rOk d = true) : (lineBody d).length ≤ 200 + 4 * d.path.size + 4 * (tailField d).size := by
  obtain ⟨_, q2, _, q4⟩ := ok_parts hb
  have h0 := q4
  unfold pOk at h0
  simp only [Bool.and_eq_true] at h0
  refine lineBody_len hs (own_i64 h0.1.1.2) (own_i64 h0.1.2) ?_ q2
  simp [stampOk] at q2
  exact ⟨by omega, by omega⟩
theorem field_bulk (d : LineD) : d.path.size + (tailField d).size + 1 ≤ Shape.LineD.bulk d := by
  have h2 := len_bulk Shape.byte d.data
  have h3 : (tailField d).size ≤ d.peer.size + d.target.size + d.data.length := by
    unfold tailField
    split
    · split
      · split
        · omega
        · exact Nat.zero_le _
      · show d.data.toArray.size ≤ _; simp
    · omega
  simp only [Shape.LineD, Shape.str, Shape.slice]
  omega
theorem small_bulk {d : LineD} (h : Shape.LineD.bulk d ≤ 1048576) : SmallD d := by
  have h2 := len_bulk Shape.byte d.data
  simp only [Shape.LineD, Shape.str, Shape.slice] at h
  exact ⟨by omega, by omega, by omega, by omega⟩
theorem text_bulk {l : List LineD} (hs : ∀ d ∈ l, SmallD d) (h : okAll l = true) : (textOf l).length ≤ 201 * bulkAll Shape.LineD.bulk l := by
  induction l with
  | nil => simp [textOf]
  | cons d l ih =>
    have h0 : rOk d = true ∧ okAll l = true := by simpa [okAll] using h
    have h1 := ih (fun x hx => hs x (by simp [hx])) h0.2
    have h2 := line_len (hs d (by simp)) h0.1
    have h3 := field_bulk d
    have e : textOf (d :: l) = lineBody d ++ [10] ++ textOf l := by simp [textOf]
    rw [e]
    simp only [List.length_append, bulkAll, List.length_cons, List.length_nil]
    omega
theorem bulk_take (l : List LineD) (k : Nat) : bulkAll Shape.LineD.bulk (l.take k) ≤ bulkAll Shape.LineD.bulk l := by
  induction l generalizing k with
  | nil => simp [bulkAll]
  | cons d l ih =>
    cases k with
    | zero => simp [bulkAll]
    | succ k => have := ih k; simp only [List.take_succ_cons, bulkAll]; omega
theorem text_room {l : List LineD} (h : bulkAll Shape.LineD.bulk l ≤ 1048576) (k : Nat) (hk : okAll (l.take k) = true) : (textOf (l.take k)).length ≤ 900000000000 := by
  have h1 := bulk_take l k
  have h2 := text_bulk (l := l.take k) (fun d hd => small_bulk (Nat.le_trans (mem_bulk Shape.LineD.bulk hd) (by omega))) hk
  omega
theorem small_all {l : List LineD} (h : bulkAll Shape.LineD.bulk l ≤ 1048576) : ∀ d ∈ l, SmallD d := fun d hd => small_bulk (Nat.le_trans (mem_bulk Shape.LineD.bulk hd) h)
def lineA : LineD := ⟨⟨#[97]⟩, 1, 420, 0, 0, ⟨5, 0⟩, [120, 121, 122], ⟨#[]⟩, ⟨#[]⟩⟩
theorem itoa_5 : Lib.itoa 5 = [53] := by
  unfold Lib.itoa
  rw [if_neg (by decide), Lib.decDigits.eq_def, dif_pos (by decide)]
  rfl
theorem lineA_ok : rOk lineA = true := by
  unfold rOk lineA
  simp [isEmpty_nil, ownerOk, stampOk]
theorem lineA_text : textOf [lineA] = [45, 114, 119, 45, 114, 45, 45, 114, 45, 45, 32, 48, 32, 48, 32, 53, 32, 97, 32, 58, 32, 120, 121, 122, 10] := by
  have hm : tailMark lineA = [58] := by unfold tailMark lineA; simp [isEmpty_nil]
  have hf : tailField lineA = ⟨#[120, 121, 122]⟩ := by unfold tailField lineA; simp [isEmpty_nil]
  have hp : permText 1 420 = [45, 114, 119, 45, 114, 45, 45, 114, 45, 45] := by decide
  have hst : stText 5 0 = [53] := by unfold stText stSec stNano; simp [itoa_5]
  have hb : lineBody lineA = [45, 114, 119, 45, 114, 45, 45, 114, 45, 45, 32, 48, 32, 48, 32, 53, 32, 97, 32, 58, 32, 120, 121, 122] := by
    unfold lineBody
    rw [hm, hf]
    show permText 1 420 ++ [32] ++ Lib.itoa 0 ++ [32] ++ Lib.itoa 0 ++ [32] ++ stText 5 0 ++ [32] ++ esc [97] ++ (if [58] = [] then [] else [32] ++ [58] ++ [32] ++ esc [120, 121, 122]) = _
    rw [hp, hst, itoa_0]
    decide
  simp [textOf, hb]
theorem lineA_rd (w : World) : LineD.rd (w.alloc (.cells #[.int .u8 120, .int .u8 121, .int .u8 122] 5 (3, 4))) (Old (w.alloc (.cells #[.int .u8 120, .int .u8 121, .int .u8 122] 5 (3, 4))))
    [.string ⟨#[97]⟩, .int .i64 1, .int .i64 420, .int .i64 0, .int .i64 0, .int .i64 5, .int .i64 0, .slice (some ⟨w.heap.size, 0, none⟩) 3 3, .string ⟨#[]⟩, .string ⟨#[]⟩] lineA := by
  refine ⟨some ⟨w.heap.size, 0, none⟩, 3, 3, rfl, by decide, by unfold lineA I64; simp, by unfold lineA I64; simp, by unfold lineA I64; simp, by unfold lineA I64; simp, by unfold lineA I64; simp, by unfold lineA I64; simp, Nat.le_refl _, by simp [maxLen], ?_, by decide, by decide⟩
  refine ⟨rfl, fun _ => ⟨w.heap.size, 0, rfl, by unfold Old; simp, fun i hi => ?_⟩⟩
  have e13 : Shape.byte.size = 1 := rfl
  have hi3 : i < 3 := hi
  refine ⟨[.int .u8 lineA.data[i].toNat], fun j hj => ?_, rfl⟩
  have : j = 0 := by omega
  subst this
  rw [e13]
  obtain rfl | rfl | rfl : i = 0 ∨ i = 1 ∨ i = 2 := by omega
  all_goals simp [World.cell?_alloc_mark, lineA]
theorem Row.single {α : Type} {s : Shape α} {w : World} {es : List Value} {a : α} (e : TypeId) (h : s.rd w (Old w) es a) : Row s (w.alloc (.cells es.toArray e)) (Old (w.alloc (.cells es.toArray e))) (some ⟨w.heap.size, 0, none⟩) 1 [a] := by
  refine ⟨rfl, fun _ => ⟨w.heap.size, 0, rfl, by unfold Old; simp, fun i hi => ?_⟩⟩
  have h0 : i = 0 := by simp at hi; omega
  subst h0
  refine ⟨es, fun j hj => ?_, ?_⟩
  · simp [World.cell?_alloc_new]
  · exact s.more (s.keep h (Keeps.old_alloc w _)) fun n hn => Old.alloc hn
theorem lineA_small : SmallD lineA := by unfold SmallD lineA; simp [ByteArray.size]
set_option maxHeartbeats 1000000 in
set_option maxRecDepth 100000 in
theorem alive (w : World) (hp : Pow10 w) : Calls Tryd.prog 4 #[] w fun e w' => e = .returned (.bool true) ∧ Below w.heap.size w w' := by
  go_enter Tryd.func4, Tryd.ntmps4
  have kc := fun (w : World) (C : Array Value) (n c : Nat) => Lib.run_convert_bytes_const (P := Tryd.prog) w 32 5 C n c Tryd.underlying32 Tryd.underlying5
  have hr := Row.single (s := Shape.LineD) 34 (lineA_rd w)
  have hz : (w.alloc (.cells #[.int .u8 120, .int .u8 121, .int .u8 122] 5 (3, 4))).heap.size = w.heap.size + 1 := by simp
  rw [hz] at hr
  have HRW := Lib.hid hr
  have hB := Lib.hid ((below_alloc' w (.cells #[.int .u8 120, .int .u8 121, .int .u8 122] 5 (3, 4))).alloc (by simp) (.cells #[.string ⟨#[97]⟩, .int .i64 1, .int .i64 420, .int .i64 0, .int .i64 0, .int .i64 5, .int .i64 0, .slice (some ⟨w.heap.size, 0, none⟩) 3 3, .string ⟨#[]⟩, .string ⟨#[]⟩] 34))
  have hP := Lib.hid (hp.keep hB.out)
  clear hr hz
  have hok : okAll [lineA] = true := by simp [okAll, lineA_ok]
  have HOK := Lib.hid hok
  clear hok
  have HC := Lib.hid (manPrint (c := 1) _ HRW.out hP.out (by intro d hd; simp at hd; subst hd; exact lineA_small) (by decide) (fun _ => by rw [lineA_text]; decide)
    (fun k hk _ => Nat.le_trans (text_mono [lineA] k) (by rw [lineA_text]; decide)))
  go_wp2_with fail
  refine HC.out.mono ?_
  rintro e w2 ⟨rfl, hb2⟩
  rw [(print_ok HOK.out).1, (print_ok HOK.out).2, lineA_text]
  have W2 := Lib.hid (hB.out.trans (hb2.mono hB.out.size))
  clear hb2
  unfold strV
  go_wp2_with fail
  go_ret
  exact ⟨rfl, W2.out⟩
end Go.Proofs.YtdlkgpnfhmablaaDoor
