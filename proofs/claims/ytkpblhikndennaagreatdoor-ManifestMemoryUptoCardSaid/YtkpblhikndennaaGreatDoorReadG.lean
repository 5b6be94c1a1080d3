/- manifest.Read: what it answers at every text. No condition but room and what the library's variables hold. manifest.Read: what it answers at every text; the lines' data lie in blocks of their own, no two in one. No condition but room and what the library's variables hold. ManifestMemory, plain: what is read of a printed text; lists of slots by turns. No condition. -/
import Derived.Test.YtkpblhikndennaaGreatDoorParseAll
import Derived.Test.YtkpblhikndennaaGreatDoorSameAll
import Derived.Test.YtkpblhikndennaaGreatDoorParseGAll
import Derived.Test.YtkpblhikndennaaGreatDoorPrintAll
import Derived.Test.YtkpblhikndennaaGreatDoorSlotAll
namespace Go.Proofs.YtkpblhikndennaaGreatDoor
open Go.RowKit
set_option linter.unusedVariables false
set_option linter.unusedSimpArgs false
def nlAt (l : List UInt8) : Nat := l.findIdx (· == 10)
theorem nlAt_le (l : List UInt8) : nlAt l ≤ l.length := List.findIdx_le_length
theorem index_nl (l : List UInt8) : Lib.index l [10] = if nlAt l < l.length then (nlAt l : Int) else -1 := by
  induction l with
  | nil => rfl
  | cons c l ih =>
    unfold Lib.index
    have hp : ([10] : List UInt8).isPrefixOf (c :: l) = (c == 10) := by
      simp [List.isPrefixOf]
      rw [Bool.eq_iff_iff, beq_iff_eq, beq_iff_eq]; exact eq_comm
    rw [hp]
    by_cases h : (c == 10) = true
    · have hd : nlAt (c :: l) = 0 := by unfold nlAt; rw [List.findIdx_cons, h]; rfl
      rw [if_pos h, hd, if_pos (by simp)]; rfl
    · have h' : (c == 10) = false := by simpa using h
      have hd : nlAt (c :: l) = nlAt l + 1 := by unfold nlAt; rw [List.findIdx_cons, h']; rfl
      rw [if_neg h, hd, ih, List.length_cons]
      by_cases h2 : nlAt l < l.length
      · have : ((nlAt l : Int) == -1) = false := by rw [beq_eq_false_iff_ne]; omega
        rw [if_pos h2, this]; simp [h2]
      · rw [if_neg h2]; simp [h2]
theorem cut_nl (l : List UInt8) : Lib.cut l [10] = (l.take (nlAt l), l.drop (nlAt l + 1), decide (nlAt l < l.length)) := by
  unfold Lib.cut
  rw [index_nl]
  have hle := nlAt_le l
  by_cases h : nlAt l < l.length
  · rw [if_pos h, if_pos (by omega)]; simp [h]
  · rw [if_neg h, if_neg (by omega)]
    have : nlAt l = l.length := by omega
    rw [this]; simp
theorem nl_not (l : List UInt8) : 10 ∉ l.take (nlAt l) := by
  intro h
  obtain ⟨k, hk⟩ := List.getElem?_of_mem h
  obtain ⟨hk1, hk2⟩ := List.getElem?_eq_some_iff.1 hk
  rw [List.length_take] at hk1
  rw [List.getElem_take] at hk2
  have := List.not_of_lt_findIdx (p := (· == 10)) (xs := l) (i := k) (by unfold nlAt at hk1; omega)
  rw [hk2] at this
  exact absurd this (by decide)
theorem nl_at {l : List UInt8} (h : nlAt l < l.length) : l = l.take (nlAt l) ++ 10 :: l.drop (nlAt l + 1) := by
  have := List.findIdx_getElem (p := (· == 10)) (xs := l) (w := h)
  rw [beq_iff_eq] at this
  conv => lhs; rw [← List.take_append_drop (nlAt l) l]
  rw [List.drop_eq_getElem_cons h]
  unfold nlAt
  rw [this]
theorem cutNl (t : List UInt8) (w : World) (hs : t.length < 4294967281) (hm : MaxLenOk w) :
    Calls Tryz.prog 21 #[.string ⟨t.toArray⟩, .string ⟨#[10]⟩] w fun e w' => e = .returned (.tuple #[.string ⟨(t.take (nlAt t)).toArray⟩, .string ⟨(t.drop (nlAt t + 1)).toArray⟩, .bool (decide (nlAt t < t.length))]) ∧ Below w.heap.size w w' := by
  have h := cut_calls ⟨t.toArray⟩ ⟨#[10]⟩ w (by simpa [ByteArray.size] using hs) hm
  rw [show (ByteArray.mk #[10]).data.toList = [10] from rfl, show (ByteArray.mk t.toArray).data.toList = t from rfl, cut_nl] at h
  exact h
theorem pe_parts {o : Option LineD} {w w' : World} {e : Ending} (h : ParseEnd o w w' e) : ∃ cs : List Value, e = .returned (.tuple #[.agg cs.toArray, .bool o.isSome]) ∧ cs.length = 10 ∧ cs.all (·.oneCell') = true ∧ ∀ d, o = some d → LineD.rd w' (From w.heap.size w') cs d := by
  cases o with
  | none =>
    obtain ⟨cs, rfl, h1, h2⟩ := h
    exact ⟨cs.toList, by simp, by simpa using h1, h2, fun d h => by cases h⟩
  | some d =>
    obtain ⟨cs, rfl, h1⟩ := h
    exact ⟨cs, rfl, Shape.LineD.len h1, List.all_eq_true.2 (Shape.LineD.one h1), fun d' h => by injection h with h; subst h; exact h1⟩
/-- what a reader of lines answers -/
def ReadEnd (o : Option (List LineD)) (w w' : World) (e : Ending) : Prop :=
  match o with
  | some l => ∃ v M, e = .returned (.tuple #[v, .int .i64 0]) ∧ Own Shape.LineD 46 w' w.heap.size M v l ∧ ∀ n, M n → w.heap.size ≤ n
  | none => e = .returned (.tuple #[.slice none 0 0, .int .i64 150])
theorem re_none {o : Option (List LineD)} {w w' : World} (h : o = none) : ReadEnd o w w' (.returned (.tuple #[.slice none 0 0, .int .i64 150])) := by subst h; exact rfl
theorem re_some {o : Option (List LineD)} {l : List LineD} {w w' : World} {v : Value} {M : Nat → Prop} (h : o = some l) (ho : Own Shape.LineD 46 w' w.heap.size M v l) (hM : ∀ n, M n → w.heap.size ≤ n) : ReadEnd o w w' (.returned (.tuple #[v, .int .i64 0])) := by subst h; exact ⟨v, M, rfl, ho, hM⟩
theorem ten_cells {cs : List Value} (h : cs.length = 10) : ∃ y0 y1 y2 y3 y4 y5 y6 y7 y8 y9, cs = [y0, y1, y2, y3, y4, y5, y6, y7, y8, y9] := by
  match cs, h with | [y0, y1, y2, y3, y4, y5, y6, y7, y8, y9], _ => exact ⟨y0, y1, y2, y3, y4, y5, y6, y7, y8, y9, rfl⟩
theorem own_over_blk {w2 w3 : World} {base : Nat} {M : Nat → Prop} {v : Value} {l : List LineD} {o : Obj} (h : Own Shape.LineD 46 w2 base M v l) (g3 : (w2.alloc o).grownBy w3 (some w2.heap.size)) : Own Shape.LineD 46 w3 base M v l := by
  refine (h.alloc o).kept g3 ?_ ?_
  · right
    intro e
    have := (h.lt _ e).2
    omega
  · intro n hn e
    injection e with e
    obtain ⟨_, _, _, h3⟩ := h
    have := (h3 n hn).1
    omega
theorem rd_over_blk {w2 w3 : World} {B : Nat} {d : LineD} {cs : List Value} {o : Obj} (h : LineD.rd w2 (From B w2) cs d) (g3 : (w2.alloc o).grownBy w3 (some w2.heap.size)) : LineD.rd w3 (From B w2) cs d := by
  refine Shape.LineD.keep h fun n hn => ?_
  have h2 := hn.2
  exact (g3.block n (by simp; omega) (by intro e; injection e; omega)).trans (Below.heap_alloc w2 o n h2)
def strSize : Value → Nat
  | .string b => b.size
  | _ => 0
set_option maxHeartbeats 1000000 in
set_option maxRecDepth 100000 in
theorem manRead (s : ByteArray) (w : World) (hs : s.size ≤ 1000000000) (hl : ∀ x ∈ splitW 10 s.data.toList, x.length ≤ 16777216) (hm : MaxLenOk w) (hv : ErrRangeOk w) (hp : Pow10 w) :
    Calls Tryz.prog 8 #[.string s] w fun e w' => ReadEnd (readW (lineF restC) s.data.toList) w w' e ∧ Below w.heap.size w w' := by
  have hz : s.data.toList.length = s.size := by rw [Array.length_toList]; rfl
  have HZ := Lib.hid hz
  obtain ⟨R, hR⟩ : ∃ R, R = readW (lineF restC) s.data.toList := ⟨_, rfl⟩
  rw [← hR]
  have HR := Lib.hid hR
  have HL := Lib.hid hl
  have HM := Lib.hid hm; have HV := Lib.hid hv; have HP := Lib.hid hp
  clear hz hR hl hm hv hp
  go_enter Tryz.func8, Tryz.ntmps8
  go_wp2_with fail
  go_loopw [0, 4] (fun tx v wr => ∃ (t : List UInt8) (acc : List LineD) (M : Nat → Prop), tx = .string ⟨t.toArray⟩ ∧ R = (readW (lineF restC) t).map (acc ++ ·) ∧ Own Shape.LineD 46 wr w.heap.size M v acc ∧ (∀ n, M n → w.heap.size ≤ n) ∧ Below w.heap.size w wr ∧ acc.length + t.length ≤ s.size ∧ ∀ x ∈ splitW 10 t, x.length ≤ 16777216) (fun tx _ _ => strSize tx)
  case atStart => exact ⟨s.data.toList, [], fun _ => False, by simp, by rw [HR.out]; exact readW_start _ _, Own.start _ _ _ _, fun _ h => h.elim, Below.refl _ _, by rw [HZ.out]; simp, HL.out⟩
  case round =>
    obtain ⟨t, acc, M, rfl, hinv, hown, hM, hbel, hlen, hwl⟩ := hrel
    have HI := Lib.hid hinv; have O := Lib.hid hown; have HMM := Lib.hid hM; have HB := Lib.hid hbel; have HW := Lib.hid hwl
    clear hinv hown hM hbel hwl
    by_cases ht : t = []
    · subst ht
      go_wp2_with fail
      go_ret2
      exact ⟨re_some (by rw [HI.out, readW_nil]; simp) O.out HMM.out, HB.out⟩
    · have hne : t.isEmpty = false := by cases t with | nil => exact absurd rfl ht | cons => rfl
      have HT := Lib.hid ht
      clear ht
      have HMr := Lib.hid (HM.out.keep HB.out)
      go_wp2_with fail
      refine (cutNl t _ (by omega) HMr.out).mono ?_
      rintro e w1 ⟨rfl, hb1⟩
      have HB1 := Lib.hid (HB.out.trans (hb1.mono HB.out.size))
      have O1 := Lib.hid (O.out.kept (grownBy_of_below hb1) (by cases hv : u4.ownBlock <;> simp) (fun _ _ => by simp))
      clear hb1 O
      have hnl := nlAt_le t
      have hword : (t.take (nlAt t)).length ≤ 16777216 := by
        by_cases h : nlAt t < t.length
        · exact HW.out _ (by rw [splitW_at (nl_not t) (nl_at h)]; simp)
        · have he : t.take (nlAt t) = t := List.take_of_length_le (by omega)
          have := nl_not t
          rw [he] at this ⊢
          exact HW.out _ (by rw [splitW_none this]; simp)
      go_wp2_with fail
      refine (manParse ⟨(t.take (nlAt t)).toArray⟩ _ (by simpa [ByteArray.size] using hword) (HM.out.keep HB1.out) (HV.out.keep HB1.out) (HP.out.keep HB1.out)).mono ?_
      rintro e w2 ⟨hpe, hb2⟩
      rw [show (ByteArray.mk (t.take (nlAt t)).toArray).data.toList = t.take (nlAt t) from rfl] at hpe
      obtain ⟨cs, rfl, hc10, hcone, hcrd⟩ := pe_parts hpe
      have HB2 := Lib.hid (HB1.out.trans (hb2.mono HB1.out.size))
      have O2 := Lib.hid (O1.out.kept (grownBy_of_below hb2) (by cases hv : u4.ownBlock <;> simp) (fun _ _ => by simp))
      have hsz2 := hb2.size
      have O1L := Lib.hid O1.out.lt
      obtain ⟨y0, y1, y2, y3, y4, y5, y6, y7, y8, y9, rfl⟩ := ten_cells hc10
      have CONE := Lib.hid hcone; have CRD := Lib.hid hcrd
      clear hb2 O1 hpe hc10 hcone hcrd hword
      generalize hob : (lineF restC (t.take (nlAt t))).isSome = ob
      have HOB := Lib.hid hob
      clear hob
      have A2 := Lib.hid (below_alloc' w2 (.cells #[.string ⟨#[]⟩, .int .i64 0, .int .i64 0, .int .i64 0, .int .i64 0, .int .i64 0, .int .i64 0, .slice none 0 0, .string ⟨#[]⟩, .string ⟨#[]⟩] 46))
      by_cases hk : nlAt t < t.length
      · have HK := Lib.hid hk
        rw [decide_eq_true hk]
        clear hk
        have HGO := Lib.hid (readW_go (f := lineF restC) (nl_at HK.out) (nl_not t) (l := t) (acc := []) (readW_start _ _))
        cases ob with
        | false =>
          go_wp2_with ((with_reducible refine at_store (ty := 46) (x := .tmp 8) (y := .tmp 21) ?_ ?_); exact rfl; refine wpList_store_blk rfl 46 (.tmp 8) (.tmp 21) rfl _ rfl (Blk.new w2 _ _) rfl (by kernel_rfl) rfl CONE.out ?_; intro w3 b3 g3)
          go_ret2
          refine ⟨re_none ?_, (HB2.out.trans (A2.out.mono HB2.out.size)).grown g3 (by have := HB2.out.size; simp; omega) (fun k hk => by injection hk; have := HB2.out.size; omega)⟩
          rw [HI.out, HGO.out.1 (Option.isSome_eq_false_iff.1 HOB.out |> Option.isNone_iff_eq_none.1)]
          rfl
        | true =>
          obtain ⟨d, hd⟩ := Option.isSome_iff_exists.1 HOB.out
          have RD := Lib.hid (CRD.out d hd)
          have HD := Lib.hid hd
          clear hd
          go_wp2_with (first
            | ((with_reducible refine at_store (ty := 46) (x := .tmp 8) (y := .tmp 21) ?_ ?_); exact rfl; refine wpList_store_blk rfl 46 (.tmp 8) (.tmp 21) rfl _ rfl (Blk.new w2 _ _) rfl (by kernel_rfl) rfl CONE.out ?_; intro w3 b3 g3; have O3 := Lib.hid (own_over_blk O2.out g3); have RD3 := Lib.hid (rd_over_blk RD.out g3))
            | ((with_reducible refine at_load (ty := 46) (x := .tmp 8) ?_ ?_); exact rfl; refine wpList_load_blk rfl 46 (.tmp 8) rfl _ rfl b3 whole_LineD ?_)
            | (at_builtin
               refine wpList_append_list (v := u4) rfl (.tmp 29) (.tmp 31) _ rfl elem_LineD rfl (O3.out.alloc _) rfl (Src.single (s := Shape.LineD) _ (M := From w1.heap.size w2) (fun n hn => by have := hn.2; have := g3.size; simp at this; omega) RD3.out) ?c0 ?c1 ?c2 ?c3 ?_))
          case c0 =>
            intro n hn
            refine ⟨by have := hn.2; have := g3.size; simp at this ⊢; omega, fun e => ?_⟩
            have := (O1L.out n e.symm).2
            have := hn.1
            omega
          case c1 => simp only [List.length_cons, List.length_nil]; omega
          case c2 => simp only [List.length_cons, List.length_nil, maxLen]; omega
          case c3 => have := HB2.out.size; have := g3.size; simp at this ⊢; omega
          intro v' w4 hown4 hg4 hat4
          have O4 := Lib.hid hown4
          have HB3 := Lib.hid ((HB2.out.trans (A2.out.mono HB2.out.size)).grown g3 (by have := HB2.out.size; simp; omega) (fun k hk => by injection hk; have := HB2.out.size; omega))
          have HB4 := Lib.hid ((HB3.out.alloc HB3.out.size (.cells #[y0, y1, y2, y3, y4, y5, y6, y7, y8, y9] 46)).grown hg4 (by have := HB3.out.size; simp; omega) (fun m hm => (O1L.out m hm).1))
          clear hown4 hg4 hat4
          go_wp2_with fail
          go_roundw
          case rel =>
            refine ⟨t.drop (nlAt t + 1), acc ++ [d], _, rfl, ?_, O4.out, ?_, HB4.out, ?_, ?_⟩
            · rw [HI.out, HGO.out.2 d HD.out]
              cases readW (lineF restC) (t.drop (nlAt t + 1)) <;> simp
            · rintro n (hn | hn)
              · exact HMM.out n hn
              · have := hn.1; have := HB1.out.size; omega
            · have := HK.out; simp; omega
            · intro x hx
              exact HW.out x (by rw [splitW_at (nl_not t) (nl_at HK.out)]; exact List.mem_cons_of_mem _ hx)
          case measure => have := HK.out; simp [strSize, ByteArray.size]; omega
      · have HK := Lib.hid hk
        rw [decide_eq_false hk]
        clear hk
        go_wp2_with ((with_reducible refine at_store (ty := 46) (x := .tmp 8) (y := .tmp 21) ?_ ?_); exact rfl; refine wpList_store_blk rfl 46 (.tmp 8) (.tmp 21) rfl _ rfl (Blk.new w2 _ _) rfl (by kernel_rfl) rfl CONE.out ?_; intro w3 b3 g3)
        go_ret2
        refine ⟨re_none ?_, (HB2.out.trans (A2.out.mono HB2.out.size)).grown g3 (by have := HB2.out.size; simp; omega) (fun k hk => by injection hk; have := HB2.out.size; omega)⟩
        have he : t.take (nlAt t) = t := List.take_of_length_le (by have := HK.out; omega)
        have hn := nl_not t
        rw [he] at hn
        rw [HI.out, readW_none hn HT.out]
        rfl
end Go.Proofs.YtkpblhikndennaaGreatDoor
namespace Go.Proofs.YtkpblhikndennaaGreatDoor
open Go.RowKit
set_option linter.unusedVariables false
set_option linter.unusedSimpArgs false
/-- no two of the lines' data in one block -/
def Dist (l : List LineS) : Prop := l.Pairwise fun a b => ∀ g, a.2.g = some g → b.2.g ≠ some g
/-- what a reader of lines answers -/
def ReadEndG (o : Option (List LineD)) (w w' : World) (e : Ending) : Prop :=
  match o with
  | some l => ∃ v M lg, e = .returned (.tuple #[v, .int .i64 0]) ∧ lg.map (·.1) = l ∧ Own Shape.LineG 46 w' w.heap.size M v lg ∧ (∀ n, M n → w.heap.size ≤ n) ∧ Dist lg
  | none => e = .returned (.tuple #[.slice none 0 0, .int .i64 150])
theorem reG_none {o : Option (List LineD)} {w w' : World} (h : o = none) : ReadEndG o w w' (.returned (.tuple #[.slice none 0 0, .int .i64 150])) := by subst h; exact rfl
theorem reG_some {o : Option (List LineD)} {l : List LineD} {lg : List LineS} {w w' : World} {v : Value} {M : Nat → Prop} (h : o = some l) (hl : lg.map (·.1) = l) (ho : Own Shape.LineG 46 w' w.heap.size M v lg) (hM : ∀ n, M n → w.heap.size ≤ n) (hd : Dist lg) : ReadEndG o w w' (.returned (.tuple #[v, .int .i64 0])) := by subst h; exact ⟨v, M, lg, rfl, hl, ho, hM, hd⟩
theorem own_over_blkG {w2 w3 : World} {base : Nat} {M : Nat → Prop} {v : Value} {l : List LineS} {o : Obj} (h : Own Shape.LineG 46 w2 base M v l) (g3 : (w2.alloc o).grownBy w3 (some w2.heap.size)) : Own Shape.LineG 46 w3 base M v l := by
  refine (h.alloc o).kept g3 ?_ ?_
  · right
    intro e
    have := (h.lt _ e).2
    omega
  · intro n hn e
    injection e with e
    obtain ⟨_, _, _, h3⟩ := h
    have := (h3 n hn).1
    omega
theorem rd_over_blkG {w2 w3 : World} {B : Nat} {d : LineS} {cs : List Value} {o : Obj} (h : Shape.LineG.rd w2 (From B w2) cs d) (g3 : (w2.alloc o).grownBy w3 (some w2.heap.size)) : Shape.LineG.rd w3 (From B w2) cs d := by
  refine Shape.LineG.keep h fun n hn => ?_
  have h2 := hn.2
  exact (g3.block n (by simp; omega) (by intro e; injection e; omega)).trans (Below.heap_alloc w2 o n h2)
theorem pe_partsG {o : Option LineD} {w w' : World} {e : Ending} (h : ParseEndG o w w' e) : ∃ cs : List Value, ∃ s : Slot, e = .returned (.tuple #[.agg cs.toArray, .bool o.isSome]) ∧ cs.length = 10 ∧ cs.all (·.oneCell') = true ∧ ∀ d, o = some d → Shape.LineG.rd w' (From w.heap.size w') cs (d, s) := by
  cases o with
  | none =>
    obtain ⟨cs, rfl, h1, h2⟩ := h
    exact ⟨cs.toList, slot0, by simp, by simpa using h1, h2, fun d h => by cases h⟩
  | some d =>
    obtain ⟨cs, s, rfl, h1⟩ := h
    exact ⟨cs, s, rfl, Shape.LineG.len h1, List.all_eq_true.2 (Shape.LineG.one h1), fun d' h => by injection h with h; subst h; exact h1⟩
theorem dist_more {l : List LineS} {x : LineS} {w : World} {A : Option Addr} {base B : Nat} {M : Nat → Prop} {v : Value} (h : Dist l) (ho : Own Shape.LineG 46 w base M v l) (hB : w.heap.size ≤ B) (hx : ∀ g, x.2.g = some g → B ≤ g) : Dist (l ++ [x]) := by
  unfold Dist
  rw [List.pairwise_append]
  refine ⟨h, List.pairwise_singleton _ _, fun a ha b hb g hg e => ?_⟩
  rw [List.mem_singleton] at hb
  subst hb
  have h1 := hx g e
  obtain ⟨xs, _, hc, hM⟩ := ho
  obtain ⟨i, hi, rfl⟩ := List.getElem_of_mem ha
  obtain ⟨es, _, hr⟩ := hc.get i hi
  have := (hM g (hr.2.2.2 g hg)).1
  omega
set_option maxHeartbeats 1000000 in
set_option maxRecDepth 100000 in
theorem manReadG (s : ByteArray) (w : World) (hs : s.size ≤ 1000000000) (hl : ∀ x ∈ splitW 10 s.data.toList, x.length ≤ 16777216) (hm : MaxLenOk w) (hv : ErrRangeOk w) (hp : Pow10 w) :
    Calls Tryz.prog 8 #[.string s] w fun e w' => ReadEndG (readW (lineF restC) s.data.toList) w w' e ∧ Below w.heap.size w w' := by
  have hz : s.data.toList.length = s.size := by rw [Array.length_toList]; rfl
  have HZ := Lib.hid hz
  obtain ⟨R, hR⟩ : ∃ R, R = readW (lineF restC) s.data.toList := ⟨_, rfl⟩
  rw [← hR]
  have HR := Lib.hid hR
  have HL := Lib.hid hl
  have HM := Lib.hid hm; have HV := Lib.hid hv; have HP := Lib.hid hp
  clear hz hR hl hm hv hp
  go_enter Tryz.func8, Tryz.ntmps8
  go_wp2_with fail
  go_loopw [0, 4] (fun tx v wr => ∃ (t : List UInt8) (acc : List LineS) (M : Nat → Prop), tx = .string ⟨t.toArray⟩ ∧ R = (readW (lineF restC) t).map (acc.map (·.1) ++ ·) ∧ Dist acc ∧ Own Shape.LineG 46 wr w.heap.size M v acc ∧ (∀ n, M n → w.heap.size ≤ n) ∧ Below w.heap.size w wr ∧ acc.length + t.length ≤ s.size ∧ ∀ x ∈ splitW 10 t, x.length ≤ 16777216) (fun tx _ _ => strSize tx)
  case atStart => exact ⟨s.data.toList, [], fun _ => False, by simp, by rw [HR.out]; exact readW_start _ _, List.Pairwise.nil, Own.start _ _ _ _, fun _ h => h.elim, Below.refl _ _, by rw [HZ.out]; simp, HL.out⟩
  case round =>
    obtain ⟨t, acc, M, rfl, hinv, hdist, hown, hM, hbel, hlen, hwl⟩ := hrel
    have HI := Lib.hid hinv; have HDI := Lib.hid hdist; have O := Lib.hid hown; have HMM := Lib.hid hM; have HB := Lib.hid hbel; have HW := Lib.hid hwl
    clear hinv hdist hown hM hbel hwl
    by_cases ht : t = []
    · subst ht
      go_wp2_with fail
      go_ret2
      exact ⟨reG_some (by rw [HI.out, readW_nil]; simp) rfl O.out HMM.out HDI.out, HB.out⟩
    · have hne : t.isEmpty = false := by cases t with | nil => exact absurd rfl ht | cons => rfl
      have HT := Lib.hid ht
      clear ht
      have HMr := Lib.hid (HM.out.keep HB.out)
      go_wp2_with fail
      refine (cutNl t _ (by omega) HMr.out).mono ?_
      rintro e w1 ⟨rfl, hb1⟩
      have HB1 := Lib.hid (HB.out.trans (hb1.mono HB.out.size))
      have O1 := Lib.hid (O.out.kept (grownBy_of_below hb1) (by cases hv : u4.ownBlock <;> simp) (fun _ _ => by simp))
      clear hb1 O
      have hnl := nlAt_le t
      have hword : (t.take (nlAt t)).length ≤ 16777216 := by
        by_cases h : nlAt t < t.length
        · exact HW.out _ (by rw [splitW_at (nl_not t) (nl_at h)]; simp)
        · have he : t.take (nlAt t) = t := List.take_of_length_le (by omega)
          have := nl_not t
          rw [he] at this ⊢
          exact HW.out _ (by rw [splitW_none this]; simp)
      go_wp2_with fail
      refine (manParseG ⟨(t.take (nlAt t)).toArray⟩ _ (by simpa [ByteArray.size] using hword) (HM.out.keep HB1.out) (HV.out.keep HB1.out) (HP.out.keep HB1.out)).mono ?_
      rintro e w2 ⟨hpe, hb2⟩
      rw [show (ByteArray.mk (t.take (nlAt t)).toArray).data.toList = t.take (nlAt t) from rfl] at hpe
      obtain ⟨cs, sl, rfl, hc10, hcone, hcrd⟩ := pe_partsG hpe
      have HB2 := Lib.hid (HB1.out.trans (hb2.mono HB1.out.size))
      have O2 := Lib.hid (O1.out.kept (grownBy_of_below hb2) (by cases hv : u4.ownBlock <;> simp) (fun _ _ => by simp))
      have hsz2 := hb2.size
      have O1W := Lib.hid O1.out
      have O1L := Lib.hid O1.out.lt
      obtain ⟨y0, y1, y2, y3, y4, y5, y6, y7, y8, y9, rfl⟩ := ten_cells hc10
      have CONE := Lib.hid hcone; have CRD := Lib.hid hcrd
      clear hb2 O1 hpe hc10 hcone hcrd hword
      generalize hob : (lineF restC (t.take (nlAt t))).isSome = ob
      have HOB := Lib.hid hob
      clear hob
      have A2 := Lib.hid (below_alloc' w2 (.cells #[.string ⟨#[]⟩, .int .i64 0, .int .i64 0, .int .i64 0, .int .i64 0, .int .i64 0, .int .i64 0, .slice none 0 0, .string ⟨#[]⟩, .string ⟨#[]⟩] 46))
      by_cases hk : nlAt t < t.length
      · have HK := Lib.hid hk
        rw [decide_eq_true hk]
        clear hk
        have HGO := Lib.hid (readW_go (f := lineF restC) (nl_at HK.out) (nl_not t) (l := t) (acc := []) (readW_start _ _))
        cases ob with
        | false =>
          go_wp2_with ((with_reducible refine at_store (ty := 46) (x := .tmp 8) (y := .tmp 21) ?_ ?_); exact rfl; refine wpList_store_blk rfl 46 (.tmp 8) (.tmp 21) rfl _ rfl (Blk.new w2 _ _) rfl (by kernel_rfl) rfl CONE.out ?_; intro w3 b3 g3)
          go_ret2
          refine ⟨reG_none ?_, (HB2.out.trans (A2.out.mono HB2.out.size)).grown g3 (by have := HB2.out.size; simp; omega) (fun k hk => by injection hk; have := HB2.out.size; omega)⟩
          rw [HI.out, HGO.out.1 (Option.isSome_eq_false_iff.1 HOB.out |> Option.isNone_iff_eq_none.1)]
          rfl
        | true =>
          obtain ⟨d, hd⟩ := Option.isSome_iff_exists.1 HOB.out
          have RD := Lib.hid (CRD.out d hd)
          have HD := Lib.hid hd
          have HDN := Lib.hid (dist_more (x := (d, sl)) (A := none) HDI.out O1W.out (Nat.le_refl _) fun g hg => (RD.out.2.2.2 g hg).1)
          clear hd
          go_wp2_with (first
            | ((with_reducible refine at_store (ty := 46) (x := .tmp 8) (y := .tmp 21) ?_ ?_); exact rfl; refine wpList_store_blk rfl 46 (.tmp 8) (.tmp 21) rfl _ rfl (Blk.new w2 _ _) rfl (by kernel_rfl) rfl CONE.out ?_; intro w3 b3 g3; have O3 := Lib.hid (own_over_blkG O2.out g3); have RD3 := Lib.hid (rd_over_blkG RD.out g3))
            | ((with_reducible refine at_load (ty := 46) (x := .tmp 8) ?_ ?_); exact rfl; refine wpList_load_blk rfl 46 (.tmp 8) rfl _ rfl b3 whole_LineD ?_)
            | (at_builtin
               refine wpList_append_list (v := u4) rfl (.tmp 29) (.tmp 31) _ rfl elem_LineG rfl (O3.out.alloc _) rfl (Src.single (s := Shape.LineG) _ (M := From w1.heap.size w2) (fun n hn => by have := hn.2; have := g3.size; simp at this; omega) RD3.out) ?c0 ?c1 ?c2 ?c3 ?_))
          case c0 =>
            intro n hn
            refine ⟨by have := hn.2; have := g3.size; simp at this ⊢; omega, fun e => ?_⟩
            have := (O1L.out n e.symm).2
            have := hn.1
            omega
          case c1 => simp only [List.length_cons, List.length_nil]; omega
          case c2 => simp only [List.length_cons, List.length_nil, maxLen]; omega
          case c3 => have := HB2.out.size; have := g3.size; simp at this ⊢; omega
          intro v' w4 hown4 hg4 hat4
          have O4 := Lib.hid hown4
          have HB3 := Lib.hid ((HB2.out.trans (A2.out.mono HB2.out.size)).grown g3 (by have := HB2.out.size; simp; omega) (fun k hk => by injection hk; have := HB2.out.size; omega))
          have HB4 := Lib.hid ((HB3.out.alloc HB3.out.size (.cells #[y0, y1, y2, y3, y4, y5, y6, y7, y8, y9] 46)).grown hg4 (by have := HB3.out.size; simp; omega) (fun m hm => (O1L.out m hm).1))
          clear hown4 hg4 hat4
          go_wp2_with fail
          go_roundw
          case rel =>
            refine ⟨t.drop (nlAt t + 1), acc ++ [(d, sl)], _, rfl, ?_, HDN.out, O4.out, ?_, HB4.out, ?_, ?_⟩
            · rw [HI.out, HGO.out.2 d HD.out]
              cases readW (lineF restC) (t.drop (nlAt t + 1)) <;> simp
            · rintro n (hn | hn)
              · exact HMM.out n hn
              · have := hn.1; have := HB1.out.size; omega
            · have := HK.out; simp; omega
            · intro x hx
              exact HW.out x (by rw [splitW_at (nl_not t) (nl_at HK.out)]; exact List.mem_cons_of_mem _ hx)
          case measure => have := HK.out; simp [strSize, ByteArray.size]; omega
      · have HK := Lib.hid hk
        rw [decide_eq_false hk]
        clear hk
        go_wp2_with ((with_reducible refine at_store (ty := 46) (x := .tmp 8) (y := .tmp 21) ?_ ?_); exact rfl; refine wpList_store_blk rfl 46 (.tmp 8) (.tmp 21) rfl _ rfl (Blk.new w2 _ _) rfl (by kernel_rfl) rfl CONE.out ?_; intro w3 b3 g3)
        go_ret2
        refine ⟨reG_none ?_, (HB2.out.trans (A2.out.mono HB2.out.size)).grown g3 (by have := HB2.out.size; simp; omega) (fun k hk => by injection hk; have := HB2.out.size; omega)⟩
        have he : t.take (nlAt t) = t := List.take_of_length_le (by have := HK.out; omega)
        have hn := nl_not t
        rw [he] at hn
        rw [HI.out, readW_none hn HT.out]
        rfl
end Go.Proofs.YtkpblhikndennaaGreatDoor
namespace Go.Proofs.YtkpblhikndennaaGreatDoor
open Go.RowKit
set_option linter.unusedVariables false
set_option linter.unusedSimpArgs false
theorem line_funM : lineF restC = lineF restR := funext lineF_eq
theorem text_allM {l : List LineD} (h : bulkAll Shape.LineD.bulk l ≤ 1048576) : ∃ l2, readW (lineF restC) (printText l) = some l2 ∧ SmallL l2 ∧ l2.length ≤ 1048576 ∧ (printText l).length ≤ 1000000000 ∧ ∀ x ∈ splitW 10 (printText l), x.length ≤ 16777216 := by
  cases hok : okAll l with
  | false =>
    refine ⟨[], ?_, (fun d hd => by cases hd), by simp, ?_, ?_⟩
    · rw [(print_no hok).1, readW_nil]
    · rw [(print_no hok).1]; simp
    · rw [(print_no hok).1]
      intro x hx
      have := splitW_small hx
      rw [List.length_nil] at this
      omega
  | true =>
    have hb : ∀ d ∈ l, (lineBody d).length ≤ 16777216 := fun d hd => by
      have h1 := line_len (small_all h d hd) (List.all_eq_true.1 hok d hd)
      have h2 := field_bulk d
      have h3 := mem_bulk Shape.LineD.bulk hd
      omega
    have hl := len_bulk Shape.LineD l
    refine ⟨l, ?_, small_L h, by omega, ?_, ?_⟩
    · rw [(print_ok hok).1, line_funM]; exact text_read hok
    · rw [(print_ok hok).1]
      have := text_bulk (small_all h) hok
      omega
    · rw [(print_ok hok).1]; exact text_words hb
/-- two lists by turns -/
def inter : List Slot → List Slot → List Slot
  | a :: l, b :: r => a :: b :: inter l r
  | _, _ => []
theorem inter_more : ∀ (l r : List Slot) (a b : Slot), l.length = r.length → inter (l ++ [a]) (r ++ [b]) = inter l r ++ [a, b]
  | [], [], a, b, _ => rfl
  | x :: l, y :: r, a, b, h => by simp only [List.cons_append, inter]; rw [inter_more l r a b (by simpa using h)]
  | [], _ :: _, _, _, h => by simp at h
  | _ :: _, [], _, _, h => by simp at h
theorem inter_len : ∀ (l r : List Slot), l.length = r.length → (inter l r).length = 2 * l.length
  | [], [], _ => rfl
  | x :: l, y :: r, h => by simp only [inter, List.length_cons]; rw [inter_len l r (by simpa using h)]; omega
  | [], _ :: _, h => by simp at h
  | _ :: _, [], h => by simp at h
theorem inter_mem : ∀ (l r : List Slot) (x : Slot), x ∈ inter l r → x ∈ l ∨ x ∈ r
  | [], [], _, h => by simp [inter] at h
  | a :: l, b :: r, x, h => by
    simp only [inter, List.mem_cons] at h
    rcases h with rfl | rfl | h
    · exact .inl (List.mem_cons_self ..)
    · exact .inr (List.mem_cons_self ..)
    · rcases inter_mem l r x h with h | h
      · exact .inl (List.mem_cons_of_mem _ h)
      · exact .inr (List.mem_cons_of_mem _ h)
  | [], _ :: _, _, h => by simp [inter] at h
  | _ :: _, [], _, h => by simp [inter] at h
def Apt (a b : Slot) : Prop := ∀ g, a.g = some g → b.g ≠ some g
theorem Apt.symm {a b : Slot} (h : Apt a b) : Apt b a := fun g hb ha => h g ha hb
theorem inter_apt : ∀ (l r : List Slot), l.Pairwise Apt → r.Pairwise Apt → (∀ a ∈ l, ∀ b ∈ r, Apt a b) → (inter l r).Pairwise Apt
  | [], [], _, _, _ => List.Pairwise.nil
  | a :: l, b :: r, h1, h2, h3 => by
    rw [List.pairwise_cons] at h1 h2
    simp only [inter]
    rw [List.pairwise_cons, List.pairwise_cons]
    refine ⟨fun x hx => ?_, fun x hx => ?_, inter_apt l r h1.2 h2.2 fun x hx y hy => h3 x (List.mem_cons_of_mem _ hx) y (List.mem_cons_of_mem _ hy)⟩
    · rw [List.mem_cons] at hx
      rcases hx with rfl | hx
      · exact h3 a (List.mem_cons_self ..) x (List.mem_cons_self ..)
      · rcases inter_mem l r x hx with hx | hx
        · exact h1.1 x hx
        · exact h3 a (List.mem_cons_self ..) x (List.mem_cons_of_mem _ hx)
    · rcases inter_mem l r x hx with hx | hx
      · exact (h3 x (List.mem_cons_of_mem _ hx) b (List.mem_cons_self ..)).symm
      · exact h2.1 x hx
  | [], _ :: _, _, _, _ => List.Pairwise.nil
  | _ :: _, [], _, _, _ => List.Pairwise.nil
theorem apt_inj {ss : List Slot} (h : ss.Pairwise Apt) (i j : Nat) (hi : i < ss.length) (hj : j < ss.length) (g : Nat) (h1 : ss[i].g = some g) (h2 : ss[j].g = some g) : i = j := by
  rw [List.pairwise_iff_getElem] at h
  rcases Nat.lt_trichotomy i j with hij | hij | hij
  · exact absurd h2 (h i j hi hj hij g h1)
  · exact hij
  · exact absurd h1 (h j i hj hi hij g h2)
/-- a slot's value as an element -/
def Shape.SlotV : Shape Slot where
  size := 1
  pos := Nat.one_pos
  rd _ _ cs s := cs = [slotV s]
  bulk _ := 1
  bpos _ := Nat.le_refl _
  len h := by rw [h]; rfl
  keep h _ := h
  more h _ := h
  one h v hv := by rw [h] at hv; simp at hv; subst hv; rfl
theorem flat_SlotV : Shape.SlotV.Flat := fun h => h
theorem elem_SlotV : Elem Tryz.prog 41 44 Shape.SlotV 24 := ⟨Tryz.underlying41, by kernel_rfl⟩
theorem dist_slots {l : List LineS} (h : Dist l) : (l.map (·.2)).Pairwise Apt := by
  rw [List.pairwise_map]
  exact h
/-- the slots of lines that lie in a row -/
theorem row_slots {w : World} {M : Nat → Prop} {A : Option Addr} {n : Nat} {l : List LineS} (h : Row Shape.LineG w M A n l) : ∀ s ∈ l.map (·.2), (∃ ms, SlotOk w U8 s ms ∧ s.n ≤ ms.length) ∧ ∀ g, s.g = some g → M g := by
  intro s hs
  rw [List.mem_map] at hs
  obtain ⟨p, hp, rfl⟩ := hs
  obtain ⟨i, hi, rfl⟩ := List.getElem_of_mem hp
  have hn : i < n := by rw [← h.1]; exact hi
  obtain ⟨b, off, es, _, _, _, _, hr⟩ := h.at_ hn
  exact ⟨⟨_, hr.2.2.1, Nat.le_of_eq hr.2.2.1.1.symm⟩, hr.2.2.2⟩
theorem row_slot_n {w : World} {M : Nat → Prop} {A : Option Addr} {n : Nat} {l : List LineS} (h : Row Shape.LineG w M A n l) : ∀ s ∈ l.map (·.2), ∃ d ∈ l.map (·.1), s.n = d.data.length := by
  intro s hs
  rw [List.mem_map] at hs
  obtain ⟨p, hp, rfl⟩ := hs
  obtain ⟨i, hi, rfl⟩ := List.getElem_of_mem hp
  have hn : i < n := by rw [← h.1]; exact hi
  obtain ⟨b, off, es, _, _, _, _, hr⟩ := h.at_ hn
  exact ⟨_, List.mem_map_of_mem (List.getElem_mem hi), by have := hr.2.2.1.1; rw [List.length_map] at this; exact this.symm⟩
end Go.Proofs.YtkpblhikndennaaGreatDoor
