/- manifest.Read: what it answers at every text. No condition but room and what the library's variables hold. strings.Cut at a line's end, at texts of any length. No condition. manifest.Read at great texts: what it answers. No condition but room and what the library's variables hold. -/
import Derived.Test.YtfhfcipelgogjaaGreatDoorParseAll
import Derived.Test.YtfhfcipelgogjaaGreatDoorSameAll
import Derived.Test.YtfhfcipelgogjaaGreatDoorLayIx
import Derived.Test.YtfhfcipelgogjaaGreatDoorLayParse
import Derived.Shelf.Strings.Search1
import Derived.OwnWalk
import Derived.Test.YtfhfcipelgogjaaGreatDoorRegAll
import Derived.Test.YtfhfcipelgogjaaGreatDoorPLawAll
namespace Go.Proofs.YtfhfcipelgogjaaGreatDoor
open Go.RowKit
set_option linter.unusedVariables false
set_option linter.unusedSimpArgs false
def nlAt (l : List UInt8) : Nat := l.findIdx (· == 10)
theorem nlAt_le (l : List UInt8) : nlAt l ≤ l.length := List.findIdx_le_length
theorem index_nl (l : List UInt8) : Lib.index l [10] = if nlAt l < l.length then (nlAt l : Int) else -1 := by
  induction l with
  | nil => rfl
  | cons c l ih =>
    unfold Lib.index
    have hp : ([10] : List UInt8).isPrefixOf (c :: l) = (c == 10) := by
      simp [List.isPrefixOf]
      rw [Bool.eq_iff_iff, beq_iff_eq, beq_iff_eq]; exact eq_comm
    rw [hp]
    by_cases h : (c == 10) = true
    · have hd : nlAt (c :: l) = 0 := by unfold nlAt; rw [List.findIdx_cons, h]; rfl
      rw [if_pos h, hd, if_pos (by simp)]; rfl
    · have h' : (c == 10) = false := by simpa using h
      have hd : nlAt (c :: l) = nlAt l + 1 := by unfold nlAt; rw [List.findIdx_cons, h']; rfl
      rw [if_neg h, hd, ih, List.length_cons]
      by_cases h2 : nlAt l < l.length
      · have : ((nlAt l : Int) == -1) = false := by rw [beq_eq_false_iff_ne]; omega
        rw [if_pos h2, this]; simp [h2]
      · rw [if_neg h2]; simp [h2]
theorem cut_nl (l : List UInt8) : Lib.cut l [10] = (l.take (nlAt l), l.drop (nlAt l + 1), decide (nlAt l < l.length)) := by
  unfold Lib.cut
  rw [index_nl]
  have hle := nlAt_le l
  by_cases h : nlAt l < l.length
  · rw [if_pos h, if_pos (by omega)]; simp [h]
  · rw [if_neg h, if_neg (by omega)]
    have : nlAt l = l.length := by omega
    rw [this]; simp
theorem nl_not (l : List UInt8) : 10 ∉ l.take (nlAt l) := by
  intro h
  obtain ⟨k, hk⟩ := List.getElem?_of_mem h
  obtain ⟨hk1, hk2⟩ := List.getElem?_eq_some_iff.1 hk
  rw [List.length_take] at hk1
  rw [List.getElem_take] at hk2
  have := List.not_of_lt_findIdx (p := (· == 10)) (xs := l) (i := k) (by unfold nlAt at hk1; omega)
  rw [hk2] at this
  exact absurd this (by decide)
theorem nl_at {l : List UInt8} (h : nlAt l < l.length) : l = l.take (nlAt l) ++ 10 :: l.drop (nlAt l + 1) := by
  have := List.findIdx_getElem (p := (· == 10)) (xs := l) (w := h)
  rw [beq_iff_eq] at this
  conv => lhs; rw [← List.take_append_drop (nlAt l) l]
  rw [List.drop_eq_getElem_cons h]
  unfold nlAt
  rw [this]
theorem cutNl (t : List UInt8) (w : World) (hs : t.length < 4294967281) (hm : MaxLenOk w) :
    Calls Tryz.prog 34 #[.string ⟨t.toArray⟩, .string ⟨#[10]⟩] w fun e w' => e = .returned (.tuple #[.string ⟨(t.take (nlAt t)).toArray⟩, .string ⟨(t.drop (nlAt t + 1)).toArray⟩, .bool (decide (nlAt t < t.length))]) ∧ Below w.heap.size w w' := by
  have h := cut_calls ⟨t.toArray⟩ ⟨#[10]⟩ w (by simpa [ByteArray.size] using hs) hm
  rw [show (ByteArray.mk #[10]).data.toList = [10] from rfl, show (ByteArray.mk t.toArray).data.toList = t from rfl, cut_nl] at h
  exact h
theorem pe_parts {o : Option LineD} {w w' : World} {e : Ending} (h : ParseEnd o w w' e) : ∃ cs : List Value, e = .returned (.tuple #[.agg cs.toArray, .bool o.isSome]) ∧ cs.length = 10 ∧ cs.all (·.oneCell') = true ∧ ∀ d, o = some d → LineD.rd w' (From w.heap.size w') cs d := by
  cases o with
  | none =>
    obtain ⟨cs, rfl, h1, h2⟩ := h
    exact ⟨cs.toList, by simp, by simpa using h1, h2, fun d h => by cases h⟩
  | some d =>
    obtain ⟨cs, rfl, h1⟩ := h
    exact ⟨cs, rfl, Shape.LineD.len h1, List.all_eq_true.2 (Shape.LineD.one h1), fun d' h => by injection h with h; subst h; exact h1⟩
/-- what a reader of lines answers -/
def ReadEnd (o : Option (List LineD)) (w w' : World) (e : Ending) : Prop :=
  match o with
  | some l => ∃ v M, e = .returned (.tuple #[v, .int .i64 0]) ∧ Own Shape.LineD 60 w' w.heap.size M v l ∧ ∀ n, M n → w.heap.size ≤ n
  | none => e = .returned (.tuple #[.slice none 0 0, .int .i64 150])
theorem re_none {o : Option (List LineD)} {w w' : World} (h : o = none) : ReadEnd o w w' (.returned (.tuple #[.slice none 0 0, .int .i64 150])) := by subst h; exact rfl
theorem re_some {o : Option (List LineD)} {l : List LineD} {w w' : World} {v : Value} {M : Nat → Prop} (h : o = some l) (ho : Own Shape.LineD 60 w' w.heap.size M v l) (hM : ∀ n, M n → w.heap.size ≤ n) : ReadEnd o w w' (.returned (.tuple #[v, .int .i64 0])) := by subst h; exact ⟨v, M, rfl, ho, hM⟩
theorem ten_cells {cs : List Value} (h : cs.length = 10) : ∃ y0 y1 y2 y3 y4 y5 y6 y7 y8 y9, cs = [y0, y1, y2, y3, y4, y5, y6, y7, y8, y9] := by
  match cs, h with | [y0, y1, y2, y3, y4, y5, y6, y7, y8, y9], _ => exact ⟨y0, y1, y2, y3, y4, y5, y6, y7, y8, y9, rfl⟩
theorem own_over_blk {w2 w3 : World} {base : Nat} {M : Nat → Prop} {v : Value} {l : List LineD} {o : Obj} (h : Own Shape.LineD 60 w2 base M v l) (g3 : (w2.alloc o).grownBy w3 (some w2.heap.size)) : Own Shape.LineD 60 w3 base M v l := by
  refine (h.alloc o).kept g3 ?_ ?_
  · right
    intro e
    have := (h.lt _ e).2
    omega
  · intro n hn e
    injection e with e
    obtain ⟨_, _, _, h3⟩ := h
    have := (h3 n hn).1
    omega
theorem rd_over_blk {w2 w3 : World} {B : Nat} {d : LineD} {cs : List Value} {o : Obj} (h : LineD.rd w2 (From B w2) cs d) (g3 : (w2.alloc o).grownBy w3 (some w2.heap.size)) : LineD.rd w3 (From B w2) cs d := by
  refine Shape.LineD.keep h fun n hn => ?_
  have h2 := hn.2
  exact (g3.block n (by simp; omega) (by intro e; injection e; omega)).trans (Below.heap_alloc w2 o n h2)
def strSize : Value → Nat
  | .string b => b.size
  | _ => 0
set_option maxHeartbeats 1000000 in
set_option maxRecDepth 100000 in
theorem manRead (s : ByteArray) (w : World) (hs : s.size ≤ 1000000000) (hl : ∀ x ∈ splitW 10 s.data.toList, x.length ≤ 16777216) (hm : MaxLenOk w) (hv : ErrRangeOk w) (hp : Pow10 w) :
    Calls Tryz.prog 14 #[.string s] w fun e w' => ReadEnd (readW (lineF restC) s.data.toList) w w' e ∧ Below w.heap.size w w' := by
  have hz : s.data.toList.length = s.size := by rw [Array.length_toList]; rfl
  have HZ := Lib.hid hz
  obtain ⟨R, hR⟩ : ∃ R, R = readW (lineF restC) s.data.toList := ⟨_, rfl⟩
  rw [← hR]
  have HR := Lib.hid hR
  have HL := Lib.hid hl
  have HM := Lib.hid hm; have HV := Lib.hid hv; have HP := Lib.hid hp
  clear hz hR hl hm hv hp
  go_enter Tryz.func14, Tryz.ntmps14
  go_wp2_with fail
  go_loopw [0, 4] (fun tx v wr => ∃ (t : List UInt8) (acc : List LineD) (M : Nat → Prop), tx = .string ⟨t.toArray⟩ ∧ R = (readW (lineF restC) t).map (acc ++ ·) ∧ Own Shape.LineD 60 wr w.heap.size M v acc ∧ (∀ n, M n → w.heap.size ≤ n) ∧ Below w.heap.size w wr ∧ acc.length + t.length ≤ s.size ∧ ∀ x ∈ splitW 10 t, x.length ≤ 16777216) (fun tx _ _ => strSize tx)
  case atStart => exact ⟨s.data.toList, [], fun _ => False, by simp, by rw [HR.out]; exact readW_start _ _, Own.start _ _ _ _, fun _ h => h.elim, Below.refl _ _, by rw [HZ.out]; simp, HL.out⟩
  case round =>
    obtain ⟨t, acc, M, rfl, hinv, hown, hM, hbel, hlen, hwl⟩ := hrel
    have HI := Lib.hid hinv; have O := Lib.hid hown; have HMM := Lib.hid hM; have HB := Lib.hid hbel; have HW := Lib.hid hwl
    clear hinv hown hM hbel hwl
    by_cases ht : t = []
    · subst ht
      go_wp2_with fail
      go_ret2
      exact ⟨re_some (by rw [HI.out, readW_nil]; simp) O.out HMM.out, HB.out⟩
    · have hne : t.isEmpty = false := by cases t with | nil => exact absurd rfl ht | cons => rfl
      have HT := Lib.hid ht
      clear ht
      have HMr := Lib.hid (HM.out.keep HB.out)
      go_wp2_with fail
      refine (cutNl t _ (by omega) HMr.out).mono ?_
      rintro e w1 ⟨rfl, hb1⟩
      have HB1 := Lib.hid (HB.out.trans (hb1.mono HB.out.size))
      have O1 := Lib.hid (O.out.kept (grownBy_of_below hb1) (by cases hv : u4.ownBlock <;> simp) (fun _ _ => by simp))
      clear hb1 O
      have hnl := nlAt_le t
      have hword : (t.take (nlAt t)).length ≤ 67108864 := by
        refine Nat.le_trans ?_ (show 16777216 ≤ 67108864 by decide)
        by_cases h : nlAt t < t.length
        · exact HW.out _ (by rw [splitW_at (nl_not t) (nl_at h)]; simp)
        · have he : t.take (nlAt t) = t := List.take_of_length_le (by omega)
          have := nl_not t
          rw [he] at this ⊢
          exact HW.out _ (by rw [splitW_none this]; simp)
      go_wp2_with fail
      refine (manParse ⟨(t.take (nlAt t)).toArray⟩ _ (by simpa [ByteArray.size] using hword) (HM.out.keep HB1.out) (HV.out.keep HB1.out) (HP.out.keep HB1.out)).mono ?_
      rintro e w2 ⟨hpe, hb2⟩
      rw [show (ByteArray.mk (t.take (nlAt t)).toArray).data.toList = t.take (nlAt t) from rfl] at hpe
      obtain ⟨cs, rfl, hc10, hcone, hcrd⟩ := pe_parts hpe
      have HB2 := Lib.hid (HB1.out.trans (hb2.mono HB1.out.size))
      have O2 := Lib.hid (O1.out.kept (grownBy_of_below hb2) (by cases hv : u4.ownBlock <;> simp) (fun _ _ => by simp))
      have hsz2 := hb2.size
      have O1L := Lib.hid O1.out.lt
      obtain ⟨y0, y1, y2, y3, y4, y5, y6, y7, y8, y9, rfl⟩ := ten_cells hc10
      have CONE := Lib.hid hcone; have CRD := Lib.hid hcrd
      clear hb2 O1 hpe hc10 hcone hcrd hword
      generalize hob : (lineF restC (t.take (nlAt t))).isSome = ob
      have HOB := Lib.hid hob
      clear hob
      have A2 := Lib.hid (below_alloc' w2 (.cells #[.string ⟨#[]⟩, .int .i64 0, .int .i64 0, .int .i64 0, .int .i64 0, .int .i64 0, .int .i64 0, .slice none 0 0, .string ⟨#[]⟩, .string ⟨#[]⟩] 60))
      by_cases hk : nlAt t < t.length
      · have HK := Lib.hid hk
        rw [decide_eq_true hk]
        clear hk
        have HGO := Lib.hid (readW_go (f := lineF restC) (nl_at HK.out) (nl_not t) (l := t) (acc := []) (readW_start _ _))
        cases ob with
        | false =>
          go_wp2_with ((with_reducible refine at_store (ty := 60) (x := .tmp 8) (y := .tmp 21) ?_ ?_); exact rfl; refine wpList_store_blk rfl 60 (.tmp 8) (.tmp 21) rfl _ rfl (Blk.new w2 _ _) rfl (by kernel_rfl) rfl CONE.out ?_; intro w3 b3 g3)
          go_ret2
          refine ⟨re_none ?_, (HB2.out.trans (A2.out.mono HB2.out.size)).grown g3 (by have := HB2.out.size; simp; omega) (fun k hk => by injection hk; have := HB2.out.size; omega)⟩
          rw [HI.out, HGO.out.1 (Option.isSome_eq_false_iff.1 HOB.out |> Option.isNone_iff_eq_none.1)]
          rfl
        | true =>
          obtain ⟨d, hd⟩ := Option.isSome_iff_exists.1 HOB.out
          have RD := Lib.hid (CRD.out d hd)
          have HD := Lib.hid hd
          clear hd
          go_wp2_with (first
            | ((with_reducible refine at_store (ty := 60) (x := .tmp 8) (y := .tmp 21) ?_ ?_); exact rfl; refine wpList_store_blk rfl 60 (.tmp 8) (.tmp 21) rfl _ rfl (Blk.new w2 _ _) rfl (by kernel_rfl) rfl CONE.out ?_; intro w3 b3 g3; have O3 := Lib.hid (own_over_blk O2.out g3); have RD3 := Lib.hid (rd_over_blk RD.out g3))
            | ((with_reducible refine at_load (ty := 60) (x := .tmp 8) ?_ ?_); exact rfl; refine wpList_load_blk rfl 60 (.tmp 8) rfl _ rfl b3 whole_LineD ?_)
            | (at_builtin
               refine wpList_append_list (v := u4) rfl (.tmp 29) (.tmp 31) _ rfl elem_LineD rfl (O3.out.alloc _) rfl (Src.single (s := Shape.LineD) _ (M := From w1.heap.size w2) (fun n hn => by have := hn.2; have := g3.size; simp at this; omega) RD3.out) ?c0 ?c1 ?c2 ?c3 ?_))
          case c0 =>
            intro n hn
            refine ⟨by have := hn.2; have := g3.size; simp at this ⊢; omega, fun e => ?_⟩
            have := (O1L.out n e.symm).2
            have := hn.1
            omega
          case c1 => simp only [List.length_cons, List.length_nil]; omega
          case c2 => simp only [List.length_cons, List.length_nil, maxLen]; omega
          case c3 => have := HB2.out.size; have := g3.size; simp at this ⊢; omega
          intro v' w4 hown4 hg4 hat4
          have O4 := Lib.hid hown4
          have HB3 := Lib.hid ((HB2.out.trans (A2.out.mono HB2.out.size)).grown g3 (by have := HB2.out.size; simp; omega) (fun k hk => by injection hk; have := HB2.out.size; omega))
          have HB4 := Lib.hid ((HB3.out.alloc HB3.out.size (.cells #[y0, y1, y2, y3, y4, y5, y6, y7, y8, y9] 60)).grown hg4 (by have := HB3.out.size; simp; omega) (fun m hm => (O1L.out m hm).1))
          clear hown4 hg4 hat4
          go_wp2_with fail
          go_roundw
          case rel =>
            refine ⟨t.drop (nlAt t + 1), acc ++ [d], _, rfl, ?_, O4.out, ?_, HB4.out, ?_, ?_⟩
            · rw [HI.out, HGO.out.2 d HD.out]
              cases readW (lineF restC) (t.drop (nlAt t + 1)) <;> simp
            · rintro n (hn | hn)
              · exact HMM.out n hn
              · have := hn.1; have := HB1.out.size; omega
            · have := HK.out; simp; omega
            · intro x hx
              exact HW.out x (by rw [splitW_at (nl_not t) (nl_at HK.out)]; exact List.mem_cons_of_mem _ hx)
          case measure => have := HK.out; simp [strSize, ByteArray.size]; omega
      · have HK := Lib.hid hk
        rw [decide_eq_false hk]
        clear hk
        go_wp2_with ((with_reducible refine at_store (ty := 60) (x := .tmp 8) (y := .tmp 21) ?_ ?_); exact rfl; refine wpList_store_blk rfl 60 (.tmp 8) (.tmp 21) rfl _ rfl (Blk.new w2 _ _) rfl (by kernel_rfl) rfl CONE.out ?_; intro w3 b3 g3)
        go_ret2
        refine ⟨re_none ?_, (HB2.out.trans (A2.out.mono HB2.out.size)).grown g3 (by have := HB2.out.size; simp; omega) (fun k hk => by injection hk; have := HB2.out.size; omega)⟩
        have he : t.take (nlAt t) = t := List.take_of_length_le (by have := HK.out; omega)
        have hn := nl_not t
        rw [he] at hn
        rw [HI.out, readW_none hn HT.out]
        rfl
end Go.Proofs.YtfhfcipelgogjaaGreatDoor
namespace Go.Proofs.YtfhfcipelgogjaaGreatDoor
open Go.RowKit Go.Shelf
set_option linter.unusedSectionVars false
set_option linter.unusedVariables false
set_option linter.unusedSimpArgs false
attribute [local go_sem] cell?_over frozen?_over lt_over le_over
theorem index_byte_nl (l : List UInt8) : Lib.indexByte l 10 = if nlAt l < l.length then (nlAt l : Int) else -1 := by
  induction l with
  | nil => rfl
  | cons b l ih =>
    unfold Lib.indexByte nlAt
    rw [List.findIdx_cons]
    by_cases hb : (b == 10) = true
    · rw [if_pos hb, hb]
      simp
    · have hb' : (b == 10) = false := by simpa using hb
      rw [if_neg hb, hb', ih]
      have hle := nlAt_le l
      unfold nlAt at hle ⊢
      simp only [cond_false, List.length_cons]
      by_cases hlt : l.findIdx (· == 10) < l.length
      · rw [if_pos hlt, if_neg (by simp), if_pos (by omega)]
        omega
      · rw [if_neg hlt, if_pos (by rfl), if_neg (by omega)]
theorem liteIndexByte (s : ByteArray) (w : World) : Calls Tryz.prog 143 #[.string s, .int .u8 10] w fun e w' => e = .returned (.int .i64 (Lib.indexByte s.data.toList 10)) ∧ w' = w :=
  Any.stringslite_IndexByte { Tryz.lays137 with } s 10 w
set_option maxHeartbeats 2000000 in
set_option maxRecDepth 100000 in
theorem liteIndex (s : ByteArray) (w : World) : Calls Tryz.prog 97 #[.string s, .string ⟨#[10]⟩] w fun e w' => e = .returned (.int .i64 (Lib.indexByte s.data.toList 10)) ∧ Below w.heap.size w w' := by
  have IB := Lib.hid (liteIndexByte s)
  obtain ⟨R, hR⟩ : ∃ R, R = Lib.indexByte s.data.toList 10 := ⟨_, rfl⟩
  rw [← hR] at IB ⊢
  have HR := Lib.hid hR
  clear hR
  have hb0 : (⟨#[10]⟩ : ByteArray)[0] = 10 := rfl
  have hsz : (⟨#[10]⟩ : ByteArray).size = 1 := rfl
  by_cases he : s = ⟨#[10]⟩
  · have HE : Hid (R = 0) := Lib.hid (by rw [HR.out, he]; rfl)
    subst he
    go_enter Tryz.func97, Tryz.ntmps97
    go_wp2_with fail
    go_ret
    exact ⟨by rw [HE.out]; rfl, Below.refl _ _⟩
  · have hne : (([10] : List UInt8) == s.toList) = false := by
      rw [beq_eq_false_iff_ne, Lib.toList_data]
      intro e
      apply he
      cases s with
      | mk d =>
        simp only at e
        rw [ByteArray.mk.injEq, ← Array.toList_inj, ← e]
    clear he
    go_enter Tryz.func97, Tryz.ntmps97
    go_wp2_with fail
    refine (IB.out w).mono ?_
    rintro e w1 ⟨rfl, rfl⟩
    go_wp2_with fail
    go_ret
    exact ⟨rfl, Below.refl _ _⟩
set_option maxHeartbeats 2000000 in
set_option maxRecDepth 100000 in
theorem liteCut (t : List UInt8) (w : World) (hs : t.length ≤ 1000000000000) : Calls Tryz.prog 62 #[.string ⟨t.toArray⟩, .string ⟨#[10]⟩] w fun e w' => e = .returned (.tuple #[.string ⟨(t.take (nlAt t)).toArray⟩, .string ⟨(t.drop (nlAt t + 1)).toArray⟩, .bool (decide (nlAt t < t.length))]) ∧ Below w.heap.size w w' := by
  obtain ⟨s, hse⟩ : ∃ s : ByteArray, s = ⟨t.toArray⟩ := ⟨_, rfl⟩
  have hst : s.data.toList = t := by rw [hse]
  have hsz : s.size = t.length := by rw [hse]; rfl
  have LI := Lib.hid (liteIndex s w)
  rw [hst, index_byte_nl] at LI
  rw [← hse]
  have HST := Lib.hid hst; have HSZ := Lib.hid hsz
  have hlen1 : (⟨#[10]⟩ : ByteArray).size = 1 := rfl
  have hle := nlAt_le t
  obtain ⟨k, hk⟩ : ∃ k, k = nlAt t := ⟨_, rfl⟩
  rw [← hk] at LI hle ⊢
  have ex1 : s.extract 0 k = ⟨(t.take k).toArray⟩ := by
    apply ba_ext; rw [ByteArray.data_extract, Array.toList_extract, hst]; simp
  have ex2 : s.extract (k + 1) s.size = ⟨(t.drop (k + 1)).toArray⟩ := by
    apply ba_ext; rw [ByteArray.data_extract, Array.toList_extract, hst, hsz]
    simp
    exact List.take_of_length_le (by simp)
  have EX1 := Lib.hid ex1; have EX2 := Lib.hid ex2
  have HSE := Lib.hid hse
  have HK := Lib.hid hk
  clear hst hse hk ex1 ex2
  by_cases hlt : k < t.length
  · rw [if_pos hlt] at LI
    have HD : Hid (decide (k < t.length) = true) := Lib.hid (decide_eq_true hlt)
    have hge : (k : Int) ≥ 0 := by omega
    have hks : k < s.size := by omega
    have hwr : IntKind.i64.wrap ((k : Int) + 1) = (k : Int) + 1 := by rw [IntKind.wrap_i64]; omega
    rw [HD.out]
    clear hlt hsz
    go_enter Tryz.func62, Tryz.ntmps62
    go_wp2_with fail
    refine LI.out.mono ?_
    rintro e w1 ⟨rfl, hb1⟩
    go_wp2_with fail
    refine wp_region_grow [] (by kernel_rfl) (by kernel_rfl) stays_nil ?_
    repeat (first
      | (refine g_w rfl ?_ (fun W => ?_) ?_; rotate_left; (focus (go_simp; (try with_reducible rfl); done)); simp only [Act.put, List.setIfInBounds_toArray, List.set_cons_zero, List.set_cons_succ])
      | (refine g_d rfl (by kernel_rfl) ?_ (fun δ => ?_) ?_; rotate_left; (focus (go_simp; (try with_reducible rfl); done)); simp only [Act.put, List.setIfInBounds_toArray, List.set_cons_zero, List.set_cons_succ]))
    refine g_w rfl (.string (s.extract 0 k)) (fun W => ?_) ?_
    · go_simp
      intro hx; omega
    simp only [Act.put, List.setIfInBounds_toArray, List.set_cons_zero, List.set_cons_succ]
    repeat (first
      | (refine g_w rfl ?_ (fun W => ?_) ?_; rotate_left; (focus (go_simp; (try with_reducible rfl); done)); simp only [Act.put, List.setIfInBounds_toArray, List.set_cons_zero, List.set_cons_succ])
      | (refine g_d rfl (by kernel_rfl) ?_ (fun δ => ?_) ?_; rotate_left; (focus (go_simp; (try with_reducible rfl); done)); simp only [Act.put, List.setIfInBounds_toArray, List.set_cons_zero, List.set_cons_succ]))
    refine g_w rfl (.string (s.extract (k + 1) s.size)) (fun W => ?_) ?_
    · go_simp
      intro hx
      exfalso
      have := hx (by omega)
      omega
    simp only [Act.put, List.setIfInBounds_toArray, List.set_cons_zero, List.set_cons_succ]
    repeat (first
      | (refine g_w rfl ?_ (fun W => ?_) ?_; rotate_left; (focus (go_simp; (try with_reducible rfl); done)); simp only [Act.put, List.setIfInBounds_toArray, List.set_cons_zero, List.set_cons_succ])
      | (refine g_d rfl (by kernel_rfl) ?_ (fun δ => ?_) ?_; rotate_left; (focus (go_simp; (try with_reducible rfl); done)); simp only [Act.put, List.setIfInBounds_toArray, List.set_cons_zero, List.set_cons_succ]))
    refine g_end fun δ _ => ?_
    go_wp2_with fail
    go_ret3
    exact ⟨by first | rfl | (rw [EX1.out, EX2.out]; rfl) | (simp only [EX1.out, EX2.out]; rfl), below_old hb1 (below_over w1 δ)⟩
  · rw [if_neg hlt] at LI
    have HD : Hid (decide (k < t.length) = false) := Lib.hid (decide_eq_false hlt)
    have e1 : t.take k = t := List.take_of_length_le (by omega)
    have e2 : t.drop (k + 1) = [] := List.drop_eq_nil_of_le (by omega)
    have HE1 := Lib.hid e1; have HE2 := Lib.hid e2
    rw [HD.out]
    clear hlt hsz e1 e2
    go_enter Tryz.func62, Tryz.ntmps62
    go_wp2_with fail
    refine LI.out.mono ?_
    rintro e w1 ⟨rfl, hb1⟩
    go_wp2_with fail
    go_ret3
    exact ⟨by rw [HE1.out, HE2.out, HSE.out]; rfl, hb1⟩
theorem cutNlG (t : List UInt8) (w : World) (hs : t.length ≤ 1000000000000) : Calls Tryz.prog 34 #[.string ⟨t.toArray⟩, .string ⟨#[10]⟩] w fun e w' => e = .returned (.tuple #[.string ⟨(t.take (nlAt t)).toArray⟩, .string ⟨(t.drop (nlAt t + 1)).toArray⟩, .bool (decide (nlAt t < t.length))]) ∧ Below w.heap.size w w' := by
  have LC := Lib.hid (liteCut t w hs)
  obtain ⟨q, hq⟩ : ∃ q, q = decide (nlAt t < t.length) := ⟨_, rfl⟩
  rw [← hq] at LC ⊢
  clear hq
  go_enter Tryz.func34, Tryz.ntmps34
  go_wp2_with fail
  refine LC.out.mono ?_
  rintro e w1 ⟨rfl, hb1⟩
  go_wp2_with fail
  go_ret3
  exact ⟨rfl, hb1⟩
end Go.Proofs.YtfhfcipelgogjaaGreatDoor
namespace Go.Proofs.YtfhfcipelgogjaaGreatDoor
open Go.RowKit
set_option linter.unusedSectionVars false
set_option linter.unusedVariables false
set_option linter.unusedSimpArgs false
attribute [local go_sem] cell?_over frozen?_over lt_over le_over
set_option maxHeartbeats 1000000 in
set_option maxRecDepth 100000 in
theorem manReadB (s : ByteArray) (w : World) (hs : s.size ≤ 900000000000) (hl : ∀ x ∈ splitW 10 s.data.toList, x.length ≤ 67108864) (hm : MaxLenOk w) (hv : ErrRangeOk w) (hp : Pow10 w) :
    Calls Tryz.prog 14 #[.string s] w fun e w' => ReadEnd (readW (lineF restC) s.data.toList) w w' e ∧ Below w.heap.size w w' := by
  have hz : s.data.toList.length = s.size := by rw [Array.length_toList]; rfl
  have HZ := Lib.hid hz
  obtain ⟨R, hR⟩ : ∃ R, R = readW (lineF restC) s.data.toList := ⟨_, rfl⟩
  rw [← hR]
  have HR := Lib.hid hR
  have HL := Lib.hid hl
  have HM := Lib.hid hm; have HV := Lib.hid hv; have HP := Lib.hid hp
  clear hz hR hl hm hv hp
  go_enter Tryz.func14, Tryz.ntmps14
  go_wp2_with fail
  go_loopw [0, 4] (fun tx v wr => ∃ (t : List UInt8) (acc : List LineD) (M : Nat → Prop), tx = .string ⟨t.toArray⟩ ∧ R = (readW (lineF restC) t).map (acc ++ ·) ∧ Own Shape.LineD 60 wr w.heap.size M v acc ∧ (∀ n, M n → w.heap.size ≤ n) ∧ Below w.heap.size w wr ∧ acc.length + t.length ≤ s.size ∧ ∀ x ∈ splitW 10 t, x.length ≤ 67108864) (fun tx _ _ => strSize tx)
  case atStart => exact ⟨s.data.toList, [], fun _ => False, by simp, by rw [HR.out]; exact readW_start _ _, Own.start _ _ _ _, fun _ h => h.elim, Below.refl _ _, by rw [HZ.out]; simp, HL.out⟩
  case round =>
    obtain ⟨t, acc, M, rfl, hinv, hown, hM, hbel, hlen, hwl⟩ := hrel
    have HI := Lib.hid hinv; have O := Lib.hid hown; have HMM := Lib.hid hM; have HB := Lib.hid hbel; have HW := Lib.hid hwl
    clear hinv hown hM hbel hwl
    by_cases ht : t = []
    · subst ht
      go_wp2_with fail
      go_ret2
      exact ⟨re_some (by rw [HI.out, readW_nil]; simp) O.out HMM.out, HB.out⟩
    · have hne : t.isEmpty = false := by cases t with | nil => exact absurd rfl ht | cons => rfl
      have HT := Lib.hid ht
      clear ht
      have HMr := Lib.hid (HM.out.keep HB.out)
      go_wp2_with fail
      refine (cutNlG t _ (by omega)).mono ?_
      rintro e w1 ⟨rfl, hb1⟩
      have HB1 := Lib.hid (HB.out.trans (hb1.mono HB.out.size))
      have O1 := Lib.hid (O.out.kept (grownBy_of_below hb1) (by cases hv : u4.ownBlock <;> simp) (fun _ _ => by simp))
      clear hb1 O
      have hnl := nlAt_le t
      have hword : (t.take (nlAt t)).length ≤ 67108864 := by
        by_cases h : nlAt t < t.length
        · exact HW.out _ (by rw [splitW_at (nl_not t) (nl_at h)]; simp)
        · have he : t.take (nlAt t) = t := List.take_of_length_le (by omega)
          have := nl_not t
          rw [he] at this ⊢
          exact HW.out _ (by rw [splitW_none this]; simp)
      go_wp2_with fail
      refine (manParse ⟨(t.take (nlAt t)).toArray⟩ _ (by simpa [ByteArray.size] using hword) (HM.out.keep HB1.out) (HV.out.keep HB1.out) (HP.out.keep HB1.out)).mono ?_
      rintro e w2 ⟨hpe, hb2⟩
      rw [show (ByteArray.mk (t.take (nlAt t)).toArray).data.toList = t.take (nlAt t) from rfl] at hpe
      obtain ⟨cs, rfl, hc10, hcone, hcrd⟩ := pe_parts hpe
      have HB2 := Lib.hid (HB1.out.trans (hb2.mono HB1.out.size))
      have O2 := Lib.hid (O1.out.kept (grownBy_of_below hb2) (by cases hv : u4.ownBlock <;> simp) (fun _ _ => by simp))
      have hsz2 := hb2.size
      have O1L := Lib.hid O1.out.lt
      obtain ⟨y0, y1, y2, y3, y4, y5, y6, y7, y8, y9, rfl⟩ := ten_cells hc10
      have CONE := Lib.hid hcone; have CRD := Lib.hid hcrd
      clear hb2 O1 hpe hc10 hcone hcrd hword
      generalize hob : (lineF restC (t.take (nlAt t))).isSome = ob
      have HOB := Lib.hid hob
      clear hob
      have A2 := Lib.hid (below_alloc' w2 (.cells #[.string ⟨#[]⟩, .int .i64 0, .int .i64 0, .int .i64 0, .int .i64 0, .int .i64 0, .int .i64 0, .slice none 0 0, .string ⟨#[]⟩, .string ⟨#[]⟩] 60))
      by_cases hk : nlAt t < t.length
      · have HK := Lib.hid hk
        rw [decide_eq_true hk]
        clear hk
        have HGO := Lib.hid (readW_go (f := lineF restC) (nl_at HK.out) (nl_not t) (l := t) (acc := []) (readW_start _ _))
        cases ob with
        | false =>
          go_wp2_with ((with_reducible refine at_store (ty := 60) (x := .tmp 8) (y := .tmp 21) ?_ ?_); exact rfl; refine wpList_store_blk rfl 60 (.tmp 8) (.tmp 21) rfl _ rfl (Blk.new w2 _ _) rfl (by kernel_rfl) rfl CONE.out ?_; intro w3 b3 g3)
          go_ret2
          refine ⟨re_none ?_, (HB2.out.trans (A2.out.mono HB2.out.size)).grown g3 (by have := HB2.out.size; simp; omega) (fun k hk => by injection hk; have := HB2.out.size; omega)⟩
          rw [HI.out, HGO.out.1 (Option.isSome_eq_false_iff.1 HOB.out |> Option.isNone_iff_eq_none.1)]
          rfl
        | true =>
          obtain ⟨d, hd⟩ := Option.isSome_iff_exists.1 HOB.out
          have RD := Lib.hid (CRD.out d hd)
          have HD := Lib.hid hd
          clear hd
          go_wp2_with (first
            | ((with_reducible refine at_store (ty := 60) (x := .tmp 8) (y := .tmp 21) ?_ ?_); exact rfl; refine wpList_store_blk rfl 60 (.tmp 8) (.tmp 21) rfl _ rfl (Blk.new w2 _ _) rfl (by kernel_rfl) rfl CONE.out ?_; intro w3 b3 g3; have O3 := Lib.hid (own_over_blk O2.out g3); have RD3 := Lib.hid (rd_over_blk RD.out g3))
            | ((with_reducible refine at_load (ty := 60) (x := .tmp 8) ?_ ?_); exact rfl; refine wpList_load_blk rfl 60 (.tmp 8) rfl _ rfl b3 whole_LineD ?_)
            | (at_builtin
               refine wpList_append_list (v := u4) rfl (.tmp 29) (.tmp 31) _ rfl elem_LineD rfl (O3.out.alloc _) rfl (Src.single (s := Shape.LineD) _ (M := From w1.heap.size w2) (fun n hn => by have := hn.2; have := g3.size; simp at this; omega) RD3.out) ?c0 ?c1 ?c2 ?c3 ?_))
          case c0 =>
            intro n hn
            refine ⟨by have := hn.2; have := g3.size; simp at this ⊢; omega, fun e => ?_⟩
            have := (O1L.out n e.symm).2
            have := hn.1
            omega
          case c1 => simp only [List.length_cons, List.length_nil]; omega
          case c2 => simp only [List.length_cons, List.length_nil, maxLen]; omega
          case c3 => have := HB2.out.size; have := g3.size; simp at this ⊢; omega
          intro v' w4 hown4 hg4 hat4
          have O4 := Lib.hid hown4
          have HB3 := Lib.hid ((HB2.out.trans (A2.out.mono HB2.out.size)).grown g3 (by have := HB2.out.size; simp; omega) (fun k hk => by injection hk; have := HB2.out.size; omega))
          have HB4 := Lib.hid ((HB3.out.alloc HB3.out.size (.cells #[y0, y1, y2, y3, y4, y5, y6, y7, y8, y9] 60)).grown hg4 (by have := HB3.out.size; simp; omega) (fun m hm => (O1L.out m hm).1))
          clear hown4 hg4 hat4
          go_wp2_with fail
          go_roundw
          case rel =>
            refine ⟨t.drop (nlAt t + 1), acc ++ [d], _, rfl, ?_, O4.out, ?_, HB4.out, ?_, ?_⟩
            · rw [HI.out, HGO.out.2 d HD.out]
              cases readW (lineF restC) (t.drop (nlAt t + 1)) <;> simp
            · rintro n (hn | hn)
              · exact HMM.out n hn
              · have := hn.1; have := HB1.out.size; omega
            · have := HK.out; simp; omega
            · intro x hx
              exact HW.out x (by rw [splitW_at (nl_not t) (nl_at HK.out)]; exact List.mem_cons_of_mem _ hx)
          case measure => have := HK.out; simp [strSize, ByteArray.size]; omega
      · have HK := Lib.hid hk
        rw [decide_eq_false hk]
        clear hk
        go_wp2_with ((with_reducible refine at_store (ty := 60) (x := .tmp 8) (y := .tmp 21) ?_ ?_); exact rfl; refine wpList_store_blk rfl 60 (.tmp 8) (.tmp 21) rfl _ rfl (Blk.new w2 _ _) rfl (by kernel_rfl) rfl CONE.out ?_; intro w3 b3 g3)
        go_ret2
        refine ⟨re_none ?_, (HB2.out.trans (A2.out.mono HB2.out.size)).grown g3 (by have := HB2.out.size; simp; omega) (fun k hk => by injection hk; have := HB2.out.size; omega)⟩
        have he : t.take (nlAt t) = t := List.take_of_length_le (by have := HK.out; omega)
        have hn := nl_not t
        rw [he] at hn
        rw [HI.out, readW_none hn HT.out]
        rfl
end Go.Proofs.YtfhfcipelgogjaaGreatDoor
