/- The five fields of a line: each reads a word into the line. No condition but room and what the library's variables hold. What manifest.parse answers, and what a line's parts come to in memory. No condition. manifest.parse at five words. No condition but room and what the library's variables hold. manifest.parse at seven words. No condition but room and what the library's variables hold. manifest.parse: what it answers at every text. No condition but room and what the library's variables hold. -/
import Derived.Test.YtfhfcipelgogjaaGreatDoorPermPAll
import Derived.Test.YtfhfcipelgogjaaGreatDoorDecAll
import Derived.Test.YtfhfcipelgogjaaGreatDoorStParse5
import Derived.Test.YtfhfcipelgogjaaGreatDoorBldAll
import Derived.Test.YtfhfcipelgogjaaGreatDoorDataAll
import Derived.Test.YtfhfcipelgogjaaGreatDoorReadAll
import Derived.Test.YtfhfcipelgogjaaGreatDoorSplitAll
import Derived.Test.YtfhfcipelgogjaaGreatDoorLineAll
import Derived.Test.YtfhfcipelgogjaaGreatDoorBaseAt
namespace Go.Proofs.YtfhfcipelgogjaaGreatDoor
open Go.RowKit
set_option linter.unusedVariables false
set_option linter.unusedSimpArgs false
theorem grown_set {w w1 : World} {g i : Nat} {v : Value} (h : w.grownBy w1 (some g)) : w.grownBy (w1.setCell ⟨g, i, none⟩ v) (some g) :=
  ⟨h.os, h.tape, h.output, by simpa [World.setCell] using h.size, fun n hn hne => (Below.heap_setCell w1 _ v n (fun e => hne (by rw [e]))).trans (h.block n hn hne)⟩
theorem grown_of {w w1 : World} {row : Option Nat} (h : Below w.heap.size w w1) : w.grownBy w1 row := ⟨h.os, h.tape, h.output, h.size, fun n hn _ => h.block n hn⟩
set_option maxRecDepth 100000 in
theorem permsField (s : ByteArray) (g : Nat) (w : World) (hs : s.size ≤ 100000000000) {c0 c1 c2 c3 c4 c5 c6 c7 c8 c9 : Value} (hb : Blk w g 60 #[c0, c1, c2, c3, c4, c5, c6, c7, c8, c9]) :
    Calls Tryz.prog 64 #[.pointer (some ⟨g, 0, none⟩), .string s] w fun e w' => ∃ k m : Nat, e = .returned (.bool (permP s.data.toList).isSome) ∧ Blk w' g 60 #[c0, .int .i64 k, .int .i64 m, c3, c4, c5, c6, c7, c8, c9] ∧ w.grownBy w' (some g) ∧
      ∀ x, permP s.data.toList = some x → x = (k, m) := by
  have HB := Lib.hid hb
  clear hb
  go_enter Tryz.func64, Tryz.ntmps64
  go_wp2_with fail
  refine (permsParse s _ (by omega)).mono ?_
  rintro e w1 ⟨rfl, hb1⟩
  
  have B1 := Lib.hid (HB.out.below hb1 HB.out.lt)
  have HW := Lib.hid (grown_of (row := some g) hb1)
  have k1 := B1.out.cell 1
  have f1 := B1.out.frozen 1
  have k2 := B1.out.cell 2
  have f2 := B1.out.frozen 2
  have hlt := B1.out.lt
  simp only [List.getElem?_toArray, List.getElem?_cons_succ, List.getElem?_cons_zero] at k1 k2
  clear hb1
  cases hp : permP s.data.toList with
  | none =>
    unfold permEnd
    go_wp2_with fail
    go_ret
    exact ⟨0, 0, by rw [hp]; rfl, (B1.out.set_ 1 _).set_ 2 _, grown_set (grown_set HW.out), fun x h => by rw [hp] at h; cases h⟩
  | some x =>
    obtain ⟨k, m⟩ := x
    unfold permEnd
    go_wp2_with fail
    go_ret
    exact ⟨k, m, by rw [hp]; rfl, (B1.out.set_ 1 _).set_ 2 _, grown_set (grown_set HW.out), fun x h => by rw [hp] at h; injection h with h; exact h.symm⟩
set_option maxRecDepth 100000 in
theorem uidField (s : ByteArray) (g : Nat) (w : World) (hs : s.size ≤ 100000000000) (hv : ErrRangeOk w) {c0 c1 c2 c3 c4 c5 c6 c7 c8 c9 : Value} (hb : Blk w g 60 #[c0, c1, c2, c3, c4, c5, c6, c7, c8, c9]) :
    Calls Tryz.prog 65 #[.pointer (some ⟨g, 0, none⟩), .string s] w fun e w' => e = .returned (.bool (decide (decErr s.data.toList = 0))) ∧ Blk w' g 60 #[c0, c1, c2, .int .i64 (decV s.data.toList), c4, c5, c6, c7, c8, c9] ∧ w.grownBy w' (some g) := by
  have HB := Lib.hid hb
  clear hb
  go_enter Tryz.func65, Tryz.ntmps65
  go_wp2_with fail
  refine (decimal s _ (by omega) hv).mono ?_
  rintro e w1 ⟨rfl, hb1⟩
  
  have B1 := Lib.hid (HB.out.below hb1 HB.out.lt)
  have HW := Lib.hid (grown_of (row := some g) hb1)
  have k3 := B1.out.cell 3
  have f3 := B1.out.frozen 3
  have hlt := B1.out.lt
  simp only [List.getElem?_toArray, List.getElem?_cons_succ, List.getElem?_cons_zero] at k3
  clear hb1
  go_wp2_with fail
  go_ret
  exact ⟨rfl, B1.out.set_ 3 _, grown_set HW.out⟩
set_option maxRecDepth 100000 in
theorem gidField (s : ByteArray) (g : Nat) (w : World) (hs : s.size ≤ 100000000000) (hv : ErrRangeOk w) {c0 c1 c2 c3 c4 c5 c6 c7 c8 c9 : Value} (hb : Blk w g 60 #[c0, c1, c2, c3, c4, c5, c6, c7, c8, c9]) :
    Calls Tryz.prog 66 #[.pointer (some ⟨g, 0, none⟩), .string s] w fun e w' => e = .returned (.bool (decide (decErr s.data.toList = 0))) ∧ Blk w' g 60 #[c0, c1, c2, c3, .int .i64 (decV s.data.toList), c5, c6, c7, c8, c9] ∧ w.grownBy w' (some g) := by
  have HB := Lib.hid hb
  clear hb
  go_enter Tryz.func66, Tryz.ntmps66
  go_wp2_with fail
  refine (decimal s _ (by omega) hv).mono ?_
  rintro e w1 ⟨rfl, hb1⟩
  
  have B1 := Lib.hid (HB.out.below hb1 HB.out.lt)
  have HW := Lib.hid (grown_of (row := some g) hb1)
  have k4 := B1.out.cell 4
  have f4 := B1.out.frozen 4
  have hlt := B1.out.lt
  simp only [List.getElem?_toArray, List.getElem?_cons_succ, List.getElem?_cons_zero] at k4
  clear hb1
  go_wp2_with fail
  go_ret
  exact ⟨rfl, B1.out.set_ 4 _, grown_set HW.out⟩
set_option maxRecDepth 100000 in
theorem timeField (s : ByteArray) (g : Nat) (w : World) (hs : s.size ≤ 100000000000) (hm : MaxLenOk w) (hv : ErrRangeOk w) {c0 c1 c2 c3 c4 c5 c6 c7 c8 c9 : Value} (hb : Blk w g 60 #[c0, c1, c2, c3, c4, c5, c6, c7, c8, c9]) :
    Calls Tryz.prog 67 #[.pointer (some ⟨g, 0, none⟩), .string s] w fun e w' => e = .returned (.bool (decide (stErr s.data.toList = 0))) ∧ Blk w' g 60 #[c0, c1, c2, c3, c4, .int .i64 (stS s.data.toList), .int .i64 (stN s.data.toList), c7, c8, c9] ∧ w.grownBy w' (some g) := by
  have HB := Lib.hid hb
  clear hb
  go_enter Tryz.func67, Tryz.ntmps67
  go_wp2_with fail
  refine (stampParse s _ (by omega) hm hv).mono ?_
  rintro e w1 ⟨rfl, hb1⟩
  
  have B1 := Lib.hid (HB.out.below hb1 HB.out.lt)
  have HW := Lib.hid (grown_of (row := some g) hb1)
  have k5 := B1.out.cell 5
  have f5 := B1.out.frozen 5
  have k6 := B1.out.cell 6
  have f6 := B1.out.frozen 6
  have hlt := B1.out.lt
  simp only [List.getElem?_toArray, List.getElem?_cons_succ, List.getElem?_cons_zero] at k5 k6
  clear hb1
  go_wp2_with fail
  go_ret
  exact ⟨rfl, (B1.out.set_ 5 _).set_ 6 _, grown_set (grown_set HW.out)⟩
set_option maxRecDepth 100000 in
theorem pathField (s : ByteArray) (g : Nat) (w : World) (hs : s.size ≤ 100000000000) {c0 c1 c2 c3 c4 c5 c6 c7 c8 c9 : Value} (hb : Blk w g 60 #[c0, c1, c2, c3, c4, c5, c6, c7, c8, c9]) :
    Calls Tryz.prog 68 #[.pointer (some ⟨g, 0, none⟩), .string s] w fun e w' => ∃ p, e = .returned (.bool (unesc s.data.toList).isSome) ∧ Blk w' g 60 #[strV p, c1, c2, c3, c4, c5, c6, c7, c8, c9] ∧ w.grownBy w' (some g) ∧ ∀ x, unesc s.data.toList = some x → x = p := by
  have HB := Lib.hid hb
  clear hb
  go_enter Tryz.func68, Tryz.ntmps68
  go_wp2_with fail
  refine (manUnescape s _ (by omega)).mono ?_
  rintro e w1 ⟨rfl, hb1⟩
  obtain ⟨δ, rfl⟩ := hb1; have hb1 := below_over w δ; generalize over w δ = w1 at hb1 ⊢
  have B1 := Lib.hid (HB.out.below hb1 HB.out.lt)
  have HW := Lib.hid (grown_of (row := some g) hb1)
  have k0 := B1.out.cell 0
  have f0 := B1.out.frozen 0
  have hlt := B1.out.lt
  simp only [List.getElem?_toArray, List.getElem?_cons_succ, List.getElem?_cons_zero] at k0
  clear hb1
  cases hp : unesc s.data.toList with
  | none =>
    unfold unescEnd strV
    go_wp2_with fail
    go_ret
    exact ⟨[], by rw [hp]; rfl, B1.out.set_ 0 _, grown_set HW.out, fun x h => by rw [hp] at h; cases h⟩
  | some x =>
    unfold unescEnd strV
    go_wp2_with fail
    go_ret
    exact ⟨x, by rw [hp]; rfl, B1.out.set_ 0 _, grown_set HW.out, fun y h => by rw [hp] at h; injection h with h; exact h.symm⟩
end Go.Proofs.YtfhfcipelgogjaaGreatDoor
namespace Go.Proofs.YtfhfcipelgogjaaGreatDoor
open Go.RowKit
set_option linter.unusedVariables false
set_option linter.unusedSimpArgs false
/-- what a reader of a line answers -/
def ParseEnd (o : Option LineD) (w w' : World) (e : Ending) : Prop :=
  match o with
  | some d => ∃ cs : List Value, e = .returned (.tuple #[.agg cs.toArray, .bool true]) ∧ LineD.rd w' (From w.heap.size w') cs d
  | none => ∃ cs : Array Value, e = .returned (.tuple #[.agg cs, .bool false]) ∧ cs.size = 10 ∧ cs.toList.all (·.oneCell') = true
/-- blocks above the two that stand at B -/
abbrev Up (B : Nat) (w : World) (n : Nat) : Prop := B + 1 < n ∧ n < w.heap.size
theorem pe_none {w w' : World} {cs : Array Value} {o : Option LineD} (ho : o = none) (h1 : cs.size = 10) (h2 : cs.toList.all (·.oneCell') = true) : ParseEnd o w w' (.returned (.tuple #[.agg cs, .bool false])) := by
  subst ho; exact ⟨cs, rfl, h1, h2⟩
theorem pe_some {w w' : World} {cs : List Value} {o : Option LineD} {d : LineD} (ho : o = some d) (h : LineD.rd w' (From w.heap.size w') cs d) : ParseEnd o w w' (.returned (.tuple #[.agg cs.toArray, .bool true])) := by
  subst ho; exact ⟨cs, rfl, h⟩
theorem unesc_len {l t : List UInt8} (h : unesc l = some t) : t.length ≤ l.length := by
  have := (esc_len t).1
  rw [(esc_of_unesc h).1] at this
  exact this
theorem perm_I64 {l : List UInt8} {k m : Nat} (h : permP l = some (k, m)) : I64 k ∧ I64 m := by
  have := (permP_sound h).1
  unfold permOk at this
  rw [decide_eq_true_eq] at this
  unfold I64
  omega
theorem dec_I64 (l : List UInt8) : I64 (decV l) := by
  unfold decV I64
  split
  · omega
  · split <;> omega
theorem st_I64 (l : List UInt8) : I64 (stS l) ∧ I64 (stN l) := by
  by_cases h : stErr l = 0
  · have := read_valid h
    unfold stampOk at this
    rw [decide_eq_true_eq] at this
    unfold I64
    omega
  · obtain ⟨h1, h2⟩ := read_zero h
    rw [h1, h2]
    unfold I64
    omega
theorem rd_line {w : World} {M : Nat → Prop} {path target peer : ByteArray} {k m u g s n : Int} {A : Option Addr} {n1 c1 : Nat} {data : List UInt8} (h0 : path.size ≤ maxLen) (hk : I64 k) (hm : I64 m) (hu : I64 u) (hg : I64 g) (hs : I64 s) (hn : I64 n)
    (hnc : n1 ≤ c1) (hc : c1 ≤ maxLen) (hr : Row Shape.byte w M A n1 data) (ht : target.size ≤ maxLen) (hp : peer.size ≤ maxLen) :
    LineD.rd w M [.string path, .int .i64 k, .int .i64 m, .int .i64 u, .int .i64 g, .int .i64 s, .int .i64 n, .slice A n1 c1, .string target, .string peer] ⟨path, k, m, u, g, ⟨s, n⟩, data, target, peer⟩ :=
  ⟨A, n1, c1, rfl, h0, hk, hm, hu, hg, hs, hn, hnc, hc, hr, ht, hp⟩
/-- how far the line has come behind i words -/
def Stg (p u g t n : List UInt8) (i : Nat) (C : Array Value) : Prop :=
  (i = 0 ∧ C = #[.string ⟨#[]⟩, .int .i64 0, .int .i64 0, .int .i64 0, .int .i64 0, .int .i64 0, .int .i64 0, .slice none 0 0, .string ⟨#[]⟩, .string ⟨#[]⟩]) ∨
  (i = 1 ∧ ∃ k m : Nat, permP p = some (k, m) ∧ C = #[.string ⟨#[]⟩, .int .i64 k, .int .i64 m, .int .i64 0, .int .i64 0, .int .i64 0, .int .i64 0, .slice none 0 0, .string ⟨#[]⟩, .string ⟨#[]⟩]) ∨
  (i = 2 ∧ ∃ k m : Nat, permP p = some (k, m) ∧ decErr u = 0 ∧ C = #[.string ⟨#[]⟩, .int .i64 k, .int .i64 m, .int .i64 (decV u), .int .i64 0, .int .i64 0, .int .i64 0, .slice none 0 0, .string ⟨#[]⟩, .string ⟨#[]⟩]) ∨
  (i = 3 ∧ ∃ k m : Nat, permP p = some (k, m) ∧ (decErr u = 0 ∧ decErr g = 0) ∧ C = #[.string ⟨#[]⟩, .int .i64 k, .int .i64 m, .int .i64 (decV u), .int .i64 (decV g), .int .i64 0, .int .i64 0, .slice none 0 0, .string ⟨#[]⟩, .string ⟨#[]⟩]) ∨
  (i = 4 ∧ ∃ k m : Nat, permP p = some (k, m) ∧ (decErr u = 0 ∧ decErr g = 0 ∧ stErr t = 0) ∧ C = #[.string ⟨#[]⟩, .int .i64 k, .int .i64 m, .int .i64 (decV u), .int .i64 (decV g), .int .i64 (stS t), .int .i64 (stN t), .slice none 0 0, .string ⟨#[]⟩, .string ⟨#[]⟩]) ∨
  (i = 5 ∧ ∃ (k m : Nat) (path : List UInt8), headF p u g t n = some ⟨⟨path.toArray⟩, k, m, decV u, decV g, ⟨stS t, stN t⟩, [], ⟨#[]⟩, ⟨#[]⟩⟩ ∧ unesc n = some path ∧ permP p = some (k, m) ∧ C = #[.string ⟨path.toArray⟩, .int .i64 k, .int .i64 m, .int .i64 (decV u), .int .i64 (decV g), .int .i64 (stS t), .int .i64 (stN t), .slice none 0 0, .string ⟨#[]⟩, .string ⟨#[]⟩])
theorem head_no1 {p u g t n : List UInt8} (h : permP p = none) : headF p u g t n = none := by unfold headF; rw [h]
theorem head_no2 {p u g t n : List UInt8} (h : unesc n = none) : headF p u g t n = none := by unfold headF; rw [h]; split <;> simp_all
theorem head_no3 {p u g t n : List UInt8} (h : ¬ (decErr u = 0 ∧ decErr g = 0 ∧ stErr t = 0)) : headF p u g t n = none := by
  unfold headF
  split
  · rw [if_neg h]
  · rfl
theorem head_yes {p u g t n path : List UInt8} {k m : Nat} (h1 : permP p = some (k, m)) (h2 : unesc n = some path) (h : decErr u = 0 ∧ decErr g = 0 ∧ stErr t = 0) :
    headF p u g t n = some ⟨⟨path.toArray⟩, k, m, decV u, decV g, ⟨stS t, stN t⟩, [], ⟨#[]⟩, ⟨#[]⟩⟩ := by
  unfold headF
  rw [h1, h2]
  simp only []
  rw [if_pos h]
theorem check_yes {s : List UInt8} {d : LineD} (h : rOk d = true) (h2 : lineBody d = s) : checkF s d = some d := if_pos ⟨h, h2⟩
theorem check_no1 {s : List UInt8} {d : LineD} (h : rOk d = false) : checkF s d = none := if_neg (fun e => by rw [h] at e; exact absurd e.1 (by decide))
theorem check_no2 {s : List UInt8} {d : LineD} (h : ¬ lineBody d = s) : checkF s d = none := if_neg (fun e => h e.2)
theorem str_eq_data {l : List UInt8} {s : ByteArray} (h : l = s.data.toList) : (l == s.toList) = true := by
  subst h; rw [beq_iff_eq, ByteArray.toList_eq]
theorem str_ne_data {l : List UInt8} {s : ByteArray} (h : ¬ l = s.data.toList) : (l == s.toList) = false := by
  rw [beq_eq_false_iff_ne, ByteArray.toList_eq]
  exact h
theorem restC_1 {d : LineD} {mk x v : List UInt8} (hx : unesc x = some v) (h1 : mk = [61]) : restC d mk x = some { d with peer := ⟨v.toArray⟩ } := by
  unfold restC; rw [hx]; simp only []; rw [if_pos h1]
theorem restC_2 {d : LineD} {mk x v : List UInt8} (hx : unesc x = some v) (h1 : ¬ mk = [61]) (h2 : mk = [58]) : restC d mk x = some { d with data := v } := by
  unfold restC; rw [hx]; simp only []; rw [if_neg h1, if_pos h2]
theorem restC_3 {d : LineD} {mk x v : List UInt8} (hx : unesc x = some v) (h1 : ¬ mk = [61]) (h2 : ¬ mk = [58]) (h3 : mk = [45, 62]) : restC d mk x = some { d with target := ⟨v.toArray⟩ } := by
  unfold restC; rw [hx]; simp only []; rw [if_neg h1, if_neg h2, if_pos h3]
theorem restC_4 {d : LineD} {mk x v : List UInt8} (hx : unesc x = some v) (h1 : ¬ mk = [61]) (h2 : ¬ mk = [58]) (h3 : ¬ mk = [45, 62]) : restC d mk x = some d := by
  unfold restC; rw [hx]; simp only []; rw [if_neg h1, if_neg h2, if_neg h3]
theorem restC_0 {d : LineD} {mk x : List UInt8} (hx : unesc x = none) : restC d mk x = none := by
  unfold restC; rw [hx]
theorem run_bytes_row {P : Program} {e : TypeId} (src dst : TypeId) (hs : P.underlying src = some .string) (hd : P.underlying dst = some (.slice e)) (he : P.underlying e = some (.int .u8)) (w : World) (l : List UInt8) (hl : l.length ≤ maxLen) :
    ∃ c w', (convert src dst (.string ⟨l.toArray⟩)).run P w = .ok (.slice (some ⟨w.heap.size, 0, none⟩) l.length c) w' ∧ w.grownBy w' none ∧ w'.heap.size = w.heap.size + 1 ∧ l.length ≤ c ∧ c ≤ maxLen ∧
      Row Shape.byte w' (fun n => n = w.heap.size) (some ⟨w.heap.size, 0, none⟩) l.length l := by
  have hsz : (⟨l.toArray⟩ : ByteArray).size = l.length := by simp [ByteArray.size]
  have hrun := run_bytes_of_string (P := P) w src dst e ⟨l.toArray⟩ hs hd he
  rw [hsz] at hrun
  refine ⟨_, _, hrun, ⟨rfl, rfl, rfl, by simp, fun k hk _ => Below.heap_alloc w.drew _ k hk⟩, by simp, grownCap_ge w _ _ _, grownCap_le_maxLen w _ _ _ hl, rfl, fun _ => ⟨_, 0, rfl, rfl, fun i hi => ⟨[.int .u8 l[i].toNat], fun j hj => ?_, rfl⟩⟩⟩
  have e13 : Shape.byte.size = 1 := rfl
  have : j = 0 := by omega
  subst this
  have h := World.cell?_alloc_mark w.drew (bytesRow ⟨l.toArray⟩ (grownCap w l.length 0 e)) e ((bytesRow ⟨l.toArray⟩ (grownCap w l.length 0 e)).size, (bytesRow ⟨l.toArray⟩ (grownCap w l.length 0 e)).size + 1) i
  rw [bytesRow_at ⟨l.toArray⟩ _ i (by simpa using hi)] at h
  simpa [e13] using h
set_option maxRecDepth 100000 in
theorem store_str {w : World} {g i : Nat} {t : TypeId} {cs : Array Value} {s : ByteArray} (hb : Blk w g t cs) (hi : i < cs.size) : (Instr.storeAt 9 (.pointer (some ⟨g, i, none⟩)) (.string s)).run Tryz.prog w = .ok () (w.setCell ⟨g, i, none⟩ (.string s)) := by
  have h0 : w.cell? ⟨g, i, none⟩ = some cs[i] := by rw [hb.cell, Array.getElem?_eq_getElem hi]
  have h1 := hb.frozen i
  have h2 := hb.lt
  go_simp
set_option maxRecDepth 100000 in
theorem store_sl {w : World} {g i n c : Nat} {A : Option Addr} {t : TypeId} {cs : Array Value} (hb : Blk w g t cs) (hi : i < cs.size) : (Instr.storeAt 58 (.pointer (some ⟨g, i, none⟩)) (.slice A n c)).run Tryz.prog w = .ok () (w.setCell ⟨g, i, none⟩ (.slice A n c)) := by
  have h0 : w.cell? ⟨g, i, none⟩ = some cs[i] := by rw [hb.cell, Array.getElem?_eq_getElem hi]
  have h1 := hb.frozen i
  have h2 := hb.lt
  go_simp
theorem wpList_store_run {ops : Array Oper} {Q : Exit → Act → World → Prop} {o : Oper} {rest : List Oper} {a : Act} {w : World} {g i : Nat} {t : TypeId} {cs : Array Value} {v : Value} (hgd : o.guard = none) (ty : TypeId) (x y : Operand) (ho : o.op = .store ty x y) (hx : a.eval x = .pointer (some ⟨g, i, none⟩)) (hy : a.eval y = v) (hb : Blk w g t cs)
    (hrun : (Instr.storeAt ty (.pointer (some ⟨g, i, none⟩)) v).run Tryz.prog w = .ok () (w.setCell ⟨g, i, none⟩ v)) (h : ∀ w', Blk w' g t (cs.setIfInBounds i v) → w.grownBy w' (some g) → wpList Tryz.prog ops Q rest (a.put o.dst undef) w') : wpList Tryz.prog ops Q (o :: rest) a w := by
  refine wpList_plain hgd fun K' hK' => ?_
  unfold Oper.wp
  simp [execOp, ho, hx, hy, hrun, Result.andThen]
  exact hK' _ _ (h _ (hb.set_ i _) ⟨rfl, rfl, rfl, by simp, fun n _ hn => Below.heap_setCell w ⟨g, i, none⟩ _ n (fun e => hn (by rw [e]))⟩)
end Go.Proofs.YtfhfcipelgogjaaGreatDoor
namespace Go.Proofs.YtfhfcipelgogjaaGreatDoor
open Go.RowKit
set_option linter.unusedVariables false
set_option linter.unusedSimpArgs false
set_option maxHeartbeats 4000000 in
set_option maxRecDepth 100000 in
theorem parse5 (s : ByteArray) (w : World) (hs : s.size ≤ 67108864) (hm : MaxLenOk w) (hv : ErrRangeOk w) (hp : Pow10 w) {p u g t n : List UInt8} (hsp : splitW 32 s.data.toList = [p, u, g, t, n]) :
    Calls Tryz.prog 35 #[.string s] w fun e w' => ParseEnd (lineF restC s.data.toList) w w' e ∧ Below w.heap.size w w' := by
  have hl : lineF restC s.data.toList = (headF p u g t n).bind (checkF s.data.toList) := by unfold lineF; rw [hsp]
  obtain ⟨R, hR⟩ : ∃ R, R = lineF restC s.data.toList := ⟨_, rfl⟩
  rw [← hR]
  rw [hl] at hR
  have HR := Lib.hid hR
  have z : ∀ x' ∈ [p, u, g, t, n], x'.length ≤ s.size := fun x' hx => by
    have := splitW_small (b := 32) (l := s.data.toList) (w := x') (by rw [hsp]; exact hx)
    rwa [Array.length_toList] at this
  have zp := z p (by simp); have zu := z u (by simp); have zg := z g (by simp); have zt := z t (by simp); have zn := z n (by simp)
  have SC : Hid (∀ W, MaxLenOk W → Calls Tryz.prog 63 #[.string s, .string ⟨#[32]⟩] W fun e w' => e = .returned (.slice (some ⟨W.heap.size, 0, none⟩) 5 5) ∧
      w' = W.alloc (.cells #[.string ⟨p.toArray⟩, .string ⟨u.toArray⟩, .string ⟨g.toArray⟩, .string ⟨t.toArray⟩, .string ⟨n.toArray⟩] 9)) := Lib.hid fun W hM => by
    obtain ⟨m, hM⟩ := hM
    have := splitCalls s W m (by omega) hM
    rw [hsp] at this
    exact this
  have HM := Lib.hid hm; have HV := Lib.hid hv; have HP := Lib.hid hp
  clear hR hl hsp z hm hv hp
  go_enter Tryz.func35, Tryz.ntmps35
  go_wp2_with fail
  refine (SC.out _ (HM.out.keep (by go_grown))).mono ?_
  rintro e w1 ⟨rfl, rfl⟩
  go_wp2_with fail
  go_loopw [33] (fun i wr => ∃ (ii : Nat) (C : Array Value), i = .int .i64 ii ∧ Stg p u g t n ii C ∧ Blk wr w.heap.size 60 #[.string ⟨#[]⟩, .int .i64 0, .int .i64 0, .int .i64 0, .int .i64 0, .int .i64 0, .int .i64 0, .slice none 0 0, .string ⟨#[]⟩, .string ⟨#[]⟩] ∧ Blk wr (w.heap.size + 1) 60 C ∧ Blk wr (w.heap.size + 1 + 1) 9 #[.string ⟨p.toArray⟩, .string ⟨u.toArray⟩, .string ⟨g.toArray⟩, .string ⟨t.toArray⟩, .string ⟨n.toArray⟩] ∧ Blk wr (w.heap.size + 1 + 1 + 1) 138 #[.func (.func 64) #[] #[], .func (.func 65) #[] #[], .func (.func 66) #[] #[], .func (.func 67) #[] #[], .func (.func 68) #[] #[]] ∧ Below w.heap.size w wr) (fun i _ => 5 - (intOf i).toNat)
  case atStart =>
    obtain ⟨b1, b2, b3, b4, b5, -⟩ := blks4 (Below.refl _ _)
    exact ⟨0, _, rfl, .inl ⟨rfl, rfl⟩, b1, b2, b3, b4, b5⟩
  case round =>
    obtain ⟨ii, C, rfl, hst, bz, bl, bw, bf, hbel⟩ := hrel
    have BZ := Lib.hid bz; have BL := Lib.hid bl; have BW := Lib.hid bw; have BF := Lib.hid bf; have HB := Lib.hid hbel
    clear bz bl bw bf hbel
    have HVr := Lib.hid (HV.out.keep HB.out); have HMr := Lib.hid (HM.out.keep HB.out); have HPr := Lib.hid (HP.out.keep HB.out)
    rcases hst with ⟨rfl, rfl⟩ | ⟨rfl, k, m, hP, rfl⟩ | ⟨rfl, k, m, hP, hU, rfl⟩ | ⟨rfl, k, m, hP, hU, rfl⟩ | ⟨rfl, k, m, hP, hU, rfl⟩ | ⟨rfl, k, m, path, hH, hN, hP, rfl⟩
    · have q1 := BW.out.cell 0
      have q2 := BF.out.cell 0
      simp only [List.getElem?_toArray, List.getElem?_cons_succ, List.getElem?_cons_zero] at q1 q2
      go_wp2_with fail
      refine (permsField ⟨p.toArray⟩ _ _ (by simp [ByteArray.size]; omega) BL.out).mono ?_
      rintro e w2 ⟨k, m, rfl, hb2, hg, hx⟩
      change (∀ x, permP p = some x → x = (k, m)) at hx
      rw [show (ByteArray.mk p.toArray).data.toList = p from rfl]
      have BZ2 := Lib.hid (BZ.out.grown hg (by simp)); have BW2 := Lib.hid (BW.out.grown hg (by simp <;> omega)); have BF2 := Lib.hid (BF.out.grown hg (by simp <;> omega)); have BL2 := Lib.hid hb2
      have HB2 := Lib.hid (HB.out.grown hg HB.out.size (fun k hk => by injection hk; omega))
      clear hg hb2
      cases hp : permP p with
      | none =>
        have HX := Lib.hid hp
        clear hx hp
        simp only [Option.isSome_none]
        go_wp2_with (first | ((with_reducible refine at_load (ty := 60) (x := .tmp 4) ?_ ?_); exact rfl; refine wpList_load_blk rfl 60 (.tmp 4) rfl _ rfl BL2.out whole_LineD ?_) | ((with_reducible refine at_store (ty := 60) (x := .tmp 2) (y := .tmp 45) ?_ ?_); exact rfl; refine wpList_store_blk rfl 60 (.tmp 2) (.tmp 45) rfl _ rfl BZ2.out rfl (by kernel_rfl) rfl rfl ?_; intro w3 b3 g3))
        refine ret_blk_tmp rfl rfl b3 whole_LineD rfl rfl ⟨pe_none ?_ rfl rfl, HB2.out.grown g3 HB2.out.size (fun k hk => by injection hk; omega)⟩
        rw [HR.out, head_no1 HX.out]; rfl
      | some y =>
        have hy := hx y hp
        subst hy
        have HX := Lib.hid hp
        clear hx hp
        simp only [Option.isSome_some]
        go_wp2_with fail
        go_roundw
        case rel => exact ⟨1, _, by go_num, .inr (.inl ⟨rfl, k, m, HX.out, rfl⟩), BZ2.out, BL2.out, BW2.out, BF2.out, HB2.out⟩
        case measure => simp [intOf]
    · have q1 := BW.out.cell 1
      have q2 := BF.out.cell 1
      simp only [List.getElem?_toArray, List.getElem?_cons_succ, List.getElem?_cons_zero] at q1 q2
      have HH := Lib.hid hP; clear hP
      go_wp2_with fail
      refine (uidField ⟨u.toArray⟩ _ _ (by simp [ByteArray.size]; omega) HVr.out BL.out).mono ?_
      rintro e w2 ⟨rfl, hb2, hg⟩
      rw [show (ByteArray.mk u.toArray).data.toList = u from rfl] at hb2 ⊢
      have BZ2 := Lib.hid (BZ.out.grown hg (by simp)); have BW2 := Lib.hid (BW.out.grown hg (by simp <;> omega)); have BF2 := Lib.hid (BF.out.grown hg (by simp <;> omega)); have BL2 := Lib.hid hb2
      have HB2 := Lib.hid (HB.out.grown hg HB.out.size (fun k hk => by injection hk; omega))
      clear hg hb2
      by_cases hx : decErr u = 0
      · have HX := Lib.hid hx
        rw [decide_eq_true hx]
        clear hx
        go_wp2_with fail
        go_roundw
        case rel => exact ⟨2, _, by go_num, .inr (.inr (.inl ⟨rfl, k, m, HH.out, HX.out, rfl⟩)), BZ2.out, BL2.out, BW2.out, BF2.out, HB2.out⟩
        case measure => simp [intOf]
      · have HX := Lib.hid hx
        rw [decide_eq_false hx]
        clear hx
        go_wp2_with (first | ((with_reducible refine at_load (ty := 60) (x := .tmp 4) ?_ ?_); exact rfl; refine wpList_load_blk rfl 60 (.tmp 4) rfl _ rfl BL2.out whole_LineD ?_) | ((with_reducible refine at_store (ty := 60) (x := .tmp 2) (y := .tmp 45) ?_ ?_); exact rfl; refine wpList_store_blk rfl 60 (.tmp 2) (.tmp 45) rfl _ rfl BZ2.out rfl (by kernel_rfl) rfl rfl ?_; intro w3 b3 g3))
        refine ret_blk_tmp rfl rfl b3 whole_LineD rfl rfl ⟨pe_none ?_ rfl rfl, HB2.out.grown g3 HB2.out.size (fun k hk => by injection hk; omega)⟩
        rw [HR.out, head_no3 (fun h => HX.out h.1)]; rfl
    · have q1 := BW.out.cell 2
      have q2 := BF.out.cell 2
      simp only [List.getElem?_toArray, List.getElem?_cons_succ, List.getElem?_cons_zero] at q1 q2
      have HH := Lib.hid hP; clear hP
      have HU := Lib.hid hU; clear hU
      go_wp2_with fail
      refine (gidField ⟨g.toArray⟩ _ _ (by simp [ByteArray.size]; omega) HVr.out BL.out).mono ?_
      rintro e w2 ⟨rfl, hb2, hg⟩
      rw [show (ByteArray.mk g.toArray).data.toList = g from rfl] at hb2 ⊢
      have BZ2 := Lib.hid (BZ.out.grown hg (by simp)); have BW2 := Lib.hid (BW.out.grown hg (by simp <;> omega)); have BF2 := Lib.hid (BF.out.grown hg (by simp <;> omega)); have BL2 := Lib.hid hb2
      have HB2 := Lib.hid (HB.out.grown hg HB.out.size (fun k hk => by injection hk; omega))
      clear hg hb2
      by_cases hx : decErr g = 0
      · have HX := Lib.hid hx
        rw [decide_eq_true hx]
        clear hx
        go_wp2_with fail
        go_roundw
        case rel => exact ⟨3, _, by go_num, .inr (.inr (.inr (.inl ⟨rfl, k, m, HH.out, ⟨HU.out, HX.out⟩, rfl⟩))), BZ2.out, BL2.out, BW2.out, BF2.out, HB2.out⟩
        case measure => simp [intOf]
      · have HX := Lib.hid hx
        rw [decide_eq_false hx]
        clear hx
        go_wp2_with (first | ((with_reducible refine at_load (ty := 60) (x := .tmp 4) ?_ ?_); exact rfl; refine wpList_load_blk rfl 60 (.tmp 4) rfl _ rfl BL2.out whole_LineD ?_) | ((with_reducible refine at_store (ty := 60) (x := .tmp 2) (y := .tmp 45) ?_ ?_); exact rfl; refine wpList_store_blk rfl 60 (.tmp 2) (.tmp 45) rfl _ rfl BZ2.out rfl (by kernel_rfl) rfl rfl ?_; intro w3 b3 g3))
        refine ret_blk_tmp rfl rfl b3 whole_LineD rfl rfl ⟨pe_none ?_ rfl rfl, HB2.out.grown g3 HB2.out.size (fun k hk => by injection hk; omega)⟩
        rw [HR.out, head_no3 (fun h => HX.out h.2.1)]; rfl
    · have q1 := BW.out.cell 3
      have q2 := BF.out.cell 3
      simp only [List.getElem?_toArray, List.getElem?_cons_succ, List.getElem?_cons_zero] at q1 q2
      have HH := Lib.hid hP; clear hP
      have HU := Lib.hid hU; clear hU
      go_wp2_with fail
      refine (timeField ⟨t.toArray⟩ _ _ (by simp [ByteArray.size]; omega) HMr.out HVr.out BL.out).mono ?_
      rintro e w2 ⟨rfl, hb2, hg⟩
      rw [show (ByteArray.mk t.toArray).data.toList = t from rfl] at hb2 ⊢
      have BZ2 := Lib.hid (BZ.out.grown hg (by simp)); have BW2 := Lib.hid (BW.out.grown hg (by simp <;> omega)); have BF2 := Lib.hid (BF.out.grown hg (by simp <;> omega)); have BL2 := Lib.hid hb2
      have HB2 := Lib.hid (HB.out.grown hg HB.out.size (fun k hk => by injection hk; omega))
      clear hg hb2
      by_cases hx : stErr t = 0
      · have HX := Lib.hid hx
        rw [decide_eq_true hx]
        clear hx
        go_wp2_with fail
        go_roundw
        case rel => exact ⟨4, _, by go_num, .inr (.inr (.inr (.inr (.inl ⟨rfl, k, m, HH.out, ⟨HU.out.1, HU.out.2, HX.out⟩, rfl⟩)))), BZ2.out, BL2.out, BW2.out, BF2.out, HB2.out⟩
        case measure => simp [intOf]
      · have HX := Lib.hid hx
        rw [decide_eq_false hx]
        clear hx
        go_wp2_with (first | ((with_reducible refine at_load (ty := 60) (x := .tmp 4) ?_ ?_); exact rfl; refine wpList_load_blk rfl 60 (.tmp 4) rfl _ rfl BL2.out whole_LineD ?_) | ((with_reducible refine at_store (ty := 60) (x := .tmp 2) (y := .tmp 45) ?_ ?_); exact rfl; refine wpList_store_blk rfl 60 (.tmp 2) (.tmp 45) rfl _ rfl BZ2.out rfl (by kernel_rfl) rfl rfl ?_; intro w3 b3 g3))
        refine ret_blk_tmp rfl rfl b3 whole_LineD rfl rfl ⟨pe_none ?_ rfl rfl, HB2.out.grown g3 HB2.out.size (fun k hk => by injection hk; omega)⟩
        rw [HR.out, head_no3 (fun h => HX.out h.2.2)]; rfl
    · have q1 := BW.out.cell 4
      have q2 := BF.out.cell 4
      simp only [List.getElem?_toArray, List.getElem?_cons_succ, List.getElem?_cons_zero] at q1 q2
      have HH := Lib.hid hP; clear hP
      have HU := Lib.hid hU; clear hU
      go_wp2_with fail
      refine (pathField ⟨n.toArray⟩ _ _ (by simp [ByteArray.size]; omega) BL.out).mono ?_
      rintro e w2 ⟨path, rfl, hb2, hg, hx⟩
      change (∀ x, unesc n = some x → x = path) at hx
      rw [show (ByteArray.mk n.toArray).data.toList = n from rfl]
      have BZ2 := Lib.hid (BZ.out.grown hg (by simp)); have BW2 := Lib.hid (BW.out.grown hg (by simp <;> omega)); have BF2 := Lib.hid (BF.out.grown hg (by simp <;> omega)); have BL2 := Lib.hid hb2
      have HB2 := Lib.hid (HB.out.grown hg HB.out.size (fun k hk => by injection hk; omega))
      clear hg hb2
      cases hp : unesc n with
      | none =>
        have HX := Lib.hid hp
        clear hx hp
        simp only [Option.isSome_none]
        go_wp2_with (first | ((with_reducible refine at_load (ty := 60) (x := .tmp 4) ?_ ?_); exact rfl; refine wpList_load_blk rfl 60 (.tmp 4) rfl _ rfl BL2.out whole_LineD ?_) | ((with_reducible refine at_store (ty := 60) (x := .tmp 2) (y := .tmp 45) ?_ ?_); exact rfl; refine wpList_store_blk rfl 60 (.tmp 2) (.tmp 45) rfl _ rfl BZ2.out rfl (by kernel_rfl) rfl rfl ?_; intro w3 b3 g3))
        refine ret_blk_tmp rfl rfl b3 whole_LineD rfl rfl ⟨pe_none ?_ rfl rfl, HB2.out.grown g3 HB2.out.size (fun k hk => by injection hk; omega)⟩
        rw [HR.out, head_no2 HX.out]; rfl
      | some y =>
        have hy := hx y hp
        subst hy
        have HX := Lib.hid hp
        clear hx hp
        simp only [Option.isSome_some]
        go_wp2_with fail
        go_roundw
        case rel => exact ⟨5, _, by go_num, .inr (.inr (.inr (.inr (.inr ⟨rfl, k, m, _, head_yes HH.out HX.out HU.out, HX.out, HH.out, rfl⟩)))), BZ2.out, BL2.out, BW2.out, BF2.out, HB2.out⟩
        case measure => simp [intOf]
    · have HH := Lib.hid hP; have HHd := Lib.hid hH; have HN := Lib.hid hN
      have zpa := unesc_len hN
      clear hP hH hN
      have hw4 : ∃ w4, w4 = wr := ⟨_, rfl⟩
      obtain ⟨w4, hw4⟩ := hw4
      rw [← hw4] at BZ BL BW BF HB HVr HMr HPr ⊢
      clear hw4
      go_wp2_with ((with_reducible refine at_load (ty := 60) (x := .tmp 4) ?_ ?_); exact rfl; refine wpList_load_blk rfl 60 (.tmp 4) rfl _ rfl BL.out whole_LineD ?_)
      obtain ⟨d, hd⟩ : ∃ d, d = (⟨⟨path.toArray⟩, k, m, decV u, decV g, ⟨stS t, stN t⟩, [], ⟨#[]⟩, ⟨#[]⟩⟩ : LineD) := ⟨_, rfl⟩
      have RD : LineD.rd w4 (Up w.heap.size w4) [.string ⟨path.toArray⟩, .int .i64 k, .int .i64 m, .int .i64 (decV u), .int .i64 (decV g), .int .i64 (stS t), .int .i64 (stN t), .slice none 0 0, .string ⟨#[]⟩, .string ⟨#[]⟩] d := by
        rw [hd]
        exact rd_line (by simp [ByteArray.size, maxLen]; omega) (perm_I64 HH.out).1 (perm_I64 HH.out).2 (dec_I64 u) (dec_I64 g) (st_I64 t).1 (st_I64 t).2 (Nat.le_refl _) (by simp [maxLen]) Row.nil (by simp [maxLen, ByteArray.size]) (by simp [maxLen, ByteArray.size])
      have SM : SmallD d := by
        rw [hd]
        refine ⟨?_, ?_, ?_, ?_⟩ <;> (simp [ByteArray.size]; try omega)
      have hR2 : R = checkF s.data.toList d := by rw [HR.out, HHd.out]; show checkF _ _ = _; rw [hd]
      have HRD := Lib.hid RD; have HSM := Lib.hid SM; have HR2 := Lib.hid hR2
      have HRO := Lib.hid (Shape.LineD.more (M' := Old w4) RD fun n hn => hn.2)
      clear RD SM hR2 hd HR
      by_cases hok : rOk d = true
      · have HOK := Lib.hid hok
        clear hok
        refine (show_ok d _ HRO.out HPr.out HSM.out HOK.out).mono ?_
        rintro e w5 ⟨rfl, hb5⟩
        have BL5 := Lib.hid (BL.out.below hb5 BL.out.lt); have BZ5 := Lib.hid (BZ.out.below hb5 BZ.out.lt); have HB5 := Lib.hid (HB.out.trans (hb5.mono HB.out.size))
        have HRD5 := Lib.hid (Shape.LineD.more (M' := Up w.heap.size w5) (Shape.LineD.keep HRD.out (w' := w5) (fun n hn => hb5.block n hn.2)) fun n hn => ⟨hn.1, Nat.lt_of_lt_of_le hn.2 hb5.size⟩)
        clear hb5
        unfold strV
        by_cases hte : lineBody d = s.data.toList
        · have kt := str_eq_data hte
          have HTE := Lib.hid hte
          clear hte
          go_wp2_with (first | ((with_reducible refine at_load (ty := 60) (x := .tmp 4) ?_ ?_); exact rfl; refine wpList_load_blk rfl 60 (.tmp 4) rfl _ rfl BL5.out whole_LineD ?_) | ((with_reducible refine at_store (ty := 60) (x := .tmp 2) (y := .tmp 85) ?_ ?_); exact rfl; refine wpList_store_blk rfl 60 (.tmp 2) (.tmp 85) rfl _ rfl BZ5.out rfl (by kernel_rfl) rfl rfl ?_; intro w6 b6 g6))
          refine ret_blk_tmp rfl rfl b6 whole_LineD rfl rfl ⟨pe_some (HR2.out.trans (check_yes HOK.out HTE.out)) ?_, HB5.out.grown g6 HB5.out.size (fun k hk => by injection hk; omega)⟩
          exact Shape.LineD.more (Shape.LineD.keep HRD5.out (w' := w6) (Keeps.grown g6 fun n hn => ⟨hn.2, by have := hn.1; intro e; injection e; omega⟩)) fun n hn => ⟨by have := hn.1; omega, Nat.lt_of_lt_of_le hn.2 g6.size⟩
        · have kt := str_ne_data hte
          have HTE := Lib.hid hte
          clear hte
          go_wp2_with (first | ((with_reducible refine at_load (ty := 60) (x := .tmp 4) ?_ ?_); exact rfl; refine wpList_load_blk rfl 60 (.tmp 4) rfl _ rfl BL5.out whole_LineD ?_) | ((with_reducible refine at_store (ty := 60) (x := .tmp 2) (y := .tmp 85) ?_ ?_); exact rfl; refine wpList_store_blk rfl 60 (.tmp 2) (.tmp 85) rfl _ rfl BZ5.out rfl (by kernel_rfl) rfl rfl ?_; intro w6 b6 g6))
          exact ret_blk_tmp rfl rfl b6 whole_LineD rfl rfl ⟨pe_none (HR2.out.trans (check_no2 HTE.out)) rfl rfl, HB5.out.grown g6 HB5.out.size (fun k hk => by injection hk; omega)⟩
      · rw [Bool.not_eq_true] at hok
        have HOK := Lib.hid hok
        clear hok
        refine (show_bad d _ HRO.out HPr.out HOK.out).mono ?_
        rintro e w5 ⟨rfl, hb5⟩
        have BL5 := Lib.hid (BL.out.below hb5 BL.out.lt); have BZ5 := Lib.hid (BZ.out.below hb5 BZ.out.lt); have HB5 := Lib.hid (HB.out.trans (hb5.mono HB.out.size))
        clear hb5
        go_wp2_with (first | ((with_reducible refine at_load (ty := 60) (x := .tmp 4) ?_ ?_); exact rfl; refine wpList_load_blk rfl 60 (.tmp 4) rfl _ rfl BL5.out whole_LineD ?_) | ((with_reducible refine at_store (ty := 60) (x := .tmp 2) (y := .tmp 85) ?_ ?_); exact rfl; refine wpList_store_blk rfl 60 (.tmp 2) (.tmp 85) rfl _ rfl BZ5.out rfl (by kernel_rfl) rfl rfl ?_; intro w6 b6 g6))
        exact ret_blk_tmp rfl rfl b6 whole_LineD rfl rfl ⟨pe_none (HR2.out.trans (check_no1 HOK.out)) rfl rfl, HB5.out.grown g6 HB5.out.size (fun k hk => by injection hk; omega)⟩
end Go.Proofs.YtfhfcipelgogjaaGreatDoor
namespace Go.Proofs.YtfhfcipelgogjaaGreatDoor
open Go.RowKit
set_option linter.unusedVariables false
set_option linter.unusedSimpArgs false
set_option maxHeartbeats 4000000 in
set_option maxRecDepth 100000 in
theorem parse7 (s : ByteArray) (w : World) (hs : s.size ≤ 67108864) (hm : MaxLenOk w) (hv : ErrRangeOk w) (hp : Pow10 w) {p u g t n mk x : List UInt8} (hsp : splitW 32 s.data.toList = [p, u, g, t, n, mk, x]) :
    Calls Tryz.prog 35 #[.string s] w fun e w' => ParseEnd (lineF restC s.data.toList) w w' e ∧ Below w.heap.size w w' := by
  have hl : lineF restC s.data.toList = (headF p u g t n).bind fun d => (restC d mk x).bind (checkF s.data.toList) := by unfold lineF; rw [hsp]
  obtain ⟨R, hR⟩ : ∃ R, R = lineF restC s.data.toList := ⟨_, rfl⟩
  rw [← hR]
  rw [hl] at hR
  have HR := Lib.hid hR
  have z : ∀ x' ∈ [p, u, g, t, n, mk, x], x'.length ≤ s.size := fun x' hx => by
    have := splitW_small (b := 32) (l := s.data.toList) (w := x') (by rw [hsp]; exact hx)
    rwa [Array.length_toList] at this
  have zp := z p (by simp); have zu := z u (by simp); have zg := z g (by simp); have zt := z t (by simp); have zn := z n (by simp); have zmk := z mk (by simp); have zx := z x (by simp)
  have SC : Hid (∀ W, MaxLenOk W → Calls Tryz.prog 63 #[.string s, .string ⟨#[32]⟩] W fun e w' => e = .returned (.slice (some ⟨W.heap.size, 0, none⟩) 7 7) ∧
      w' = W.alloc (.cells #[.string ⟨p.toArray⟩, .string ⟨u.toArray⟩, .string ⟨g.toArray⟩, .string ⟨t.toArray⟩, .string ⟨n.toArray⟩, .string ⟨mk.toArray⟩, .string ⟨x.toArray⟩] 9)) := Lib.hid fun W hM => by
    obtain ⟨m, hM⟩ := hM
    have := splitCalls s W m (by omega) hM
    rw [hsp] at this
    exact this
  have HM := Lib.hid hm; have HV := Lib.hid hv; have HP := Lib.hid hp
  clear hR hl hsp z hm hv hp
  go_enter Tryz.func35, Tryz.ntmps35
  go_wp2_with fail
  refine (SC.out _ (HM.out.keep (by go_grown))).mono ?_
  rintro e w1 ⟨rfl, rfl⟩
  go_wp2_with fail
  go_loopw [33] (fun i wr => ∃ (ii : Nat) (C : Array Value), i = .int .i64 ii ∧ Stg p u g t n ii C ∧ Blk wr w.heap.size 60 #[.string ⟨#[]⟩, .int .i64 0, .int .i64 0, .int .i64 0, .int .i64 0, .int .i64 0, .int .i64 0, .slice none 0 0, .string ⟨#[]⟩, .string ⟨#[]⟩] ∧ Blk wr (w.heap.size + 1) 60 C ∧ Blk wr (w.heap.size + 1 + 1) 9 #[.string ⟨p.toArray⟩, .string ⟨u.toArray⟩, .string ⟨g.toArray⟩, .string ⟨t.toArray⟩, .string ⟨n.toArray⟩, .string ⟨mk.toArray⟩, .string ⟨x.toArray⟩] ∧ Blk wr (w.heap.size + 1 + 1 + 1) 138 #[.func (.func 64) #[] #[], .func (.func 65) #[] #[], .func (.func 66) #[] #[], .func (.func 67) #[] #[], .func (.func 68) #[] #[]] ∧ Below w.heap.size w wr) (fun i _ => 5 - (intOf i).toNat)
  case atStart =>
    obtain ⟨b1, b2, b3, b4, b5, -⟩ := blks4 (Below.refl _ _)
    exact ⟨0, _, rfl, .inl ⟨rfl, rfl⟩, b1, b2, b3, b4, b5⟩
  case round =>
    obtain ⟨ii, C, rfl, hst, bz, bl, bw, bf, hbel⟩ := hrel
    have BZ := Lib.hid bz; have BL := Lib.hid bl; have BW := Lib.hid bw; have BF := Lib.hid bf; have HB := Lib.hid hbel
    clear bz bl bw bf hbel
    have HVr := Lib.hid (HV.out.keep HB.out); have HMr := Lib.hid (HM.out.keep HB.out); have HPr := Lib.hid (HP.out.keep HB.out)
    rcases hst with ⟨rfl, rfl⟩ | ⟨rfl, k, m, hP, rfl⟩ | ⟨rfl, k, m, hP, hU, rfl⟩ | ⟨rfl, k, m, hP, hU, rfl⟩ | ⟨rfl, k, m, hP, hU, rfl⟩ | ⟨rfl, k, m, path, hH, hN, hP, rfl⟩
    · have q1 := BW.out.cell 0
      have q2 := BF.out.cell 0
      simp only [List.getElem?_toArray, List.getElem?_cons_succ, List.getElem?_cons_zero] at q1 q2
      go_wp2_with fail
      refine (permsField ⟨p.toArray⟩ _ _ (by simp [ByteArray.size]; omega) BL.out).mono ?_
      rintro e w2 ⟨k, m, rfl, hb2, hg, hx⟩
      change (∀ x, permP p = some x → x = (k, m)) at hx
      rw [show (ByteArray.mk p.toArray).data.toList = p from rfl]
      have BZ2 := Lib.hid (BZ.out.grown hg (by simp)); have BW2 := Lib.hid (BW.out.grown hg (by simp <;> omega)); have BF2 := Lib.hid (BF.out.grown hg (by simp <;> omega)); have BL2 := Lib.hid hb2
      have HB2 := Lib.hid (HB.out.grown hg HB.out.size (fun k hk => by injection hk; omega))
      clear hg hb2
      cases hp : permP p with
      | none =>
        have HX := Lib.hid hp
        clear hx hp
        simp only [Option.isSome_none]
        go_wp2_with (first | ((with_reducible refine at_load (ty := 60) (x := .tmp 4) ?_ ?_); exact rfl; refine wpList_load_blk rfl 60 (.tmp 4) rfl _ rfl BL2.out whole_LineD ?_) | ((with_reducible refine at_store (ty := 60) (x := .tmp 2) (y := .tmp 45) ?_ ?_); exact rfl; refine wpList_store_blk rfl 60 (.tmp 2) (.tmp 45) rfl _ rfl BZ2.out rfl (by kernel_rfl) rfl rfl ?_; intro w3 b3 g3))
        refine ret_blk_tmp rfl rfl b3 whole_LineD rfl rfl ⟨pe_none ?_ rfl rfl, HB2.out.grown g3 HB2.out.size (fun k hk => by injection hk; omega)⟩
        rw [HR.out, head_no1 HX.out]; rfl
      | some y =>
        have hy := hx y hp
        subst hy
        have HX := Lib.hid hp
        clear hx hp
        simp only [Option.isSome_some]
        go_wp2_with fail
        go_roundw
        case rel => exact ⟨1, _, by go_num, .inr (.inl ⟨rfl, k, m, HX.out, rfl⟩), BZ2.out, BL2.out, BW2.out, BF2.out, HB2.out⟩
        case measure => simp [intOf]
    · have q1 := BW.out.cell 1
      have q2 := BF.out.cell 1
      simp only [List.getElem?_toArray, List.getElem?_cons_succ, List.getElem?_cons_zero] at q1 q2
      have HH := Lib.hid hP; clear hP
      go_wp2_with fail
      refine (uidField ⟨u.toArray⟩ _ _ (by simp [ByteArray.size]; omega) HVr.out BL.out).mono ?_
      rintro e w2 ⟨rfl, hb2, hg⟩
      rw [show (ByteArray.mk u.toArray).data.toList = u from rfl] at hb2 ⊢
      have BZ2 := Lib.hid (BZ.out.grown hg (by simp)); have BW2 := Lib.hid (BW.out.grown hg (by simp <;> omega)); have BF2 := Lib.hid (BF.out.grown hg (by simp <;> omega)); have BL2 := Lib.hid hb2
      have HB2 := Lib.hid (HB.out.grown hg HB.out.size (fun k hk => by injection hk; omega))
      clear hg hb2
      by_cases hx : decErr u = 0
      · have HX := Lib.hid hx
        rw [decide_eq_true hx]
        clear hx
        go_wp2_with fail
        go_roundw
        case rel => exact ⟨2, _, by go_num, .inr (.inr (.inl ⟨rfl, k, m, HH.out, HX.out, rfl⟩)), BZ2.out, BL2.out, BW2.out, BF2.out, HB2.out⟩
        case measure => simp [intOf]
      · have HX := Lib.hid hx
        rw [decide_eq_false hx]
        clear hx
        go_wp2_with (first | ((with_reducible refine at_load (ty := 60) (x := .tmp 4) ?_ ?_); exact rfl; refine wpList_load_blk rfl 60 (.tmp 4) rfl _ rfl BL2.out whole_LineD ?_) | ((with_reducible refine at_store (ty := 60) (x := .tmp 2) (y := .tmp 45) ?_ ?_); exact rfl; refine wpList_store_blk rfl 60 (.tmp 2) (.tmp 45) rfl _ rfl BZ2.out rfl (by kernel_rfl) rfl rfl ?_; intro w3 b3 g3))
        refine ret_blk_tmp rfl rfl b3 whole_LineD rfl rfl ⟨pe_none ?_ rfl rfl, HB2.out.grown g3 HB2.out.size (fun k hk => by injection hk; omega)⟩
        rw [HR.out, head_no3 (fun h => HX.out h.1)]; rfl
    · have q1 := BW.out.cell 2
      have q2 := BF.out.cell 2
      simp only [List.getElem?_toArray, List.getElem?_cons_succ, List.getElem?_cons_zero] at q1 q2
      have HH := Lib.hid hP; clear hP
      have HU := Lib.hid hU; clear hU
      go_wp2_with fail
      refine (gidField ⟨g.toArray⟩ _ _ (by simp [ByteArray.size]; omega) HVr.out BL.out).mono ?_
      rintro e w2 ⟨rfl, hb2, hg⟩
      rw [show (ByteArray.mk g.toArray).data.toList = g from rfl] at hb2 ⊢
      have BZ2 := Lib.hid (BZ.out.grown hg (by simp)); have BW2 := Lib.hid (BW.out.grown hg (by simp <;> omega)); have BF2 := Lib.hid (BF.out.grown hg (by simp <;> omega)); have BL2 := Lib.hid hb2
      have HB2 := Lib.hid (HB.out.grown hg HB.out.size (fun k hk => by injection hk; omega))
      clear hg hb2
      by_cases hx : decErr g = 0
      · have HX := Lib.hid hx
        rw [decide_eq_true hx]
        clear hx
        go_wp2_with fail
        go_roundw
        case rel => exact ⟨3, _, by go_num, .inr (.inr (.inr (.inl ⟨rfl, k, m, HH.out, ⟨HU.out, HX.out⟩, rfl⟩))), BZ2.out, BL2.out, BW2.out, BF2.out, HB2.out⟩
        case measure => simp [intOf]
      · have HX := Lib.hid hx
        rw [decide_eq_false hx]
        clear hx
        go_wp2_with (first | ((with_reducible refine at_load (ty := 60) (x := .tmp 4) ?_ ?_); exact rfl; refine wpList_load_blk rfl 60 (.tmp 4) rfl _ rfl BL2.out whole_LineD ?_) | ((with_reducible refine at_store (ty := 60) (x := .tmp 2) (y := .tmp 45) ?_ ?_); exact rfl; refine wpList_store_blk rfl 60 (.tmp 2) (.tmp 45) rfl _ rfl BZ2.out rfl (by kernel_rfl) rfl rfl ?_; intro w3 b3 g3))
        refine ret_blk_tmp rfl rfl b3 whole_LineD rfl rfl ⟨pe_none ?_ rfl rfl, HB2.out.grown g3 HB2.out.size (fun k hk => by injection hk; omega)⟩
        rw [HR.out, head_no3 (fun h => HX.out h.2.1)]; rfl
    · have q1 := BW.out.cell 3
      have q2 := BF.out.cell 3
      simp only [List.getElem?_toArray, List.getElem?_cons_succ, List.getElem?_cons_zero] at q1 q2
      have HH := Lib.hid hP; clear hP
      have HU := Lib.hid hU; clear hU
      go_wp2_with fail
      refine (timeField ⟨t.toArray⟩ _ _ (by simp [ByteArray.size]; omega) HMr.out HVr.out BL.out).mono ?_
      rintro e w2 ⟨rfl, hb2, hg⟩
      rw [show (ByteArray.mk t.toArray).data.toList = t from rfl] at hb2 ⊢
      have BZ2 := Lib.hid (BZ.out.grown hg (by simp)); have BW2 := Lib.hid (BW.out.grown hg (by simp <;> omega)); have BF2 := Lib.hid (BF.out.grown hg (by simp <;> omega)); have BL2 := Lib.hid hb2
      have HB2 := Lib.hid (HB.out.grown hg HB.out.size (fun k hk => by injection hk; omega))
      clear hg hb2
      by_cases hx : stErr t = 0
      · have HX := Lib.hid hx
        rw [decide_eq_true hx]
        clear hx
        go_wp2_with fail
        go_roundw
        case rel => exact ⟨4, _, by go_num, .inr (.inr (.inr (.inr (.inl ⟨rfl, k, m, HH.out, ⟨HU.out.1, HU.out.2, HX.out⟩, rfl⟩)))), BZ2.out, BL2.out, BW2.out, BF2.out, HB2.out⟩
        case measure => simp [intOf]
      · have HX := Lib.hid hx
        rw [decide_eq_false hx]
        clear hx
        go_wp2_with (first | ((with_reducible refine at_load (ty := 60) (x := .tmp 4) ?_ ?_); exact rfl; refine wpList_load_blk rfl 60 (.tmp 4) rfl _ rfl BL2.out whole_LineD ?_) | ((with_reducible refine at_store (ty := 60) (x := .tmp 2) (y := .tmp 45) ?_ ?_); exact rfl; refine wpList_store_blk rfl 60 (.tmp 2) (.tmp 45) rfl _ rfl BZ2.out rfl (by kernel_rfl) rfl rfl ?_; intro w3 b3 g3))
        refine ret_blk_tmp rfl rfl b3 whole_LineD rfl rfl ⟨pe_none ?_ rfl rfl, HB2.out.grown g3 HB2.out.size (fun k hk => by injection hk; omega)⟩
        rw [HR.out, head_no3 (fun h => HX.out h.2.2)]; rfl
    · have q1 := BW.out.cell 4
      have q2 := BF.out.cell 4
      simp only [List.getElem?_toArray, List.getElem?_cons_succ, List.getElem?_cons_zero] at q1 q2
      have HH := Lib.hid hP; clear hP
      have HU := Lib.hid hU; clear hU
      go_wp2_with fail
      refine (pathField ⟨n.toArray⟩ _ _ (by simp [ByteArray.size]; omega) BL.out).mono ?_
      rintro e w2 ⟨path, rfl, hb2, hg, hx⟩
      change (∀ x, unesc n = some x → x = path) at hx
      rw [show (ByteArray.mk n.toArray).data.toList = n from rfl]
      have BZ2 := Lib.hid (BZ.out.grown hg (by simp)); have BW2 := Lib.hid (BW.out.grown hg (by simp <;> omega)); have BF2 := Lib.hid (BF.out.grown hg (by simp <;> omega)); have BL2 := Lib.hid hb2
      have HB2 := Lib.hid (HB.out.grown hg HB.out.size (fun k hk => by injection hk; omega))
      clear hg hb2
      cases hp : unesc n with
      | none =>
        have HX := Lib.hid hp
        clear hx hp
        simp only [Option.isSome_none]
        go_wp2_with (first | ((with_reducible refine at_load (ty := 60) (x := .tmp 4) ?_ ?_); exact rfl; refine wpList_load_blk rfl 60 (.tmp 4) rfl _ rfl BL2.out whole_LineD ?_) | ((with_reducible refine at_store (ty := 60) (x := .tmp 2) (y := .tmp 45) ?_ ?_); exact rfl; refine wpList_store_blk rfl 60 (.tmp 2) (.tmp 45) rfl _ rfl BZ2.out rfl (by kernel_rfl) rfl rfl ?_; intro w3 b3 g3))
        refine ret_blk_tmp rfl rfl b3 whole_LineD rfl rfl ⟨pe_none ?_ rfl rfl, HB2.out.grown g3 HB2.out.size (fun k hk => by injection hk; omega)⟩
        rw [HR.out, head_no2 HX.out]; rfl
      | some y =>
        have hy := hx y hp
        subst hy
        have HX := Lib.hid hp
        clear hx hp
        simp only [Option.isSome_some]
        go_wp2_with fail
        go_roundw
        case rel => exact ⟨5, _, by go_num, .inr (.inr (.inr (.inr (.inr ⟨rfl, k, m, _, head_yes HH.out HX.out HU.out, HX.out, HH.out, rfl⟩)))), BZ2.out, BL2.out, BW2.out, BF2.out, HB2.out⟩
        case measure => simp [intOf]
    · have HH := Lib.hid hP; have HHd := Lib.hid hH; have HN := Lib.hid hN
      have zpa := unesc_len hN
      clear hP hH hN
      have q1 := BW.out.cell 6
      simp only [List.getElem?_toArray, List.getElem?_cons_succ, List.getElem?_cons_zero] at q1
      go_wp2_with fail
      refine (manUnescape ⟨x.toArray⟩ _ (by simp [ByteArray.size]; omega)).mono ?_
      rintro e w3 ⟨rfl, δ, hδ⟩
      have hb3 : Below wr.heap.size wr w3 := by rw [hδ]; exact below_over _ _
      clear hδ q1
      rw [show (ByteArray.mk x.toArray).data.toList = x from rfl]
      have BL3 := Lib.hid (BL.out.below hb3 BL.out.lt); have BZ3 := Lib.hid (BZ.out.below hb3 BZ.out.lt); have BW3 := Lib.hid (BW.out.below hb3 BW.out.lt)
      have HB3 := Lib.hid (HB.out.trans (hb3.mono HB.out.size)); have HP3 := Lib.hid (HPr.out.keep hb3)
      clear hb3
      cases hx : unesc x with
      | none =>
        have hR2 : R = none := by rw [HR.out, HHd.out]; show (restC _ mk x).bind _ = none; rw [restC_0 hx]; rfl
        have HR2 := Lib.hid hR2
        clear hx hR2
        unfold unescEnd strV
        go_wp2_with (first | ((with_reducible refine at_load (ty := 60) (x := .tmp 4) ?_ ?_); exact rfl; refine wpList_load_blk rfl 60 (.tmp 4) rfl _ rfl BL3.out whole_LineD ?_) | ((with_reducible refine at_store (ty := 60) (x := .tmp 2) (y := .tmp 63) ?_ ?_); exact rfl; refine wpList_store_blk rfl 60 (.tmp 2) (.tmp 63) rfl _ rfl BZ3.out rfl (by kernel_rfl) rfl rfl ?_; intro w5 b5 g5))
        exact ret_blk_tmp rfl rfl b5 whole_LineD rfl rfl ⟨pe_none HR2.out rfl rfl, HB3.out.grown g5 HB3.out.size (fun k hk => by injection hk; omega)⟩
      | some v =>
        have HX := Lib.hid hx
        have zv := unesc_len hx
        have q2 := BW3.out.cell 5
        simp only [List.getElem?_toArray, List.getElem?_cons_succ, List.getElem?_cons_zero] at q2
        clear hx
        unfold unescEnd strV
        by_cases h1 : mk = [61]
        · have t4 : (mk == [61]) = true := beq_iff_eq.2 h1
          have H1 := Lib.hid h1
          clear h1
          go_wp2_with (first | ((with_reducible refine at_store (ty := 9) (x := .tmp 70) (y := .tmp 69) ?_ ?_); exact rfl; refine wpList_store_run (v := .string ⟨v.toArray⟩) rfl 9 (.tmp 70) (.tmp 69) rfl rfl rfl BL3.out (store_str BL3.out (by simp)) ?_; intro w4 hb4 hg4) | ((with_reducible refine at_load (ty := 60) (x := .tmp 4) ?_ ?_); exact rfl; refine wpList_load_blk rfl 60 (.tmp 4) rfl _ rfl hb4 whole_LineD ?_))
          have BL4 := Lib.hid hb4; have BZ4 := Lib.hid (BZ3.out.grown hg4 (by simp)); have HB4 := Lib.hid (HB3.out.grown hg4 HB3.out.size (fun k hk => by injection hk; omega))
          have HP4 := Lib.hid (HP.out.keep HB4.out)
          clear hb4 hg4
          obtain ⟨d, hd⟩ : ∃ d, d = (⟨⟨path.toArray⟩, k, m, decV u, decV g, ⟨stS t, stN t⟩, [], ⟨#[]⟩, ⟨v.toArray⟩⟩ : LineD) := ⟨_, rfl⟩
          have RD : LineD.rd w4 (Up w.heap.size w4) [.string ⟨path.toArray⟩, .int .i64 k, .int .i64 m, .int .i64 (decV u), .int .i64 (decV g), .int .i64 (stS t), .int .i64 (stN t), .slice none 0 0, .string ⟨#[]⟩, .string ⟨v.toArray⟩] d := by
            rw [hd]
            exact rd_line (by simp [ByteArray.size, maxLen]; omega) (perm_I64 HH.out).1 (perm_I64 HH.out).2 (dec_I64 u) (dec_I64 g) (st_I64 t).1 (st_I64 t).2 (Nat.le_refl _) (by simp [maxLen]) Row.nil (by simp [maxLen, ByteArray.size]) (by simp [maxLen, ByteArray.size]; omega)
          have SM : SmallD d := by
            rw [hd]
            refine ⟨?_, ?_, ?_, ?_⟩ <;> (simp [ByteArray.size]; try omega)
          have hR2 : R = checkF s.data.toList d := by rw [HR.out, HHd.out]; show (restC _ mk x).bind _ = _; rw [restC_1 HX.out H1.out]; show checkF _ _ = _; rw [hd]
          have HRD := Lib.hid RD; have HSM := Lib.hid SM; have HR2 := Lib.hid hR2
          have HRO := Lib.hid (Shape.LineD.more (M' := Old w4) RD fun n hn => hn.2)
          clear RD SM hR2 hd HR
          by_cases hok : rOk d = true
          · have HOK := Lib.hid hok
            clear hok
            refine (show_ok d _ HRO.out HP4.out HSM.out HOK.out).mono ?_
            rintro e w5 ⟨rfl, hb5⟩
            have BL5 := Lib.hid (BL4.out.below hb5 BL4.out.lt); have BZ5 := Lib.hid (BZ4.out.below hb5 BZ4.out.lt); have HB5 := Lib.hid (HB4.out.trans (hb5.mono HB4.out.size))
            have HRD5 := Lib.hid (Shape.LineD.more (M' := Up w.heap.size w5) (Shape.LineD.keep HRD.out (w' := w5) (fun n hn => hb5.block n hn.2)) fun n hn => ⟨hn.1, Nat.lt_of_lt_of_le hn.2 hb5.size⟩)
            clear hb5
            unfold strV
            by_cases hte : lineBody d = s.data.toList
            · have kt := str_eq_data hte
              have HTE := Lib.hid hte
              clear hte
              go_wp2_with (first | ((with_reducible refine at_load (ty := 60) (x := .tmp 4) ?_ ?_); exact rfl; refine wpList_load_blk rfl 60 (.tmp 4) rfl _ rfl BL5.out whole_LineD ?_) | ((with_reducible refine at_store (ty := 60) (x := .tmp 2) (y := .tmp 85) ?_ ?_); exact rfl; refine wpList_store_blk rfl 60 (.tmp 2) (.tmp 85) rfl _ rfl BZ5.out rfl (by kernel_rfl) rfl rfl ?_; intro w6 b6 g6))
              refine ret_blk_tmp rfl rfl b6 whole_LineD rfl rfl ⟨pe_some (HR2.out.trans (check_yes HOK.out HTE.out)) ?_, HB5.out.grown g6 HB5.out.size (fun k hk => by injection hk; omega)⟩
              exact Shape.LineD.more (Shape.LineD.keep HRD5.out (w' := w6) (Keeps.grown g6 fun n hn => ⟨hn.2, by have := hn.1; intro e; injection e; omega⟩)) fun n hn => ⟨by have := hn.1; omega, Nat.lt_of_lt_of_le hn.2 g6.size⟩
            · have kt := str_ne_data hte
              have HTE := Lib.hid hte
              clear hte
              go_wp2_with (first | ((with_reducible refine at_load (ty := 60) (x := .tmp 4) ?_ ?_); exact rfl; refine wpList_load_blk rfl 60 (.tmp 4) rfl _ rfl BL5.out whole_LineD ?_) | ((with_reducible refine at_store (ty := 60) (x := .tmp 2) (y := .tmp 85) ?_ ?_); exact rfl; refine wpList_store_blk rfl 60 (.tmp 2) (.tmp 85) rfl _ rfl BZ5.out rfl (by kernel_rfl) rfl rfl ?_; intro w6 b6 g6))
              exact ret_blk_tmp rfl rfl b6 whole_LineD rfl rfl ⟨pe_none (HR2.out.trans (check_no2 HTE.out)) rfl rfl, HB5.out.grown g6 HB5.out.size (fun k hk => by injection hk; omega)⟩
          · rw [Bool.not_eq_true] at hok
            have HOK := Lib.hid hok
            clear hok
            refine (show_bad d _ HRO.out HP4.out HOK.out).mono ?_
            rintro e w5 ⟨rfl, hb5⟩
            have BL5 := Lib.hid (BL4.out.below hb5 BL4.out.lt); have BZ5 := Lib.hid (BZ4.out.below hb5 BZ4.out.lt); have HB5 := Lib.hid (HB4.out.trans (hb5.mono HB4.out.size))
            clear hb5
            go_wp2_with (first | ((with_reducible refine at_load (ty := 60) (x := .tmp 4) ?_ ?_); exact rfl; refine wpList_load_blk rfl 60 (.tmp 4) rfl _ rfl BL5.out whole_LineD ?_) | ((with_reducible refine at_store (ty := 60) (x := .tmp 2) (y := .tmp 85) ?_ ?_); exact rfl; refine wpList_store_blk rfl 60 (.tmp 2) (.tmp 85) rfl _ rfl BZ5.out rfl (by kernel_rfl) rfl rfl ?_; intro w6 b6 g6))
            exact ret_blk_tmp rfl rfl b6 whole_LineD rfl rfl ⟨pe_none (HR2.out.trans (check_no1 HOK.out)) rfl rfl, HB5.out.grown g6 HB5.out.size (fun k hk => by injection hk; omega)⟩
        · by_cases h2 : mk = [58]
          · have t4 : (mk == [61]) = false := beq_eq_false_iff_ne.2 h1
            have t4 : (mk == [58]) = true := beq_iff_eq.2 h2
            have H1 := Lib.hid h1
            have H2 := Lib.hid h2
            clear h1 h2
            obtain ⟨c9, w9, hrun, hg9, hs9, hnc9, hc9, hrow9⟩ := run_bytes_row (P := Tryz.prog) 9 58 Tryz.underlying9 Tryz.underlying58 Tryz.underlying5 w3 v (by unfold maxLen; omega)
            have BL9 := Lib.hid (BL3.out.grown hg9 (by simp)); have BZ9 := Lib.hid (BZ3.out.grown hg9 (by simp)); have HB9 := Lib.hid (HB3.out.grown hg9 HB3.out.size (fun k hk => by cases hk))
            have HR9 := Lib.hid hrow9
            have hlt3 := BL3.out.lt
            clear hg9 hrow9
            go_wp2_with (first | ((with_reducible refine at_store (ty := 58) (x := .tmp 75) (y := .tmp 74) ?_ ?_); exact rfl; refine wpList_store_run (v := .slice (some ⟨w3.heap.size, 0, none⟩) v.length c9) rfl 58 (.tmp 75) (.tmp 74) rfl rfl rfl BL9.out (store_sl BL9.out (by simp)) ?_; intro w4 hb4 hg4) | ((with_reducible refine at_load (ty := 60) (x := .tmp 4) ?_ ?_); exact rfl; refine wpList_load_blk rfl 60 (.tmp 4) rfl _ rfl hb4 whole_LineD ?_))
            have HR4 := Lib.hid ((HR9.out.keep (Keeps.grown hg4 (fun n hn => ⟨by omega, by intro e; injection e; omega⟩))).more (M' := Up w.heap.size w4) (fun n hn => ⟨by omega, by have := hg4.size; omega⟩))
            clear hrun
            have BL4 := Lib.hid hb4; have BZ4 := Lib.hid (BZ9.out.grown hg4 (by simp)); have HB4 := Lib.hid (HB9.out.grown hg4 HB9.out.size (fun k hk => by injection hk; omega))
            have HP4 := Lib.hid (HP.out.keep HB4.out)
            clear hb4 hg4
            obtain ⟨d, hd⟩ : ∃ d, d = (⟨⟨path.toArray⟩, k, m, decV u, decV g, ⟨stS t, stN t⟩, v, ⟨#[]⟩, ⟨#[]⟩⟩ : LineD) := ⟨_, rfl⟩
            have RD : LineD.rd w4 (Up w.heap.size w4) [.string ⟨path.toArray⟩, .int .i64 k, .int .i64 m, .int .i64 (decV u), .int .i64 (decV g), .int .i64 (stS t), .int .i64 (stN t), .slice (some ⟨w3.heap.size, 0, none⟩) v.length c9, .string ⟨#[]⟩, .string ⟨#[]⟩] d := by
              rw [hd]
              exact rd_line (by simp [ByteArray.size, maxLen]; omega) (perm_I64 HH.out).1 (perm_I64 HH.out).2 (dec_I64 u) (dec_I64 g) (st_I64 t).1 (st_I64 t).2 hnc9 hc9 HR4.out (by simp [maxLen, ByteArray.size]) (by simp [maxLen, ByteArray.size])
            have SM : SmallD d := by
              rw [hd]
              refine ⟨?_, ?_, ?_, ?_⟩ <;> (simp [ByteArray.size]; try omega)
            have hR2 : R = checkF s.data.toList d := by rw [HR.out, HHd.out]; show (restC _ mk x).bind _ = _; rw [restC_2 HX.out H1.out H2.out]; show checkF _ _ = _; rw [hd]
            have HRD := Lib.hid RD; have HSM := Lib.hid SM; have HR2 := Lib.hid hR2
            have HRO := Lib.hid (Shape.LineD.more (M' := Old w4) RD fun n hn => hn.2)
            clear RD SM hR2 hd HR
            by_cases hok : rOk d = true
            · have HOK := Lib.hid hok
              clear hok
              refine (show_ok d _ HRO.out HP4.out HSM.out HOK.out).mono ?_
              rintro e w5 ⟨rfl, hb5⟩
              have BL5 := Lib.hid (BL4.out.below hb5 BL4.out.lt); have BZ5 := Lib.hid (BZ4.out.below hb5 BZ4.out.lt); have HB5 := Lib.hid (HB4.out.trans (hb5.mono HB4.out.size))
              have HRD5 := Lib.hid (Shape.LineD.more (M' := Up w.heap.size w5) (Shape.LineD.keep HRD.out (w' := w5) (fun n hn => hb5.block n hn.2)) fun n hn => ⟨hn.1, Nat.lt_of_lt_of_le hn.2 hb5.size⟩)
              clear hb5
              unfold strV
              by_cases hte : lineBody d = s.data.toList
              · have kt := str_eq_data hte
                have HTE := Lib.hid hte
                clear hte
                go_wp2_with (first | ((with_reducible refine at_load (ty := 60) (x := .tmp 4) ?_ ?_); exact rfl; refine wpList_load_blk rfl 60 (.tmp 4) rfl _ rfl BL5.out whole_LineD ?_) | ((with_reducible refine at_store (ty := 60) (x := .tmp 2) (y := .tmp 85) ?_ ?_); exact rfl; refine wpList_store_blk rfl 60 (.tmp 2) (.tmp 85) rfl _ rfl BZ5.out rfl (by kernel_rfl) rfl rfl ?_; intro w6 b6 g6))
                refine ret_blk_tmp rfl rfl b6 whole_LineD rfl rfl ⟨pe_some (HR2.out.trans (check_yes HOK.out HTE.out)) ?_, HB5.out.grown g6 HB5.out.size (fun k hk => by injection hk; omega)⟩
                exact Shape.LineD.more (Shape.LineD.keep HRD5.out (w' := w6) (Keeps.grown g6 fun n hn => ⟨hn.2, by have := hn.1; intro e; injection e; omega⟩)) fun n hn => ⟨by have := hn.1; omega, Nat.lt_of_lt_of_le hn.2 g6.size⟩
              · have kt := str_ne_data hte
                have HTE := Lib.hid hte
                clear hte
                go_wp2_with (first | ((with_reducible refine at_load (ty := 60) (x := .tmp 4) ?_ ?_); exact rfl; refine wpList_load_blk rfl 60 (.tmp 4) rfl _ rfl BL5.out whole_LineD ?_) | ((with_reducible refine at_store (ty := 60) (x := .tmp 2) (y := .tmp 85) ?_ ?_); exact rfl; refine wpList_store_blk rfl 60 (.tmp 2) (.tmp 85) rfl _ rfl BZ5.out rfl (by kernel_rfl) rfl rfl ?_; intro w6 b6 g6))
                exact ret_blk_tmp rfl rfl b6 whole_LineD rfl rfl ⟨pe_none (HR2.out.trans (check_no2 HTE.out)) rfl rfl, HB5.out.grown g6 HB5.out.size (fun k hk => by injection hk; omega)⟩
            · rw [Bool.not_eq_true] at hok
              have HOK := Lib.hid hok
              clear hok
              refine (show_bad d _ HRO.out HP4.out HOK.out).mono ?_
              rintro e w5 ⟨rfl, hb5⟩
              have BL5 := Lib.hid (BL4.out.below hb5 BL4.out.lt); have BZ5 := Lib.hid (BZ4.out.below hb5 BZ4.out.lt); have HB5 := Lib.hid (HB4.out.trans (hb5.mono HB4.out.size))
              clear hb5
              go_wp2_with (first | ((with_reducible refine at_load (ty := 60) (x := .tmp 4) ?_ ?_); exact rfl; refine wpList_load_blk rfl 60 (.tmp 4) rfl _ rfl BL5.out whole_LineD ?_) | ((with_reducible refine at_store (ty := 60) (x := .tmp 2) (y := .tmp 85) ?_ ?_); exact rfl; refine wpList_store_blk rfl 60 (.tmp 2) (.tmp 85) rfl _ rfl BZ5.out rfl (by kernel_rfl) rfl rfl ?_; intro w6 b6 g6))
              exact ret_blk_tmp rfl rfl b6 whole_LineD rfl rfl ⟨pe_none (HR2.out.trans (check_no1 HOK.out)) rfl rfl, HB5.out.grown g6 HB5.out.size (fun k hk => by injection hk; omega)⟩
          · by_cases h3 : mk = [45, 62]
            · have t4 : (mk == [61]) = false := beq_eq_false_iff_ne.2 h1
              have t4 : (mk == [58]) = false := beq_eq_false_iff_ne.2 h2
              have t8 : (mk == [45, 62]) = true := beq_iff_eq.2 h3
              have H1 := Lib.hid h1
              have H2 := Lib.hid h2
              have H3 := Lib.hid h3
              clear h1 h2 h3
              go_wp2_with (first | ((with_reducible refine at_store (ty := 9) (x := .tmp 79) (y := .tmp 78) ?_ ?_); exact rfl; refine wpList_store_run (v := .string ⟨v.toArray⟩) rfl 9 (.tmp 79) (.tmp 78) rfl rfl rfl BL3.out (store_str BL3.out (by simp)) ?_; intro w4 hb4 hg4) | ((with_reducible refine at_load (ty := 60) (x := .tmp 4) ?_ ?_); exact rfl; refine wpList_load_blk rfl 60 (.tmp 4) rfl _ rfl hb4 whole_LineD ?_))
              have BL4 := Lib.hid hb4; have BZ4 := Lib.hid (BZ3.out.grown hg4 (by simp)); have HB4 := Lib.hid (HB3.out.grown hg4 HB3.out.size (fun k hk => by injection hk; omega))
              have HP4 := Lib.hid (HP.out.keep HB4.out)
              clear hb4 hg4
              obtain ⟨d, hd⟩ : ∃ d, d = (⟨⟨path.toArray⟩, k, m, decV u, decV g, ⟨stS t, stN t⟩, [], ⟨v.toArray⟩, ⟨#[]⟩⟩ : LineD) := ⟨_, rfl⟩
              have RD : LineD.rd w4 (Up w.heap.size w4) [.string ⟨path.toArray⟩, .int .i64 k, .int .i64 m, .int .i64 (decV u), .int .i64 (decV g), .int .i64 (stS t), .int .i64 (stN t), .slice none 0 0, .string ⟨v.toArray⟩, .string ⟨#[]⟩] d := by
                rw [hd]
                exact rd_line (by simp [ByteArray.size, maxLen]; omega) (perm_I64 HH.out).1 (perm_I64 HH.out).2 (dec_I64 u) (dec_I64 g) (st_I64 t).1 (st_I64 t).2 (Nat.le_refl _) (by simp [maxLen]) Row.nil (by simp [maxLen, ByteArray.size]; omega) (by simp [maxLen, ByteArray.size])
              have SM : SmallD d := by
                rw [hd]
                refine ⟨?_, ?_, ?_, ?_⟩ <;> (simp [ByteArray.size]; try omega)
              have hR2 : R = checkF s.data.toList d := by rw [HR.out, HHd.out]; show (restC _ mk x).bind _ = _; rw [restC_3 HX.out H1.out H2.out H3.out]; show checkF _ _ = _; rw [hd]
              have HRD := Lib.hid RD; have HSM := Lib.hid SM; have HR2 := Lib.hid hR2
              have HRO := Lib.hid (Shape.LineD.more (M' := Old w4) RD fun n hn => hn.2)
              clear RD SM hR2 hd HR
              by_cases hok : rOk d = true
              · have HOK := Lib.hid hok
                clear hok
                refine (show_ok d _ HRO.out HP4.out HSM.out HOK.out).mono ?_
                rintro e w5 ⟨rfl, hb5⟩
                have BL5 := Lib.hid (BL4.out.below hb5 BL4.out.lt); have BZ5 := Lib.hid (BZ4.out.below hb5 BZ4.out.lt); have HB5 := Lib.hid (HB4.out.trans (hb5.mono HB4.out.size))
                have HRD5 := Lib.hid (Shape.LineD.more (M' := Up w.heap.size w5) (Shape.LineD.keep HRD.out (w' := w5) (fun n hn => hb5.block n hn.2)) fun n hn => ⟨hn.1, Nat.lt_of_lt_of_le hn.2 hb5.size⟩)
                clear hb5
                unfold strV
                by_cases hte : lineBody d = s.data.toList
                · have kt := str_eq_data hte
                  have HTE := Lib.hid hte
                  clear hte
                  go_wp2_with (first | ((with_reducible refine at_load (ty := 60) (x := .tmp 4) ?_ ?_); exact rfl; refine wpList_load_blk rfl 60 (.tmp 4) rfl _ rfl BL5.out whole_LineD ?_) | ((with_reducible refine at_store (ty := 60) (x := .tmp 2) (y := .tmp 85) ?_ ?_); exact rfl; refine wpList_store_blk rfl 60 (.tmp 2) (.tmp 85) rfl _ rfl BZ5.out rfl (by kernel_rfl) rfl rfl ?_; intro w6 b6 g6))
                  refine ret_blk_tmp rfl rfl b6 whole_LineD rfl rfl ⟨pe_some (HR2.out.trans (check_yes HOK.out HTE.out)) ?_, HB5.out.grown g6 HB5.out.size (fun k hk => by injection hk; omega)⟩
                  exact Shape.LineD.more (Shape.LineD.keep HRD5.out (w' := w6) (Keeps.grown g6 fun n hn => ⟨hn.2, by have := hn.1; intro e; injection e; omega⟩)) fun n hn => ⟨by have := hn.1; omega, Nat.lt_of_lt_of_le hn.2 g6.size⟩
                · have kt := str_ne_data hte
                  have HTE := Lib.hid hte
                  clear hte
                  go_wp2_with (first | ((with_reducible refine at_load (ty := 60) (x := .tmp 4) ?_ ?_); exact rfl; refine wpList_load_blk rfl 60 (.tmp 4) rfl _ rfl BL5.out whole_LineD ?_) | ((with_reducible refine at_store (ty := 60) (x := .tmp 2) (y := .tmp 85) ?_ ?_); exact rfl; refine wpList_store_blk rfl 60 (.tmp 2) (.tmp 85) rfl _ rfl BZ5.out rfl (by kernel_rfl) rfl rfl ?_; intro w6 b6 g6))
                  exact ret_blk_tmp rfl rfl b6 whole_LineD rfl rfl ⟨pe_none (HR2.out.trans (check_no2 HTE.out)) rfl rfl, HB5.out.grown g6 HB5.out.size (fun k hk => by injection hk; omega)⟩
              · rw [Bool.not_eq_true] at hok
                have HOK := Lib.hid hok
                clear hok
                refine (show_bad d _ HRO.out HP4.out HOK.out).mono ?_
                rintro e w5 ⟨rfl, hb5⟩
                have BL5 := Lib.hid (BL4.out.below hb5 BL4.out.lt); have BZ5 := Lib.hid (BZ4.out.below hb5 BZ4.out.lt); have HB5 := Lib.hid (HB4.out.trans (hb5.mono HB4.out.size))
                clear hb5
                go_wp2_with (first | ((with_reducible refine at_load (ty := 60) (x := .tmp 4) ?_ ?_); exact rfl; refine wpList_load_blk rfl 60 (.tmp 4) rfl _ rfl BL5.out whole_LineD ?_) | ((with_reducible refine at_store (ty := 60) (x := .tmp 2) (y := .tmp 85) ?_ ?_); exact rfl; refine wpList_store_blk rfl 60 (.tmp 2) (.tmp 85) rfl _ rfl BZ5.out rfl (by kernel_rfl) rfl rfl ?_; intro w6 b6 g6))
                exact ret_blk_tmp rfl rfl b6 whole_LineD rfl rfl ⟨pe_none (HR2.out.trans (check_no1 HOK.out)) rfl rfl, HB5.out.grown g6 HB5.out.size (fun k hk => by injection hk; omega)⟩
            · have t4 : (mk == [61]) = false := beq_eq_false_iff_ne.2 h1
              have t4 : (mk == [58]) = false := beq_eq_false_iff_ne.2 h2
              have t8 : (mk == [45, 62]) = false := beq_eq_false_iff_ne.2 h3
              have H1 := Lib.hid h1
              have H2 := Lib.hid h2
              have H3 := Lib.hid h3
              clear h1 h2 h3
              go_wp2_with ((with_reducible refine at_load (ty := 60) (x := .tmp 4) ?_ ?_); exact rfl; refine wpList_load_blk rfl 60 (.tmp 4) rfl _ rfl BL3.out whole_LineD ?_)
              obtain ⟨w4, hw4⟩ : ∃ w4, w4 = w3 := ⟨_, rfl⟩
              rw [← hw4] at BZ3 BL3 HB3 HP3 ⊢
              have BL4 := BL3; have BZ4 := BZ3; have HB4 := HB3; have HP4 := HP3
              clear hw4 BL3 BZ3 HB3 HP3
              obtain ⟨d, hd⟩ : ∃ d, d = (⟨⟨path.toArray⟩, k, m, decV u, decV g, ⟨stS t, stN t⟩, [], ⟨#[]⟩, ⟨#[]⟩⟩ : LineD) := ⟨_, rfl⟩
              have RD : LineD.rd w4 (Up w.heap.size w4) [.string ⟨path.toArray⟩, .int .i64 k, .int .i64 m, .int .i64 (decV u), .int .i64 (decV g), .int .i64 (stS t), .int .i64 (stN t), .slice none 0 0, .string ⟨#[]⟩, .string ⟨#[]⟩] d := by
                rw [hd]
                exact rd_line (by simp [ByteArray.size, maxLen]; omega) (perm_I64 HH.out).1 (perm_I64 HH.out).2 (dec_I64 u) (dec_I64 g) (st_I64 t).1 (st_I64 t).2 (Nat.le_refl _) (by simp [maxLen]) Row.nil (by simp [maxLen, ByteArray.size]) (by simp [maxLen, ByteArray.size])
              have SM : SmallD d := by
                rw [hd]
                refine ⟨?_, ?_, ?_, ?_⟩ <;> (simp [ByteArray.size]; try omega)
              have hR2 : R = checkF s.data.toList d := by rw [HR.out, HHd.out]; show (restC _ mk x).bind _ = _; rw [restC_4 HX.out H1.out H2.out H3.out]; show checkF _ _ = _; rw [hd]
              have HRD := Lib.hid RD; have HSM := Lib.hid SM; have HR2 := Lib.hid hR2
              have HRO := Lib.hid (Shape.LineD.more (M' := Old w4) RD fun n hn => hn.2)
              clear RD SM hR2 hd HR
              by_cases hok : rOk d = true
              · have HOK := Lib.hid hok
                clear hok
                refine (show_ok d _ HRO.out HP4.out HSM.out HOK.out).mono ?_
                rintro e w5 ⟨rfl, hb5⟩
                have BL5 := Lib.hid (BL4.out.below hb5 BL4.out.lt); have BZ5 := Lib.hid (BZ4.out.below hb5 BZ4.out.lt); have HB5 := Lib.hid (HB4.out.trans (hb5.mono HB4.out.size))
                have HRD5 := Lib.hid (Shape.LineD.more (M' := Up w.heap.size w5) (Shape.LineD.keep HRD.out (w' := w5) (fun n hn => hb5.block n hn.2)) fun n hn => ⟨hn.1, Nat.lt_of_lt_of_le hn.2 hb5.size⟩)
                clear hb5
                unfold strV
                by_cases hte : lineBody d = s.data.toList
                · have kt := str_eq_data hte
                  have HTE := Lib.hid hte
                  clear hte
                  go_wp2_with (first | ((with_reducible refine at_load (ty := 60) (x := .tmp 4) ?_ ?_); exact rfl; refine wpList_load_blk rfl 60 (.tmp 4) rfl _ rfl BL5.out whole_LineD ?_) | ((with_reducible refine at_store (ty := 60) (x := .tmp 2) (y := .tmp 85) ?_ ?_); exact rfl; refine wpList_store_blk rfl 60 (.tmp 2) (.tmp 85) rfl _ rfl BZ5.out rfl (by kernel_rfl) rfl rfl ?_; intro w6 b6 g6))
                  refine ret_blk_tmp rfl rfl b6 whole_LineD rfl rfl ⟨pe_some (HR2.out.trans (check_yes HOK.out HTE.out)) ?_, HB5.out.grown g6 HB5.out.size (fun k hk => by injection hk; omega)⟩
                  exact Shape.LineD.more (Shape.LineD.keep HRD5.out (w' := w6) (Keeps.grown g6 fun n hn => ⟨hn.2, by have := hn.1; intro e; injection e; omega⟩)) fun n hn => ⟨by have := hn.1; omega, Nat.lt_of_lt_of_le hn.2 g6.size⟩
                · have kt := str_ne_data hte
                  have HTE := Lib.hid hte
                  clear hte
                  go_wp2_with (first | ((with_reducible refine at_load (ty := 60) (x := .tmp 4) ?_ ?_); exact rfl; refine wpList_load_blk rfl 60 (.tmp 4) rfl _ rfl BL5.out whole_LineD ?_) | ((with_reducible refine at_store (ty := 60) (x := .tmp 2) (y := .tmp 85) ?_ ?_); exact rfl; refine wpList_store_blk rfl 60 (.tmp 2) (.tmp 85) rfl _ rfl BZ5.out rfl (by kernel_rfl) rfl rfl ?_; intro w6 b6 g6))
                  exact ret_blk_tmp rfl rfl b6 whole_LineD rfl rfl ⟨pe_none (HR2.out.trans (check_no2 HTE.out)) rfl rfl, HB5.out.grown g6 HB5.out.size (fun k hk => by injection hk; omega)⟩
              · rw [Bool.not_eq_true] at hok
                have HOK := Lib.hid hok
                clear hok
                refine (show_bad d _ HRO.out HP4.out HOK.out).mono ?_
                rintro e w5 ⟨rfl, hb5⟩
                have BL5 := Lib.hid (BL4.out.below hb5 BL4.out.lt); have BZ5 := Lib.hid (BZ4.out.below hb5 BZ4.out.lt); have HB5 := Lib.hid (HB4.out.trans (hb5.mono HB4.out.size))
                clear hb5
                go_wp2_with (first | ((with_reducible refine at_load (ty := 60) (x := .tmp 4) ?_ ?_); exact rfl; refine wpList_load_blk rfl 60 (.tmp 4) rfl _ rfl BL5.out whole_LineD ?_) | ((with_reducible refine at_store (ty := 60) (x := .tmp 2) (y := .tmp 85) ?_ ?_); exact rfl; refine wpList_store_blk rfl 60 (.tmp 2) (.tmp 85) rfl _ rfl BZ5.out rfl (by kernel_rfl) rfl rfl ?_; intro w6 b6 g6))
                exact ret_blk_tmp rfl rfl b6 whole_LineD rfl rfl ⟨pe_none (HR2.out.trans (check_no1 HOK.out)) rfl rfl, HB5.out.grown g6 HB5.out.size (fun k hk => by injection hk; omega)⟩
end Go.Proofs.YtfhfcipelgogjaaGreatDoor
namespace Go.Proofs.YtfhfcipelgogjaaGreatDoor
open Go.RowKit
set_option linter.unusedVariables false
set_option linter.unusedSimpArgs false
theorem lineF_other {rest : LineD → List UInt8 → List UInt8 → Option LineD} {s : List UInt8} (h5 : (splitW 32 s).length ≠ 5) (h7 : (splitW 32 s).length ≠ 7) : lineF rest s = none := by
  unfold lineF
  split
  · next h => rw [h] at h5; exact absurd rfl h5
  · next h => rw [h] at h7; exact absurd rfl h7
  · rfl
theorem below_of_alloc2 {w w1 : World} {c1 c2 c3 : Array Value} {t1 t2 t3 : TypeId} (h : w1 = ((w.alloc (.cells c1 t1)).alloc (.cells c2 t2)).alloc (.cells c3 t3)) : Blk w1 w.heap.size t1 c1 ∧ Blk w1 (w.heap.size + 1) t2 c2 ∧ Below w.heap.size w w1 := by
  subst h
  obtain ⟨b1, b2, b3, b4, -⟩ := blks3 (Below.refl _ _)
  exact ⟨b1, b2, b4⟩
set_option maxHeartbeats 1000000 in
set_option maxRecDepth 100000 in
theorem parse_other (s : ByteArray) (w : World) (hs : s.size ≤ 67108864) (hm : MaxLenOk w) (h5 : (splitW 32 s.data.toList).length ≠ 5) (h7 : (splitW 32 s.data.toList).length ≠ 7) :
    Calls Tryz.prog 35 #[.string s] w fun e w' => ParseEnd (lineF restC s.data.toList) w w' e ∧ Below w.heap.size w w' := by
  have HR := Lib.hid (lineF_other (rest := restC) h5 h7)
  obtain ⟨R, hR⟩ : ∃ R, R = lineF restC s.data.toList := ⟨_, rfl⟩
  rw [← hR] at HR ⊢
  have SC : Hid (∀ W, MaxLenOk W → Calls Tryz.prog 63 #[.string s, .string ⟨#[32]⟩] W fun e w' => e = .returned (.slice (some ⟨W.heap.size, 0, none⟩) (splitW 32 s.data.toList).length (splitW 32 s.data.toList).length) ∧
      ∃ c, w' = W.alloc (.cells c 9)) := Lib.hid fun W hM => by
    obtain ⟨m, hM⟩ := hM
    exact (splitCalls s W m (by omega) hM).mono fun e w' h => ⟨h.1, _, h.2⟩
  generalize (splitW 32 s.data.toList).length = L at *
  have k5 : ((L : Int) == 5) = false := by rw [beq_eq_false_iff_ne]; omega
  have k7 : ((L : Int) == 7) = false := by rw [beq_eq_false_iff_ne]; omega
  have n5 : ((L : Int) != 5) = true := by simp only [bne, k5, Bool.not_false]
  have n7 : ((L : Int) != 7) = true := by simp only [bne, k7, Bool.not_false]
  have HM := Lib.hid hm
  clear hR hm h5 h7
  go_enter Tryz.func35, Tryz.ntmps35
  go_wp2_with fail
  refine (SC.out _ (HM.out.keep (by go_grown))).mono ?_
  rintro e w1 ⟨rfl, cc, hw⟩
  have hb := below_of_alloc2 hw
  obtain ⟨b1, b2, b3⟩ := hb
  have B1 := Lib.hid b1; have B2 := Lib.hid b2; have HB := Lib.hid b3
  clear hw b1 b2 b3
  go_wp2_with (first
    | ((with_reducible refine at_load (ty := 60) (x := .tmp 4) ?_ ?_); exact rfl; refine wpList_load_blk rfl 60 (.tmp 4) rfl _ rfl (B2.out.alloc _) whole_LineD ?_)
    | ((with_reducible refine at_store (ty := 60) (x := .tmp 2) (y := .tmp 30) ?_ ?_); exact rfl; refine wpList_store_blk rfl 60 (.tmp 2) (.tmp 30) rfl _ rfl (B1.out.alloc _) rfl (by kernel_rfl) rfl rfl ?_; intro w3 b3 g3))
  refine ret_blk_tmp rfl rfl b3 whole_LineD rfl rfl ⟨pe_none HR.out rfl rfl, (HB.out.alloc HB.out.size _).grown g3 (by have := HB.out.size; simp; omega) (fun k hk => by injection hk; omega)⟩
theorem manParse (s : ByteArray) (w : World) (hs : s.size ≤ 67108864) (hm : MaxLenOk w) (hv : ErrRangeOk w) (hp : Pow10 w) :
    Calls Tryz.prog 35 #[.string s] w fun e w' => ParseEnd (lineF restC s.data.toList) w w' e ∧ Below w.heap.size w w' := by
  by_cases h5 : (splitW 32 s.data.toList).length = 5
  · match hs5 : splitW 32 s.data.toList, h5 with
    | [p, u, g, t, n], _ => exact parse5 s w hs hm hv hp hs5
  · by_cases h7 : (splitW 32 s.data.toList).length = 7
    · match hs7 : splitW 32 s.data.toList, h7 with
      | [p, u, g, t, n, mk, x], _ => exact parse7 s w hs hm hv hp hs7
    · exact parse_other s w hs hm h5 h7
end Go.Proofs.YtfhfcipelgogjaaGreatDoor
