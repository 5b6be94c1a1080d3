/- OverlayTexts: the walk. No condition. -/
import Derived.Test.YtphloeafgblmnaaLvLaw
import Derived.Test.YtphloeafgblmnaaLevelsS
set_option linter.unusedSectionVars false
set_option linter.unusedVariables false
set_option linter.unusedSimpArgs false
namespace Go.Proofs.Ytphloeafgblmnaa.overlayTexts
open Go.ChangeShapes Go.WideShapes Go.ChangeAt Go.RowKit
attribute [local go_sem] cell?_over frozen?_over lt_over le_over lt2 lt3 lt4 lt5
def code : LvCode ByteArray ByteArray := ⟨id, fun _ => True, fun _ _ _ _ h => h, showS, ⟨#[]⟩, by simp [showS]⟩
theorem _root_.Go.Proofs.Ytphloeafgblmnaa.Blk.chg {w w' : World} {M : Nat → Prop} {g : Nat} {t : TypeId} {cs : Array Value} (h : Blk w g t cs) (hc : Chg M w w') (hg : ¬ M g) : Blk w' g t cs := (hc.block g h.lt hg).trans h
theorem _root_.Go.Proofs.Ytphloeafgblmnaa.Blk.cells4 {w : World} {g : Nat} {t : TypeId} {a b c d : Value} (h : Blk w g t #[a, b, c, d]) :
    w.cell? ⟨g, 0, none⟩ = some a ∧ w.cell? ⟨g, 1, none⟩ = some b ∧ w.cell? ⟨g, 2, none⟩ = some c ∧ w.cell? ⟨g, 3, none⟩ = some d := ⟨h.cell 0, h.cell 1, h.cell 2, h.cell 3⟩
/-- what a round finds -/
structure At (w4 : World) (M M' : Nat → Prop) (p q : Nat) (N : Nat) (L : List OpD) (k : Nat) (rows : List (List (ByteArray × (ByteArray × Bool)))) (rows' : List (List (ByteArray × (ByteArray × Bool)))) (wr : World) : Prop where
  ch : Chg M w4 wr
  at_ : lvS.At wr M p rows
  oth : lvS.At wr M' q rows'
  len : rows.length = N
  tab : TabIs code L k rows
theorem At.low {w4 : World} {M M' : Nat → Prop} {p q N : Nat} {L : List OpD} {k : Nat} {rows rows' : List (List (ByteArray × (ByteArray × Bool)))} {wr u : World} (h : At w4 M M' p q N L k rows rows' wr) (hM : ∀ n, M n → n < w4.heap.size) (hM' : ∀ n, M' n → n < w4.heap.size) (hb : Below wr.heap.size wr u) :
    At w4 M M' p q N L k rows rows' u :=
  ⟨h.ch.trans (Chg.of_below hb), h.at_.keep fun n hn => hb.block n (Nat.lt_of_lt_of_le (hM n hn) h.ch.size), h.oth.keep fun n hn => hb.block n (Nat.lt_of_lt_of_le (hM' n hn) h.ch.size), h.len, h.tab⟩
theorem At.next {w4 : World} {M M' : Nat → Prop} {p q N : Nat} {L : List OpD} {k : Nat} {rows rows' : List (List (ByteArray × (ByteArray × Bool)))} {wr : World} (h : At w4 M M' p q N L k rows rows' wr) (hk : k < L.length)
    (hne : (L[k].level < 0 ∨ (N : Int) ≤ L[k].level) ∨ (¬ L[k].what = 1 ∧ ¬ L[k].what = 2 ∧ ¬ L[k].what = 3)) : At w4 M M' p q N L (k + 1) rows rows' wr :=
  ⟨h.ch, h.at_, h.oth, h.len, h.tab.other hk (by rw [h.len]; exact hne)⟩
theorem At.turned {w4 : World} {M M' : Nat → Prop} {p q N : Nat} {L : List OpD} {k : Nat} {rows rows' : List (List (ByteArray × (ByteArray × Bool)))} {wr u : World} (h : At w4 M M' p q N L k rows rows' wr) (hM' : ∀ n, M' n → n < w4.heap.size ∧ ¬ M n)
    (hc : Chg M wr u) (m : Nat) (kv : List (ByteArray × (ByteArray × Bool))) (ha : lvS.At u M p (rows.set m kv)) (ht : TabIs code L (k + 1) (rows.set m kv)) : At w4 M M' p q N L (k + 1) (rows.set m kv) rows' u :=
  ⟨h.ch.trans hc, ha, h.oth.keep fun n hn => hc.block n (Nat.lt_of_lt_of_le (hM' n hn).1 h.ch.size) (hM' n hn).2, by simpa using h.len, ht⟩
theorem get_top {w4 : World} {M M' : Nat → Prop} {p q N : Nat} {L : List OpD} {k : Nat} {rows rows' : List (List (ByteArray × (ByteArray × Bool)))} {wr : World} (h : At w4 M M' p q N L k rows rows' wr) (key : ByteArray) :
    ((topKv rows key).map (·.1)).getD ⟨#[]⟩ = showS (getS L k key N).1 ∧ ((topKv rows key).map (!·.2)).getD false = (getS L k key N).2 := by
  have h1 := h.tab.get_ key trivial rows.length (Nat.le_refl _)
  rw [List.take_length, h.len] at h1
  exact h1
theorem len_top {w4 : World} {M M' : Nat → Prop} {p q N : Nat} {L : List OpD} {k : Nat} {rows rows' : List (List (ByteArray × (ByteArray × Bool)))} {wr : World} (h : At w4 M M' p q N L k rows rows' wr) (m : Nat) (hm : m < rows.length) : rows[m].length = cntS L k m k := by
  refine (h.tab m hm).len ?_ fun key _ => ⟨key, trivial, rfl⟩
  obtain ⟨r, cap, cur, refs, _, _, _, hlen, hmaps, _⟩ := h.at_
  obtain ⟨_, _, _, _, hnd⟩ := hmaps m (by omega) hm
  exact hnd
theorem At.row {w w4 : World} {M M' : Nat → Prop} {p q N : Nat} {L : List OpD} {k : Nat} {rows rows' : List (List (ByteArray × (ByteArray × Bool)))} {wr : World} {A : Option Addr} {n : Nat} (h : At w4 M M' p q N L k rows rows' wr) (hr : Row Shape.OpD w4 (Old w) A n L)
    (hb : w.heap.size ≤ w4.heap.size) (hM : ∀ n, M n → w.heap.size ≤ n) : Row Shape.OpD wr (Old wr) A n L :=
  (hr.keep (h.ch.keeps fun n hn => ⟨Nat.lt_of_lt_of_le hn hb, fun h => by have := hM n h; unfold Old at hn; omega⟩)).more fun n hn => Nat.lt_of_lt_of_le hn (Nat.le_trans hb h.ch.size)
theorem lastS_i64 {L : List OpD} (h : ∀ o ∈ L, I64 o.val) (level : Int) (key : ByteArray) (i : Nat) : I64 (lastS L level key i).2 := by
  have z : I64 0 := by constructor <;> decide
  induction i with
  | zero => exact z
  | succ i ih =>
    by_cases hi : i < L.length
    · rw [lastS_succ L level key i hi]
      split
      · split
        · exact z
        · split
          · exact z
          · split
            · exact h _ (List.getElem_mem hi)
            · exact ih
      · exact ih
    · rw [lastS, List.getElem?_eq_none (by omega)]; exact ih
theorem getS_i64 {L : List OpD} (h : ∀ o ∈ L, I64 o.val) (i : Nat) (key : ByteArray) (m : Nat) : I64 (getS L i key m).1 := by
  induction m with
  | zero => constructor <;> simp [getS]
  | succ m ih =>
    rw [getS]
    split
    · exact ih
    · exact lastS_i64 h _ _ _
set_option maxRecDepth 100000 in
set_option maxHeartbeats 8000000 in
theorem law {A : Option Addr} {n c : Nat} {l : List OpD} (N0 : Int) (hN0 : I64 N0) (w : World) (h : Row Shape.OpD w (Old w) A n l) (hnc : n ≤ c) (hcm : c ≤ maxLen) :
    Calls Try.prog 6 #[.int .i64 N0, .slice A n c] w fun e w' => e = .returned (.bool true) ∧ Below w.heap.size w w' := by
  unfold maxLen at hcm
  go_enter Try.func6, Try.ntmps6
  go_wp2_with fail
  refine (lvS.new _ N0 hN0).mono ?_
  rintro e w1 ⟨δ1, p, rfl, hw1, hat1⟩
  have b1 := below_of hw1; clear hw1
  go_wp2_with fail
  refine (lvS.new _ 1 (by constructor <;> decide)).mono ?_
  rintro e w2 ⟨δ2, q, rfl, hw2, hat2⟩
  have b2 := below_of hw2; clear hw2
  obtain ⟨M, hMdef⟩ : ∃ M, M = From w.heap.size w1 := ⟨_, rfl⟩
  obtain ⟨M', hMdef'⟩ : ∃ M', M' = From w1.heap.size w2 := ⟨_, rfl⟩
  rw [← hMdef] at hat1
  rw [← hMdef'] at hat2
  have hM1 : ∀ n, M n → w.heap.size ≤ n ∧ n < w1.heap.size := by rw [hMdef]; exact fun _ h => h
  have hM2 : ∀ n, M' n → w1.heap.size ≤ n ∧ n < w2.heap.size := by rw [hMdef']; exact fun _ h => h
  clear hMdef hMdef'
  have hat1 := hat1.keep (w' := w2) fun n hn => b2.block n (hM1 n hn).2
  obtain ⟨N, hN⟩ : ∃ N : Nat, N = (min (max N0 1) 8).toNat := ⟨_, rfl⟩
  rw [← hN] at hat1
  go_wp2_with (first | (refine (lvS.set_yes _ 0 _ _ hat2 (by decide)).mono ?_; rintro e w3 ⟨rfl, hch3, hat3⟩))
  have hat3 : lvS.At w3 M' q [[(⟨#[107]⟩, (⟨#[118]⟩, false))]] := hat3
  have hat1 := hat1.keep (w' := w3) (hch3.keeps fun n hn => ⟨Nat.lt_of_lt_of_le (hM1 n hn).2 b2.size, fun h => by have := hM2 n h; have := hM1 n hn; omega⟩)
  have b3 : Below w.heap.size w w3 := b1.trans ((b2.mono b1.size).trans (hch3.below (Nat.le_trans b1.size b2.size) fun n hn => Nat.le_trans b1.size (hM2 n hn).1))
  have hMl : ∀ n, M n → n < w3.heap.size := fun n hn => Nat.lt_of_lt_of_le (Nat.lt_of_lt_of_le (hM1 n hn).2 b2.size) hch3.size
  have hMl' : ∀ n, M' n → n < w3.heap.size ∧ ¬ M n := fun n hn => ⟨Nat.lt_of_lt_of_le (hM2 n hn).2 hch3.size, fun h => by have := hM2 n hn; have := hM1 n h; omega⟩
  have hMw : ∀ n, M n → w.heap.size ≤ n := fun n hn => (hM1 n hn).1
  clear hat2 hM1 hM2 b1 b2 hch3
  go_wp2_with (first | (refine (lvS.len_yes _ 0 hat3 (by decide)).mono ?_; rintro e w4 ⟨rfl, rfl⟩))
  refine (cut_ _ (h.keep (w' := w3) (Keeps.old b3)) hnc hcm).mono ?_
  rintro e w4 ⟨⟨n', c', rfl, hn', hnc', hcc', hrow⟩, rfl⟩
  go_wp2_with fail
  refine (refLevels N0 _).mono ?_
  rintro e w4 ⟨rfl, rfl⟩
  rw [← hN]
  have hN8 : N ≤ 8 := by omega
  have hrl : (List.replicate N ([] : List (ByteArray × (ByteArray × Bool)))).length = N := List.length_replicate
  have HAT0 := Lib.hid (At.mk (w4 := w3) (N := N) (Chg.of_below (Below.refl _ _)) hat1 hat3 hrl (TabIs.start (C := code) (l := l.take 200) N))
  have hv8 : ∀ o ∈ l.take 200, I64 o.val := by
    intro o ho
    obtain ⟨i, hi, rfl⟩ := List.getElem_of_mem ho
    obtain ⟨_, _, _, _, _, _, _, hr⟩ := hrow.at_ (i := i) (by rw [← hrow.1]; exact hi)
    exact hr.2.2.2.2
  have HN := Lib.hid hN; have HR := Lib.hid hrow; have HM := Lib.hid hMl; have HM' := Lib.hid hMl'; have HMW := Lib.hid hMw; have HB := Lib.hid b3; have HV8 := Lib.hid hv8
  clear hN hrow hat1 hat3 hMl hMl' hMw hrl h b3 hv8
  generalize l.take 200 = L at *
  go_wp2_with fail
  go_loopw [8] (fun i wr => ∃ (k : Nat) (rows : List (List (ByteArray × (ByteArray × Bool)))), k ≤ n' ∧ i = .int .i64 k ∧ At w3 M M' p q N L k rows [[(⟨#[107]⟩, (⟨#[118]⟩, false))]] wr) (fun i _ => n' - (intOf i).toNat)
  case atStart => exact ⟨0, _, Nat.zero_le _, rfl, HAT0.out⟩
  case round =>
    obtain ⟨k, rows, hk, rfl, hat⟩ := hrel
    by_cases hkn : k < n'
    · have hkn' : (k : Int) < n' := by omega
      obtain ⟨b, off, es, hkl, rfl, hb, hc, hc0, hr⟩ := HR.out.elem (hat.ch.keeps fun n hn => ⟨Nat.lt_of_lt_of_le hn HB.out.size, fun h => by have := HMW.out n h; unfold Old at hn; omega⟩) hkn
      obtain ⟨rfl, -, -, -, hval⟩ := hr
      have e4 : Shape.OpD.size = 4 := rfl
      simp only [e4] at hc hc0
      clear e4
      obtain ⟨⟨what, level, key, val⟩, ho⟩ : ∃ o, L[k] = o := ⟨_, rfl⟩
      rw [ho] at hc hc0 hval
      simp only at hc hc0 hval
      have HO := Lib.hid ho; have HV := Lib.hid hval; have HAT := Lib.hid hat; clear ho hval
      have hb2 : b < wr.heap.size := Nat.lt_of_lt_of_le hb (Nat.le_trans HB.out.size hat.ch.size)
      clear hat
      by_cases h1 : level < 0
      · have _ := trivial
        by_cases c1 : what = 1
        · subst c1
          have HA := Lib.hid (HAT.out.low HM.out (fun n hn => (HM'.out n hn).1) (below_alloc' wr (.cells #[.int .i64 1, .int .i64 level, .string key, .int .i64 val] 56)))
          go_wp2_with fail
          obtain ⟨u, hu⟩ : ∃ u, u = wr.alloc (.cells #[.int .i64 1, .int .i64 level, .string key, .int .i64 val] 56) := ⟨_, rfl⟩
          have hkb : Blk u wr.heap.size 56 #[.int .i64 1, .int .i64 level, .string key, .int .i64 val] := by rw [hu]; exact Blk.new _ _ _
          have hnM : ¬ M wr.heap.size := fun h => by have := HM.out _ h; have := HAT.out.ch.size; omega
          have HNM := Lib.hid hnM; clear hnM
          rw [← hu] at HA ⊢
          generalize wr.heap.size = bx at hkb HNM ⊢
          clear hu hc hc0 hb2
          have HK0 := Lib.hid hkb.drew
          clear hkb
          go_region_held3 (fun w' => w'.cell? ⟨bx, 0, none⟩ = some (.int .i64 1) ∧ w'.cell? ⟨bx, 1, none⟩ = some (.int .i64 level) ∧ w'.cell? ⟨bx, 2, none⟩ = some (.string key) ∧ w'.cell? ⟨bx, 3, none⟩ = some (.int .i64 val))
            (first | assumption | exact HK2.out.cells4 | exact HK1.out.cells4 | exact HK0.out.cells4)
            (first
              | (go_at_call 20; refine (show_any _ HV.out _).mono ?_; rintro e w5 ⟨rfl, δ, rfl⟩; have HK1 := Lib.hid (HK0.out.over_ δ); have HA1 := Lib.hid (HA.out.low HM.out (fun n hn => (HM'.out n hn).1) (below_trans_over ((Below.refl _ _).drew) (Nat.le_refl _) δ)))
              | (go_at_call 16; refine (lvS.set_no _ level _ _ HA1.out.at_ (.inl h1)).mono ?_; rintro e w6 ⟨rfl, δ', rfl⟩; have HK2 := Lib.hid (HK1.out.over_ δ'); have HA2 := Lib.hid (HA1.out.low HM.out (fun n hn => (HM'.out n hn).1) (below_over _ δ'))))
          go_wp2
          go_roundw
          case rel => exact ⟨k + 1, _, by omega, by go_num, HA2.out.next hkl (by rw [HO.out]; exact .inl (.inl h1))⟩
          case measure => simp [intOf]; omega
        · have _ := trivial
          by_cases c2 : what = 2
          · subst c2
            have HA := Lib.hid (HAT.out.low HM.out (fun n hn => (HM'.out n hn).1) (below_alloc' wr (.cells #[.int .i64 2, .int .i64 level, .string key, .int .i64 val] 56)))
            go_wp2_with (first | (refine (lvS.hide_no _ level _ HA.out.at_ (.inl h1)).mono ?_; rintro e w6 ⟨rfl, δ, rfl⟩))
            go_roundw
            case rel => exact ⟨k + 1, _, by omega, by go_num, (HA.out.low HM.out (fun n hn => (HM'.out n hn).1) (below_over _ δ)).next hkl (by rw [HO.out]; exact .inl (.inl h1))⟩
            case measure => simp [intOf]; omega
          · have _ := trivial
            by_cases c3 : what = 3
            · subst c3
              have HA := Lib.hid (HAT.out.low HM.out (fun n hn => (HM'.out n hn).1) (below_alloc' wr (.cells #[.int .i64 3, .int .i64 level, .string key, .int .i64 val] 56)))
              go_wp2_with (first | (refine (lvS.clear_no _ level HA.out.at_ (.inl h1)).mono ?_; rintro e w6 ⟨rfl, rfl⟩))
              go_roundw
              case rel => exact ⟨k + 1, _, by omega, by go_num, HA.out.next hkl (by rw [HO.out]; exact .inl (.inl h1))⟩
              case measure => simp [intOf]; omega
            · have _ := trivial
              by_cases c4 : what = 4
              · subst c4
                have HA := Lib.hid (HAT.out.low HM.out (fun n hn => (HM'.out n hn).1) (below_alloc' wr (.cells #[.int .i64 4, .int .i64 level, .string key, .int .i64 val] 56)))
                have hget := lvS.get _ key HA.out.at_ (by rw [HAT.out.len]; exact hN8)
                rw [(get_top HAT.out key).1, (get_top HAT.out key).2] at hget
                have HG := Lib.hid hget; clear hget
                have hgv : I64 (getS L k key N).1 := getS_i64 HV8.out k key N
                generalize hgs : getS L k key N = g at HG hgv
                have HGS := Lib.hid hgs; clear hgs
                obtain ⟨g1, g2⟩ := g
                have HGV := Lib.hid hgv; clear hgv
                go_wp2_with (first
                  | (go_at_call 23; refine HG.out.mono ?_; rintro e w6 ⟨rfl, δ, rfl⟩; have HA1 := Lib.hid (HA.out.low HM.out (fun n hn => (HM'.out n hn).1) (below_over _ δ)))
                  | (go_at_call 24; refine (refGet _ (HA1.out.row HR.out HB.out.size HMW.out) (by omega) k (by omega) N hN8 key).mono ?_; rw [HGS.out]; rintro e w7 ⟨rfl, δ1, rfl⟩; have HA2 := Lib.hid (HA1.out.low HM.out (fun n hn => (HM'.out n hn).1) (below_over _ δ1)))
                  | (go_at_call 20; refine (show_any _ HGV.out _).mono ?_; rintro e w8 ⟨rfl, δ2, rfl⟩; have HA3 := Lib.hid (HA2.out.low HM.out (fun n hn => (HM'.out n hn).1) (below_over _ δ2))))
                go_roundw
                case rel => exact ⟨k + 1, _, by omega, by go_num, HA3.out.next hkl (by rw [HO.out]; exact .inr ⟨by simp, by simp, by simp⟩)⟩
                case measure => simp [intOf]; omega
              · have _ := trivial
                by_cases c5 : what = 5
                · subst c5
                  have HA := Lib.hid (HAT.out.low HM.out (fun n hn => (HM'.out n hn).1) (below_alloc' wr (.cells #[.int .i64 5, .int .i64 level, .string key, .int .i64 val] 56)))
                  go_wp2_with fail
                  refine wp_region_over_of (fun u => (u.cell? ⟨wr.heap.size, 1, none⟩ = some (.int .i64 level) ∧ wr.heap.size < u.heap.size) ∧ At w3 M M' p q N L k rows [[(⟨#[107]⟩, (⟨#[118]⟩, false))]] u) ⟨⟨by go_simp, by simp⟩, HA.out⟩ (by kernel_rfl) (by kernel_rfl) ?_
                  rintro u ⟨⟨ku1, kul⟩, hau⟩
                  have HA1 := Lib.hid hau; clear hau hc hc0
                  repeat (go_big_quiet_step (first
                    | (go_at_call 17; exact calls_over_same (lvS.len_no _ level (HA1.out.low HM.out (fun n hn => (HM'.out n hn).1) (below_over u _)).at_ (.inl h1)))
                    | (go_at_call 25; exact calls_over_same (refLen_no _ _ _ _ k N level (.inl h1)))))
                  refine wpQuiet_nil ?_
                  rintro _ ⟨δ', rfl⟩
                  go_wp2
                  go_roundw
                  case rel => exact ⟨k + 1, _, by omega, by go_num, (HA1.out.low HM.out (fun n hn => (HM'.out n hn).1) (below_over u δ')).next hkl (by rw [HO.out]; exact .inr ⟨by simp, by simp, by simp⟩)⟩
                  case measure => simp [intOf]; omega
                · have _ := trivial
                  have HA := Lib.hid (HAT.out.low HM.out (fun n hn => (HM'.out n hn).1) (below_alloc' wr (.cells #[.int .i64 what, .int .i64 level, .string key, .int .i64 val] 56)))
                  have x1 : (what == 1) = false := by simpa using c1
                  have x2 : (what == 2) = false := by simpa using c2
                  have x3 : (what == 3) = false := by simpa using c3
                  have x4 : (what == 4) = false := by simpa using c4
                  have x5 : (what == 5) = false := by simpa using c5
                  have CC := Lib.hid (And.intro c1 (And.intro c2 c3)); clear c1 c2 c3 c4 c5
                  go_wp2_with fail
                  go_roundw
                  case rel => exact ⟨k + 1, _, by omega, by go_num, HA.out.next hkl (by rw [HO.out]; exact .inr CC.out)⟩
                  case measure => simp [intOf]; omega
      · by_cases h2 : (N : Int) ≤ level
        · have _ := trivial
          by_cases c1 : what = 1
          · subst c1
            have HA := Lib.hid (HAT.out.low HM.out (fun n hn => (HM'.out n hn).1) (below_alloc' wr (.cells #[.int .i64 1, .int .i64 level, .string key, .int .i64 val] 56)))
            go_wp2_with fail
            obtain ⟨u, hu⟩ : ∃ u, u = wr.alloc (.cells #[.int .i64 1, .int .i64 level, .string key, .int .i64 val] 56) := ⟨_, rfl⟩
            have hkb : Blk u wr.heap.size 56 #[.int .i64 1, .int .i64 level, .string key, .int .i64 val] := by rw [hu]; exact Blk.new _ _ _
            have hnM : ¬ M wr.heap.size := fun h => by have := HM.out _ h; have := HAT.out.ch.size; omega
            have HNM := Lib.hid hnM; clear hnM
            rw [← hu] at HA ⊢
            generalize wr.heap.size = bx at hkb HNM ⊢
            clear hu hc hc0 hb2
            have HK0 := Lib.hid hkb.drew
            clear hkb
            go_region_held3 (fun w' => w'.cell? ⟨bx, 0, none⟩ = some (.int .i64 1) ∧ w'.cell? ⟨bx, 1, none⟩ = some (.int .i64 level) ∧ w'.cell? ⟨bx, 2, none⟩ = some (.string key) ∧ w'.cell? ⟨bx, 3, none⟩ = some (.int .i64 val))
              (first | assumption | exact HK2.out.cells4 | exact HK1.out.cells4 | exact HK0.out.cells4)
              (first
                | (go_at_call 20; refine (show_any _ HV.out _).mono ?_; rintro e w5 ⟨rfl, δ, rfl⟩; have HK1 := Lib.hid (HK0.out.over_ δ); have HA1 := Lib.hid (HA.out.low HM.out (fun n hn => (HM'.out n hn).1) (below_trans_over ((Below.refl _ _).drew) (Nat.le_refl _) δ)))
                | (go_at_call 16; refine (lvS.set_no _ level _ _ HA1.out.at_ (.inr (by rw [HAT.out.len]; exact h2))).mono ?_; rintro e w6 ⟨rfl, δ', rfl⟩; have HK2 := Lib.hid (HK1.out.over_ δ'); have HA2 := Lib.hid (HA1.out.low HM.out (fun n hn => (HM'.out n hn).1) (below_over _ δ'))))
            go_wp2
            go_roundw
            case rel => exact ⟨k + 1, _, by omega, by go_num, HA2.out.next hkl (by rw [HO.out]; exact .inl (.inr h2))⟩
            case measure => simp [intOf]; omega
          · have _ := trivial
            by_cases c2 : what = 2
            · subst c2
              have HA := Lib.hid (HAT.out.low HM.out (fun n hn => (HM'.out n hn).1) (below_alloc' wr (.cells #[.int .i64 2, .int .i64 level, .string key, .int .i64 val] 56)))
              go_wp2_with (first | (refine (lvS.hide_no _ level _ HA.out.at_ (.inr (by rw [HAT.out.len]; exact h2))).mono ?_; rintro e w6 ⟨rfl, δ, rfl⟩))
              go_roundw
              case rel => exact ⟨k + 1, _, by omega, by go_num, (HA.out.low HM.out (fun n hn => (HM'.out n hn).1) (below_over _ δ)).next hkl (by rw [HO.out]; exact .inl (.inr h2))⟩
              case measure => simp [intOf]; omega
            · have _ := trivial
              by_cases c3 : what = 3
              · subst c3
                have HA := Lib.hid (HAT.out.low HM.out (fun n hn => (HM'.out n hn).1) (below_alloc' wr (.cells #[.int .i64 3, .int .i64 level, .string key, .int .i64 val] 56)))
                go_wp2_with (first | (refine (lvS.clear_no _ level HA.out.at_ (.inr (by rw [HAT.out.len]; exact h2))).mono ?_; rintro e w6 ⟨rfl, rfl⟩))
                go_roundw
                case rel => exact ⟨k + 1, _, by omega, by go_num, HA.out.next hkl (by rw [HO.out]; exact .inl (.inr h2))⟩
                case measure => simp [intOf]; omega
              · have _ := trivial
                by_cases c4 : what = 4
                · subst c4
                  have HA := Lib.hid (HAT.out.low HM.out (fun n hn => (HM'.out n hn).1) (below_alloc' wr (.cells #[.int .i64 4, .int .i64 level, .string key, .int .i64 val] 56)))
                  have hget := lvS.get _ key HA.out.at_ (by rw [HAT.out.len]; exact hN8)
                  rw [(get_top HAT.out key).1, (get_top HAT.out key).2] at hget
                  have HG := Lib.hid hget; clear hget
                  have hgv : I64 (getS L k key N).1 := getS_i64 HV8.out k key N
                  generalize hgs : getS L k key N = g at HG hgv
                  have HGS := Lib.hid hgs; clear hgs
                  obtain ⟨g1, g2⟩ := g
                  have HGV := Lib.hid hgv; clear hgv
                  go_wp2_with (first
                    | (go_at_call 23; refine HG.out.mono ?_; rintro e w6 ⟨rfl, δ, rfl⟩; have HA1 := Lib.hid (HA.out.low HM.out (fun n hn => (HM'.out n hn).1) (below_over _ δ)))
                    | (go_at_call 24; refine (refGet _ (HA1.out.row HR.out HB.out.size HMW.out) (by omega) k (by omega) N hN8 key).mono ?_; rw [HGS.out]; rintro e w7 ⟨rfl, δ1, rfl⟩; have HA2 := Lib.hid (HA1.out.low HM.out (fun n hn => (HM'.out n hn).1) (below_over _ δ1)))
                    | (go_at_call 20; refine (show_any _ HGV.out _).mono ?_; rintro e w8 ⟨rfl, δ2, rfl⟩; have HA3 := Lib.hid (HA2.out.low HM.out (fun n hn => (HM'.out n hn).1) (below_over _ δ2))))
                  go_roundw
                  case rel => exact ⟨k + 1, _, by omega, by go_num, HA3.out.next hkl (by rw [HO.out]; exact .inr ⟨by simp, by simp, by simp⟩)⟩
                  case measure => simp [intOf]; omega
                · have _ := trivial
                  by_cases c5 : what = 5
                  · subst c5
                    have HA := Lib.hid (HAT.out.low HM.out (fun n hn => (HM'.out n hn).1) (below_alloc' wr (.cells #[.int .i64 5, .int .i64 level, .string key, .int .i64 val] 56)))
                    go_wp2_with fail
                    refine wp_region_over_of (fun u => (u.cell? ⟨wr.heap.size, 1, none⟩ = some (.int .i64 level) ∧ wr.heap.size < u.heap.size) ∧ At w3 M M' p q N L k rows [[(⟨#[107]⟩, (⟨#[118]⟩, false))]] u) ⟨⟨by go_simp, by simp⟩, HA.out⟩ (by kernel_rfl) (by kernel_rfl) ?_
                    rintro u ⟨⟨ku1, kul⟩, hau⟩
                    have HA1 := Lib.hid hau; clear hau hc hc0
                    repeat (go_big_quiet_step (first
                      | (go_at_call 17; exact calls_over_same (lvS.len_no _ level (HA1.out.low HM.out (fun n hn => (HM'.out n hn).1) (below_over u _)).at_ (.inr (by rw [HAT.out.len]; exact h2))))
                      | (go_at_call 25; exact calls_over_same (refLen_no _ _ _ _ k N level (.inr h2)))))
                    refine wpQuiet_nil ?_
                    rintro _ ⟨δ', rfl⟩
                    go_wp2
                    go_roundw
                    case rel => exact ⟨k + 1, _, by omega, by go_num, (HA1.out.low HM.out (fun n hn => (HM'.out n hn).1) (below_over u δ')).next hkl (by rw [HO.out]; exact .inr ⟨by simp, by simp, by simp⟩)⟩
                    case measure => simp [intOf]; omega
                  · have _ := trivial
                    have HA := Lib.hid (HAT.out.low HM.out (fun n hn => (HM'.out n hn).1) (below_alloc' wr (.cells #[.int .i64 what, .int .i64 level, .string key, .int .i64 val] 56)))
                    have x1 : (what == 1) = false := by simpa using c1
                    have x2 : (what == 2) = false := by simpa using c2
                    have x3 : (what == 3) = false := by simpa using c3
                    have x4 : (what == 4) = false := by simpa using c4
                    have x5 : (what == 5) = false := by simpa using c5
                    have CC := Lib.hid (And.intro c1 (And.intro c2 c3)); clear c1 c2 c3 c4 c5
                    go_wp2_with fail
                    go_roundw
                    case rel => exact ⟨k + 1, _, by omega, by go_num, HA.out.next hkl (by rw [HO.out]; exact .inr CC.out)⟩
                    case measure => simp [intOf]; omega
        · obtain ⟨m, rfl⟩ : ∃ m : Nat, level = m := ⟨level.toNat, by omega⟩
          have hm : m < N := by omega
          have hm2 : (m : Int) < N := by omega
          by_cases c1 : what = 1
          · subst c1
            have HA := Lib.hid (HAT.out.low HM.out (fun n hn => (HM'.out n hn).1) (below_alloc' wr (.cells #[.int .i64 1, .int .i64 (m : Int), .string key, .int .i64 val] 56)))
            have hml : m < rows.length := by rw [HAT.out.len]; exact hm
            go_wp2_with fail
            obtain ⟨u, hu⟩ : ∃ u, u = wr.alloc (.cells #[.int .i64 1, .int .i64 (m : Int), .string key, .int .i64 val] 56) := ⟨_, rfl⟩
            have hkb : Blk u wr.heap.size 56 #[.int .i64 1, .int .i64 (m : Int), .string key, .int .i64 val] := by rw [hu]; exact Blk.new _ _ _
            have hnM : ¬ M wr.heap.size := fun h => by have := HM.out _ h; have := HAT.out.ch.size; omega
            have HNM := Lib.hid hnM; clear hnM
            rw [← hu] at HA ⊢
            generalize wr.heap.size = bx at hkb HNM ⊢
            clear hu hc hc0 hb2
            have HK0 := Lib.hid hkb.drew
            clear hkb
            go_region_held3 (fun w' => w'.cell? ⟨bx, 0, none⟩ = some (.int .i64 1) ∧ w'.cell? ⟨bx, 1, none⟩ = some (.int .i64 (m : Int)) ∧ w'.cell? ⟨bx, 2, none⟩ = some (.string key) ∧ w'.cell? ⟨bx, 3, none⟩ = some (.int .i64 val))
              (first | assumption | exact HK2.out.cells4 | exact HK1.out.cells4 | exact HK0.out.cells4)
              (first
                | (go_at_call 20; refine (show_any _ HV.out _).mono ?_; rintro e w5 ⟨rfl, δ, rfl⟩; have HK1 := Lib.hid (HK0.out.over_ δ); have HA1 := Lib.hid (HA.out.low HM.out (fun n hn => (HM'.out n hn).1) (below_trans_over ((Below.refl _ _).drew) (Nat.le_refl _) δ)))
                | (go_at_call 16; refine (lvS.set_yes _ m _ _ HA1.out.at_ hml).mono ?_; rintro e w6 ⟨rfl, hch, hat6⟩; have HK2 := Lib.hid (HK1.out.chg hch HNM.out); have HA2 := Lib.hid (HA1.out.turned HM'.out hch m _ hat6 (HA1.out.tab.put_ hkl m hml (by rw [HO.out]) key trivial (by rw [HO.out]; rfl) _ (.inl ⟨by rw [HO.out], by rw [HO.out]; rfl⟩))); clear hch hat6))
            go_wp2
            go_roundw
            case rel => exact ⟨k + 1, _, by omega, by go_num, HA2.out⟩
            case measure => simp [intOf]; omega
          · have _ := trivial
            by_cases c2 : what = 2
            · subst c2
              have HA := Lib.hid (HAT.out.low HM.out (fun n hn => (HM'.out n hn).1) (below_alloc' wr (.cells #[.int .i64 2, .int .i64 (m : Int), .string key, .int .i64 val] 56)))
              have hml : m < rows.length := by rw [HAT.out.len]; exact hm
              go_wp2_with (first | (refine (lvS.hide_yes _ m _ HA.out.at_ hml).mono ?_; rintro e w6 ⟨rfl, hch, hat6⟩))
              have HA2 := Lib.hid (HA.out.turned HM'.out hch m _ hat6 (HA.out.tab.put_ hkl m hml (by rw [HO.out]) key trivial (by rw [HO.out]; rfl) _ (.inr ⟨by rw [HO.out], rfl⟩))); clear hch hat6
              go_roundw
              case rel => exact ⟨k + 1, _, by omega, by go_num, HA2.out⟩
              case measure => simp [intOf]; omega
            · have _ := trivial
              by_cases c3 : what = 3
              · subst c3
                have HA := Lib.hid (HAT.out.low HM.out (fun n hn => (HM'.out n hn).1) (below_alloc' wr (.cells #[.int .i64 3, .int .i64 (m : Int), .string key, .int .i64 val] 56)))
                have hml : m < rows.length := by rw [HAT.out.len]; exact hm
                go_wp2_with (first | (refine (lvS.clear_yes _ m HA.out.at_ hml).mono ?_; rintro e w6 ⟨rfl, hch, hat6⟩))
                have HA2 := Lib.hid (HA.out.turned HM'.out hch m _ hat6 (HA.out.tab.clear_ hkl m hml (by rw [HO.out]) (by rw [HO.out]))); clear hch hat6
                go_roundw
                case rel => exact ⟨k + 1, _, by omega, by go_num, HA2.out⟩
                case measure => simp [intOf]; omega
              · have _ := trivial
                by_cases c4 : what = 4
                · subst c4
                  have HA := Lib.hid (HAT.out.low HM.out (fun n hn => (HM'.out n hn).1) (below_alloc' wr (.cells #[.int .i64 4, .int .i64 (m : Int), .string key, .int .i64 val] 56)))
                  have hml : m < rows.length := by rw [HAT.out.len]; exact hm
                  have hget := lvS.get _ key HA.out.at_ (by rw [HAT.out.len]; exact hN8)
                  rw [(get_top HAT.out key).1, (get_top HAT.out key).2] at hget
                  have HG := Lib.hid hget; clear hget
                  have hgv : I64 (getS L k key N).1 := getS_i64 HV8.out k key N
                  generalize hgs : getS L k key N = g at HG hgv
                  have HGS := Lib.hid hgs; clear hgs
                  obtain ⟨g1, g2⟩ := g
                  have HGV := Lib.hid hgv; clear hgv
                  go_wp2_with (first
                    | (go_at_call 23; refine HG.out.mono ?_; rintro e w6 ⟨rfl, δ, rfl⟩; have HA1 := Lib.hid (HA.out.low HM.out (fun n hn => (HM'.out n hn).1) (below_over _ δ)))
                    | (go_at_call 24; refine (refGet _ (HA1.out.row HR.out HB.out.size HMW.out) (by omega) k (by omega) N hN8 key).mono ?_; rw [HGS.out]; rintro e w7 ⟨rfl, δ1, rfl⟩; have HA2 := Lib.hid (HA1.out.low HM.out (fun n hn => (HM'.out n hn).1) (below_over _ δ1)))
                    | (go_at_call 20; refine (show_any _ HGV.out _).mono ?_; rintro e w8 ⟨rfl, δ2, rfl⟩; have HA3 := Lib.hid (HA2.out.low HM.out (fun n hn => (HM'.out n hn).1) (below_over _ δ2))))
                  go_roundw
                  case rel => exact ⟨k + 1, _, by omega, by go_num, HA3.out.next hkl (by rw [HO.out]; exact .inr ⟨by simp, by simp, by simp⟩)⟩
                  case measure => simp [intOf]; omega
                · have _ := trivial
                  by_cases c5 : what = 5
                  · subst c5
                    have HA := Lib.hid (HAT.out.low HM.out (fun n hn => (HM'.out n hn).1) (below_alloc' wr (.cells #[.int .i64 5, .int .i64 (m : Int), .string key, .int .i64 val] 56)))
                    have hml : m < rows.length := by rw [HAT.out.len]; exact hm
                    go_wp2_with fail
                    refine wp_region_over_of (fun u => (u.cell? ⟨wr.heap.size, 1, none⟩ = some (.int .i64 (m : Int)) ∧ wr.heap.size < u.heap.size) ∧ At w3 M M' p q N L k rows [[(⟨#[107]⟩, (⟨#[118]⟩, false))]] u) ⟨⟨by go_simp, by simp⟩, HA.out⟩ (by kernel_rfl) (by kernel_rfl) ?_
                    rintro u ⟨⟨ku1, kul⟩, hau⟩
                    have HA1 := Lib.hid hau; clear hau hc hc0
                    have hct : rows[m].length = cntS L k m k := len_top HAT.out m hml
                    have HCT := Lib.hid hct; clear hct
                    repeat (go_big_quiet_step (first
                      | (go_at_call 17; exact calls_over_same (HCT.out ▸ lvS.len_yes _ m (HA1.out.low HM.out (fun n hn => (HM'.out n hn).1) (below_over u _)).at_ hml))
                      | (go_at_call 25; exact calls_over (refLen _ ((HA1.out.low HM.out (fun n hn => (HM'.out n hn).1) (below_over u _)).row HR.out HB.out.size HMW.out) (by omega) k (by omega) N hN8 m (by omega) (by omega)))))
                    refine wpQuiet_nil ?_
                    rintro _ ⟨δ', rfl⟩
                    go_wp2
                    go_roundw
                    case rel => exact ⟨k + 1, _, by omega, by go_num, (HA1.out.low HM.out (fun n hn => (HM'.out n hn).1) (below_over u δ')).next hkl (by rw [HO.out]; exact .inr ⟨by simp, by simp, by simp⟩)⟩
                    case measure => simp [intOf]; omega
                  · have _ := trivial
                    have HA := Lib.hid (HAT.out.low HM.out (fun n hn => (HM'.out n hn).1) (below_alloc' wr (.cells #[.int .i64 what, .int .i64 (m : Int), .string key, .int .i64 val] 56)))
                    have hml : m < rows.length := by rw [HAT.out.len]; exact hm
                    have x1 : (what == 1) = false := by simpa using c1
                    have x2 : (what == 2) = false := by simpa using c2
                    have x3 : (what == 3) = false := by simpa using c3
                    have x4 : (what == 4) = false := by simpa using c4
                    have x5 : (what == 5) = false := by simpa using c5
                    have CC := Lib.hid (And.intro c1 (And.intro c2 c3)); clear c1 c2 c3 c4 c5
                    go_wp2_with fail
                    go_roundw
                    case rel => exact ⟨k + 1, _, by omega, by go_num, HA.out.next hkl (by rw [HO.out]; exact .inr CC.out)⟩
                    case measure => simp [intOf]; omega
    · have hkn' : ¬ (k : Int) < n' := by omega
      have hoth := hat.oth
      have hb := HB.out.trans (hat.ch.below HB.out.size HMW.out)
      clear hat
      have htop : topKv [[((⟨#[107]⟩ : ByteArray), ((⟨#[118]⟩ : ByteArray), false))]] ⟨#[107]⟩ = some (⟨#[118]⟩, false) := by decide +kernel
      have hget := lvS.get wr ⟨#[107]⟩ hoth (by decide)
      rw [htop] at hget
      simp only [Option.map_some, Option.getD_some] at hget
      have HG := Lib.hid hget; clear hget htop hoth
      go_wp2_with (first | (refine HG.out.mono ?_; rintro e w5 ⟨rfl, hd⟩))
      go_ret
      obtain ⟨δ, hw⟩ := hd
      exact ⟨rfl, hw ▸ below_trans_over hb hb.size δ⟩
end Go.Proofs.Ytphloeafgblmnaa.overlayTexts
