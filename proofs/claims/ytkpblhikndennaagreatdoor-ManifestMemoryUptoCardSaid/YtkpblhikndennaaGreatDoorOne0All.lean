/- The reference's Unescape: what it computes. No condition but room. What ref15.one meets: the words in memory, the answers of its readers in one form. No condition. -/
import Derived.Test.YtkpblhikndennaaGreatDoorBldAll
import Derived.Test.YtkpblhikndennaaGreatDoorReadG
import Derived.Test.YtkpblhikndennaaGreatDoorSplitAll
import Derived.Test.YtkpblhikndennaaGreatDoorRefPP
import Derived.Test.YtkpblhikndennaaGreatDoorDecAll
import Derived.Test.YtkpblhikndennaaGreatDoorRefStParse5
import Derived.Test.YtkpblhikndennaaGreatDoorLineAll
namespace Go.Proofs.YtkpblhikndennaaGreatDoor
open Go.RowKit
set_option linter.unusedVariables false
set_option linter.unusedSimpArgs false
attribute [local go_sem] cell?_over frozen?_over lt_over le_over

theorem dec_no {l : List UInt8} {a b d : UInt8} (hc : ¬ (octB a = true ∧ octB b = true ∧ octB d = true ∧ val3 a b d ≤ 255)) : dec (92 :: a :: b :: d :: l) = none := by
  rw [dec_four, if_neg hc]
theorem four_at (r : ByteArray) (k : Nat) (h : k + 3 < r.size) : r.data.toList.drop k = r[k] :: r[k + 1] :: r[k + 2] :: r[k + 3] :: r.data.toList.drop (k + 4) :=
  (data_cons r k (by omega)).trans (congrArg (r[k] :: ·) ((data_cons r (k + 1) (by omega)).trans (congrArg (r[k + 1] :: ·) ((data_cons r (k + 2) (by omega)).trans (congrArg (r[k + 2] :: ·) (data_cons r (k + 3) (by omega)))))))
set_option maxHeartbeats 4000000 in
set_option maxRecDepth 100000 in
theorem refUnescape (s : ByteArray) (w : World) (hs : s.size ≤ 100000000000) :
    Calls Tryz.prog 58 #[.string s] w fun e w' => e = unescEnd (unesc s.data.toList) ∧ ∃ δ, w' = over w δ := by
  have hsz : s.size = s.data.toList.length := by rw [Array.length_toList]; rfl
  have HS := Lib.hid hsz; clear hsz
  go_enter Tryz.func58, Tryz.ntmps58
  go_wp2_with fail
  go_loopw [4, 5] (fun v i wr => ∃ (k : Nat) (acc : List UInt8), k ≤ s.size ∧ acc.length ≤ k ∧ i = .int .i64 k ∧ dec s.data.toList = (dec (s.data.toList.drop k)).map (acc ++ ·) ∧ OwnB 5 wr w.heap.size v acc ∧ Below w.heap.size w wr ∧ w.heap.size ≤ wr.heap.size) (fun _ i _ => s.size - (intOf i).toNat)
  case atStart => exact ⟨0, [], Nat.zero_le _, by simp, rfl, by simp, Own.made Shape.byte _ w _ (Nat.le_refl _), by go_grown, by simp⟩
  case round =>
    obtain ⟨k, acc, hk, hak, rfl, hdec, hown, hbel, hsz⟩ := hrel
    have U := Lib.hid hdec; clear hdec
    have O := Lib.hid hown; clear hown
    by_cases hlt : k < s.size
    · by_cases h92 : s[k].toNat = 92
      · have k92 : ((s[k].toNat : Int) != 92) = false := by simp; omega
        have H92 := Lib.hid (show s[k] = 92 from UInt8.toNat_inj.1 h92); clear h92
        by_cases h4 : k + 3 < s.size
        · have hf := four_at s k h4
          rw [H92.out] at hf
          have HF := Lib.hid hf; clear hf
          go_wp2_with fail
          go_loop [6, 7] (fun v j => (v = .int .i64 0 ∧ j = .int .i64 (k + 1)) ∨ (octB s[k + 1] = true ∧ v = .int .i64 (v1 s[k + 1] : Nat) ∧ j = .int .i64 (k + 2)) ∨ (octB s[k + 1] = true ∧ octB s[k + 2] = true ∧ v = .int .i64 (v2 s[k + 1] s[k + 2] : Nat) ∧ j = .int .i64 (k + 3)) ∨
            (octB s[k + 1] = true ∧ octB s[k + 2] = true ∧ octB s[k + 3] = true ∧ v = .int .i64 (val3 s[k + 1] s[k + 2] s[k + 3] : Nat) ∧ j = .int .i64 (k + 4))) (fun _ j => (k + 4 - intOf j).toNat)
          case atStart => exact .inl ⟨rfl, rfl⟩
          case round =>
            rcases hrel with ⟨rfl, rfl⟩ | ⟨ha, rfl, rfl⟩ | ⟨ha, hb, rfl, rfl⟩ | ⟨ha, hb, hd, rfl, rfl⟩
            · by_cases ho : octB s[k + 1] = true
              · have ho1 := octB_iff.1 ho
                have HO := Lib.hid ho; clear ho
                obtain ⟨o1, o2⟩ := ho1
                go_wp2
                all_goals first | (exfalso; omega) | skip
                go_round
                case rel => exact .inr (.inl ⟨HO.out, (int_val (by unfold v1; omega)), int_val (by omega)⟩)
                case measure => simp only [intOf]; omega
              · have ho1 : octB s[k + 1] = true → False := ho
                have HN := Lib.hid (show dec (s.data.toList.drop k) = none by rw [HF.out]; exact dec_no (fun hc => ho hc.1))
                have HO := Lib.hid ho1; clear ho ho1
                go_wp2
                all_goals first
                  | (go_ret2; exact ⟨by rw [unesc_eq_dec, U.out, HN.out]; rfl, exists_over hbel⟩)
                  | (exfalso; exact HO.out (octB_iff.2 ⟨by omega, by omega⟩))
                  | (exfalso; omega)
            · have HA := Lib.hid ha; clear ha
              by_cases ho : octB s[k + 2] = true
              · have ho1 := octB_iff.1 ho
                have HO := Lib.hid ho; clear ho
                obtain ⟨o1, o2⟩ := ho1
                have hv1 := v1_lt HA.out
                go_wp2
                all_goals first | (exfalso; omega) | skip
                go_round
                case rel => exact .inr (.inr (.inl ⟨HA.out, HO.out, (int_val (by unfold v1 v2; omega)), int_val (by omega)⟩))
                case measure => simp only [intOf]; omega
              · have ho1 : octB s[k + 2] = true → False := ho
                have HN := Lib.hid (show dec (s.data.toList.drop k) = none by rw [HF.out]; exact dec_no (fun hc => ho hc.2.1))
                have HO := Lib.hid ho1; clear ho ho1
                go_wp2
                all_goals first
                  | (go_ret2; exact ⟨by rw [unesc_eq_dec, U.out, HN.out]; rfl, exists_over hbel⟩)
                  | (exfalso; exact HO.out (octB_iff.2 ⟨by omega, by omega⟩))
                  | (exfalso; omega)
            · have HA := Lib.hid ha; have HB2 := Lib.hid hb; clear ha hb
              by_cases ho : octB s[k + 3] = true
              · have ho1 := octB_iff.1 ho
                have HO := Lib.hid ho; clear ho
                obtain ⟨o1, o2⟩ := ho1
                have hv2 := v2_lt HA.out HB2.out
                go_wp2
                all_goals first | (exfalso; omega) | skip
                go_round
                case rel => exact .inr (.inr (.inr ⟨HA.out, HB2.out, HO.out, (int_val (by rw [val3_eq]; omega)), int_val (by omega)⟩))
                case measure => simp only [intOf]; omega
              · have ho1 : octB s[k + 3] = true → False := ho
                have HN := Lib.hid (show dec (s.data.toList.drop k) = none by rw [HF.out]; exact dec_no (fun hc => ho hc.2.2.1))
                have HO := Lib.hid ho1; clear ho ho1
                go_wp2
                all_goals first
                  | (go_ret2; exact ⟨by rw [unesc_eq_dec, U.out, HN.out]; rfl, exists_over hbel⟩)
                  | (exfalso; exact HO.out (octB_iff.2 ⟨by omega, by omega⟩))
                  | (exfalso; omega)
            · have HA := Lib.hid ha; have HB2 := Lib.hid hb; have HD := Lib.hid hd; clear ha hb hd
              by_cases hv : val3 s[k + 1] s[k + 2] s[k + 3] ≤ 255
              · have hcv : (val3 s[k + 1] s[k + 2] s[k + 3] : Int) = ((UInt8.ofNat (val3 s[k + 1] s[k + 2] s[k + 3])).toNat : Int) := by simp [UInt8.toNat_ofNat', Nat.mod_eq_of_lt (show val3 s[k + 1] s[k + 2] s[k + 3] < 256 by omega)]
                have HC := Lib.hid hcv; clear hcv
                go_wp2_with (first
                  | (at_builtin; refine wpList_append_b1 rfl (.tmp 58) (.tmp 61) _ rfl elem_byte rfl O.out _ (UInt8.ofNat (val3 s[k + 1] s[k + 2] s[k + 3])) rfl (by have := HC.out; omega) (by omega) hbel hsz ?_; intro v1 w1 hown1 hb1 hs1))
                all_goals first | (exfalso; omega) | skip
                go_roundw
                case rel =>
                  refine ⟨k + 4, acc ++ [UInt8.ofNat (val3 s[k + 1] s[k + 2] s[k + 3])], by omega, by simp; omega, int_val (by omega), ?_, hown1, hb1, hs1⟩
                  rw [U.out, HF.out, dec_four, if_pos ⟨HA.out, HB2.out, HD.out, hv⟩]
                  cases dec (List.drop (k + 4) s.data.toList) <;> simp
                case measure => simp only [intOf]; omega
              · have HN := Lib.hid (show dec (s.data.toList.drop k) = none by rw [HF.out]; exact dec_no (fun hc => hv hc.2.2.2))
                go_wp2
                all_goals first | (exfalso; omega) | skip
                go_ret2
                exact ⟨by rw [unesc_eq_dec, U.out, HN.out]; rfl, exists_over hbel⟩
        · have HN := Lib.hid (show dec (s.data.toList.drop k) = none by
            rw [data_cons s k hlt, H92.out, dec_short]
            rw [List.length_drop, Array.length_toList]; change s.size - (k + 1) < 3; omega)
          go_wp2
          all_goals first | (exfalso; omega) | skip
          go_ret2
          exact ⟨by rw [unesc_eq_dec, U.out, HN.out]; rfl, exists_over hbel⟩
      · have k92 : ((s[k].toNat : Int) != 92) = true := by simp; omega
        have hd := data_cons s k hlt
        have HD := Lib.hid hd; clear hd
        have hne : s[k] ≠ 92 := fun e => h92 (by rw [e]; rfl)
        have HN := Lib.hid hne; clear hne h92
        go_wp2_with (first
          | (at_builtin; refine wpList_append_b1 rfl (.tmp 19) (.tmp 23) _ rfl elem_byte rfl O.out _ s[k] rfl rfl (by omega) hbel hsz ?_; intro v1 w1 hown1 hb1 hs1))
        go_roundw
        case rel => exact ⟨k + 1, acc ++ [s[k]], by omega, by simp; omega, by go_num, by rw [U.out, HD.out, dec_plain _ HN.out]; cases dec (List.drop (k + 1) s.data.toList) <;> simp, hown1, hb1, hs1⟩
        case measure => simp [intOf]; omega
    · have hkl : k = s.size := by omega
      have hz : dec (s.data.toList.drop k) = some [] := by
        rw [List.drop_of_length_le (by rw [← HS.out]; omega)]; simp [dec]
      have hU : dec s.data.toList = some acc := by rw [U.out, hz]; simp
      have HU := Lib.hid hU; clear hU hz U
      have hcv := run_str_of (P := Tryz.prog) 44 9 Tryz.underlying44 Tryz.underlying5 Tryz.underlying9 O.out.rd
      have hcv' : (convert 44 9 u4).run Tryz.prog wr = .ok (.string ⟨acc.toArray⟩) wr := hcv
      have hcv2 : ∀ δ, (convert 44 9 u4).run Tryz.prog (over wr δ) = .ok (.string ⟨acc.toArray⟩) (over wr δ) := fun δ => run_str_of (P := Tryz.prog) 44 9 Tryz.underlying44 Tryz.underlying5 Tryz.underlying9 (O.out.over_ δ).rd
      clear hcv
      obtain ⟨E, hE⟩ : ∃ E : ByteArray, E = ⟨(esc acc).toArray⟩ := ⟨_, rfl⟩
      have hcall : ∀ w, Calls Tryz.prog 76 #[.string ⟨acc.toArray⟩] w fun e w' => e = .returned (.string E) ∧ ∃ δ, w' = over w δ := by
        intro w
        have := refEscape ⟨acc.toArray⟩ w (by change acc.toArray.size ≤ _; simp; omega)
        rw [hE]
        simpa [strV] using this
      have HCall := Lib.hid hcall; clear hcall
      have hel : E.data.toList = esc acc := by rw [hE]
      clear hE
      have HEL := Lib.hid hel; clear hel
      by_cases hes : E.toList = s.toList
      · have kes : (E.toList == s.toList) = true := by rw [beq_iff_eq]; exact hes
        have HES := Lib.hid hes; clear hes
        go_wp2_with (first
          | (go_at_call 76; refine (HCall.out _).mono ?_; rintro e w1 ⟨rfl, δ, rfl⟩))
        go_ret2
        refine ⟨?_, exists_over (below_trans_over hbel hsz δ)⟩
        rw [unesc_eq_dec, HU.out]
        have : esc acc = s.data.toList := by rw [← HEL.out, ← ByteArray.toList_eq, ← ByteArray.toList_eq]; exact HES.out
        simp [Option.filter, this, unescEnd]
        rfl
      · have kes : (E.toList == s.toList) = false := by rw [beq_eq_false_iff_ne]; exact hes
        have HES := Lib.hid hes; clear hes
        go_wp2_with (first
          | (go_at_call 76; refine (HCall.out _).mono ?_; rintro e w1 ⟨rfl, δ, rfl⟩))
        go_ret2
        refine ⟨?_, exists_over (below_trans_over hbel hsz δ)⟩
        rw [unesc_eq_dec, HU.out]
        have : ¬ esc acc = s.data.toList := by rw [← HEL.out, ← ByteArray.toList_eq, ← ByteArray.toList_eq]; exact HES.out
        simp [Option.filter, this, unescEnd]
        rfl
end Go.Proofs.YtkpblhikndennaaGreatDoor
namespace Go.Proofs.YtkpblhikndennaaGreatDoor
open Go.RowKit
set_option linter.unusedVariables false
set_option linter.unusedSimpArgs false
def WordsAt (w : World) (g : Nat) (l : List (List UInt8)) : Prop := g < w.heap.size ∧ ∀ (i : Nat) x, l[i]? = some x → w.cell? ⟨g, i, none⟩ = some (.string ⟨x.toArray⟩)
theorem WordsAt.below {w w' : World} {g : Nat} {l : List (List UInt8)} (h : WordsAt w g l) (hb : Below w.heap.size w w') : WordsAt w' g l :=
  ⟨Nat.lt_of_lt_of_le h.1 hb.size, fun i x hx => (World.cell?_of_block (hb.block g h.1)).trans (h.2 i x hx)⟩
theorem WordsAt.grown {w w' : World} {g : Nat} {row : Option Nat} {l : List (List UInt8)} (h : WordsAt w g l) (hb : w.grownBy w' row) (hr : some g ≠ row) : WordsAt w' g l :=
  ⟨Nat.lt_of_lt_of_le h.1 hb.size, fun i x hx => (World.cell?_of_block (hb.block g h.1 hr)).trans (h.2 i x hx)⟩
theorem own_words {w w2 : World} {g : Nat} {o : Obj} {l : List (List UInt8)} (h : WordsAt w g l) (g2 : (w.alloc o).grownBy w2 (some w.heap.size)) : WordsAt w2 g l :=
  (h.below (below_alloc' w o)).grown g2 (by intro e; injection e; have := h.1; omega)
theorem refWordsAt (s : ByteArray) (w : World) (hs : s.size ≤ 1000000000) :
    Calls Tryz.prog 54 #[.string s] w fun e w' => ∃ g cap, e = .returned (.slice (some ⟨g, 0, none⟩) (splitW 32 s.data.toList).length cap) ∧ w.heap.size ≤ g ∧ WordsAt w' g (splitW 32 s.data.toList) ∧ Below w.heap.size w w' := by
  refine (refWords s w hs).mono ?_
  rintro e w' ⟨v, ws, rfl, ho, hws, hb⟩
  have hl : ws.length = (splitW 32 s.data.toList).length := by rw [← hws, List.length_map]
  have h0 : 0 < ws.length := by
    rw [hl]; exact List.length_pos_iff.2 (splitW_ne _ _)
  obtain ⟨g, cap, hv, hg, _, hc⟩ := ho.strs h0
  refine ⟨g, cap, by rw [hv, hl], (ho.lt g (by rw [hv]; rfl)).1, ⟨hg, fun i x hx => ?_⟩, hb⟩
  rw [← hws, List.getElem?_map, Option.map_eq_some_iff] at hx
  obtain ⟨y, hy, rfl⟩ := hx
  have := hc i y hy
  rw [Nat.zero_add] at this
  rw [this]
theorem perm_parts (o : Option (Nat × Nat)) : ∃ (k m : Nat) (e : Int), permEnd o = .returned (.tuple #[.int .i64 k, .int .i64 m, .int .i64 e]) ∧ (e = 0 → o = some (k, m)) ∧ (e ≠ 0 → o = none) := by
  cases o with
  | none => exact ⟨0, 0, 120, rfl, fun h => absurd h (by decide), fun _ => rfl⟩
  | some x => exact ⟨x.1, x.2, 0, rfl, fun _ => rfl, fun h => absurd rfl h⟩
theorem unesc_parts (o : Option (List UInt8)) : ∃ (t : List UInt8) (e : Int), unescEnd o = .returned (.tuple #[.string ⟨t.toArray⟩, .int .i64 e]) ∧ (e = 0 → o = some t) ∧ (e ≠ 0 → o = none) := by
  cases o with
  | none => exact ⟨[], 150, rfl, fun h => absurd h (by decide), fun _ => rfl⟩
  | some x => exact ⟨x, 0, rfl, fun _ => rfl, fun h => absurd rfl h⟩
theorem refPermParts (l : List UInt8) (w : World) (hs : l.length ≤ 140737488355328) :
    Calls Tryz.prog 55 #[.string ⟨l.toArray⟩] w fun e w' => ∃ (k m : Nat) (e1 : Int), e = .returned (.tuple #[.int .i64 k, .int .i64 m, .int .i64 e1]) ∧ (e1 = 0 → permP l = some (k, m)) ∧ (e1 ≠ 0 → permP l = none) ∧ Below w.heap.size w w' := by
  refine (refPermsParse ⟨l.toArray⟩ w (by simpa [ByteArray.size] using hs)).mono ?_
  rintro e w' ⟨rfl, hb⟩
  rw [show (ByteArray.mk l.toArray).data.toList = l from rfl, refP_eq]
  obtain ⟨k, m, e1, h1, h2, h3⟩ := perm_parts (permP l)
  exact ⟨k, m, e1, h1, h2, h3, hb⟩
theorem refUnescParts (l : List UInt8) (w : World) (hs : l.length ≤ 100000000000) :
    Calls Tryz.prog 58 #[.string ⟨l.toArray⟩] w fun e w' => ∃ (t : List UInt8) (e1 : Int), e = .returned (.tuple #[.string ⟨t.toArray⟩, .int .i64 e1]) ∧ (e1 = 0 → unesc l = some t) ∧ (e1 ≠ 0 → unesc l = none) ∧ Below w.heap.size w w' := by
  refine (refUnescape ⟨l.toArray⟩ w (by simpa [ByteArray.size] using hs)).mono ?_
  rintro e w' ⟨rfl, δ, rfl⟩
  rw [show (ByteArray.mk l.toArray).data.toList = l from rfl]
  obtain ⟨t, e1, h1, h2, h3⟩ := unesc_parts (unesc l)
  exact ⟨t, e1, h1, h2, h3, below_over _ _⟩
theorem refDecParts (l : List UInt8) (w : World) (hs : l.length ≤ 140737488355328) :
    Calls Tryz.prog 56 #[.string ⟨l.toArray⟩] w fun e w' => e = .returned (.tuple #[.int .i64 (decV l), .int .i64 (decErr l)]) ∧ w' = w := refDecimal ⟨l.toArray⟩ w (by simpa [ByteArray.size] using hs)
theorem refStParts (l : List UInt8) (w : World) (hs : l.length ≤ 140737488355328) :
    Calls Tryz.prog 57 #[.string ⟨l.toArray⟩] w fun e w' => e = .returned (.tuple #[.agg #[.int .i64 (stS l), .int .i64 (stN l)], .int .i64 (stErr l)]) ∧ Below w.heap.size w w' := by
  refine refStParse ⟨l.toArray⟩ w ?_
  have : (ByteArray.mk l.toArray).size = l.length := by simp [ByteArray.size]
  omega
theorem restR_0 {d : LineD} {mk x : List UInt8} (hx : unesc x = none) : restR d mk x = none := by
  unfold restR; rw [hx]
theorem restR_1 {d : LineD} {mk x v : List UInt8} (hx : unesc x = some v) (h1 : mk = [61]) : restR d mk x = some { d with peer := ⟨v.toArray⟩ } := by
  unfold restR; rw [hx]; simp only []; rw [if_pos h1]
theorem restR_2 {d : LineD} {mk x v : List UInt8} (hx : unesc x = some v) (h1 : ¬ mk = [61]) (h2 : mk = [58]) : restR d mk x = some { d with data := v } := by
  unfold restR; rw [hx]; simp only []; rw [if_neg h1, if_pos h2]
theorem restR_3 {d : LineD} {mk x v : List UInt8} (hx : unesc x = some v) (h1 : ¬ mk = [61]) (h2 : ¬ mk = [58]) : restR d mk x = some { d with target := ⟨v.toArray⟩ } := by
  unfold restR; rw [hx]; simp only []; rw [if_neg h1, if_neg h2]
theorem head_no4 {p u g t n : List UInt8} (h : permP p = none ∨ unesc n = none ∨ decErr u ≠ 0 ∨ decErr g ≠ 0 ∨ stErr t ≠ 0) : headF p u g t n = none := by
  rcases h with h | h | h | h | h
  · exact head_no1 h
  · exact head_no2 h
  · exact head_no3 fun e => h e.1
  · exact head_no3 fun e => h e.2.1
  · exact head_no3 fun e => h e.2.2
theorem int_ne0 {a : Int} (h : ¬ a = 0) : (a != 0) = true := by simpa using h
theorem int_eq0 {a : Int} (h : a = 0) : (a != 0) = false := by rw [h]; rfl
theorem ref_S {u : World} {g N : Nat} {t1 t2 : TypeId} {c0 c1 c2 c3 c4 c5 c6 c7 c8 c9 z0 z1 z2 z3 z4 z5 z6 z7 z8 z9 : Value} (hb : Blk u g t1 #[c0, c1, c2, c3, c4, c5, c6, c7, c8, c9]) (hz : Blk u N t2 #[z0, z1, z2, z3, z4, z5, z6, z7, z8, z9]) : u.cell? ⟨g, 0, none⟩ = some c0 ∧ u.cell? ⟨g, 1, none⟩ = some c1 ∧ u.cell? ⟨g, 2, none⟩ = some c2 ∧ u.cell? ⟨g, 3, none⟩ = some c3 ∧ u.cell? ⟨g, 4, none⟩ = some c4 ∧ u.cell? ⟨g, 5, none⟩ = some c5 ∧ u.cell? ⟨g, 6, none⟩ = some c6 ∧ u.cell? ⟨g, 7, none⟩ = some c7 ∧ u.cell? ⟨g, 8, none⟩ = some c8 ∧ u.cell? ⟨g, 9, none⟩ = some c9 ∧ u.cell? ⟨N, 0, none⟩ = some z0 ∧ u.cell? ⟨N, 1, none⟩ = some z1 ∧ u.cell? ⟨N, 2, none⟩ = some z2 ∧ u.cell? ⟨N, 3, none⟩ = some z3 ∧ u.cell? ⟨N, 4, none⟩ = some z4 ∧ u.cell? ⟨N, 5, none⟩ = some z5 ∧ u.cell? ⟨N, 6, none⟩ = some z6 ∧ u.cell? ⟨N, 7, none⟩ = some z7 ∧ u.cell? ⟨N, 8, none⟩ = some z8 ∧ u.cell? ⟨N, 9, none⟩ = some z9 ∧ u.frozen? ⟨N, 0, none⟩ = false ∧ u.frozen? ⟨N, 1, none⟩ = false ∧ u.frozen? ⟨N, 2, none⟩ = false ∧ u.frozen? ⟨N, 3, none⟩ = false ∧ u.frozen? ⟨N, 4, none⟩ = false ∧ u.frozen? ⟨N, 5, none⟩ = false ∧ u.frozen? ⟨N, 6, none⟩ = false ∧ u.frozen? ⟨N, 7, none⟩ = false ∧ u.frozen? ⟨N, 8, none⟩ = false ∧ u.frozen? ⟨N, 9, none⟩ = false ∧ N < u.heap.size :=
  ⟨hb.cell 0, hb.cell 1, hb.cell 2, hb.cell 3, hb.cell 4, hb.cell 5, hb.cell 6, hb.cell 7, hb.cell 8, hb.cell 9, hz.cell 0, hz.cell 1, hz.cell 2, hz.cell 3, hz.cell 4, hz.cell 5, hz.cell 6, hz.cell 7, hz.cell 8, hz.cell 9, hz.frozen 0, hz.frozen 1, hz.frozen 2, hz.frozen 3, hz.frozen 4, hz.frozen 5, hz.frozen 6, hz.frozen 7, hz.frozen 8, hz.frozen 9, hz.lt⟩
theorem rd_drew {w : World} {M : Nat → Prop} {cs : List Value} {d : LineD} (h : LineD.rd w M cs d) : LineD.rd w.drew M cs d := Shape.LineD.keep h fun _ _ => rfl
theorem rd_grb {B : Nat} {w w' : World} {cs : List Value} {d : LineD} (h : LineD.rd w (Up B w) cs d) (hb : w.grownBy w' (some B)) : LineD.rd w' (Old w') cs d :=
  Shape.LineD.more (Shape.LineD.keep h (w' := w') fun n hn => hb.block n hn.2 (by intro e; injection e; have := hn.1; omega)) fun n hn => Nat.lt_of_lt_of_le hn.2 hb.size
theorem rd_up {B : Nat} {w w' : World} {cs : List Value} {d : LineD} (h : LineD.rd w (Up B w) cs d) (hb : Below w.heap.size w w') : LineD.rd w' (Up B w') cs d :=
  Shape.LineD.more (Shape.LineD.keep h (w' := w') fun n hn => hb.block n hn.2) fun n hn => ⟨hn.1, Nat.lt_of_lt_of_le hn.2 hb.size⟩
theorem line_eq {l : List UInt8} {s X : ByteArray} (hX : X = s ++ ⟨#[10]⟩) (h : l = s.data.toList) : (l ++ [10] == X.toList) = true := by
  rw [beq_iff_eq, ByteArray.toList_eq, hX, ByteArray.data_append, h]; simp
theorem line_ne {l : List UInt8} {s X : ByteArray} (hX : X = s ++ ⟨#[10]⟩) (h : ¬ l = s.data.toList) : (l ++ [10] == X.toList) = false := by
  rw [beq_eq_false_iff_ne, ByteArray.toList_eq, hX, ByteArray.data_append]
  intro e
  rw [Array.toList_append] at e
  exact h (List.append_cancel_right e)
theorem add_nl {P : Program} (s : ByteArray) (hs : s.size ≤ 16777216) : ∃ X, X = s ++ ⟨#[10]⟩ ∧ ∀ W, (Op.stringOp .add s ⟨#[10]⟩).run P W = .ok (.string X) W :=
  ⟨_, rfl, fun W => run_string_add_sum W _ _ (by have : (⟨#[10]⟩ : ByteArray).size = 1 := rfl; omega)⟩
end Go.Proofs.YtkpblhikndennaaGreatDoor
