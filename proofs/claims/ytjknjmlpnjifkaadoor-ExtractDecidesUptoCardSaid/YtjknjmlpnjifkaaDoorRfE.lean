/- The document's matches: the table of places. No condition but room. -/
import Derived.Test.YtjknjmlpnjifkaaDoorRfD
namespace Go.Proofs.YtjknjmlpnjifkaaDoor
open Go.RowKit
set_option linter.unusedVariables false
set_option linter.unusedSimpArgs false
attribute [local go_sem] cell?_over frozen?_over lt_over le_over
/-- a list of Booleans in a block -/
abbrev BoolsB (w : World) (g : Nat) (l : List Bool) : Prop := Blk w g 4 (l.map Value.bool).toArray
theorem BoolsB.at_ {w : World} {g : Nat} {l : List Bool} (h : BoolsB w g l) {i : Nat} (hi : i < l.length) : w.cell? ⟨g, i, none⟩ = some (.bool (l.getD i false)) := by
  rw [h.cell i]
  simp only [List.getElem?_toArray, List.getElem?_map]
  rw [List.getElem?_eq_getElem hi]
  simp [List.getD_eq_getElem?_getD, List.getElem?_eq_getElem hi]
theorem BoolsB.put {w : World} {g : Nat} {l : List Bool} (h : BoolsB w g l) (i : Nat) (v : Bool) : BoolsB (w.setCell ⟨g, i, none⟩ (.bool v)) g (l.set i v) := by
  have := h.set_ i (.bool v)
  rwa [map_set_bool] at this
theorem next_set {R : Nat → Bool} {l : List Bool} {m i : Nat} (h : ∀ j, j ≤ m → l.getD j false = if j < i then R j else false) (hl : i < l.length) (hR : R i = true) (j : Nat) (hj : j ≤ m) : (l.set i true).getD j false = if j < i + 1 then R j else false := by
  by_cases h1 : j = i
  · subst h1
    rw [if_pos (by omega), hR]
    simp [List.getD_eq_getElem?_getD, hl]
  · have e : (l.set i true).getD j false = l.getD j false := by
      simp [List.getD_eq_getElem?_getD, List.getElem?_set, Ne.symm h1]
    rw [e, h j hj]
    by_cases h2 : j < i
    · rw [if_pos h2, if_pos (by omega)]
    · rw [if_neg h2, if_neg (by omega)]
theorem next_keep {R : Nat → Bool} {l : List Bool} {m i : Nat} (h : ∀ j, j ≤ m → l.getD j false = if j < i then R j else false) (hR : R i = false) (j : Nat) (hj : j ≤ m) : l.getD j false = if j < i + 1 then R j else false := by
  rw [h j hj]
  by_cases h2 : j < i
  · rw [if_pos h2, if_pos (by omega)]
  · rw [if_neg h2]
    by_cases h3 : j < i + 1
    · have : j = i := by omega
      subst this; rw [if_pos h3, hR]
    · rw [if_neg h3]
/-- kinds are three -/
theorem tokB_kind {p : List UInt8} {i j : Nat} {t : Tok} (h : tokB p i = some (t, j)) : t.kind ≤ 2 := by
  unfold tokB at h
  split at h
  · split at h <;> (injection h with h; injection h with h1 h2; subst h1; decide)
  · split at h
    · injection h with h; injection h with h1 h2; subst h1; decide
    · split at h
      · rw [Option.map_eq_some_iff] at h
        obtain ⟨x, _, h2⟩ := h
        injection h2 with h1 h2; subst h1; exact Nat.zero_le _
      · rw [Option.map_eq_some_iff] at h
        obtain ⟨x, _, h2⟩ := h
        injection h2 with h1 h2; subst h1; exact Nat.zero_le _
theorem readB_kind {p : List UInt8} : ∀ (k i : Nat) {ts : List Tok}, p.length - i ≤ k → readB p i = some ts → ∀ t ∈ ts, t.kind ≤ 2
  | k, i, ts, hk, h, t, ht => by
    by_cases hi : i < p.length
    · cases h1 : tokB p i with
      | none => rw [readB_none hi h1] at h; cases h
      | some x =>
        obtain ⟨t', j⟩ := x
        have l1 := tokB_lt h1
        rw [readB_some hi h1, Option.map_eq_some_iff] at h
        obtain ⟨r, h2, h3⟩ := h
        subst h3
        rcases List.mem_cons.1 ht with rfl | ht
        · exact tokB_kind h1
        · cases k with
          | zero => omega
          | succ k => exact readB_kind k j (by omega) h2 t ht
    · rw [readB_end hi] at h; injection h with h; subst h; cases ht
/-- a piece's cells in its row -/
theorem pie_cells {w : World} {M : Nat → Prop} {n : Nat} {A : Option Addr} {ts : List Tok} (h : Row Shape.Pie w M A n ts) {i : Nat} (hi : i < n) :
    ∃ b off, A = some ⟨b, off, none⟩ ∧ M b ∧ w.cell? ⟨b, off + i * 257, none⟩ = some (.int .i64 (((tk ts i).kind + 1 : Nat) : Int)) ∧ ∀ x : UInt8, w.cell? ⟨b, off + i * 257 + 1 + x.toNat, none⟩ = some (.bool ((tk ts i).has x)) := by
  obtain ⟨b, off, es, hl, hA, hb, hc, hc0, hrd⟩ := h.elem (Keeps.refl _ _) hi
  have e5 : Shape.Pie.size = 257 := rfl
  rw [e5] at hc hc0
  have hrd' : es = (pieceCs (((ts[i].kind + 1 : Nat)) : Int) ts[i].has).toList := hrd
  subst hrd'
  rw [tk_at hl]
  refine ⟨b, off, hA, hb, ?_, fun x => ?_⟩
  · rw [hc0]; rfl
  · have hx : x.toNat < 256 := x.toNat_lt
    have := hc (1 + x.toNat) (by omega)
    rw [← Nat.add_assoc] at this
    rw [this, Array.getElem?_toList, piece_get]
theorem tx_lt {x : ByteArray} {i : Nat} (h : i < x.size) : tx x.data.toList i = x[i] := tx_at h
set_option maxHeartbeats 4000000 in
set_option maxRecDepth 100000 in
theorem rfMatches {A : Option Addr} {n c : Nat} {ts : List Tok} (x : ByteArray) (w : World) (h : Row Shape.Pie w (Old w) A n ts) (hkind : ∀ t ∈ ts, t.kind ≤ 2) (hn : n ≤ 100000) (hx : x.size ≤ 1000000000) :
    Calls Tryd.prog 57 #[.slice A n c, .string x] w fun e w' => e = .returned (.bool (reach ts x.data.toList ts.length x.size)) ∧ Below w.heap.size w w' := by
  have H := Lib.hid h
  have HT := Lib.hid h.1
  have HK : Hid (∀ k, k < n → (tk ts k).kind ≤ 2) := Lib.hid fun k hk => by
    have hl : k < ts.length := by rw [h.1]; exact hk
    rw [tk_at hl]
    exact hkind _ (List.getElem_mem hl)
  obtain ⟨X, hX⟩ : ∃ X, X = x.data.toList := ⟨_, rfl⟩
  have HTX : Hid (∀ i (hi : i < x.size), tx X i = x[i]) := Lib.hid fun i hi => by rw [hX, tx_at hi]
  rw [← hX]
  obtain ⟨RV, hRV⟩ : ∃ v, v = reach ts X ts.length x.size := ⟨_, rfl⟩
  rw [← hRV]
  have HRV := Lib.hid hRV
  have hmk := make_bools (x.size + 1) (by omega)
  have e1 : ((x.size + 1 : Nat) : Int) = (x.size : Int) + 1 := by omega
  simp only [e1] at hmk
  clear h hX hkind e1 hRV
  go_enter Tryd.func57, Tryd.ntmps57
  go_wp2_with fail
  go_loopw [5, 6] (fun v it wr => ∃ (k ga : Nat) (al : List Bool), it = .int .i64 k ∧ v = .slice (some ⟨ga, 0, none⟩) (x.size + 1) (x.size + 1) ∧ k ≤ n ∧ BoolsB wr ga al ∧ al.length = x.size + 1 ∧ (∀ i, i ≤ x.size → al.getD i false = reach ts X k i) ∧ w.heap.size ≤ ga ∧ Below w.heap.size w wr) (fun _ it _ => n - (intOf it).toNat)
  case atStart =>
    refine ⟨0, w.heap.size, (List.replicate (x.size + 1) false).set 0 true, rfl, rfl, Nat.zero_le _, (Blk.new w _ _).to (by apply Array.ext'; simp), by simp, fun i hi => ?_, Nat.le_refl _, below_alloc' _ _⟩
    show _ = (i == 0)
    rw [List.getD_eq_getElem?_getD, List.getElem?_set]
    by_cases hi0 : i = 0
    · subst hi0; simp
    · rw [if_neg (by omega)]
      have := getD_replicate (x.size + 1) i
      rw [List.getD_eq_getElem?_getD] at this
      rw [this]
      simpa using (by simpa using hi0 : (i == 0) = false).symm
  case round =>
    obtain ⟨k, ga, al, rfl, rfl, hk, hal, hlen, hre, hga, hb⟩ := hrel
    have AL : Hid (BoolsB wr ga al) := Lib.hid hal
    have RE := Lib.hid hre; have B := Lib.hid hb
    clear hal hre hb
    by_cases hkn : k < n
    · obtain ⟨gn, hgn⟩ : ∃ gn, gn = wr.heap.size := ⟨_, rfl⟩
      have hgw : w.heap.size ≤ gn := by rw [hgn]; exact B.out.size
      have NE : Hid (ga ≠ gn) := Lib.hid (by have := AL.out.lt; omega)
      go_wp2_with fail
      rw [← hgn]
      have HGN := Lib.hid hgn
      clear hgn
      go_loopw [8] (fun it wq => ∃ (i : Nat) (nl : List Bool), it = .int .i64 i ∧ i ≤ x.size + 1 ∧ BoolsB wq gn nl ∧ nl.length = x.size + 1 ∧ (∀ j, j ≤ x.size → nl.getD j false = if j < i then reach ts X (k + 1) j else false) ∧ BoolsB wq ga al ∧ Below w.heap.size w wq ∧ gn + 1 ≤ wq.heap.size) (fun it _ => x.size + 1 - (intOf it).toNat)
      case atStart =>
        refine ⟨0, List.replicate (x.size + 1) false, rfl, Nat.zero_le _, HGN.out ▸ (Blk.new wr _ _).to (by apply Array.ext'; simp), by simp, fun j hj => by rw [if_neg (Nat.not_lt_zero _)]; exact getD_replicate _ _, AL.out.alloc _, B.out.alloc B.out.size _, by have := HGN.out; simp; omega⟩
      case round =>
        obtain ⟨i, nl, rfl, hi, hnl, hnlen, hnre, hal2, hb2, hszq⟩ := hrel
        have N : Hid (BoolsB wr gn nl) := Lib.hid hnl
        have A2 : Hid (BoolsB wr ga al) := Lib.hid hal2
        have B2 := Lib.hid hb2; have NR := Lib.hid hnre; have NL := Lib.hid hnlen
        clear hnl hal2 hb2 hnre hnlen AL B
        by_cases hle : i ≤ x.size
        · obtain ⟨b, off, hA, hbw, kc, hasc⟩ := pie_cells (H.out.below B2.out) hkn
          subst hA
          have hbl : b < wr.heap.size := hbw
          obtain ⟨K, hK⟩ : ∃ K, K = (tk ts k).kind := ⟨_, rfl⟩
          rw [← hK] at kc
          have hK2 : K ≤ 2 := by rw [hK]; exact HK.out k hkn
          have HKK := Lib.hid hK
          have HAS := Lib.hid hasc
          have qi := A2.out.at_ (i := i) (by omega)
          rw [RE.out i hle] at qi
          obtain ⟨ri, hri⟩ : ∃ v, v = reach ts X k i := ⟨_, rfl⟩
          rw [← hri] at qi
          have HRI := Lib.hid hri
          have fn := N.out.frozen i
          have ln := N.out.lt; have la := A2.out.lt
          have qn : wr.cell? ⟨gn, i, none⟩ = some (.bool (nl.getD i false)) := N.out.at_ (by rw [NL.out]; omega)
          have hni : nl.getD i false = false := by rw [NR.out i hle, if_neg (Nat.lt_irrefl _)]
          rw [hni] at qn
          clear hK hasc hri hni hbw
          by_cases hi0 : i = 0
          · have c0 : decide (0 < i) = false := decide_eq_false (by omega)
            have HI0 := Lib.hid hi0
            clear hi0
            by_cases hK0 : K = 0
            · have t1 : (((K + 1 : Nat) : Int) == 1) = true := by rw [hK0]; rfl
              have RI : Hid (reach ts X (k + 1) i = false) := Lib.hid (by
                show nextRow (tk ts k) (reach ts X k) X i = false
                rw [HI0.out]; unfold nextRow Tok.one; rw [← HKK.out, hK0]; rfl)
              clear hK0
              go_wp2_with fail
              go_quiet ((fail))
              go_wp2_with fail
              go_roundw
              case rel => exact ⟨i + 1, nl, by go_num, by omega, Blk.drewN N.out nq, NL.out, next_keep NR.out RI.out, Blk.drewN A2.out nq, below_drewN B2.out nq, hszq⟩
              case measure => simp [intOf]; omega
            · have t1 : (((K + 1 : Nat) : Int) == 1) = false := by rw [beq_eq_false_iff_ne]; omega
              have RI0 : Hid (reach ts X (k + 1) i = ri) := Lib.hid (by
                show nextRow (tk ts k) (reach ts X k) X i = ri
                rw [HRI.out, HI0.out]; unfold nextRow Tok.one; rw [← HKK.out, show (K == 0) = false from beq_eq_false_iff_ne.2 hK0]; rfl)
              clear hK0
              cases ri with
              | true =>
                have RI := RI0
                go_wp2_with fail
                go_roundw
                case rel => exact ⟨i + 1, nl.set i true, by go_num, by omega, N.out.put i true, by simpa using NL.out, next_set NR.out (by rw [NL.out]; omega) RI.out, A2.out.far (by simp; exact NE.out) _, B2.out.grown (grown_one wr ⟨gn, i, none⟩ (.bool true)) B2.out.size (fun k hk => by injection hk with hk; have hk' : gn = k := hk; omega), by simp; omega⟩
                case measure => simp [intOf]; omega
              | false =>
                have RI := RI0
                go_wp2_with fail
                go_roundw
                case rel => exact ⟨i + 1, nl, by go_num, by omega, N.out, NL.out, next_keep NR.out RI.out, A2.out, B2.out, hszq⟩
                case measure => simp [intOf]; omega
          · have c0 : decide (0 < i) = true := decide_eq_true (by omega)
            obtain ⟨j, hj⟩ : ∃ j, i = j + 1 := ⟨i - 1, by omega⟩
            have ew : IntKind.i64.wrap ((i : Int) - 1) = (j : Int) := by rw [IntWalk.i64_in _ (by omega)]; omega
            have ew2 : (i : Int) - 1 = (j : Int) := by omega
            have hji : j < i := by omega
            have hjx : j < x.size := by omega
            have hb256 : x[j].toNat < 256 := x[j].toNat_lt
            have hx := HAS.out x[j]
            have qj := A2.out.at_ (i := j) (by omega)
            rw [RE.out j (by omega)] at qj
            obtain ⟨rj, hrj⟩ : ∃ v, v = reach ts X k j := ⟨_, rfl⟩
            rw [← hrj] at qj
            have qnj : wr.cell? ⟨gn, j, none⟩ = some (.bool (nl.getD j false)) := N.out.at_ (by rw [NL.out]; omega)
            rw [NR.out j (by omega), if_pos hji] at qnj
            obtain ⟨nj, hnj⟩ : ∃ v, v = reach ts X (k + 1) j := ⟨_, rfl⟩
            rw [← hnj] at qnj
            obtain ⟨hv, hhv⟩ : ∃ v, v = (tk ts k).has x[j] := ⟨_, rfl⟩
            rw [← hhv] at hx
            have RIJ : Hid (reach ts X (k + 1) i = if K = 0 then rj && hv else ri || (nj && (K == 2 || (K == 1 && x[j] != 47)))) := Lib.hid (by
              have hxj := HTX.out j hjx
              rw [HRI.out, hrj, hnj, hhv, hj]
              show nextRow (tk ts k) (reach ts X k) X (j + 1) = _
              have hone : (tk ts k).one = (K == 0) := by unfold Tok.one; rw [← HKK.out]
              have heat : (tk ts k).eats (tx X j) = (K == 2 || (K == 1 && x[j] != 47)) := by unfold Tok.eats; rw [← HKK.out, hxj]
              conv => lhs; unfold nextRow
              rw [hone, heat, hxj]
              by_cases h0 : K = 0
              · rw [if_pos h0, h0]; rfl
              · rw [if_neg h0, show (K == 0) = false from beq_eq_false_iff_ne.2 h0]; rfl)
            clear hj hrj hnj hhv
            by_cases hK0 : K = 0
            · have t1 : (((K + 1 : Nat) : Int) == 1) = true := by rw [hK0]; rfl
              have RI1 : Hid (reach ts X (k + 1) i = (rj && hv)) := Lib.hid (by rw [RIJ.out, if_pos hK0])
              clear hK0 qnj
              cases rj with
              | false =>
                have RI : Hid (reach ts X (k + 1) i = false) := RI1
                go_wp2_with fail
                go_quiet ((fail))
                go_wp2_with fail
                go_roundw
                case rel => exact ⟨i + 1, nl, by go_num, by omega, Blk.drewN N.out nq, NL.out, next_keep NR.out RI.out, Blk.drewN A2.out nq, below_drewN B2.out nq, hszq⟩
                case measure => simp [intOf]; omega
              | true =>
                cases hv with
                | false =>
                  have RI : Hid (reach ts X (k + 1) i = false) := RI1
                  go_wp2_with fail
                  go_quiet ((fail))
                  go_wp2_with fail
                  go_roundw
                  case rel => exact ⟨i + 1, nl, by go_num, by omega, Blk.drewN N.out nq, NL.out, next_keep NR.out RI.out, Blk.drewN A2.out nq, below_drewN B2.out nq, hszq⟩
                  case measure => simp [intOf]; omega
                | true =>
                  have RI : Hid (reach ts X (k + 1) i = true) := RI1
                  go_wp2_with fail
                  go_quiet ((fail))
                  go_wp2_with fail
                  go_roundw
                  case rel => exact ⟨i + 1, nl.set i true, by go_num, by omega, (show BoolsB (wr.drewN nq) gn nl from Blk.drewN N.out nq).put i true, by simpa using NL.out, next_set NR.out (by rw [NL.out]; omega) RI.out, (Blk.drewN A2.out nq).far (by simp; exact NE.out) _, (below_drewN B2.out nq).grown (grown_one (wr.drewN nq) ⟨gn, i, none⟩ (.bool true)) B2.out.size (fun k hk => by injection hk with hk; have hk' : gn = k := hk; omega), by simp; omega⟩
                  case measure => simp [intOf]; omega
            · have t1 : (((K + 1 : Nat) : Int) == 1) = false := by rw [beq_eq_false_iff_ne]; omega
              have RI1 : Hid (reach ts X (k + 1) i = (ri || (nj && (K == 2 || (K == 1 && x[j] != 47))))) := Lib.hid (by rw [RIJ.out, if_neg hK0])
              have HK0 := Lib.hid hK0
              clear hK0 qj hx
              cases ri with
              | true =>
                have RI : Hid (reach ts X (k + 1) i = true) := RI1
                go_wp2_with fail
                go_roundw
                case rel => exact ⟨i + 1, nl.set i true, by go_num, by omega, N.out.put i true, by simpa using NL.out, next_set NR.out (by rw [NL.out]; omega) RI.out, A2.out.far (by simp; exact NE.out) _, B2.out.grown (grown_one wr ⟨gn, i, none⟩ (.bool true)) B2.out.size (fun k hk => by injection hk with hk; have hk' : gn = k := hk; omega), by simp; omega⟩
                case measure => simp [intOf]; omega
              | false =>
                cases nj with
                | false =>
                  have RI : Hid (reach ts X (k + 1) i = false) := RI1
                  go_wp2_with fail
                  go_roundw
                  case rel => exact ⟨i + 1, nl, by go_num, by omega, N.out, NL.out, next_keep NR.out RI.out, A2.out, B2.out, hszq⟩
                  case measure => simp [intOf]; omega
                | true =>
                  by_cases hK2' : K = 2
                  · have t3 : (((K + 1 : Nat) : Int) == 3) = true := by rw [hK2']; rfl
                    have t3a : ((K : Int) + 1 == 3) = true := by rw [hK2']; rfl
                    have t3b : ((K : Int) == 2) = true := by rw [hK2']; rfl
                    have RI : Hid (reach ts X (k + 1) i = true) := Lib.hid (by rw [RI1.out, hK2']; rfl)
                    clear hK2'
                    go_wp2_with fail
                    go_roundw
                    case rel => exact ⟨i + 1, nl.set i true, by go_num, by omega, N.out.put i true, by simpa using NL.out, next_set NR.out (by rw [NL.out]; omega) RI.out, A2.out.far (by simp; exact NE.out) _, B2.out.grown (grown_one wr ⟨gn, i, none⟩ (.bool true)) B2.out.size (fun k hk => by injection hk with hk; have hk' : gn = k := hk; omega), by simp; omega⟩
                    case measure => simp [intOf]; omega
                  · have t3 : (((K + 1 : Nat) : Int) == 3) = false := by rw [beq_eq_false_iff_ne]; omega
                    have t3a : ((K : Int) + 1 == 3) = false := by rw [beq_eq_false_iff_ne]; omega
                    have t3b : ((K : Int) == 2) = false := by rw [beq_eq_false_iff_ne]; omega
                    have hK1 : K = 1 := by have := HK0.out; omega
                    obtain ⟨v47, h47⟩ : ∃ v, v = ((x[j].toNat : Int) != 47) := ⟨_, rfl⟩
                    have RI2 : Hid (reach ts X (k + 1) i = v47) := Lib.hid (by rw [RI1.out, hK1, h47, byte_ne47]; simp)
                    clear hK1 hK2'
                    cases v47 with
                    | true =>
                      have RI : Hid (reach ts X (k + 1) i = true) := RI2
                      have t47 : ((x[j].toNat : Int) != 47) = true := h47.symm
                      clear h47
                      go_wp2_with fail
                      go_roundw
                      case rel => exact ⟨i + 1, nl.set i true, by go_num, by omega, N.out.put i true, by simpa using NL.out, next_set NR.out (by rw [NL.out]; omega) RI.out, A2.out.far (by simp; exact NE.out) _, B2.out.grown (grown_one wr ⟨gn, i, none⟩ (.bool true)) B2.out.size (fun k hk => by injection hk with hk; have hk' : gn = k := hk; omega), by simp; omega⟩
                      case measure => simp [intOf]; omega
                    | false =>
                      have RI : Hid (reach ts X (k + 1) i = false) := RI2
                      have t47 : ((x[j].toNat : Int) != 47) = false := h47.symm
                      clear h47
                      go_wp2_with fail
                      go_roundw
                      case rel => exact ⟨i + 1, nl, by go_num, by omega, N.out, NL.out, next_keep NR.out RI.out, A2.out, B2.out, hszq⟩
                      case measure => simp [intOf]; omega
        · have ei : i = x.size + 1 := by omega
          have NX : Hid (∀ j, j ≤ x.size → nl.getD j false = reach ts X (k + 1) j) := Lib.hid fun j hj => by rw [NR.out j hj, if_pos (by omega)]
          clear ei
          go_wp2_with fail
          go_roundw
          case rel => exact ⟨k + 1, gn, nl, by go_num, rfl, by omega, N.out, NL.out, NX.out, by omega, B2.out⟩
          case measure => simp [intOf]; omega
    · have e : k = n := by omega
      have qm := AL.out.at_ (i := x.size) (by omega)
      have hq : al.getD x.size false = RV := by rw [RE.out x.size (Nat.le_refl _), e, HRV.out, HT.out]
      rw [hq] at qm
      clear hq e
      go_wp2_with fail
      go_ret
      exact ⟨rfl, B.out⟩
end Go.Proofs.YtjknjmlpnjifkaaDoor
