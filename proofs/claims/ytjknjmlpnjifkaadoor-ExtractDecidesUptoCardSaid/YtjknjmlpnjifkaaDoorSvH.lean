/- The sieve's set of places: step. No condition but room. -/
import Derived.Test.YtjknjmlpnjifkaaDoorSvG
namespace Go.Proofs.YtjknjmlpnjifkaaDoor
open Go.RowKit
set_option linter.unusedVariables false
set_option linter.unusedSimpArgs false
attribute [local go_sem] cell?_over frozen?_over lt_over le_over
/-- a token's cells in its row -/
theorem tok_cells {w : World} {B n : Nat} {A : Option Addr} {ts : List Tok} (h : Row Shape.Tok w (fun b => b < B) A n ts) {i : Nat} (hi : i < n) :
    ∃ b off V, A = some ⟨b, off, none⟩ ∧ b < B ∧ w.cell? ⟨b, off + i * 5, none⟩ = some (.int .i64 ((tk ts i).kind : Nat)) ∧ Words w b (off + i * 5 + 1) V ∧ ∀ x, hasN V x = (tk ts i).has x := by
  obtain ⟨b, off, es, hl, hA, hb, hc, hc0, hrd⟩ := h.elem (Keeps.refl _ _) hi
  obtain ⟨V, hes, hs4, hbits⟩ := hrd
  have e5 : Shape.Tok.size = 5 := rfl
  rw [e5] at hc hc0
  subst hes
  have c1 := hc 1 (by omega); have c2 := hc 2 (by omega); have c3 := hc 3 (by omega); have c4 := hc 4 (by omega)
  simp only [tokCs, List.getElem?_cons_zero, List.getElem?_cons_succ] at hc0 c1 c2 c3 c4
  rw [tk_at hl]
  refine ⟨b, off, V, hA, hb, hc0, fun j hj => ⟨?_, hs4 j⟩, hbits⟩
  match j, hj with
  | 0, _ => exact c1
  | 1, _ => exact c2
  | 2, _ => exact c3
  | 3, _ => exact c4
def stayB (ts : List Tok) (p : Nat → Bool) (b : UInt8) (n j : Nat) : Bool := decide (j < n) && p j && (tk ts j).eats b
def comeB (ts : List Tok) (p : Nat → Bool) (b : UInt8) (j : Nat) : Bool := decide (0 < j) && p (j - 1) && (tk ts (j - 1)).one && (tk ts (j - 1)).has b
theorem byte_ne47 {b : UInt8} : ((b.toNat : Int) != 47) = (b != 47) := by
  rw [Bool.eq_iff_iff, bne_iff_ne, bne_iff_ne, ne_eq, ne_eq, ← UInt8.toNat_inj]
  have : (47 : UInt8).toNat = 47 := rfl
  omega
theorem skip_congr {ts : List Tok} {p q : Nat → Bool} {n : Nat} (h : ∀ i, i ≤ n → p i = q i) : ∀ {k : Nat}, k ≤ n → skipRow ts p k = skipRow ts q k
  | 0, hk => h 0 hk
  | k + 1, hk => by
    show (p (k + 1) || (skipRow ts p k && !(tk ts k).one)) = (q (k + 1) || (skipRow ts q k && !(tk ts k).one))
    rw [h (k + 1) hk, skip_congr h (by omega : k ≤ n)]
theorem step_set {ts : List Tok} {p : Nat → Bool} {on : List Bool} {b : UInt8} {j n : Nat} {v : Bool} (h : ∀ k, k ≤ n → on.getD k false = if j + 1 ≤ k then stepRow ts p b k else p k) (hl : j < on.length) (hv : stepRow ts p b j = v) (k : Nat) (hk : k ≤ n) :
    (on.set j v).getD k false = if j ≤ k then stepRow ts p b k else p k := by
  by_cases h1 : k = j
  · subst h1
    rw [if_pos (Nat.le_refl _), hv]
    simp [List.getD_eq_getElem?_getD, hl]
  · have e : (on.set j v).getD k false = on.getD k false := by
      simp [List.getD_eq_getElem?_getD, List.getElem?_set, Ne.symm h1]
    rw [e, h k hk]
    by_cases h2 : j + 1 ≤ k
    · rw [if_pos h2, if_pos (by omega)]
    · rw [if_neg h2, if_neg (by omega)]
set_option maxHeartbeats 2000000 in
set_option maxRecDepth 100000 in
theorem svStep {gr go B : Nat} {A : Option Addr} {n c : Nat} {ts : List Tok} {on : List Bool} (b : UInt8) (w : World) (h : RunAt w gr go B A n c ts on) (hn : n ≤ 100000) :
    Calls Tryd.prog 52 #[.pointer (some ⟨gr, 0, none⟩), .int .u8 b.toNat] w fun e w' => e = .returned (.tuple #[]) ∧ ∃ on', RunAt w' gr go B A n c ts on' ∧ (∀ k, k ≤ n → on'.getD k false = skipRow ts (stepRow ts (fun k => on.getD k false) b) k) ∧ w.grownBy w' (some go) := by
  have H := Lib.hid h
  have k0 := h.cells.1
  have l0 := h.blk.lt
  have HT := Lib.hid h.lenT
  obtain ⟨p, hp⟩ : ∃ p : Nat → Bool, p = fun k => on.getD k false := ⟨_, rfl⟩
  have HP := Lib.hid hp
  rw [← hp]
  clear h hp
  go_enter Tryd.func52, Tryd.ntmps52
  go_wp2_with fail
  go_loopw [4] (fun it wr => ∃ (m : Nat) (on' : List Bool), ((m = 0 ∧ it = .int .i64 (-1)) ∨ ∃ j : Nat, m = j + 1 ∧ it = .int .i64 j) ∧ m ≤ n + 1 ∧ RunAt wr gr go B A n c ts on' ∧ (∀ k, k ≤ n → on'.getD k false = if m ≤ k then stepRow ts p b k else p k) ∧ w.grownBy wr (some go)) (fun it _ => (intOf it + 1).toNat)
  case atStart => exact ⟨n + 1, on, .inr ⟨n, rfl, rfl⟩, Nat.le_refl _, H.out, fun k hk => by rw [if_neg (by omega), HP.out], ⟨rfl, rfl, rfl, Nat.le_refl _, fun _ _ _ => rfl⟩⟩
  case round =>
    obtain ⟨m, on', hm, hmn, hrun, hon, hg⟩ := hrel
    have R := Lib.hid hrun; have ON := Lib.hid hon; have G := Lib.hid hg
    clear hrun hon hg k0 l0
    rcases hm with ⟨rfl, rfl⟩ | ⟨j, rfl, rfl⟩
    · go_wp2_with fail
      refine (svSkip _ R.out hn).mono ?_
      rintro e w2 ⟨rfl, on2, hr2, hon2, hg2⟩
      have R2 := Lib.hid hr2; have O2 := Lib.hid hon2; have G2 := Lib.hid (grownBy_trans G.out hg2)
      clear hr2 hon2 hg2
      go_wp2_with fail
      refine bodyPost_end (v := .tuple #[]) (by simp [results, Tryd.results52, go_sem]) rfl ⟨rfl, on2, R2.out, fun k hk => ?_, G2.out⟩
      rw [O2.out k hk]
      exact skip_congr (fun i hi => by rw [ON.out i (by omega), if_pos (Nat.zero_le _)]) hk
    · have q0 := R.out.cells.1; have q1 := R.out.cells.2; have qj := R.out.at_ (i := j) (by omega)
      have lr := R.out.blk.lt; have lo := R.out.onb.lt; have hBr := R.out.hr
      have hpj : on'.getD j false = p j := by rw [ON.out j (by omega), if_neg (by omega)]
      rw [hpj] at qj
      clear hpj
      obtain ⟨pj, hpj⟩ : ∃ v, v = p j := ⟨_, rfl⟩
      rw [← hpj] at qj
      have PJ := Lib.hid hpj
      clear hpj
      go_upto_region 3 with (fail)
      go_cut [5] (fun v wx => v = .bool (stayB ts p b n j) ∧ wr = wx)
      case first =>
        have ES : stayB ts p b n j = (decide (j < n) && pj && (tk ts j).eats b) := by unfold stayB; rw [PJ.out]
        by_cases hjn : j < n
        · obtain ⟨b0, off, V, hA, hb0, hk, hw, hbits⟩ := tok_cells R.out.row hjn
          have lb : b0 < wr.heap.size := by omega
          subst hA
          obtain ⟨K, hK⟩ : ∃ K, K = (tk ts j).kind := ⟨_, rfl⟩
          rw [← hK] at hk
          have ES2 : Hid (stayB ts p b n j = (pj && (K == 2 || (K == 1 && b != 47)))) := Lib.hid (by rw [ES, decide_eq_true hjn, Bool.true_and]; unfold Tok.eats; rw [hK])
          clear ES hw hbits hK
          cases pj with
          | false =>
            go_wp2_with fail
            go_meet
            case rel => exact ⟨by rw [ES2.out]; rfl, rfl⟩
          | true =>
            by_cases h2 : K = 2
            · have t2 : ((K : Int) == 2) = true := by rw [h2]; rfl
              go_wp2_with fail
              go_meet
              case rel => exact ⟨by rw [ES2.out, h2]; rfl, rfl⟩
            · have t2 : ((K : Int) == 2) = false := by rw [beq_eq_false_iff_ne]; omega
              have H2 := Lib.hid h2
              clear h2
              by_cases h1 : K = 1
              · have t1 : ((K : Int) == 1) = true := by rw [h1]; rfl
                have H1 := Lib.hid h1
                clear h1
                go_wp2_with fail
                go_meet
                case rel => exact ⟨by rw [ES2.out, H1.out]; simp [byte_ne47], rfl⟩
              · have t1 : ((K : Int) == 1) = false := by rw [beq_eq_false_iff_ne]; omega
                have H1 := Lib.hid h1
                clear h1
                go_wp2_with fail
                go_meet
                case rel => exact ⟨by rw [ES2.out]; simp [H1.out, H2.out], rfl⟩
        · have ES2 := Lib.hid ES
          clear ES
          go_wp2_with fail
          go_meet
          case rel => exact ⟨by rw [ES2.out, decide_eq_false hjn]; rfl, rfl⟩
      case rest =>
        obtain ⟨rfl, rfl⟩ := hcut
        obtain ⟨st, hst⟩ : ∃ st, st = stayB ts p b n j := ⟨_, rfl⟩
        rw [← hst]
        have ST := Lib.hid hst
        clear hst qj
        go_upto_region 4 with (fail)
        go_cut [6] (fun v wx => v = .bool (comeB ts p b j) ∧ wr = wx)
        case first =>
          by_cases hj0 : j = 0
          · have c0 : decide (0 < j) = false := decide_eq_false (by omega)
            have EC := Lib.hid (show comeB ts p b j = false by unfold comeB; rw [c0]; rfl)
            go_wp2_with fail
            go_meet
            case rel => exact ⟨by rw [EC.out], rfl⟩
          · have c0 : decide (0 < j) = true := decide_eq_true (by omega)
            obtain ⟨i, hi⟩ : ∃ i, i = j - 1 := ⟨_, rfl⟩
            have EC : Hid (comeB ts p b j = (p i && (tk ts i).one && (tk ts i).has b)) := Lib.hid (by unfold comeB; rw [c0, ← hi, Bool.true_and])
            have ew : IntKind.i64.wrap ((j : Int) - 1) = (i : Int) := by rw [IntWalk.i64_in _ (by omega)]; omega
            have ew2 : (j : Int) - 1 = (i : Int) := by omega
            have hin : i < n := by omega
            have hij : i < j := by omega
            clear hi
            have qi := R.out.at_ (i := i) (by omega)
            have hpi : on'.getD i false = p i := by rw [ON.out i (by omega), if_neg (by omega)]
            rw [hpi] at qi
            clear hpi
            obtain ⟨pi, hpi⟩ : ∃ v, v = p i := ⟨_, rfl⟩
            rw [← hpi] at qi
            have EC1 : Hid (comeB ts p b j = (pi && (tk ts i).one && (tk ts i).has b)) := Lib.hid (by rw [EC.out, hpi])
            clear EC hpi
            obtain ⟨b0, off, V, hA, hb0, hk, hw, hbits⟩ := tok_cells R.out.row hin
            have lb : b0 < wr.heap.size := by omega
            subst hA
            obtain ⟨K, hK⟩ : ∃ K, K = (tk ts i).kind := ⟨_, rfl⟩
            rw [← hK] at hk
            have EC2 : Hid (comeB ts p b j = (pi && (K == 0) && hasN V b)) := Lib.hid (by rw [EC1.out, hbits b]; unfold Tok.one; rw [hK])
            have HW := Lib.hid hw
            clear EC1 hw hbits hK
            cases pi with
            | false =>
              go_wp2_with fail
              go_meet
              case rel => exact ⟨by rw [EC2.out]; rfl, rfl⟩
            | true =>
              by_cases h0 : K = 0
              · have t0 : ((K : Int) == 0) = true := by rw [h0]; rfl
                have H0 := Lib.hid h0
                clear h0
                go_wp2_with fail
                refine (svHas b0 (off + i * 5) V b _ HW.out).mono ?_
                rintro e w2 ⟨rfl, hw2⟩
                rw [hw2]
                clear hw2
                go_wp2_with fail
                go_meet
                case rel => exact ⟨by rw [EC2.out, H0.out]; rfl, rfl⟩
              · have t0 : ((K : Int) == 0) = false := by rw [beq_eq_false_iff_ne]; omega
                have H0 := Lib.hid h0
                clear h0
                go_wp2_with fail
                go_meet
                case rel => exact ⟨by rw [EC2.out]; simp [H0.out], rfl⟩
        case rest =>
          obtain ⟨rfl, rfl⟩ := hcut
          obtain ⟨cm, hcm⟩ : ∃ cm, cm = comeB ts p b j := ⟨_, rfl⟩
          rw [← hcm]
          have CM := Lib.hid hcm
          clear hcm
          have qj := R.out.at_ (i := j) (by omega)
          have fj := R.out.onb.frozen j
          have VV : Hid (stepRow ts p b j = (st || cm)) := Lib.hid (by rw [ST.out, CM.out]; unfold stepRow stayB comeB; rw [HT.out])
          have FIN := fun v (hv : stepRow ts p b j = v) => step_set (n := n) ON.out (by have := R.out.len; omega) hv
          have FI := Lib.hid FIN
          clear FIN
          have RS := Lib.hid (R.out.set j)
          have NX : Hid ((j = 0 ∧ Value.int .i64 ((j : Int) - 1) = .int .i64 (-1)) ∨ ∃ i : Nat, j = i + 1 ∧ Value.int .i64 ((j : Int) - 1) = .int .i64 i) := Lib.hid (by
            by_cases hj0 : j = 0
            · left; subst hj0; exact ⟨rfl, rfl⟩
            · right; exact ⟨j - 1, by omega, by congr 1; omega⟩)
          cases st with
          | true =>
            go_wp2_with fail
            go_roundw
            case rel => exact ⟨j, _, NX.out, by omega, RS.out true, FI.out true (by rw [VV.out]; rfl), grown_cell G.out⟩
            case measure => simp [intOf]
          | false =>
            go_wp2_with fail
            go_roundw
            case rel => exact ⟨j, _, NX.out, by omega, RS.out cm, FI.out cm (by rw [VV.out]; rfl), grown_cell G.out⟩
            case measure => simp [intOf]
end Go.Proofs.YtjknjmlpnjifkaaDoor
