/- The reference's Diff: what it computes. No condition but room. -/
import Derived.Test.YtdlkgpnfhmablaaRefDiff0
import Derived.Test.YtdlkgpnfhmablaaSameLine
namespace Go.Proofs.Ytdlkgpnfhmablaa
open Go.RowKit
set_option linter.unusedVariables false
set_option linter.unusedSimpArgs false
attribute [local go_sem] cell?_over frozen?_over lt_over le_over

theorem refPutO {v : Value} {base : Nat} {l : List ChangeD} (p : ByteArray) (n : Int) (w : World) (h : Own Shape.ChangeD 36 w base (fun _ => False) v l) (hp : p.size ≤ maxLen) (hi : I64 n) (hn : l.length ≤ 1000000000) :
    Calls Try.prog 26 #[v, .agg #[.string p, .int .i64 n]] w fun e w' => ∃ v, e = .returned v ∧ Own Shape.ChangeD 36 w' w.heap.size (fun _ => False) v (putL l ⟨p, n⟩) ∧ Below w.heap.size w w' := by
  have hf := h.form
  obtain ⟨A, m, c, rfl, hmc, hcm, hrow⟩ := h.rd_old
  have hm := hrow.1
  refine refPut ⟨p, n⟩ w hrow hmc ?_ ⟨hp, hi⟩ (by omega)
  rcases hf with ⟨e, _⟩ | ⟨g, cap, e, _⟩
  · simp only [Value.slice.injEq] at e
    exact .inl ⟨e.1, e.2.2⟩
  · simp only [Value.slice.injEq] at e
    exact .inr ⟨g, 0, e.1⟩
/-- the changes so far, put -/
def outA (a b : List LineD) (k : Nat) : List ChangeD := ((List.range k).filterMap (stepA a b)).foldl putL []
def outB (a b : List LineD) (k : Nat) : List ChangeD := ((List.range k).filterMap (stepB a b)).foldl putL (outA a b a.length)
theorem outA_succ (a b : List LineD) (k : Nat) : outA a b (k + 1) = match stepA a b k with | none => outA a b k | some c => putL (outA a b k) c := by
  unfold outA
  rw [List.range_succ, List.filterMap_append, List.foldl_append]
  simp only [List.filterMap_cons, List.filterMap_nil]
  cases stepA a b k <;> rfl
theorem outB_succ (a b : List LineD) (k : Nat) : outB a b (k + 1) = match stepB a b k with | none => outB a b k | some c => putL (outB a b k) c := by
  unfold outB
  rw [List.range_succ, List.filterMap_append, List.foldl_append]
  simp only [List.filterMap_cons, List.filterMap_nil]
  cases stepB a b k <;> rfl
theorem outB_all (a b : List LineD) : outB a b b.length = diffL a b := by
  unfold outB outA diffL changes
  rw [List.foldl_append]
theorem putL_len (l : List ChangeD) (c : ChangeD) : (putL l c).length = l.length + 1 := (putL_perm l c).length_eq
theorem fold_len (L acc : List ChangeD) : (L.foldl putL acc).length = acc.length + L.length := by
  induction L generalizing acc with
  | nil => simp
  | cons c L ih => rw [List.foldl_cons, ih, putL_len, List.length_cons]; omega
theorem outA_len (a b : List LineD) (k : Nat) : (outA a b k).length ≤ k := by
  unfold outA
  have := List.length_filterMap_le (stepA a b) (List.range k)
  rw [fold_len]; simp at this; simpa using this
theorem outB_len (a b : List LineD) (k : Nat) : (outB a b k).length ≤ a.length + k := by
  unfold outB
  have h1 := outA_len a b a.length
  have := List.length_filterMap_le (stepB a b) (List.range k)
  rw [fold_len]; simp at this; omega
/-- so many bytes in each datum at the most -/
def SmallL (l : List LineD) : Prop := ∀ d ∈ l, d.data.length ≤ 140737488355328
theorem below_old {w wr w' : World} (h : Below w.heap.size w wr) (k : Below wr.heap.size wr w') : Below w.heap.size w w' := h.trans (k.mono h.size)
set_option maxHeartbeats 600000 in
set_option maxRecDepth 100000 in
theorem refDiff {A B : Option Addr} {n m c c' : Nat} {la lb : List LineD} (w : World) (hA : Row Shape.LineD w (Old w) A n la) (hB : Row Shape.LineD w (Old w) B m lb) (sA : SmallL la) (sB : SmallL lb) (hn : n ≤ 100000000) (hm : m ≤ 100000000) :
    Calls Try.prog 14 #[.slice A n c, .slice B m c'] w fun e w' => ∃ v, e = .returned v ∧ Own Shape.ChangeD 36 w' w.heap.size (fun _ => False) v (diffL la lb) ∧ Below w.heap.size w w' := by
  have HLA := Lib.hid hA.1
  have HLB := Lib.hid hB.1
  go_enter Try.func14, Try.ntmps14
  go_wp2_with fail
  go_loopw [5, 6] (fun v i wr => ∃ k : Nat, k ≤ n ∧ i = .int .i64 k ∧ Own Shape.ChangeD 36 wr w.heap.size (fun _ => False) v (outA la lb k) ∧ Below w.heap.size w wr) (fun _ i _ => n - (intOf i).toNat)
  case atStart => exact ⟨0, Nat.zero_le _, rfl, Own.made Shape.ChangeD 36 w w.heap.size (Nat.le_refl _), by go_grown⟩
  case round =>
    obtain ⟨k, hk, rfl, hown, hbel⟩ := hrel
    have O := Lib.hid hown; clear hown
    by_cases hlt : k < n
    · obtain ⟨b, off, es, hkl, rfl, hb, hc, hc0, hr⟩ := hA.elem (Keeps.old hbel) hlt
      have R := Lib.hid (show LineD.rd wr (Old wr) es la[k] from Shape.LineD.more hr fun _ hn => Old.below hbel hn)
      obtain ⟨_, _, _, rfl, hps, -⟩ := hr
      have e13 : Shape.LineD.size = 10 := rfl
      simp only [e13] at hc hc0
      simp only [List.getElem?_cons_zero] at hc0
      clear e13
      have HC := Lib.hid hc; clear hc
      have hb2 := Nat.lt_of_lt_of_le hb hbel.size
      have hks : (k : Int) < n := by omega
      have hgd := getD_lt hkl
      have hsm := sA _ (List.getElem_mem hkl)
      have holen := outA_len la lb k
      obtain ⟨d, hd⟩ : ∃ d, d = la[k] := ⟨_, rfl⟩
      rw [← hd] at hc0 hps hgd hsm R
      rw [← hd] at HC
      obtain ⟨i0, hi0⟩ := atL_exists hkl (show (la.getD k default).path = d.path by rw [hgd])
      have hstep := outA_succ la lb k
      have hAt := refAt (c := c) d.path wr (hA.below hbel) (by omega)
      rw [atI_some hi0] at hAt
      have CA := Lib.hid hAt; clear hAt
      have HD := Lib.hid hd; clear hd
      have HBel := Lib.hid hbel
      have hsz := hbel.size
      clear hbel
      by_cases hik : i0 = k
      · subst hik
        have t1 : ((i0 : Int) != (i0 : Int)) = false := by simp
        cases hj : atL lb d.path with
        | none =>
          have hstep2 : outA la lb (i0 + 1) = putL (outA la lb i0) ⟨d.path, 2⟩ := by
            rw [hstep]; unfold stepA; rw [hgd, if_pos hi0, hj]
          have hAt2 := refAt (c := c') d.path wr (hB.below HBel.out) (by omega)
          rw [atI_none hj] at hAt2
          have CB := Lib.hid hAt2
          have HS := Lib.hid hstep2
          clear hAt2 hstep2 hstep hgd hi0 hj
          go_wp2_with fail
          refine CA.out.mono ?_; rintro e w' ⟨rfl, rfl⟩
          go_wp2_with fail
          refine CB.out.mono ?_; rintro e w' ⟨rfl, rfl⟩
          go_wp2_with fail
          refine (refPutO d.path 2 _ O.out hps (by unfold I64; omega) (by omega)).mono ?_; rintro e w1 ⟨v1, rfl, hown1, hb1⟩
          go_wp2_with fail
          go_roundw
          case rel => exact ⟨i0 + 1, by omega, by go_num, by rw [HS.out]; exact hown1.low hsz, below_old HBel.out hb1⟩
          case measure => simp [intOf]; omega
        | some j =>
          obtain ⟨hjl, hjp⟩ := atL_some hj
          have hjm : j < m := by rw [← HLB.out]; exact hjl
          obtain ⟨b', off', es', _, rfl, hb', hc', hc0', hr'⟩ := hB.elem (Keeps.old HBel.out) hjm
          have R' := Lib.hid (show LineD.rd wr (Old wr) es' lb[j] from Shape.LineD.more hr' fun _ hn => Old.below HBel.out hn)
          obtain ⟨_, _, _, rfl, -⟩ := hr'
          have e13 : Shape.LineD.size = 10 := rfl
          simp only [e13] at hc' hc0'
          clear e13
          have hb2' := Nat.lt_of_lt_of_le hb' HBel.out.size
          have hjs : (j : Int) < m := by omega
          have hsm' := sB _ (List.getElem_mem hjl)
          have hgd' := getD_lt hjl
          obtain ⟨d', hd'⟩ : ∃ d', d' = lb[j] := ⟨_, rfl⟩
          rw [← hd'] at hc0' hgd' hsm' hc' R'
          have HD' := Lib.hid hd'; clear hd'
          have HC' := Lib.hid hc'; clear hc'
          have hAt2 := refAt (c := c') d.path wr (hB.below HBel.out) (by omega)
          rw [atI_some hj] at hAt2
          have CB := Lib.hid hAt2
          have jn : ¬ ((j : Int) < 0) := by omega
          by_cases hdd : d = d'
          · have hstep2 : outA la lb (i0 + 1) = outA la lb i0 := by
              rw [hstep]; unfold stepA; rw [hgd, if_pos hi0, hj]; simp only; rw [hgd', if_pos hdd]
            have SL : ∀ δ, Calls Try.prog 27 _ (over wr δ) _ := fun δ => sameLine (over wr δ) (Shape.LineD.below R.out (below_over _ _)) (Shape.LineD.below R'.out (below_over _ _)) hsm hsm'
            simp only [decide_eq_true hdd] at SL
            have HSL := Lib.hid SL; clear SL
            have HS := Lib.hid hstep2
            clear hAt2 hstep2 hstep hgd hi0 hj hgd' hjp
            have HDD := Lib.hid hdd; clear hdd
            go_wp2_with fail
            refine CA.out.mono ?_; rintro e w' ⟨rfl, rfl⟩
            go_wp2_with fail
            refine CB.out.mono ?_; rintro e w' ⟨rfl, rfl⟩
            have hc := HC.out
            have hc' := HC'.out
            go_wp2_with fail
            refine wp_region_over (by kernel_rfl) (by kernel_rfl) ?_
            repeat (go_big_quiet_step (first | (go_at_call 27; exact calls_over (HSL.out _))))
            refine wpQuiet_nil ?_
            rintro _ ⟨δ, rfl⟩
            clear hc hc'
            go_wp2_with fail
            go_roundw
            case rel => exact ⟨i0 + 1, by omega, by go_num, by rw [HS.out]; exact O.out.over_ δ, below_trans_over HBel.out hsz δ⟩
            case measure => simp [intOf]; omega
          · have hstep2 : outA la lb (i0 + 1) = putL (outA la lb i0) ⟨d.path, 3⟩ := by
              rw [hstep]; unfold stepA; rw [hgd, if_pos hi0, hj]; simp only; rw [hgd', if_neg hdd]
            have SL : ∀ δ, Calls Try.prog 27 _ (over wr δ) _ := fun δ => sameLine (over wr δ) (Shape.LineD.below R.out (below_over _ _)) (Shape.LineD.below R'.out (below_over _ _)) hsm hsm'
            simp only [decide_eq_false hdd] at SL
            have HSL := Lib.hid SL; clear SL
            have HS := Lib.hid hstep2
            clear hAt2 hstep2 hstep hgd hi0 hj hgd' hjp
            have HDD := Lib.hid hdd; clear hdd
            go_wp2_with fail
            refine CA.out.mono ?_; rintro e w' ⟨rfl, rfl⟩
            go_wp2_with fail
            refine CB.out.mono ?_; rintro e w' ⟨rfl, rfl⟩
            have hc := HC.out
            have hc' := HC'.out
            go_wp2_with fail
            refine wp_region_over (by kernel_rfl) (by kernel_rfl) ?_
            repeat (go_big_quiet_step (first | (go_at_call 27; exact calls_over (HSL.out _))))
            refine wpQuiet_nil ?_
            rintro _ ⟨δ, rfl⟩
            clear hc hc'
            have O2 := Lib.hid (O.out.over_ δ)
            go_wp2_with fail
            refine (refPutO d.path 3 _ O2.out hps (by unfold I64; omega) (by omega)).mono ?_; rintro e w1 ⟨v1, rfl, hown1, hb1⟩
            go_wp2_with fail
            go_roundw
            case rel => exact ⟨i0 + 1, by omega, by go_num, by rw [HS.out]; exact hown1.low (by have := size_over_le wr δ; omega), below_old (below_trans_over HBel.out hsz δ) hb1⟩
            case measure => simp [intOf]; omega
      · have t1 : ((i0 : Int) != (k : Int)) = true := by simp; omega
        have hstep2 : outA la lb (k + 1) = outA la lb k := by
          rw [hstep]; unfold stepA; rw [hgd, if_neg (by rw [hi0]; intro e; exact hik (Option.some.inj e))]
        have HS := Lib.hid hstep2
        clear hstep2 hstep hgd hi0
        go_wp2_with fail
        refine CA.out.mono ?_; rintro e w' ⟨rfl, rfl⟩
        go_wp2_with fail
        go_roundw
        case rel => exact ⟨k + 1, by omega, by go_num, by rw [HS.out]; exact O.out, HBel.out⟩
        case measure => simp [intOf]; omega
    · have hkn : k = la.length := by have := HLA.out; omega
      rw [hkn, show outA la lb la.length = outB la lb 0 from rfl] at O
      clear hkn
      have HB0 := Lib.hid hbel; clear hbel
      obtain ⟨wo, hwo⟩ : ∃ wo : World, wo = wr := ⟨_, rfl⟩
      go_wp2_with fail
      go_loopw [5, 8] (fun v i wr => ∃ k : Nat, k ≤ m ∧ i = .int .i64 k ∧ Own Shape.ChangeD 36 wr w.heap.size (fun _ => False) v (outB la lb k) ∧ Below w.heap.size w wr) (fun _ i _ => m - (intOf i).toNat)
      case atStart => exact ⟨0, Nat.zero_le _, rfl, O.out, HB0.out⟩
      case round =>
        clear O HB0 hwo
        obtain ⟨k, hk, rfl, hown, hbel⟩ := hrel
        have O := Lib.hid hown; clear hown
        by_cases hlt : k < m
        · obtain ⟨b, off, es, hkl, rfl, hb, hc, hc0, hr⟩ := hB.elem (Keeps.old hbel) hlt
          obtain ⟨_, _, _, rfl, hps, -⟩ := hr
          have e13 : Shape.LineD.size = 10 := rfl
          simp only [e13, List.getElem?_cons_zero] at hc0
          clear e13 hc
          have hb2 := Nat.lt_of_lt_of_le hb hbel.size
          have hks : (k : Int) < m := by omega
          have hgd := getD_lt hkl
          have holen := outB_len la lb k
          have hla := HLA.out
          obtain ⟨d, hd⟩ : ∃ d, d = lb[k] := ⟨_, rfl⟩
          rw [← hd] at hc0 hps hgd
          obtain ⟨j0, hj0⟩ := atL_exists hkl (show (lb.getD k default).path = d.path by rw [hgd])
          have hstep := outB_succ la lb k
          have hAt := refAt (c := c') d.path wr (hB.below hbel) (by omega)
          rw [atI_some hj0] at hAt
          have CB := Lib.hid hAt; clear hAt
          have HD := Lib.hid hd; clear hd
          have HBel := Lib.hid hbel
          have hsz := hbel.size
          clear hbel
          have HLA2 := Lib.hid hla
          have holen2 : (outB la lb k).length ≤ 1000000000 := by omega
          clear hla holen
          by_cases hjk : j0 = k
          · subst hjk
            have t1 : ((j0 : Int) == (j0 : Int)) = true := by simp
            cases hi : atL la d.path with
            | none =>
              have hstep2 : outB la lb (j0 + 1) = putL (outB la lb j0) ⟨d.path, 1⟩ := by
                rw [hstep]; unfold stepB; rw [hgd, if_pos ⟨hj0, hi⟩]
              have hAt2 := refAt (c := c) d.path wr (hA.below HBel.out) (by omega)
              rw [atI_none hi] at hAt2
              have CA := Lib.hid hAt2
              have HS := Lib.hid hstep2
              clear hAt2 hstep2 hstep hgd hi hj0
              go_wp2_with fail
              refine CB.out.mono ?_; rintro e w' ⟨rfl, rfl⟩
              go_wp2_with fail
              refine CA.out.mono ?_; rintro e w' ⟨rfl, rfl⟩
              go_wp2_with fail
              refine (refPutO d.path 1 _ O.out hps (by unfold I64; omega) holen2).mono ?_; rintro e w1 ⟨v1, rfl, hown1, hb1⟩
              go_wp2_with fail
              go_roundw
              case rel => exact ⟨j0 + 1, by omega, by go_num, by rw [HS.out]; exact hown1.low hsz, below_old HBel.out hb1⟩
              case measure => simp [intOf]; omega
            | some i =>
              have hstep2 : outB la lb (j0 + 1) = outB la lb j0 := by
                rw [hstep]; unfold stepB; rw [hgd, if_neg (by rw [hi]; intro h; cases h.2)]
              have hAt2 := refAt (c := c) d.path wr (hA.below HBel.out) (by omega)
              rw [atI_some hi] at hAt2
              have CA := Lib.hid hAt2
              have HS := Lib.hid hstep2
              have jn : decide ((i : Int) < 0) = false := by simp
              clear hAt2 hstep2 hstep hgd hi hj0
              go_wp2_with fail
              refine CB.out.mono ?_; rintro e w' ⟨rfl, rfl⟩
              go_wp2_with fail
              refine CA.out.mono ?_; rintro e w' ⟨rfl, rfl⟩
              go_wp2_with fail
              go_roundw
              case rel => exact ⟨j0 + 1, by omega, by go_num, by rw [HS.out]; exact O.out, HBel.out⟩
              case measure => simp [intOf]; omega
          · have t1 : ((j0 : Int) == (k : Int)) = false := by simp; omega
            have hstep2 : outB la lb (k + 1) = outB la lb k := by
              rw [hstep]; unfold stepB; rw [hgd, if_neg (by rw [hj0]; intro e; exact hjk (Option.some.inj e.1))]
            have HS := Lib.hid hstep2
            clear hstep2 hstep hgd hj0
            go_wp2_with fail
            refine CB.out.mono ?_; rintro e w' ⟨rfl, rfl⟩
            go_wp2_with fail
            go_roundw
            case rel => exact ⟨k + 1, by omega, by go_num, by rw [HS.out]; exact O.out, HBel.out⟩
            case measure => simp [intOf]; omega
        · have hkn : k = lb.length := by have := HLB.out; omega
          rw [hkn, outB_all] at O
          have HB0 := Lib.hid hbel
          go_wp2_with fail
          go_ret
          exact ⟨_, rfl, O.out, HB0.out⟩
end Go.Proofs.Ytdlkgpnfhmablaa
