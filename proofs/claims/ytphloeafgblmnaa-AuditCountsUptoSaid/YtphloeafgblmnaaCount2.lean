/- What a trace did, counted by the reference. No condition. -/
import Derived.Test.YtphloeafgblmnaaCount
namespace Go.Proofs.Ytphloeafgblmnaa
open Go.RowKit
attribute [local go_sem] cell?_over frozen?_over lt_over le_over
theorem among (x : Int) (b : Nat) (zs : List Int) (w : World) (hz : zs.length ≤ 100) (h : ∀ j, w.cell? ⟨b, j, none⟩ = (zs.map (Value.int .i64))[j]?) :
    Calls Try.prog 33 #[.int .i64 x, .slice (some ⟨b, 0, none⟩) zs.length zs.length] w fun e w' => e = .returned (.bool (decide (x ∈ zs))) ∧ w = w' := by
  go_enter Try.func33, Try.ntmps33
  go_wp2_with fail
  go_loop [5] (fun i => ∃ k : Nat, k ≤ zs.length ∧ i = .int .i64 k ∧ x ∉ zs.take k) (fun i => zs.length - (intOf i).toNat)
  case atStart => exact ⟨0, Nat.zero_le _, rfl, by simp⟩
  case round =>
    obtain ⟨k, hk, rfl, hno⟩ := hrel
    have HN := Lib.hid hno; clear hno
    by_cases hlt : k < zs.length
    · have hc : w.cell? ⟨b, k, none⟩ = some (.int .i64 zs[k]) := by rw [h]; simp [hlt]
      have hks : (k : Int) < zs.length := by omega
      have e : zs.take (k + 1) = zs.take k ++ [zs[k]] := List.take_succ_eq_append_getElem hlt
      have HE := Lib.hid e
      have HH := Lib.hid h; clear h e
      by_cases hx : zs[k] = x
      · have hb : (zs[k] == x) = true := by simpa using hx
        have hin : decide (x ∈ zs) = true := by rw [decide_eq_true_iff, ← hx]; exact List.getElem_mem hlt
        have HI := Lib.hid hin; clear hin hx
        go_wp2
        go_ret
        exact ⟨ret_bool HI.out.symm, rfl⟩
      · have hb : (zs[k] == x) = false := by simpa using hx
        have HX := Lib.hid hx; clear hx
        go_wp2
        go_round
        case rel => exact ⟨k + 1, by omega, by go_num, by rw [HE.out, List.mem_append, not_or]; exact ⟨HN.out, by simpa using fun e => HX.out e.symm⟩⟩
        case measure => simp [intOf]; omega
    · have e : zs.take k = zs := List.take_of_length_le (by omega)
      have HE := Lib.hid e; clear e h
      go_wp2
      go_ret
      exact ⟨ret_bool (by have := HN.out; rw [HE.out] at this; exact (decide_eq_false this).symm), rfl⟩
theorem wholeTallyR : Whole Try.prog 41 7 := ⟨by kernel_rfl, by kernel_rfl⟩
set_option maxRecDepth 100000 in
set_option maxHeartbeats 4000000 in
theorem refCount {A : Option Addr} {n c : Nat} {l : List CallD} (w : World) (h : Row Shape.CallD w (Old w) A n l) (hn : n ≤ 1000000000000) :
    Calls Try.prog 11 #[.slice A n c] w fun e w' => e = .returned (.agg (tally n l).cells) ∧ ∃ δ, w' = over w δ := by
  have HL := Lib.hid h.1
  go_enter Try.func11, Try.ntmps11
  go_wp2_with fail
  go_loopw [4] (fun i wr => ∃ k : Nat, k ≤ n ∧ i = .int .i64 k ∧ Below w.heap.size w wr ∧ Blk wr w.heap.size 41 #[.int .i64 0, .int .i64 0, .int .i64 0, .int .i64 0, .int .i64 0, .int .i64 0, .int .i64 0] ∧ Blk wr (w.heap.size + 1) 41 (tally n (l.take k)).cells) (fun i _ => n - (intOf i).toNat)
  case atStart =>
    refine ⟨0, Nat.zero_le _, rfl, by go_grown, ?_, ?_⟩
    · exact (Blk.new _ _ _).alloc _
    · have := Blk.new (w.alloc (.cells #[.int .i64 0, .int .i64 0, .int .i64 0, .int .i64 0, .int .i64 0, .int .i64 0, .int .i64 0] 41)) 41 (tally n []).cells
      simpa [tally, TallyD.cells] using this
  case round =>
    obtain ⟨k, hk, rfl, hbel, b1, b2⟩ := hrel
    by_cases hlt : k < n
    · obtain ⟨b, off, es, hkl, rfl, hb, hc, hc0, hr⟩ := h.elem (Keeps.old hbel) hlt
      obtain ⟨_, _, _, rfl, -⟩ := hr
      have e13 : Shape.CallD.size = 13 := rfl
      simp only [e13] at hc hc0
      clear e13
      have hb2 := Nat.lt_of_lt_of_le hb hbel.size
      have hks : (k : Int) < n := by omega
      have e : l.take (k + 1) = l.take k ++ [l[k]] := List.take_succ_eq_append_getElem hkl
      have HE := Lib.hid e; clear e
      generalize l[k] = d at *
      generalize ht : tally n (l.take k) = t at *
      have HT := Lib.hid ht; clear ht
      obtain ⟨t0, t1, t2, t3, t4, t5, t6⟩ := t
      have k2 := b2.cell
      simp only [TallyD.cells] at k2
      have f2 := b2.frozen
      have hl2 := b2.lt
      obtain ⟨z1, z2, z3, z4, z5, z6⟩ : (w.heap.size < wr.heap.size) ∧ (w.heap.size < wr.heap.size + 1) ∧ (w.heap.size < wr.heap.size + 1 + 1) ∧ (w.heap.size < wr.heap.size + 1 + 1 + 1) ∧ (wr.heap.size < wr.heap.size + 1 + 1) ∧ (wr.heap.size < wr.heap.size + 1 + 1 + 1) := by omega
      have HB := Lib.hid hbel; have B1 := Lib.hid b1; have B2 := Lib.hid b2
      clear hbel b1 b2
      by_cases hcode : d.code = 0
      · have hcd : (d.code != 0) = false := by simpa using hcode
        have HC := Lib.hid hcode; clear hcode
        by_cases o5 : d.op = 5
        · rw [o5] at hc0
          have O := Lib.hid o5; clear o5
          go_wp2_with fail
          refine (among 5 _ [4, 5, 6] _ (by decide) ?_).mono ?_
          · intro j; go_simp
          rintro e w' ⟨rfl, rfl⟩
          go_wp2_with fail
          refine (among 5 _ [8, 14] _ (by decide) ?_).mono ?_
          · intro j; go_simp
          rintro e w' ⟨rfl, rfl⟩
          go_wp2_with fail
          refine (among 5 _ [1, 2, 3, 5] _ (by decide) ?_).mono ?_
          · intro j; go_simp
          rintro e w' ⟨rfl, rfl⟩
          go_wp2
          go_roundw
          case rel =>
            refine ⟨k + 1, by omega, by go_num, ?_, ?_, ?_⟩
            · have hbel := HB.out
              go_grown
            · exact ((((((B1.out.far (by simp) _).far (by simp) _).alloc _).alloc _).alloc _).alloc _)
            · refine Blk.to ((((((B2.out.set_ 2 _).set_ 4 _).alloc _).alloc _).alloc _).alloc _) ?_
              rw [HE.out, tally_snoc, HT.out, tstep, if_pos HC.out]
              simp [O.out, inc, TallyD.cells]
              try rfl
          case measure => simp [intOf]; omega
        · have y5 : (d.op == 5) = false := by simpa using o5
          by_cases o4 : d.op = 4
          · rw [o4] at hc0
            have O := Lib.hid o4; clear o5 o4
            go_wp2_with fail
            refine (among 4 _ [4, 5, 6] _ (by decide) ?_).mono ?_
            · intro j; go_simp
            rintro e w' ⟨rfl, rfl⟩
            go_wp2_with fail
            refine (among 4 _ [8, 14] _ (by decide) ?_).mono ?_
            · intro j; go_simp
            rintro e w' ⟨rfl, rfl⟩
            go_wp2_with fail
            refine (among 4 _ [1, 2, 3, 5] _ (by decide) ?_).mono ?_
            · intro j; go_simp
            rintro e w' ⟨rfl, rfl⟩
            go_wp2
            go_roundw
            case rel =>
              refine ⟨k + 1, by omega, by go_num, ?_, ?_, ?_⟩
              · have hbel := HB.out
                go_grown
              · exact (((((B1.out.far (by simp) _).alloc _).alloc _).alloc _).alloc _)
              · refine Blk.to (((((B2.out.set_ 2 _).alloc _).alloc _).alloc _).alloc _) ?_
                rw [HE.out, tally_snoc, HT.out, tstep, if_pos HC.out]
                simp [O.out, inc, TallyD.cells]
                try rfl
            case measure => simp [intOf]; omega
          · have y4 : (d.op == 4) = false := by simpa using o4
            by_cases o6 : d.op = 6
            · rw [o6] at hc0
              have O := Lib.hid o6; clear o5 o4 o6
              go_wp2_with fail
              refine (among 6 _ [4, 5, 6] _ (by decide) ?_).mono ?_
              · intro j; go_simp
              rintro e w' ⟨rfl, rfl⟩
              go_wp2_with fail
              refine (among 6 _ [8, 14] _ (by decide) ?_).mono ?_
              · intro j; go_simp
              rintro e w' ⟨rfl, rfl⟩
              go_wp2_with fail
              refine (among 6 _ [1, 2, 3, 5] _ (by decide) ?_).mono ?_
              · intro j; go_simp
              rintro e w' ⟨rfl, rfl⟩
              go_wp2
              go_roundw
              case rel =>
                refine ⟨k + 1, by omega, by go_num, ?_, ?_, ?_⟩
                · have hbel := HB.out
                  go_grown
                · exact (((((B1.out.far (by simp) _).alloc _).alloc _).alloc _).alloc _)
                · refine Blk.to (((((B2.out.set_ 2 _).alloc _).alloc _).alloc _).alloc _) ?_
                  rw [HE.out, tally_snoc, HT.out, tstep, if_pos HC.out]
                  simp [O.out, inc, TallyD.cells]
                  try rfl
              case measure => simp [intOf]; omega
            · have y6 : (d.op == 6) = false := by simpa using o6
              by_cases o8 : d.op = 8
              · rw [o8] at hc0
                have O := Lib.hid o8; clear o5 o4 o6 o8
                go_wp2_with fail
                refine (among 8 _ [4, 5, 6] _ (by decide) ?_).mono ?_
                · intro j; go_simp
                rintro e w' ⟨rfl, rfl⟩
                go_wp2_with fail
                refine (among 8 _ [8, 14] _ (by decide) ?_).mono ?_
                · intro j; go_simp
                rintro e w' ⟨rfl, rfl⟩
                go_wp2_with fail
                refine (among 8 _ [1, 2, 3, 5] _ (by decide) ?_).mono ?_
                · intro j; go_simp
                rintro e w' ⟨rfl, rfl⟩
                go_wp2
                go_roundw
                case rel =>
                  refine ⟨k + 1, by omega, by go_num, ?_, ?_, ?_⟩
                  · have hbel := HB.out
                    go_grown
                  · exact (((((B1.out.far (by simp) _).alloc _).alloc _).alloc _).alloc _)
                  · refine Blk.to (((((B2.out.set_ 3 _).alloc _).alloc _).alloc _).alloc _) ?_
                    rw [HE.out, tally_snoc, HT.out, tstep, if_pos HC.out]
                    simp [O.out, inc, TallyD.cells]
                    try rfl
                case measure => simp [intOf]; omega
              · have y8 : (d.op == 8) = false := by simpa using o8
                by_cases o14 : d.op = 14
                · rw [o14] at hc0
                  have O := Lib.hid o14; clear o5 o4 o6 o8 o14
                  go_wp2_with fail
                  refine (among 14 _ [4, 5, 6] _ (by decide) ?_).mono ?_
                  · intro j; go_simp
                  rintro e w' ⟨rfl, rfl⟩
                  go_wp2_with fail
                  refine (among 14 _ [8, 14] _ (by decide) ?_).mono ?_
                  · intro j; go_simp
                  rintro e w' ⟨rfl, rfl⟩
                  go_wp2_with fail
                  refine (among 14 _ [1, 2, 3, 5] _ (by decide) ?_).mono ?_
                  · intro j; go_simp
                  rintro e w' ⟨rfl, rfl⟩
                  go_wp2
                  go_roundw
                  case rel =>
                    refine ⟨k + 1, by omega, by go_num, ?_, ?_, ?_⟩
                    · have hbel := HB.out
                      go_grown
                    · exact (((((B1.out.far (by simp) _).alloc _).alloc _).alloc _).alloc _)
                    · refine Blk.to (((((B2.out.set_ 3 _).alloc _).alloc _).alloc _).alloc _) ?_
                      rw [HE.out, tally_snoc, HT.out, tstep, if_pos HC.out]
                      simp [O.out, inc, TallyD.cells]
                      try rfl
                  case measure => simp [intOf]; omega
                · have y14 : (d.op == 14) = false := by simpa using o14
                  by_cases o1 : d.op = 1
                  · rw [o1] at hc0
                    have O := Lib.hid o1; clear o5 o4 o6 o8 o14 o1
                    go_wp2_with fail
                    refine (among 1 _ [4, 5, 6] _ (by decide) ?_).mono ?_
                    · intro j; go_simp
                    rintro e w' ⟨rfl, rfl⟩
                    go_wp2_with fail
                    refine (among 1 _ [8, 14] _ (by decide) ?_).mono ?_
                    · intro j; go_simp
                    rintro e w' ⟨rfl, rfl⟩
                    go_wp2_with fail
                    refine (among 1 _ [1, 2, 3, 5] _ (by decide) ?_).mono ?_
                    · intro j; go_simp
                    rintro e w' ⟨rfl, rfl⟩
                    go_wp2
                    go_roundw
                    case rel =>
                      refine ⟨k + 1, by omega, by go_num, ?_, ?_, ?_⟩
                      · have hbel := HB.out
                        go_grown
                      · exact (((((B1.out.far (by simp) _).alloc _).alloc _).alloc _).alloc _)
                      · refine Blk.to (((((B2.out.set_ 4 _).alloc _).alloc _).alloc _).alloc _) ?_
                        rw [HE.out, tally_snoc, HT.out, tstep, if_pos HC.out]
                        simp [O.out, inc, TallyD.cells]
                        try rfl
                    case measure => simp [intOf]; omega
                  · have y1 : (d.op == 1) = false := by simpa using o1
                    by_cases o2 : d.op = 2
                    · rw [o2] at hc0
                      have O := Lib.hid o2; clear o5 o4 o6 o8 o14 o1 o2
                      go_wp2_with fail
                      refine (among 2 _ [4, 5, 6] _ (by decide) ?_).mono ?_
                      · intro j; go_simp
                      rintro e w' ⟨rfl, rfl⟩
                      go_wp2_with fail
                      refine (among 2 _ [8, 14] _ (by decide) ?_).mono ?_
                      · intro j; go_simp
                      rintro e w' ⟨rfl, rfl⟩
                      go_wp2_with fail
                      refine (among 2 _ [1, 2, 3, 5] _ (by decide) ?_).mono ?_
                      · intro j; go_simp
                      rintro e w' ⟨rfl, rfl⟩
                      go_wp2
                      go_roundw
                      case rel =>
                        refine ⟨k + 1, by omega, by go_num, ?_, ?_, ?_⟩
                        · have hbel := HB.out
                          go_grown
                        · exact (((((B1.out.far (by simp) _).alloc _).alloc _).alloc _).alloc _)
                        · refine Blk.to (((((B2.out.set_ 4 _).alloc _).alloc _).alloc _).alloc _) ?_
                          rw [HE.out, tally_snoc, HT.out, tstep, if_pos HC.out]
                          simp [O.out, inc, TallyD.cells]
                          try rfl
                      case measure => simp [intOf]; omega
                    · have y2 : (d.op == 2) = false := by simpa using o2
                      by_cases o3 : d.op = 3
                      · rw [o3] at hc0
                        have O := Lib.hid o3; clear o5 o4 o6 o8 o14 o1 o2 o3
                        go_wp2_with fail
                        refine (among 3 _ [4, 5, 6] _ (by decide) ?_).mono ?_
                        · intro j; go_simp
                        rintro e w' ⟨rfl, rfl⟩
                        go_wp2_with fail
                        refine (among 3 _ [8, 14] _ (by decide) ?_).mono ?_
                        · intro j; go_simp
                        rintro e w' ⟨rfl, rfl⟩
                        go_wp2_with fail
                        refine (among 3 _ [1, 2, 3, 5] _ (by decide) ?_).mono ?_
                        · intro j; go_simp
                        rintro e w' ⟨rfl, rfl⟩
                        go_wp2
                        go_roundw
                        case rel =>
                          refine ⟨k + 1, by omega, by go_num, ?_, ?_, ?_⟩
                          · have hbel := HB.out
                            go_grown
                          · exact (((((B1.out.far (by simp) _).alloc _).alloc _).alloc _).alloc _)
                          · refine Blk.to (((((B2.out.set_ 4 _).alloc _).alloc _).alloc _).alloc _) ?_
                            rw [HE.out, tally_snoc, HT.out, tstep, if_pos HC.out]
                            simp [O.out, inc, TallyD.cells]
                            try rfl
                        case measure => simp [intOf]; omega
                      · have y3 : (d.op == 3) = false := by simpa using o3
                        by_cases o13 : d.op = 13
                        · rw [o13] at hc0
                          have O := Lib.hid o13; clear o5 o4 o6 o8 o14 o1 o2 o3 o13
                          go_wp2_with fail
                          refine (among 13 _ [4, 5, 6] _ (by decide) ?_).mono ?_
                          · intro j; go_simp
                          rintro e w' ⟨rfl, rfl⟩
                          go_wp2_with fail
                          refine (among 13 _ [8, 14] _ (by decide) ?_).mono ?_
                          · intro j; go_simp
                          rintro e w' ⟨rfl, rfl⟩
                          go_wp2_with fail
                          refine (among 13 _ [1, 2, 3, 5] _ (by decide) ?_).mono ?_
                          · intro j; go_simp
                          rintro e w' ⟨rfl, rfl⟩
                          go_wp2
                          go_roundw
                          case rel =>
                            refine ⟨k + 1, by omega, by go_num, ?_, ?_, ?_⟩
                            · have hbel := HB.out
                              go_grown
                            · exact (((((B1.out.far (by simp) _).alloc _).alloc _).alloc _).alloc _)
                            · refine Blk.to (((((B2.out.set_ 5 _).alloc _).alloc _).alloc _).alloc _) ?_
                              rw [HE.out, tally_snoc, HT.out, tstep, if_pos HC.out]
                              simp [O.out, inc, TallyD.cells]
                              try rfl
                          case measure => simp [intOf]; omega
                        · have y13 : (d.op == 13) = false := by simpa using o13
                          by_cases o9 : d.op = 9
                          · rw [o9] at hc0
                            have O := Lib.hid o9; clear o5 o4 o6 o8 o14 o1 o2 o3 o13 o9
                            go_wp2_with fail
                            refine (among 9 _ [4, 5, 6] _ (by decide) ?_).mono ?_
                            · intro j; go_simp
                            rintro e w' ⟨rfl, rfl⟩
                            go_wp2_with fail
                            refine (among 9 _ [8, 14] _ (by decide) ?_).mono ?_
                            · intro j; go_simp
                            rintro e w' ⟨rfl, rfl⟩
                            go_wp2_with fail
                            refine (among 9 _ [1, 2, 3, 5] _ (by decide) ?_).mono ?_
                            · intro j; go_simp
                            rintro e w' ⟨rfl, rfl⟩
                            go_wp2
                            go_roundw
                            case rel =>
                              refine ⟨k + 1, by omega, by go_num, ?_, ?_, ?_⟩
                              · have hbel := HB.out
                                go_grown
                              · exact (((((B1.out.far (by simp) _).alloc _).alloc _).alloc _).alloc _)
                              · refine Blk.to (((((B2.out.set_ 6 _).alloc _).alloc _).alloc _).alloc _) ?_
                                rw [HE.out, tally_snoc, HT.out, tstep, if_pos HC.out]
                                simp [O.out, inc, TallyD.cells]
                                try rfl
                            case measure => simp [intOf]; omega
                          · have y9 : (d.op == 9) = false := by simpa using o9
                            have O := Lib.hid (show (d.op == 5) = false ∧ (d.op == 4) = false ∧ (d.op == 6) = false ∧ (d.op == 8) = false ∧ (d.op == 14) = false ∧ (d.op == 1) = false ∧ (d.op == 2) = false ∧ (d.op == 3) = false ∧ (d.op == 13) = false ∧ (d.op == 9) = false from ⟨y5, y4, y6, y8, y14, y1, y2, y3, y13, y9⟩)
                            have m1 : decide (d.op ∈ [4, 5, 6]) = false := by simp [o4, o5, o6]
                            have m2 : decide (d.op ∈ [8, 14]) = false := by simp [o8, o14]
                            have m3 : decide (d.op ∈ [1, 2, 3, 5]) = false := by simp [o1, o2, o3, o5]
                            have M1 := Lib.hid m1; have M2 := Lib.hid m2; have M3 := Lib.hid m3; clear m1 m2 m3
                            clear o5 o4 o6 o8 o14 o1 o2 o3 o13 o9
                            go_wp2_with fail
                            refine (among d.op _ [4, 5, 6] _ (by decide) ?_).mono ?_
                            · intro j; go_simp
                            rintro e w' ⟨rfl, rfl⟩
                            rw [M1.out]
                            go_wp2_with fail
                            refine (among d.op _ [8, 14] _ (by decide) ?_).mono ?_
                            · intro j; go_simp
                            rintro e w' ⟨rfl, rfl⟩
                            rw [M2.out]
                            go_wp2_with fail
                            refine (among d.op _ [1, 2, 3, 5] _ (by decide) ?_).mono ?_
                            · intro j; go_simp
                            rintro e w' ⟨rfl, rfl⟩
                            rw [M3.out]
                            go_wp2
                            go_roundw
                            case rel =>
                              refine ⟨k + 1, by omega, by go_num, ?_, ?_, ?_⟩
                              · have hbel := HB.out
                                go_grown
                              · exact ((((B1.out.alloc _).alloc _).alloc _).alloc _)
                              · refine Blk.to ((((B2.out.alloc _).alloc _).alloc _).alloc _) ?_
                                rw [HE.out, tally_snoc, HT.out, tstep, if_pos HC.out]
                                obtain ⟨y5, y4, y6, y8, y14, y1, y2, y3, y13, y9⟩ := O.out
                                simp [y5, y4, y6, y8, y14, y1, y2, y3, y13, y9, inc, TallyD.cells]
                                try rfl
                            case measure => simp [intOf]; omega
      · have hcd : (d.code != 0) = true := by simpa using hcode
        have HC := Lib.hid hcode; clear hcode
        go_wp2
        go_roundw
        case rel =>
          refine ⟨k + 1, by omega, by go_num, ?_, ?_, ?_⟩
          · have hbel := HB.out
            go_grown
          · exact (B1.out.far (by simp) _).alloc _
          · refine Blk.to ((B2.out.set_ 1 _).alloc _) ?_
            rw [HE.out, tally_snoc, HT.out, tstep, if_neg HC.out]
            rfl
        case measure => simp [intOf]; omega
    · have e : l.take k = l := List.take_of_length_le (by rw [HL.out]; omega)
      rw [e] at b2
      generalize ht : tally n l = t at *
      have HT := Lib.hid ht; clear ht e
      obtain ⟨t0, t1, t2, t3, t4, t5, t6⟩ := t
      have k2 := b2.cell 0
      simp only [TallyD.cells] at k2
      have hbel2 := Lib.hid hbel; clear hbel
      go_wp2_with (first
        | (refine wpList_load_blk rfl 41 (.tmp 3) rfl (w.heap.size + 1) rfl b2 wholeTallyR ?_)
        | (refine wpList_store_blk rfl 41 (.tmp 2) (.tmp 66) rfl (w.heap.size) rfl b1 ?_ ?_ ?_ ?_ ?_
           · rfl
           · kernel_rfl
           · rfl
           · rfl
           intro u2 b3 hg3))
      refine ret_blk rfl rfl b3 wholeTallyR rfl ?_
      exact ⟨by rw [HT.out]; rfl, exists_over (hbel2.out.grown hg3 hbel2.out.size (by simp))⟩
end Go.Proofs.Ytphloeafgblmnaa
