/- What a trace did, counted: audit.Count and the reference's Count. No condition. -/
import Derived.Test.YtphloeafgblmnaaCalls2
namespace Go.Proofs.Ytphloeafgblmnaa
open Go.RowKit
attribute [local go_sem] cell?_over frozen?_over lt_over le_over

structure TallyD where
  calls : Int
  failed : Int
  made : Int
  removed : Int
  opened : Int
  closed : Int
  written : Int
def TallyD.cells (t : TallyD) : Array Value := #[.int .i64 t.calls, .int .i64 t.failed, .int .i64 t.made, .int .i64 t.removed, .int .i64 t.opened, .int .i64 t.closed, .int .i64 t.written]
def inc (b : Bool) (x y : Int) : Int := if b then wrap64 (x + y) else x
def tstep (t : TallyD) (c : CallD) : TallyD :=
  if c.code = 0 then
    { t with made := inc (c.op == 4 || c.op == 5 || c.op == 6) t.made 1, removed := inc (c.op == 8 || c.op == 14) t.removed 1, opened := inc (c.op == 1 || c.op == 2 || c.op == 3 || c.op == 5) t.opened 1,
             closed := inc (c.op == 13) t.closed 1, written := inc (c.op == 9) t.written c.answer }
  else { t with failed := wrap64 (t.failed + 1) }
def tally (n : Int) (l : List CallD) : TallyD := l.foldl tstep ⟨n, 0, 0, 0, 0, 0, 0⟩
theorem tally_snoc (n : Int) (l : List CallD) (c : CallD) : tally n (l ++ [c]) = tstep (tally n l) c := by simp [tally, List.foldl_append]
theorem wholeTally : Whole Try.prog 24 7 := ⟨by kernel_rfl, by kernel_rfl⟩

set_option maxRecDepth 100000 in
set_option maxHeartbeats 4000000 in
theorem auditCount {A : Option Addr} {n c : Nat} {l : List CallD} (w : World) (h : Row Shape.CallD w (Old w) A n l) (hn : n ≤ 1000000000000) :
    Calls Try.prog 8 #[.slice A n c] w fun e w' => e = .returned (.agg (tally n l).cells) ∧ ∃ δ, w' = over w δ := by
  have HL := Lib.hid h.1
  go_enter Try.func8, Try.ntmps8
  go_wp2_with fail
  go_loopw [11] (fun i wr => ∃ k : Nat, k ≤ n ∧ i = .int .i64 k ∧ Below w.heap.size w wr ∧ Blk wr w.heap.size 24 #[.int .i64 0, .int .i64 0, .int .i64 0, .int .i64 0, .int .i64 0, .int .i64 0, .int .i64 0] ∧ Blk wr (w.heap.size + 1) 24 (tally n (l.take k)).cells) (fun i _ => n - (intOf i).toNat)
  case atStart =>
    refine ⟨0, Nat.zero_le _, rfl, by go_grown, ?_, ?_⟩
    · exact (Blk.new _ _ _).alloc _
    · have := Blk.new (w.alloc (.cells #[.int .i64 0, .int .i64 0, .int .i64 0, .int .i64 0, .int .i64 0, .int .i64 0, .int .i64 0] 24)) 24 (tally n []).cells
      simpa [tally, TallyD.cells] using this
  case round =>
    obtain ⟨k, hk, rfl, hbel, b1, b2⟩ := hrel
    by_cases hlt : k < n
    · obtain ⟨b, off, es, hkl, rfl, hb, hc, hc0, hr⟩ := h.elem (Keeps.old hbel) hlt
      obtain ⟨_, _, _, rfl, -⟩ := hr
      have e13 : Shape.CallD.size = 13 := rfl
      simp only [e13] at hc hc0
      clear e13
      have hb2 := Nat.lt_of_lt_of_le hb hbel.size
      have hks : (k : Int) < n := by omega
      have e : l.take (k + 1) = l.take k ++ [l[k]] := List.take_succ_eq_append_getElem hkl
      have HE := Lib.hid e; clear e
      generalize l[k] = d at *
      generalize ht : tally n (l.take k) = t at *
      have HT := Lib.hid ht; clear ht
      obtain ⟨t0, t1, t2, t3, t4, t5, t6⟩ := t
      have k2 := b2.cell
      simp only [TallyD.cells] at k2
      have f2 := b2.frozen
      have hl2 := b2.lt
      have HB := Lib.hid hbel; have B1 := Lib.hid b1; have B2 := Lib.hid b2
      clear hbel b1 b2
      by_cases hcode : d.code = 0
      · have hcd : (d.code != 0) = false := by simpa using hcode
        have HC := Lib.hid hcode; clear hcode
        by_cases o5 : d.op = 5
        · rw [o5] at hc0
          have O := Lib.hid o5; clear o5
          go_wp2
          go_roundw
          case rel =>
            refine ⟨k + 1, by omega, by go_num, ?_, ?_, ?_⟩
            · have hbel := HB.out
              go_grown
            · exact ((B1.out.far (by simp) _).far (by simp) _).alloc _
            · refine Blk.to (((B2.out.set_ 4 _).set_ 2 _).alloc _) ?_
              rw [HE.out, tally_snoc, HT.out, tstep, if_pos HC.out]
              simp [O.out, inc, TallyD.cells]
              try rfl
          case measure => simp [intOf]; omega
        · have z5 : (d.op == 5) = false := by simpa using o5
          by_cases o4 : d.op = 4
          · rw [o4] at hc0
            have O := Lib.hid o4; clear o5 o4
            go_wp2
            go_roundw
            case rel =>
              refine ⟨k + 1, by omega, by go_num, ?_, ?_, ?_⟩
              · have hbel := HB.out
                go_grown
              · exact (B1.out.far (by simp) _).alloc _
              · refine Blk.to ((B2.out.set_ 2 _).alloc _) ?_
                rw [HE.out, tally_snoc, HT.out, tstep, if_pos HC.out]
                simp [O.out, inc, TallyD.cells]
                try rfl
            case measure => simp [intOf]; omega
          · have z4 : (d.op == 4) = false := by simpa using o4
            by_cases o6 : d.op = 6
            · rw [o6] at hc0
              have O := Lib.hid o6; clear o5 o4 o6
              go_wp2
              go_roundw
              case rel =>
                refine ⟨k + 1, by omega, by go_num, ?_, ?_, ?_⟩
                · have hbel := HB.out
                  go_grown
                · exact (B1.out.far (by simp) _).alloc _
                · refine Blk.to ((B2.out.set_ 2 _).alloc _) ?_
                  rw [HE.out, tally_snoc, HT.out, tstep, if_pos HC.out]
                  simp [O.out, inc, TallyD.cells]
                  try rfl
              case measure => simp [intOf]; omega
            · have z6 : (d.op == 6) = false := by simpa using o6
              by_cases o8 : d.op = 8
              · rw [o8] at hc0
                have O := Lib.hid o8; clear o5 o4 o6 o8
                go_wp2
                go_roundw
                case rel =>
                  refine ⟨k + 1, by omega, by go_num, ?_, ?_, ?_⟩
                  · have hbel := HB.out
                    go_grown
                  · exact (B1.out.far (by simp) _).alloc _
                  · refine Blk.to ((B2.out.set_ 3 _).alloc _) ?_
                    rw [HE.out, tally_snoc, HT.out, tstep, if_pos HC.out]
                    simp [O.out, inc, TallyD.cells]
                    try rfl
                case measure => simp [intOf]; omega
              · have z8 : (d.op == 8) = false := by simpa using o8
                by_cases o14 : d.op = 14
                · rw [o14] at hc0
                  have O := Lib.hid o14; clear o5 o4 o6 o8 o14
                  go_wp2
                  go_roundw
                  case rel =>
                    refine ⟨k + 1, by omega, by go_num, ?_, ?_, ?_⟩
                    · have hbel := HB.out
                      go_grown
                    · exact (B1.out.far (by simp) _).alloc _
                    · refine Blk.to ((B2.out.set_ 3 _).alloc _) ?_
                      rw [HE.out, tally_snoc, HT.out, tstep, if_pos HC.out]
                      simp [O.out, inc, TallyD.cells]
                      try rfl
                  case measure => simp [intOf]; omega
                · have z14 : (d.op == 14) = false := by simpa using o14
                  by_cases o1 : d.op = 1
                  · rw [o1] at hc0
                    have O := Lib.hid o1; clear o5 o4 o6 o8 o14 o1
                    go_wp2
                    go_roundw
                    case rel =>
                      refine ⟨k + 1, by omega, by go_num, ?_, ?_, ?_⟩
                      · have hbel := HB.out
                        go_grown
                      · exact (B1.out.far (by simp) _).alloc _
                      · refine Blk.to ((B2.out.set_ 4 _).alloc _) ?_
                        rw [HE.out, tally_snoc, HT.out, tstep, if_pos HC.out]
                        simp [O.out, inc, TallyD.cells]
                        try rfl
                    case measure => simp [intOf]; omega
                  · have z1 : (d.op == 1) = false := by simpa using o1
                    by_cases o2 : d.op = 2
                    · rw [o2] at hc0
                      have O := Lib.hid o2; clear o5 o4 o6 o8 o14 o1 o2
                      go_wp2
                      go_roundw
                      case rel =>
                        refine ⟨k + 1, by omega, by go_num, ?_, ?_, ?_⟩
                        · have hbel := HB.out
                          go_grown
                        · exact (B1.out.far (by simp) _).alloc _
                        · refine Blk.to ((B2.out.set_ 4 _).alloc _) ?_
                          rw [HE.out, tally_snoc, HT.out, tstep, if_pos HC.out]
                          simp [O.out, inc, TallyD.cells]
                          try rfl
                      case measure => simp [intOf]; omega
                    · have z2 : (d.op == 2) = false := by simpa using o2
                      by_cases o3 : d.op = 3
                      · rw [o3] at hc0
                        have O := Lib.hid o3; clear o5 o4 o6 o8 o14 o1 o2 o3
                        go_wp2
                        go_roundw
                        case rel =>
                          refine ⟨k + 1, by omega, by go_num, ?_, ?_, ?_⟩
                          · have hbel := HB.out
                            go_grown
                          · exact (B1.out.far (by simp) _).alloc _
                          · refine Blk.to ((B2.out.set_ 4 _).alloc _) ?_
                            rw [HE.out, tally_snoc, HT.out, tstep, if_pos HC.out]
                            simp [O.out, inc, TallyD.cells]
                            try rfl
                        case measure => simp [intOf]; omega
                      · have z3 : (d.op == 3) = false := by simpa using o3
                        by_cases o13 : d.op = 13
                        · rw [o13] at hc0
                          have O := Lib.hid o13; clear o5 o4 o6 o8 o14 o1 o2 o3 o13
                          go_wp2
                          go_roundw
                          case rel =>
                            refine ⟨k + 1, by omega, by go_num, ?_, ?_, ?_⟩
                            · have hbel := HB.out
                              go_grown
                            · exact (B1.out.far (by simp) _).alloc _
                            · refine Blk.to ((B2.out.set_ 5 _).alloc _) ?_
                              rw [HE.out, tally_snoc, HT.out, tstep, if_pos HC.out]
                              simp [O.out, inc, TallyD.cells]
                              try rfl
                          case measure => simp [intOf]; omega
                        · have z13 : (d.op == 13) = false := by simpa using o13
                          by_cases o9 : d.op = 9
                          · rw [o9] at hc0
                            have O := Lib.hid o9; clear o5 o4 o6 o8 o14 o1 o2 o3 o13 o9
                            go_wp2
                            go_roundw
                            case rel =>
                              refine ⟨k + 1, by omega, by go_num, ?_, ?_, ?_⟩
                              · have hbel := HB.out
                                go_grown
                              · exact (B1.out.far (by simp) _).alloc _
                              · refine Blk.to ((B2.out.set_ 6 _).alloc _) ?_
                                rw [HE.out, tally_snoc, HT.out, tstep, if_pos HC.out]
                                simp [O.out, inc, TallyD.cells]
                                try rfl
                            case measure => simp [intOf]; omega
                          · have z9 : (d.op == 9) = false := by simpa using o9
                            have O := Lib.hid (show (d.op == 5) = false ∧ (d.op == 4) = false ∧ (d.op == 6) = false ∧ (d.op == 8) = false ∧ (d.op == 14) = false ∧ (d.op == 1) = false ∧ (d.op == 2) = false ∧ (d.op == 3) = false ∧ (d.op == 13) = false ∧ (d.op == 9) = false from ⟨z5, z4, z6, z8, z14, z1, z2, z3, z13, z9⟩)
                            clear o5 o4 o6 o8 o14 o1 o2 o3 o13 o9
                            go_wp2
                            obtain ⟨z5, z4, z6, z8, z14, z1, z2, z3, z13, z9⟩ := O.out
                            go_roundw
                            case rel =>
                              refine ⟨k + 1, by omega, by go_num, ?_, ?_, ?_⟩
                              · have hbel := HB.out
                                go_grown
                              · exact B1.out.alloc _
                              · refine Blk.to (B2.out.alloc _) ?_
                                rw [HE.out, tally_snoc, HT.out, tstep, if_pos HC.out]
                                simp [z5, z4, z6, z8, z14, z1, z2, z3, z13, z9, inc, TallyD.cells]
                                try rfl
                            case measure => simp [intOf]; omega
      · have hcd : (d.code != 0) = true := by simpa using hcode
        have HC := Lib.hid hcode; clear hcode
        go_wp2
        go_roundw
        case rel =>
          refine ⟨k + 1, by omega, by go_num, ?_, ?_, ?_⟩
          · have hbel := HB.out
            go_grown
          · exact (B1.out.far (by simp) _).alloc _
          · refine Blk.to ((B2.out.set_ 1 _).alloc _) ?_
            rw [HE.out, tally_snoc, HT.out, tstep, if_neg HC.out]
            rfl
        case measure => simp [intOf]; omega
    · have e : l.take k = l := List.take_of_length_le (by rw [HL.out]; omega)
      rw [e] at b2
      generalize ht : tally n l = t at *
      have HT := Lib.hid ht; clear ht e
      obtain ⟨t0, t1, t2, t3, t4, t5, t6⟩ := t
      have k2 := b2.cell 0
      simp only [TallyD.cells] at k2
      have hbel2 := Lib.hid hbel; clear hbel
      go_wp2_with (first
        | (refine wpList_load_blk rfl 24 (.tmp 3) rfl (w.heap.size + 1) rfl b2 wholeTally ?_)
        | (refine wpList_store_blk rfl 24 (.tmp 2) (.tmp 67) rfl (w.heap.size) rfl b1 ?_ ?_ ?_ ?_ ?_
           · rfl
           · kernel_rfl
           · rfl
           · rfl
           intro u2 b3 hg3))
      refine ret_blk rfl rfl b3 wholeTally rfl ?_
      exact ⟨by rw [HT.out]; rfl, exists_over (hbel2.out.grown hg3 hbel2.out.size (by simp))⟩
end Go.Proofs.Ytphloeafgblmnaa
