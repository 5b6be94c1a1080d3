/- The document's reader of patterns: the pieces of a pattern. No condition but room. -/
import Derived.Test.YtjknjmlpnjifkaaDoorRfC
import Derived.Test.YtjknjmlpnjifkaaDoorBuild1
namespace Go.Proofs.YtjknjmlpnjifkaaDoor
open Go.RowKit
set_option linter.unusedVariables false
set_option linter.unusedSimpArgs false
attribute [local go_sem] cell?_over frozen?_over lt_over le_over
/-- a piece in a row -/
abbrev TokT := Tok
def Shape.Pie : Shape TokT where
  size := 257
  pos := by decide
  rd _ _ cs t := cs = (pieceCs ((t.kind + 1 : Nat) : Int) t.has).toList
  bulk _ := 1
  bpos _ := Nat.le_refl _
  len := fun h => by rw [h, Array.length_toList, piece_size]
  keep h _ := h
  more h _ := h
  one := fun h v hv => by rw [h] at hv; exact List.all_eq_true.1 (piece_flat _ _) v hv
theorem flat_pie : Shape.Pie.Flat := fun h => h
theorem elem_pie : Elem Tryd.prog 98 115 Shape.Pie 264 := ⟨Tryd.underlying98, by kernel_rfl⟩
/-- what read answers -/
def ReadVEnd (s : ByteArray) (w : World) (e : Ending) (w' : World) : Prop :=
  Below w.heap.size w w' ∧ match readB s.data.toList 0 with
  | none => e = .returned (.tuple #[.slice none 0 0, .bool false])
  | some ts => ∃ v, e = .returned (.tuple #[v, .bool true]) ∧ Own Shape.Pie 115 w' w.heap.size (fun _ => False) v ts
theorem readV_none {s : ByteArray} {w w' : World} (h : readB s.data.toList 0 = none) (hb : Below w.heap.size w w') : ReadVEnd s w (.returned (.tuple #[.slice none 0 0, .bool false])) w' := by
  refine ⟨hb, ?_⟩; rw [h]
theorem not47 (f' : UInt8 → Bool) {q : Nat} (b : UInt8) (hb : b.toNat = q) (h : ∀ x : UInt8, f' x = (decide (x.toNat < q) && x != 47)) (x : UInt8) : updB f' b ((q : Int) != 47) x = (decide (x.toNat < q + 1) && x != 47) := by
  have h47 : (47 : UInt8).toNat = 47 := rfl
  unfold updB
  by_cases hx : x = b
  · subst hx
    rw [if_pos rfl, decide_eq_true (by omega), Bool.true_and, ← hb, byte_ne47]
  · have hne : ¬ x.toNat = q := fun e => hx (UInt8.toNat_inj.1 (by omega))
    rw [if_neg hx, h x]
    congr 1
    rw [decide_eq_decide]
    omega
theorem own_piece {w1 w2 : World} {base g : Nat} {v : Value} {l : List Tok} {e : TypeId} (h : Own Shape.Pie e w1 base (fun _ => False) v l) (hg : w1.grownBy w2 (some g)) (hne : ∀ k, v.ownBlock = some k → k ≠ g) : Own Shape.Pie e w2 base (fun _ => False) v l :=
  h.kept hg (by
    cases hv : v.ownBlock with
    | none => exact .inl rfl
    | some k => exact .inr (fun e => hne k hv (by injection e))) (fun _ h => h.elim)
set_option maxHeartbeats 4000000 in
set_option maxRecDepth 100000 in
theorem rfRead (s : ByteArray) (w : World) (hs : s.size ≤ 4096) :
    Calls Tryd.prog 56 #[.string s] w (ReadVEnd s w) := by
  obtain ⟨R, hR⟩ : ∃ R, R = readB s.data.toList 0 := ⟨_, rfl⟩
  have HR := Lib.hid hR
  clear hR
  go_enter Tryd.func56, Tryd.ntmps56
  go_wp2_with fail
  go_loopw [4, 5] (fun v it wr => ∃ (ii : Nat) (l : List Tok), it = .int .i64 ii ∧ ii ≤ s.size ∧ l.length ≤ ii ∧ Own Shape.Pie 115 wr w.heap.size (fun _ => False) v l ∧ R = (readB s.data.toList ii).map (l ++ ·) ∧ Below w.heap.size w wr) (fun _ it _ => s.size - (intOf it).toNat)
  case atStart => exact ⟨0, [], rfl, Nat.zero_le _, Nat.le_refl _, Own.made Shape.Pie _ w _ (Nat.le_refl _), by rw [HR.out]; cases readB s.data.toList 0 <;> simp, below_alloc' _ _⟩
  case round =>
    obtain ⟨ii, l, rfl, hii, hll, hown, hrd, hb⟩ := hrel
    have O := Lib.hid hown; have RD := Lib.hid hrd; have B := Lib.hid hb
    clear hown hrd hb
    by_cases hlt : ii < s.size
    · have hlt' := Lib.hid (show ii < s.data.toList.length by rw [len_data']; exact hlt)
      have OL := Lib.hid O.out.lt
      have hbs := B.out.size
      go_wp2_with ((with_reducible refine at_store (ty := 115) (x := .tmp 6) (y := .tmp 17) ?_ ?_); exact rfl; refine store_piece rfl (.tmp 6) (.tmp 17) rfl wr.heap.size rfl (k := 1) (f := none8) (congrArg Value.agg piece_one) ((Blk.new wr _ _).to piece_zero) ?_; intro w1 b1 g1; refine StopT.mk ?_)
      have hsz1 : wr.heap.size + 1 ≤ w1.heap.size := by have := g1.size; simp at this; omega
      have Y1 : Hid (PieB w1 wr.heap.size 1 none8) := Lib.hid b1
      have B1 := Lib.hid ((B.out.alloc hbs (.cells Tryd.zeroCells115 115)).grown g1 (by simp; omega) (fun k hk => by injection hk; omega))
      have O1 := Lib.hid (own_piece (O.out.alloc (.cells Tryd.zeroCells115 115)) g1 (fun k hk e => by have := (OL.out k hk).2; omega))
      obtain ⟨gp, hgp⟩ : ∃ gp, gp = wr.heap.size := ⟨_, rfl⟩
      rw [← hgp] at Y1 hsz1 ⊢
      have hgb : w.heap.size ≤ gp := by omega
      have OL2 : Hid (∀ k, u4.ownBlock = some k → k ≠ gp) := Lib.hid fun k hk => by have := (OL.out k hk).2; omega
      clear b1 g1 O B OL hbs hgp
      unfold StopT
      go_upto_block 2 with (fail)
      go_cut [5] (fun it wx => ∃ (t : Tok) (j : Nat), it = .int .i64 j ∧ PieB wx gp ((t.kind + 1 : Nat) : Int) t.has ∧ tokB s.data.toList ii = some (t, j) ∧ Own Shape.Pie 115 wx w.heap.size (fun _ => False) u4 l ∧ Below w.heap.size w wx ∧ gp + 1 ≤ wx.heap.size)
      case first =>
        obtain ⟨c, hc⟩ : ∃ c : UInt8, c = s[ii] := ⟨_, rfl⟩
        have HCc := Lib.hid hc
        have pk : ∀ b : UInt8, peekB s ii b = (c == b) := fun b => by
          unfold peekB; rw [data_at hlt, hc]; rfl
        have PK := Lib.hid pk
        clear pk
        by_cases h42 : c = 42
        · have t42 : ((s[ii].toNat : Int) == 42) = true := by rw [← hc, h42]; rfl
          have P42 := Lib.hid (show peekB s ii 42 = true by rw [PK.out, h42]; rfl)
          clear hc h42
          have k0 : w1.cell? ⟨gp, 0, none⟩ = some (.int .i64 1) := Y1.out.cell 0
          have f0 := Y1.out.frozen 0; have l0 := Y1.out.lt
          by_cases hx : ii + 1 < s.size
          · obtain ⟨x, hxx⟩ : ∃ x, x = ii + 1 := ⟨_, rfl⟩
            have e1 : (ii : Int) + 1 = (x : Int) := by omega
            have hx2 : x < s.size := by omega
            have pkx : peekB s (ii + 1) 42 = ((s[x].toNat : Int) == 42) := by subst hxx; exact peek_at hx
            have HX := Lib.hid hxx
            cases h2 : peekB s (ii + 1) 42 with
            | true =>
              have t42' : ((s[x].toNat : Int) == 42) = true := by rw [← pkx, h2]
              have TK := Lib.hid (tok_A P42.out h2)
              clear pkx h2 hxx hx
              go_wp2_with fail
              go_meet
              case rel => exact ⟨⟨2, none8⟩, ii + 2, by first | go_num | (have := HX.out; congr 1; omega), (show PieB _ gp 3 none8 from (((Y1.out.set_ 0 (.int .i64 2)).to (piece_kind 1 2 none8)).set_ 0 (.int .i64 3)).to (piece_kind 2 3 none8)), TK.out, own_piece (own_piece O1.out (grown_one w1 ⟨gp, 0, none⟩ (.int .i64 2)) OL2.out) (grown_one _ ⟨gp, 0, none⟩ (.int .i64 3)) OL2.out, (B1.out.grown (grown_one w1 ⟨gp, 0, none⟩ (.int .i64 2)) B1.out.size (fun k hk => by injection hk with hk; have hk' : gp = k := hk; omega)).grown (grown_one _ ⟨gp, 0, none⟩ (.int .i64 3)) (by simp; exact B1.out.size) (fun k hk => by injection hk with hk; have hk' : gp = k := hk; omega), by simp; omega⟩
            | false =>
              have t42' : ((s[x].toNat : Int) == 42) = false := by rw [← pkx, h2]
              have TK := Lib.hid (tok_B P42.out h2)
              clear pkx h2 hxx hx
              go_wp2_with fail
              go_meet
              case rel => exact ⟨⟨1, none8⟩, ii + 1, by first | go_num | (have := HX.out; congr 1; omega), (show PieB _ gp 2 none8 from (Y1.out.set_ 0 (.int .i64 2)).to (piece_kind 1 2 none8)), TK.out, own_piece O1.out (grown_one w1 ⟨gp, 0, none⟩ (.int .i64 2)) OL2.out, B1.out.grown (grown_one w1 ⟨gp, 0, none⟩ (.int .i64 2)) B1.out.size (fun k hk => by injection hk with hk; have hk' : gp = k := hk; omega), by simp; omega⟩
          · have c1 : decide ((ii : Int) + 1 < s.size) = false := by simp; omega
            have TK := Lib.hid (tok_B P42.out (peek_no hx))
            go_wp2_with fail
            go_meet
            case rel => exact ⟨⟨1, none8⟩, ii + 1, by go_num, (show PieB _ gp 2 none8 from (Y1.out.set_ 0 (.int .i64 2)).to (piece_kind 1 2 none8)), TK.out, own_piece O1.out (grown_one w1 ⟨gp, 0, none⟩ (.int .i64 2)) OL2.out, B1.out.grown (grown_one w1 ⟨gp, 0, none⟩ (.int .i64 2)) B1.out.size (fun k hk => by injection hk with hk; have hk' : gp = k := hk; omega), by simp; omega⟩
        · have t42 : ((s[ii].toNat : Int) == 42) = false := by rw [← hc, beq_eq_false_iff_ne]; intro e; exact h42 (UInt8.toNat_inj.1 (by have e42 : (42 : UInt8).toNat = 42 := rfl; omega))
          have P42 := Lib.hid (show peekB s ii 42 = false by rw [PK.out]; simpa using h42)
          clear h42
          by_cases h63 : c = 63
          · have t63 : ((s[ii].toNat : Int) == 63) = true := by rw [← hc, h63]; rfl
            have TK := Lib.hid (tok_C P42.out (show peekB s ii 63 = true by rw [PK.out, h63]; rfl))
            clear hc h63
            go_wp2_with fail
            go_loopw [7] (fun v wq => ∃ (q : Nat) (f' : UInt8 → Bool), v = .int .i64 q ∧ q ≤ 256 ∧ PieB wq gp 1 f' ∧ (∀ x : UInt8, f' x = (decide (x.toNat < q) && x != 47)) ∧ Own Shape.Pie 115 wq w.heap.size (fun _ => False) u4 l ∧ Below w.heap.size w wq ∧ gp + 1 ≤ wq.heap.size) (fun v _ => 256 - (intOf v).toNat)
            case atStart => exact ⟨0, none8, rfl, by omega, Y1.out, fun x => by simp [none8], O1.out, B1.out, hsz1⟩
            case round =>
              obtain ⟨q, f', rfl, hq, hY', hf', hO', hB', hszq⟩ := hrel
              have Y' : Hid (PieB wr gp 1 f') := Lib.hid hY'
              have B' := Lib.hid hB'; have F' := Lib.hid hf'; have O' := Lib.hid hO'
              clear hY' hB' hf' hO' Y1 B1 O1
              by_cases hle : q < 256
              · obtain ⟨b, hb⟩ : ∃ b : UInt8, b.toNat = q := ⟨UInt8.ofNat q, by rw [UInt8.toNat_ofNat']; omega⟩
                have cq := Y'.out.at_ b
                have fq := Y'.out.frozen (1 + b.toNat)
                rw [hb] at cq fq
                have lq := Y'.out.lt
                have HB := Lib.hid hb
                clear hb
                obtain ⟨tq, htq⟩ : ∃ tq, tq = ((q : Int) != 47) := ⟨_, rfl⟩
                have TQ := Lib.hid htq
                go_wp2_with fail
                have PUT := Y'.out.put b ((q : Int) != 47)
                rw [HB.out] at PUT
                have Y2 : Hid (PieB (wr.setCell ⟨gp, 1 + q, none⟩ (.bool ((q : Int) != 47))) gp 1 (updB f' b ((q : Int) != 47))) := Lib.hid PUT
                have B2 := Lib.hid (B'.out.grown (grown_one wr ⟨gp, 1 + q, none⟩ (.bool ((q : Int) != 47))) B'.out.size (fun k hk => by injection hk with hk; have hk' : gp = k := hk; omega))
                have O2 := Lib.hid (own_piece O'.out (grown_one wr ⟨gp, 1 + q, none⟩ (.bool ((q : Int) != 47))) OL2.out)
                have F2 := Lib.hid (not47 f' b HB.out F'.out)
                clear PUT cq fq lq htq
                go_roundw
                case rel => exact ⟨q + 1, _, by go_num, by omega, Y2.out, F2.out, O2.out, B2.out, by simp; omega⟩
                case measure => simp [intOf]; omega
              · have EF : Hid (f' = fun b => b != 47) := Lib.hid (by funext x; rw [F'.out x, decide_eq_true (by have := x.toNat_lt; omega), Bool.true_and])
                go_wp2_with fail
                go_meet
                case rel => exact ⟨⟨0, fun b => b != 47⟩, ii + 1, by go_num, by have := Y'.out; rw [EF.out] at this; exact this, TK.out, O'.out, B'.out, hszq⟩
          · have t63 : ((s[ii].toNat : Int) == 63) = false := by rw [← hc, beq_eq_false_iff_ne]; intro e; exact h63 (UInt8.toNat_inj.1 (by have e63 : (63 : UInt8).toNat = 63 := rfl; omega))
            have P63 := Lib.hid (show peekB s ii 63 = false by rw [PK.out]; simpa using h63)
            clear h63
            by_cases h91 : c = 91
            · have t91 : ((s[ii].toNat : Int) == 91) = true := by rw [← hc, h91]; rfl
              have TK := Lib.hid (tok_D P42.out P63.out (show peekB s ii 91 = true by rw [PK.out, h91]; rfl))
              clear hc h91
              obtain ⟨x, hxx⟩ : ∃ x, x = ii + 1 := ⟨_, rfl⟩
              have e1 : (ii : Int) + 1 = (x : Int) := by omega
              rw [← hxx] at TK
              have hxs : x ≤ s.size := by omega
              clear hxx
              go_wp2_with fail
              refine (rfSet s x _ (by omega) hxs).mono ?_
              rintro e w2 ⟨hb2, F, j, rfl, hcl⟩
              have Y2 : Hid (PieB w2 gp 1 none8) := Lib.hid (Y1.out.below hb2 (by omega))
              have O2 := Lib.hid (O1.out.kept (grownBy_of_below hb2) (by cases hv : u4.ownBlock <;> simp) (fun _ h => h.elim))
              have B2 := Lib.hid (below_old B1.out hb2)
              have hsz2 : gp + 1 ≤ w2.heap.size := Nat.le_trans hsz1 hb2.size
              have CL := Lib.hid hcl
              have OL3 := Lib.hid O2.out.lt
              have tj : ((j : Int) == 0) = decide (j = 0) := by rw [Bool.eq_iff_iff, beq_iff_eq, decide_eq_true_eq]; omega
              clear hb2 hcl Y1 O1 B1
              have NB := Lib.hid ((Blk.new w2 115 Tryd.zeroCells115).to piece_zero)
              go_wp2_with ((with_reducible refine at_store (ty := 115) (x := .tmp 8) (y := .tmp 73) ?_ ?_); exact rfl; refine store_piece rfl (.tmp 8) (.tmp 73) rfl w2.heap.size rfl (k := 1) (f := F) rfl NB.out ?_; intro w3 b3 g3; refine StopT.mk ?_)
              have S3 : Hid (PieB w3 w2.heap.size 1 F) := Lib.hid b3
              have Y3 : Hid (PieB w3 gp 1 none8) := Lib.hid ((Y2.out.alloc _).grown g3 (by intro e; injection e; omega))
              have O3 := Lib.hid (own_piece (O2.out.alloc (.cells Tryd.zeroCells115 115)) g3 (fun k hk e => by have := (OL3.out k hk).2; omega))
              have B3 := Lib.hid ((B2.out.alloc B2.out.size (.cells Tryd.zeroCells115 115)).grown g3 (by have := B2.out.size; simp; omega) (fun k hk => by injection hk with hk; have := B2.out.size; omega))
              have hsz3 : gp + 1 ≤ w3.heap.size := by have := g3.size; simp at this; omega
              clear b3 g3 Y2 O2 B2 NB
              unfold StopT
              by_cases hj0 : j = 0
              · rw [decide_eq_true hj0] at tj
                have CN := Lib.hid (show readB s.data.toList 0 = none by
                  rcases CL.out with ⟨_, h, _⟩ | ⟨h, _⟩
                  · omega
                  · rw [← HR.out, RD.out, readB_none hlt'.out (by rw [TK.out, h]; rfl)]; rfl)
                clear hj0
                go_wp2_with fail
                go_ret2
                exact readV_none CN.out B3.out
              · rw [decide_eq_false hj0] at tj
                have TK2 : Hid (tokB s.data.toList ii = some (⟨0, F⟩, j)) := Lib.hid (by
                  rcases CL.out with ⟨h, _⟩ | ⟨_, h⟩
                  · rw [TK.out, h]; rfl
                  · exact absurd h hj0)
                clear hj0
                go_wp2_with (first
                  | ((with_reducible refine at_load (ty := 115) (x := .tmp 8) ?_ ?_); exact rfl; refine load_piece rfl (.tmp 8) rfl _ rfl S3.out ?_)
                  | ((with_reducible refine at_store (ty := 115) (x := .tmp 6) (y := .tmp 77) ?_ ?_); exact rfl; refine store_piece rfl (.tmp 6) (.tmp 77) rfl gp rfl (k := 1) (f := F) rfl Y3.out ?_; intro w4 b4 g4))
                go_meet
                case rel => exact ⟨⟨0, F⟩, j, rfl, b4, TK2.out, own_piece O3.out g4 OL2.out, B3.out.grown g4 B3.out.size (fun k hk => by injection hk; omega), Nat.le_trans hsz3 g4.size⟩
            · have t91 : ((s[ii].toNat : Int) == 91) = false := by rw [← hc, beq_eq_false_iff_ne]; intro e; exact h91 (UInt8.toNat_inj.1 (by have e91 : (91 : UInt8).toNat = 91 := rfl; omega))
              have TK := Lib.hid (tok_E P42.out P63.out (show peekB s ii 91 = false by rw [PK.out]; simpa using h91))
              clear hc h91
              go_wp2_with fail
              refine (rfItem s ii _ (by omega) (by omega)).mono ?_
              rintro e wx ⟨rfl, rfl⟩
              cases hit : itemB s.data.toList ii with
              | none =>
                have hv : itemV s.data.toList ii = (0, 0) := by unfold itemV; rw [hit]; rfl
                rw [hv]
                have CN := Lib.hid (show readB s.data.toList 0 = none by rw [← HR.out, RD.out, readB_none hlt'.out (by rw [TK.out, hit]; rfl)]; rfl)
                clear hv hit
                go_wp2_with fail
                go_ret2
                exact readV_none CN.out B1.out
              | some y =>
                obtain ⟨b, nx⟩ := y
                have hv : itemV s.data.toList ii = (b, nx) := by unfold itemV; rw [hit]; rfl
                rw [hv]
                have hnx := itemB_lt hit
                have hb256 : b.toNat < 256 := b.toNat_lt
                have tnx : ((nx : Int) == 0) = false := by rw [beq_eq_false_iff_ne]; omega
                have TK2 : Hid (tokB s.data.toList ii = some (⟨0, updB none8 b true⟩, nx)) := Lib.hid (by
                  rw [TK.out, hit]
                  simp only [Option.map_some, Option.some.injEq, Prod.mk.injEq, and_true, Tok.mk.injEq, true_and]
                  funext x
                  unfold updB none8
                  by_cases hx : x = b
                  · rw [if_pos hx, hx]; simp
                  · rw [if_neg hx]; simpa using hx)
                have cq := Y1.out.at_ b
                have fq := Y1.out.frozen (1 + b.toNat)
                have lq := Y1.out.lt
                clear hv hit
                go_wp2_with fail
                go_meet
                case rel => exact ⟨⟨0, updB none8 b true⟩, nx, rfl, Y1.out.put b true, TK2.out, own_piece O1.out (grown_one w1 ⟨gp, 1 + b.toNat, none⟩ (.bool true)) OL2.out, B1.out.grown (grown_one w1 ⟨gp, 1 + b.toNat, none⟩ (.bool true)) B1.out.size (fun k hk => by injection hk with hk; have hk' : gp = k := hk; omega), by simp; omega⟩
      case rest =>
        obtain ⟨t, j, rfl, hY, ht, hO, hB, hsz⟩ := hcut
        have hj := tokB_lt ht
        rw [len_data'] at hj
        have Y : Hid (PieB wc gp ((t.kind + 1 : Nat) : Int) t.has) := Lib.hid hY
        have O := Lib.hid hO; have B := Lib.hid hB
        have RD2 : Hid (R = (readB s.data.toList j).map ((l ++ [t]) ++ ·)) := Lib.hid (by
          rw [RD.out, readB_some hlt'.out ht]
          cases readB s.data.toList j <;> simp)
        have hl5 : l.length ≤ 4096 := by omega
        clear hY ht hO hB Y1 O1 B1
        obtain ⟨pi, pz, p1, p2, p3, p4, p5⟩ := elem_pie.parts
        have pinf := Lib.hid (And.intro p1 (And.intro p2 (And.intro p3 p5)))
        clear p1 p2 p3 p4 p5
        go_wp2_with (first
          | ((with_reducible refine at_load (ty := 115) (x := .tmp 6) ?_ ?_); exact rfl; refine load_piece rfl (.tmp 6) rfl _ rfl Y.out ?_)
          | ((with_reducible refine at_build (t := 98) (x := .tmp 80) ?_ ?_); exact rfl; refine wpList_build_one rfl _ (.tmp 80) rfl elem_pie.ty pinf.out.1 pinf.out.2.1 pinf.out.2.2.1 pinf.out.2.2.2 (by decide) (by decide) rfl (piece_size _ _) ?_)
          | (at_builtin; go_loud (refine wpList_append_one (v := u4) flat_pie rfl (.tmp 79) (.tmp 81) _ rfl elem_pie rfl O.out (es := (pieceCs ((t.kind + 1 : Nat) : Int) t.has).toList) (b := t) rfl rfl (by omega) (by unfold maxLen; omega) B.out.size ?_)))
        intro v' w4 hown4 hg4 hsz4 hat4
        have O4 := Lib.hid hown4
        have B4 := Lib.hid (B.out.grown hg4 B.out.size (fun k hk => (O.out.lt k hk).1))
        clear hown4 hg4 hat4
        go_wp2_with fail
        go_roundw
        case rel => exact ⟨j, l ++ [t], rfl, hj.2, by simp; omega, O4.out, RD2.out, B4.out⟩
        case measure => simp [intOf]; omega
    · go_wp2_with fail
      go_ret2
      refine ⟨B.out, ?_⟩
      have h1 := RD.out
      rw [readB_end (p := s.data.toList) (i := ii) (by rw [len_data']; exact fun h => hlt h)] at h1
      have h2 : readB s.data.toList 0 = some l := by rw [← HR.out, h1]; simp
      rw [h2]
      exact ⟨u4, rfl, O.out⟩
end Go.Proofs.YtjknjmlpnjifkaaDoor
