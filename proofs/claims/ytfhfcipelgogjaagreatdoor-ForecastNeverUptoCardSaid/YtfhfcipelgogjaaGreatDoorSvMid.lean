/- The sieve's reader: one token. No condition but room. The sieve: a pattern as a list of tokens. No condition but room. The sieve's set of places: skip. No condition but room. The sieve's set of places: begin, done. No condition but room. -/
import Derived.Test.YtfhfcipelgogjaaGreatDoorSvC
import Derived.Test.YtfhfcipelgogjaaGreatDoorEscAll
import Derived.Laws.MakeOwn
set_option linter.unusedVariables false
set_option linter.unusedSimpArgs false
set_option maxHeartbeats 4000000
set_option maxRecDepth 100000
namespace Go.Proofs.YtfhfcipelgogjaaGreatDoor
open Go.RowKit
attribute [local go_sem] cell?_over frozen?_over lt_over le_over
def TokEnd (s:ByteArray) (g i:Nat) (w:World) (e:Ending) (w':World):Prop:=
 w.grownBy w' (some g)∧∃ (k:Nat) (W:Nat→Nat),e=.returned (.agg (tokCs k W))∧Small4 W∧match tokB s.data.toList i with
 | some (t,nx)=>k=t.kind∧(∀ b,hasN W b=t.has b)∧Rdr w' g s nx false
 | none=>∃ j:Nat,j≤s.size+5∧Rdr w' g s j true
theorem tokEnd_some {s:ByteArray} {g i nx:Nat} {w w':World} {k:Nat} {W:Nat→Nat} {t:Tok} (ht:tokB s.data.toList i=some (t,nx)) (hg:w.grownBy w' (some g)) (hs:Small4 W) (hk:k=t.kind) (hb:∀ b,hasN W b=t.has b) (hr:Rdr w' g s nx false) :
  TokEnd s g i w (.returned (.agg (tokCs k W))) w':=by
 refine ⟨hg,k,W,rfl,hs,?_⟩
 rw [ht]; exact ⟨hk,hb,hr⟩
theorem tokEnd_none {s:ByteArray} {g i j:Nat} {w w':World} {k:Nat} {W:Nat→Nat} (ht:tokB s.data.toList i=none) (hg:w.grownBy w' (some g)) (hs:Small4 W) (hj:j≤s.size+5) (hr:Rdr w' g s j true) :
  TokEnd s g i w (.returned (.agg (tokCs k W))) w':=by
 refine ⟨hg,k,W,rfl,hs,?_⟩
 rw [ht]; exact ⟨j,hj,hr⟩
def StopT (p:Prop):Prop:=p
theorem StopT.mk {p:Prop} (h:StopT p):p:=h
theorem peek_eq {s:ByteArray} {i:Nat} {b:UInt8} {v:Bool} (h:peekB s i b=v):(s.data.toList[i]?=some b)=(v=true):=by
 rw [← h]; unfold peekB; simp
theorem tok_A {s:ByteArray} {i:Nat} (h1:peekB s i 42=true) (h2:peekB s (i+1) 42=true):tokB s.data.toList i=some (⟨2,fun _=>false⟩,i+2):=by
 unfold tokB; simp only [peek_eq h1,peek_eq h2,if_true]
theorem tok_B {s:ByteArray} {i:Nat} (h1:peekB s i 42=true) (h2:peekB s (i+1) 42=false):tokB s.data.toList i=some (⟨1,fun _=>false⟩,i+1):=by
 unfold tokB; simp only [peek_eq h1,peek_eq h2,if_true,Bool.false_eq_true,if_false]
theorem tok_C {s:ByteArray} {i:Nat} (h1:peekB s i 42=false) (h2:peekB s i 63=true):tokB s.data.toList i=some (⟨0,fun b=>b != 47⟩,i+1):=by
 unfold tokB; simp only [peek_eq h1,peek_eq h2,if_true,Bool.false_eq_true,if_false]
theorem tok_D {s:ByteArray} {i:Nat} (h1:peekB s i 42=false) (h2:peekB s i 63=false) (h3:peekB s i 91=true):tokB s.data.toList i=(classB s.data.toList (i+1)).map fun x=>(⟨0,x.1⟩,x.2):=by
 unfold tokB; simp only [peek_eq h1,peek_eq h2,peek_eq h3,if_true,Bool.false_eq_true,if_false]
theorem tok_E {s:ByteArray} {i:Nat} (h1:peekB s i 42=false) (h2:peekB s i 63=false) (h3:peekB s i 91=false):tokB s.data.toList i=(itemB s.data.toList i).map fun x=>(⟨0,fun b=>b == x.1⟩,x.2):=by
 unfold tokB; simp only [peek_eq h1,peek_eq h2,peek_eq h3,Bool.false_eq_true,if_false]
theorem any_but (b:UInt8):orS (orS (hasN zero4) (inR 0 46)) (inR 48 255) b=(b != 47):=by
 have hb:b.toNat<256:=b.toNat_lt
 have e0:(0:UInt8).toNat=0:=rfl
 have e1:(46:UInt8).toNat=46:=rfl
 have e2:(48:UInt8).toNat=48:=rfl
 have e3:(255:UInt8).toNat=255:=rfl
 have e4:(47:UInt8).toNat=47:=rfl
 unfold orS inR
 rw [has_zero,e0,e1,e2,e3,Bool.eq_iff_iff,bne_iff_ne,ne_eq,← UInt8.toNat_inj,e4]
 simp
 omega
theorem just_one (c b:UInt8):orS (hasN zero4) (inR c c) b=(b == c):=by
 unfold orS inR
 rw [has_zero,Bool.eq_iff_iff,beq_iff_eq,← UInt8.toNat_inj]
 simp
 omega
theorem svToken (s:ByteArray) (g i:Nat) (w:World) (h:Rdr w g s i false) (hs:s.size≤140737488355328) (hi:i<s.size) :
  Calls Tryz.prog 201 #[.pointer (some ⟨g,0,none⟩)] w (TokEnd s g i w):=by
 have H:=Lib.hid h
 clear h
 go_enter Tryz.func201,Tryz.ntmps201
 go_wp2_with fail
 have hg0:=H.out.lt
 have P0:=Lib.hid (peek_lit (w:=(w.alloc (.cells #[.int .i64 0,.int .u64 0,.int .u64 0,.int .u64 0,.int .u64 0] 302)).alloc (.cells #[.int .i64 0,.int .u64 0,.int .u64 0,.int .u64 0,.int .u64 0] 302)) ((Blk.alloc (Blk.alloc H.out _) _)) hs (by omega) 0 42 0 42 rfl rfl (by omega))
 refine P0.out.mono ?_
 rintro e w1 ⟨rfl,hb1⟩
 obtain ⟨b1,b2,hb,hsz⟩:=blks2 hb1
 have R1:Hid (Rdr w1 g s i false):=Lib.hid (H.out.below hb hg0)
 have G1:Hid (w.grownBy w1 (some g)):=Lib.hid (grown_bel hb)
 have Z1:Hid (Blk w1 w.heap.size 302 (tokCs 0 zero4)):=Lib.hid b1
 have T1:Hid (TokB w1 (w.heap.size+1) 0 zero4):=Lib.hid b2
 have hsz1:w.heap.size+2≤w1.heap.size:=by omega
 clear P0 hb1 b1 b2 hb hsz
 rw [Nat.add_zero]
 cases hp42:peekB s i 42 with
 | true =>
  have P42:=Lib.hid hp42
  clear hp42
  go_wp2_with fail
  refine (peek_lit R1.out hs (by omega) 1 42 1 42 rfl rfl (by omega)).mono ?_
  rintro e w2 ⟨rfl,hb⟩
  have hgl:g<w1.heap.size:=R1.out.lt
  have R2:Hid (Rdr w2 g s i false):=Lib.hid (R1.out.below hb hgl)
  have T2:Hid (TokB w2 (w.heap.size+1) 0 zero4):=Lib.hid (T1.out.below hb (by omega))
  have Z2:Hid (Blk w2 w.heap.size 302 (tokCs 0 zero4)):=Lib.hid (Z1.out.below hb (by omega))
  have G2:Hid (w.grownBy w2 (some g)):=Lib.hid (grownBy_transH G1.out (grown_bel hb))
  have hsz2:w.heap.size+2≤w2.heap.size:=Nat.le_trans hsz1 hb.size
  clear hb hgl R1 T1 Z1 G1 hsz1
  cases hq42:peekB s (i+1) 42 with
  | true =>
   have TK:=Lib.hid (tok_A P42.out hq42)
   clear hq42
   have k1:=R2.out.cells.2.1; have f1:=R2.out.frozen 1; have l1:=R2.out.lt
   go_upto_region 6 with (fail)
   have R3:Hid (Rdr (w2.setCell ⟨g,1,none⟩ (.int .i64 ((i:Int)+2))) g s (i+2) false):=Lib.hid ((R2.out.set_ 1 (.int .i64 ((i:Int)+2))).to rfl)
   have T3:Hid (TokB (w2.setCell ⟨g,1,none⟩ (.int .i64 ((i:Int)+2))) (w.heap.size+1) 0 zero4):=Lib.hid (T2.out.far (by simp; omega) _)
   have Z3:Hid (Blk (w2.setCell ⟨g,1,none⟩ (.int .i64 ((i:Int)+2))) w.heap.size 302 (tokCs 0 zero4)):=Lib.hid (Z2.out.far (by simp; omega) _)
   have G3:Hid (w.grownBy (w2.setCell ⟨g,1,none⟩ (.int .i64 ((i:Int)+2))) (some g)):=Lib.hid (grown_cell G2.out)
   have hsz3:w.heap.size+2≤(w2.setCell ⟨g,1,none⟩ (.int .i64 ((i:Int)+2))).heap.size:=by simp; omega
   clear k1 f1 l1 R2 T2 Z2 G2
   generalize w2.setCell ⟨g,1,none⟩ (.int .i64 ((i:Int)+2))=w3 at R3 T3 Z3 G3 hsz3 ⊢
   have c:=T3.out.cell 0
   simp only [List.getElem?_toArray,List.getElem?_cons_succ,List.getElem?_cons_zero] at c
   have f1:=T3.out.frozen 0; have l1:=T3.out.lt
   go_upto_region 17 with (fail)
   have R4:Hid (Rdr (w3.setCell ⟨w.heap.size+1,0,none⟩ (.int .i64 2)) g s (i+2) false):=Lib.hid (R3.out.far (by simp; omega) _)
   have T4:Hid (TokB (w3.setCell ⟨w.heap.size+1,0,none⟩ (.int .i64 2)) (w.heap.size+1) 2 zero4):=Lib.hid ((T3.out.set_ 0 (.int .i64 2)).to rfl)
   have Z4:Hid (Blk (w3.setCell ⟨w.heap.size+1,0,none⟩ (.int .i64 2)) w.heap.size 302 (tokCs 0 zero4)):=Lib.hid (Z3.out.far (by simp) _)
   have G4:Hid (w.grownBy (w3.setCell ⟨w.heap.size+1,0,none⟩ (.int .i64 2)) (some g)):=Lib.hid (grown_step G3.out (grown_one _ _ _) (by show w.heap.size≤w.heap.size+1; omega))
   clear c f1 l1 R3 T3 Z3 G3
   generalize w3.setCell ⟨w.heap.size+1,0,none⟩ (.int .i64 2)=w4 at R4 T4 Z4 G4 ⊢
   go_wp2_with (first
    | ((with_reducible refine at_load (ty:=302) (x:=.tmp 3) ?_ ?_); exact rfl; refine wpList_load_blk rfl 302 (.tmp 3) rfl _ rfl T4.out whole_tok ?_)
    | ((with_reducible refine at_store (ty:=302) (x:=.tmp 2) (y:=.tmp 60) ?_ ?_); exact rfl; refine wpList_store_blk rfl 302 (.tmp 2) (.tmp 60) rfl _ rfl Z4.out rfl (by kernel_rfl) rfl rfl ?_; intro w99 b99 g99))
   have R99:Rdr w99 g s (i+2) false:=R4.out.grown g99 (by intro e; injection e; omega)
   refine ret_blk rfl rfl b99 whole_tok rfl ?_
   exact tokEnd_some (k:=2) TK.out (grown_step G4.out g99 (Nat.le_refl _)) (fun _=>by simp [zero4]) rfl has_zero R99
  | false =>
   have TK:=Lib.hid (tok_B P42.out hq42)
   clear hq42
   go_wp2_with fail
   refine (peek_lit R2.out hs (by omega) 0 42 0 42 rfl rfl (by omega)).mono ?_
   rintro e w3 ⟨rfl,hb⟩
   have hgl:g<w2.heap.size:=R2.out.lt
   have R3:Hid (Rdr w3 g s i false):=Lib.hid (R2.out.below hb hgl)
   have T3:Hid (TokB w3 (w.heap.size+1) 0 zero4):=Lib.hid (T2.out.below hb (by omega))
   have Z3:Hid (Blk w3 w.heap.size 302 (tokCs 0 zero4)):=Lib.hid (Z2.out.below hb (by omega))
   have G3:Hid (w.grownBy w3 (some g)):=Lib.hid (grownBy_transH G2.out (grown_bel hb))
   have hsz3:w.heap.size+2≤w3.heap.size:=Nat.le_trans hsz2 hb.size
   clear hb hgl R2 T2 Z2 G2 hsz2
   rw [Nat.add_zero]
   rw [P42.out]
   have k1:=R3.out.cells.2.1; have f1:=R3.out.frozen 1; have l1:=R3.out.lt
   go_upto_region 9 with (fail)
   have R4:Hid (Rdr (w3.setCell ⟨g,1,none⟩ (.int .i64 ((i:Int)+1))) g s (i+1) false):=Lib.hid ((R3.out.set_ 1 (.int .i64 ((i:Int)+1))).to rfl)
   have T4:Hid (TokB (w3.setCell ⟨g,1,none⟩ (.int .i64 ((i:Int)+1))) (w.heap.size+1) 0 zero4):=Lib.hid (T3.out.far (by simp; omega) _)
   have Z4:Hid (Blk (w3.setCell ⟨g,1,none⟩ (.int .i64 ((i:Int)+1))) w.heap.size 302 (tokCs 0 zero4)):=Lib.hid (Z3.out.far (by simp; omega) _)
   have G4:Hid (w.grownBy (w3.setCell ⟨g,1,none⟩ (.int .i64 ((i:Int)+1))) (some g)):=Lib.hid (grown_cell G3.out)
   have hsz4:w.heap.size+2≤(w3.setCell ⟨g,1,none⟩ (.int .i64 ((i:Int)+1))).heap.size:=by simp; omega
   clear k1 f1 l1 R3 T3 Z3 G3
   generalize w3.setCell ⟨g,1,none⟩ (.int .i64 ((i:Int)+1))=w4 at R4 T4 Z4 G4 hsz4 ⊢
   have c:=T4.out.cell 0
   simp only [List.getElem?_toArray,List.getElem?_cons_succ,List.getElem?_cons_zero] at c
   have f1:=T4.out.frozen 0; have l1:=T4.out.lt
   go_upto_region 17 with (fail)
   have R5:Hid (Rdr (w4.setCell ⟨w.heap.size+1,0,none⟩ (.int .i64 1)) g s (i+1) false):=Lib.hid (R4.out.far (by simp; omega) _)
   have T5:Hid (TokB (w4.setCell ⟨w.heap.size+1,0,none⟩ (.int .i64 1)) (w.heap.size+1) 1 zero4):=Lib.hid ((T4.out.set_ 0 (.int .i64 1)).to rfl)
   have Z5:Hid (Blk (w4.setCell ⟨w.heap.size+1,0,none⟩ (.int .i64 1)) w.heap.size 302 (tokCs 0 zero4)):=Lib.hid (Z4.out.far (by simp) _)
   have G5:Hid (w.grownBy (w4.setCell ⟨w.heap.size+1,0,none⟩ (.int .i64 1)) (some g)):=Lib.hid (grown_step G4.out (grown_one _ _ _) (by show w.heap.size≤w.heap.size+1; omega))
   clear c f1 l1 R4 T4 Z4 G4
   generalize w4.setCell ⟨w.heap.size+1,0,none⟩ (.int .i64 1)=w5 at R5 T5 Z5 G5 ⊢
   go_wp2_with (first
    | ((with_reducible refine at_load (ty:=302) (x:=.tmp 3) ?_ ?_); exact rfl; refine wpList_load_blk rfl 302 (.tmp 3) rfl _ rfl T5.out whole_tok ?_)
    | ((with_reducible refine at_store (ty:=302) (x:=.tmp 2) (y:=.tmp 60) ?_ ?_); exact rfl; refine wpList_store_blk rfl 302 (.tmp 2) (.tmp 60) rfl _ rfl Z5.out rfl (by kernel_rfl) rfl rfl ?_; intro w99 b99 g99))
   have R99:Rdr w99 g s (i+1) false:=R5.out.grown g99 (by intro e; injection e; omega)
   refine ret_blk rfl rfl b99 whole_tok rfl ?_
   exact tokEnd_some (k:=1) TK.out (grown_step G5.out g99 (Nat.le_refl _)) (fun _=>by simp [zero4]) rfl has_zero R99
 | false =>
  have P42:=Lib.hid hp42
  clear hp42
  go_wp2_with fail
  refine (peek_lit R1.out hs (by omega) 0 42 0 42 rfl rfl (by omega)).mono ?_
  rintro e w2 ⟨rfl,hb⟩
  have hgl:g<w1.heap.size:=R1.out.lt
  have R2:Hid (Rdr w2 g s i false):=Lib.hid (R1.out.below hb hgl)
  have T2:Hid (TokB w2 (w.heap.size+1) 0 zero4):=Lib.hid (T1.out.below hb (by omega))
  have Z2:Hid (Blk w2 w.heap.size 302 (tokCs 0 zero4)):=Lib.hid (Z1.out.below hb (by omega))
  have G2:Hid (w.grownBy w2 (some g)):=Lib.hid (grownBy_transH G1.out (grown_bel hb))
  have hsz2:w.heap.size+2≤w2.heap.size:=Nat.le_trans hsz1 hb.size
  clear hb hgl R1 T1 Z1 G1 hsz1
  rw [Nat.add_zero]
  rw [P42.out]
  go_wp2_with fail
  refine (peek_lit R2.out hs (by omega) 0 63 0 63 rfl rfl (by omega)).mono ?_
  rintro e w3 ⟨rfl,hb⟩
  have hgl:g<w2.heap.size:=R2.out.lt
  have R3:Hid (Rdr w3 g s i false):=Lib.hid (R2.out.below hb hgl)
  have T3:Hid (TokB w3 (w.heap.size+1) 0 zero4):=Lib.hid (T2.out.below hb (by omega))
  have Z3:Hid (Blk w3 w.heap.size 302 (tokCs 0 zero4)):=Lib.hid (Z2.out.below hb (by omega))
  have G3:Hid (w.grownBy w3 (some g)):=Lib.hid (grownBy_transH G2.out (grown_bel hb))
  have hsz3:w.heap.size+2≤w3.heap.size:=Nat.le_trans hsz2 hb.size
  clear hb hgl R2 T2 Z2 G2 hsz2
  rw [Nat.add_zero]
  cases hp63:peekB s i 63 with
  | true =>
   have TK:=Lib.hid (tok_C P42.out hp63)
   clear hp63
   have k1:=R3.out.cells.2.1; have f1:=R3.out.frozen 1; have l1:=R3.out.lt
   go_upto_region 12 with (fail)
   have R4:Hid (Rdr (w3.setCell ⟨g,1,none⟩ (.int .i64 ((i:Int)+1))) g s (i+1) false):=Lib.hid ((R3.out.set_ 1 (.int .i64 ((i:Int)+1))).to rfl)
   have T4:Hid (TokB (w3.setCell ⟨g,1,none⟩ (.int .i64 ((i:Int)+1))) (w.heap.size+1) 0 zero4):=Lib.hid (T3.out.far (by simp; omega) _)
   have Z4:Hid (Blk (w3.setCell ⟨g,1,none⟩ (.int .i64 ((i:Int)+1))) w.heap.size 302 (tokCs 0 zero4)):=Lib.hid (Z3.out.far (by simp; omega) _)
   have G4:Hid (w.grownBy (w3.setCell ⟨g,1,none⟩ (.int .i64 ((i:Int)+1))) (some g)):=Lib.hid (grown_cell G3.out)
   have hsz4:w.heap.size+2≤(w3.setCell ⟨g,1,none⟩ (.int .i64 ((i:Int)+1))).heap.size:=by simp; omega
   clear k1 f1 l1 R3 T3 Z3 G3
   generalize w3.setCell ⟨g,1,none⟩ (.int .i64 ((i:Int)+1))=w4 at R4 T4 Z4 G4 hsz4 ⊢
   go_wp2_with fail
   refine (svAdd (w.heap.size+1) 0 zero4 0 46 _ T4.out (fun _=>by simp [zero4])).mono ?_
   rintro e w5 ⟨rfl,V1,ht,hs4,hb4,hg⟩
   have R5:Hid (Rdr w5 g s (i+1) false):=Lib.hid (R4.out.grown hg (by intro e; injection e; omega))
   have T5:Hid (TokB w5 (w.heap.size+1) 0 V1):=Lib.hid ht
   have Z5:Hid (Blk w5 w.heap.size 302 (tokCs 0 zero4)):=Lib.hid (Z4.out.grown hg (by intro e; injection e; omega))
   have G5:Hid (w.grownBy w5 (some g)):=Lib.hid (grown_step G4.out hg (by omega))
   have hsz5:w.heap.size+2≤w5.heap.size:=Nat.le_trans hsz4 hg.size
   have SV1:=Lib.hid hs4; have BV1:=Lib.hid hb4
   clear ht hs4 hb4 hg R4 T4 Z4 G4
   go_wp2_with fail
   refine (svAdd (w.heap.size+1) 0 V1 48 255 _ T5.out SV1.out).mono ?_
   rintro e w6 ⟨rfl,V2,ht,hs4,hb4,hg⟩
   have R6:Hid (Rdr w6 g s (i+1) false):=Lib.hid (R5.out.grown hg (by intro e; injection e; omega))
   have T6:Hid (TokB w6 (w.heap.size+1) 0 V2):=Lib.hid ht
   have Z6:Hid (Blk w6 w.heap.size 302 (tokCs 0 zero4)):=Lib.hid (Z5.out.grown hg (by intro e; injection e; omega))
   have G6:Hid (w.grownBy w6 (some g)):=Lib.hid (grown_step G5.out hg (by omega))
   have hsz6:w.heap.size+2≤w6.heap.size:=Nat.le_trans hsz5 hg.size
   have SV2:=Lib.hid hs4; have BV2:=Lib.hid hb4
   clear ht hs4 hb4 hg R5 T5 Z5 G5
   go_upto_region 17 with (fail)
   go_wp2_with (first
    | ((with_reducible refine at_load (ty:=302) (x:=.tmp 3) ?_ ?_); exact rfl; refine wpList_load_blk rfl 302 (.tmp 3) rfl _ rfl T6.out whole_tok ?_)
    | ((with_reducible refine at_store (ty:=302) (x:=.tmp 2) (y:=.tmp 60) ?_ ?_); exact rfl; refine wpList_store_blk rfl 302 (.tmp 2) (.tmp 60) rfl _ rfl Z6.out rfl (by kernel_rfl) rfl rfl ?_; intro w99 b99 g99))
   have R99:Rdr w99 g s (i+1) false:=R6.out.grown g99 (by intro e; injection e; omega)
   refine ret_blk rfl rfl b99 whole_tok rfl ?_
   exact tokEnd_some (k:=0) TK.out (grown_step G6.out g99 (Nat.le_refl _)) SV2.out rfl (fun b=>by rw [BV2.out b]; unfold orS; rw [BV1.out b]; exact any_but b) R99
  | false =>
   have P63:=Lib.hid hp63
   clear hp63
   go_wp2_with fail
   refine (peek_lit R3.out hs (by omega) 0 91 0 91 rfl rfl (by omega)).mono ?_
   rintro e w4 ⟨rfl,hb⟩
   have hgl:g<w3.heap.size:=R3.out.lt
   have R4:Hid (Rdr w4 g s i false):=Lib.hid (R3.out.below hb hgl)
   have T4:Hid (TokB w4 (w.heap.size+1) 0 zero4):=Lib.hid (T3.out.below hb (by omega))
   have Z4:Hid (Blk w4 w.heap.size 302 (tokCs 0 zero4)):=Lib.hid (Z3.out.below hb (by omega))
   have G4:Hid (w.grownBy w4 (some g)):=Lib.hid (grownBy_transH G3.out (grown_bel hb))
   have hsz4:w.heap.size+2≤w4.heap.size:=Nat.le_trans hsz3 hb.size
   clear hb hgl R3 T3 Z3 G3 hsz3
   rw [Nat.add_zero]
   cases hp91:peekB s i 91 with
   | true =>
    have TK:=Lib.hid (tok_D P42.out P63.out hp91)
    clear hp91
    have k1:=R4.out.cells.2.1; have f1:=R4.out.frozen 1; have l1:=R4.out.lt
    go_upto_region 16 with (fail)
    have R5:Hid (Rdr (w4.setCell ⟨g,1,none⟩ (.int .i64 ((i:Int)+1))) g s (i+1) false):=Lib.hid ((R4.out.set_ 1 (.int .i64 ((i:Int)+1))).to rfl)
    have T5:Hid (TokB (w4.setCell ⟨g,1,none⟩ (.int .i64 ((i:Int)+1))) (w.heap.size+1) 0 zero4):=Lib.hid (T4.out.far (by simp; omega) _)
    have Z5:Hid (Blk (w4.setCell ⟨g,1,none⟩ (.int .i64 ((i:Int)+1))) w.heap.size 302 (tokCs 0 zero4)):=Lib.hid (Z4.out.far (by simp; omega) _)
    have G5:Hid (w.grownBy (w4.setCell ⟨g,1,none⟩ (.int .i64 ((i:Int)+1))) (some g)):=Lib.hid (grown_cell G4.out)
    have hsz5:w.heap.size+2≤(w4.setCell ⟨g,1,none⟩ (.int .i64 ((i:Int)+1))).heap.size:=by simp; omega
    clear k1 f1 l1 R4 T4 Z4 G4
    generalize w4.setCell ⟨g,1,none⟩ (.int .i64 ((i:Int)+1))=w5 at R5 T5 Z5 G5 hsz5 ⊢
    go_wp2_with fail
    refine (svClass s g (i+1) _ R5.out hs (by omega)).mono ?_
    rintro e w6 ⟨hg,V,rfl,hsv,hcl⟩
    have T6:Hid (TokB w6 (w.heap.size+1) 0 zero4):=Lib.hid (T5.out.grown hg (by intro e; injection e; omega))
    have Z6:Hid (Blk w6 w.heap.size 302 (tokCs 0 zero4)):=Lib.hid (Z5.out.grown hg (by intro e; injection e; omega))
    have G6:Hid (w.grownBy w6 (some g)):=Lib.hid (grownBy_transH G5.out hg)
    have hsz6:w.heap.size+2≤w6.heap.size:=Nat.le_trans hsz5 hg.size
    have SV:=Lib.hid hsv
    have CL:Hid (∃ j bad,Rdr w6 g s j bad∧((bad=false∧∃ f,classB s.data.toList (i+1)=some (f,j)∧∀ b,hasN V b=f b)∨(bad=true∧classB s.data.toList (i+1)=none∧j≤s.size+5))):=Lib.hid (by
     cases hc:classB s.data.toList (i+1) with
     | none=>rw [hc] at hcl; obtain ⟨j,h1,h2⟩:=hcl; exact ⟨j,true,h2,.inr ⟨rfl,rfl,h1⟩⟩
     | some x=>rw [hc] at hcl; exact ⟨x.2,false,hcl.2,.inl ⟨rfl,x.1,rfl,hcl.1⟩⟩)
    clear hg hsv hcl R5 T5 Z5 G5
    obtain ⟨j,bad,hr,hcl⟩:=CL.out
    have R6:Hid (Rdr w6 g s j bad):=Lib.hid hr
    have CC:=Lib.hid hcl
    clear hr hcl CL
    go_wp2_with ((with_reducible refine at_store (ty:=302) (x:=.tmp 3) (y:=.tmp 59) ?_ ?_); exact rfl; refine wpList_store_blk rfl 302 (.tmp 3) (.tmp 59) rfl _ rfl T6.out rfl (by kernel_rfl) rfl rfl ?_; intro w7 b7 g7; refine StopT.mk ?_)
    have T7:Hid (TokB w7 (w.heap.size+1) 0 V):=Lib.hid b7
    have R7:Hid (Rdr w7 g s j bad):=Lib.hid (R6.out.grown g7 (by intro e; injection e; omega))
    have Z7:Hid (Blk w7 w.heap.size 302 (tokCs 0 zero4)):=Lib.hid (Z6.out.grown g7 (by intro e; injection e; omega))
    have G7:Hid (w.grownBy w7 (some g)):=Lib.hid (grown_step G6.out g7 (by omega))
    clear b7 g7 R6 T6 Z6 G6
    unfold StopT
    go_wp2_with (first
     | ((with_reducible refine at_load (ty:=302) (x:=.tmp 3) ?_ ?_); exact rfl; refine wpList_load_blk rfl 302 (.tmp 3) rfl _ rfl T7.out whole_tok ?_)
     | ((with_reducible refine at_store (ty:=302) (x:=.tmp 2) (y:=.tmp 60) ?_ ?_); exact rfl; refine wpList_store_blk rfl 302 (.tmp 2) (.tmp 60) rfl _ rfl Z7.out rfl (by kernel_rfl) rfl rfl ?_; intro w99 b99 g99))
    have R99:Rdr w99 g s j bad:=R7.out.grown g99 (by intro e; injection e; omega)
    refine ret_blk rfl rfl b99 whole_tok rfl ?_
    rcases CC.out with ⟨rfl,f,hf,hbf⟩ | ⟨rfl,hf,hj⟩
    ·exact tokEnd_some (k:=0) (TK.out.trans (by rw [hf]; rfl)) (grown_step G7.out g99 (Nat.le_refl _)) SV.out rfl hbf R99
    ·exact tokEnd_none (k:=0) (TK.out.trans (by rw [hf]; rfl)) (grown_step G7.out g99 (Nat.le_refl _)) SV.out hj R99
   | false =>
    have TK:=Lib.hid (tok_E P42.out P63.out hp91)
    clear hp91
    go_wp2_with fail
    refine (svPlain s g i _ R4.out hs (by omega)).mono ?_
    rintro e w5 ⟨hg,hpe⟩
    obtain ⟨c0,j,bad,rfl,hr,hit⟩:=plain_parts hpe
    have R5:Hid (Rdr w5 g s j bad):=Lib.hid hr
    have T5:Hid (TokB w5 (w.heap.size+1) 0 zero4):=Lib.hid (T4.out.grown hg (by intro e; injection e; omega))
    have Z5:Hid (Blk w5 w.heap.size 302 (tokCs 0 zero4)):=Lib.hid (Z4.out.grown hg (by intro e; injection e; omega))
    have G5:Hid (w.grownBy w5 (some g)):=Lib.hid (grownBy_transH G4.out hg)
    have hsz5:w.heap.size+2≤w5.heap.size:=Nat.le_trans hsz4 hg.size
    have IT:=Lib.hid hit
    clear hg hpe hr hit R4 T4 Z4 G4
    go_wp2_with fail
    refine (svAdd (w.heap.size+1) 0 zero4 c0 c0 _ T5.out (fun _=>by simp [zero4])).mono ?_
    rintro e w6 ⟨rfl,V1,ht,hs4,hb4,hg⟩
    have R6:Hid (Rdr w6 g s j bad):=Lib.hid (R5.out.grown hg (by intro e; injection e; omega))
    have T6:Hid (TokB w6 (w.heap.size+1) 0 V1):=Lib.hid ht
    have Z6:Hid (Blk w6 w.heap.size 302 (tokCs 0 zero4)):=Lib.hid (Z5.out.grown hg (by intro e; injection e; omega))
    have G6:Hid (w.grownBy w6 (some g)):=Lib.hid (grown_step G5.out hg (by omega))
    have hsz6:w.heap.size+2≤w6.heap.size:=Nat.le_trans hsz5 hg.size
    have SV1:=Lib.hid hs4; have BV1:=Lib.hid hb4
    clear ht hs4 hb4 hg R5 T5 Z5 G5
    go_upto_region 17 with (fail)
    go_wp2_with (first
     | ((with_reducible refine at_load (ty:=302) (x:=.tmp 3) ?_ ?_); exact rfl; refine wpList_load_blk rfl 302 (.tmp 3) rfl _ rfl T6.out whole_tok ?_)
     | ((with_reducible refine at_store (ty:=302) (x:=.tmp 2) (y:=.tmp 60) ?_ ?_); exact rfl; refine wpList_store_blk rfl 302 (.tmp 2) (.tmp 60) rfl _ rfl Z6.out rfl (by kernel_rfl) rfl rfl ?_; intro w99 b99 g99))
    have R99:Rdr w99 g s j bad:=R6.out.grown g99 (by intro e; injection e; omega)
    refine ret_blk rfl rfl b99 whole_tok rfl ?_
    rcases IT.out with ⟨rfl,hit⟩ | ⟨rfl,hit,hj1,hj2⟩
    ·exact tokEnd_some (k:=0) (TK.out.trans (by rw [hit]; rfl)) (grown_step G6.out g99 (Nat.le_refl _)) SV1.out rfl (fun b=>by rw [BV1.out b]; exact just_one c0 b) R99
    ·exact tokEnd_none (k:=0) (TK.out.trans (by rw [hit]; rfl)) (grown_step G6.out g99 (Nat.le_refl _)) SV1.out (by omega) R99
end Go.Proofs.YtfhfcipelgogjaaGreatDoor
namespace Go.Proofs.YtfhfcipelgogjaaGreatDoor
open Go.RowKit
def Shape.Tok:Shape Tok where
 size:=5
 pos:=by decide
 rd _ _ cs t:=∃ W,cs=(tokCs t.kind W).toList∧Small4 W∧∀ b,hasN W b=t.has b
 bulk _:=1
 bpos _:=Nat.le_refl _
 len:=fun ⟨W,h,_⟩=>by rw [h]; rfl
 keep h _:=h
 more h _:=h
 one:=fun ⟨W,h,_⟩ v hv=>by
  rw [h] at hv
  simp only [tokCs,List.mem_cons,List.not_mem_nil,or_false] at hv
  rcases hv with rfl | rfl | rfl | rfl | rfl <;> rfl
theorem flat_tok:Shape.Tok.Flat:=fun h=>h
theorem elem_tok:Elem Tryz.prog 261 302 Shape.Tok 40:=⟨Tryz.underlying261,by kernel_rfl⟩
def ReadAt (s:ByteArray) (ii:Nat) (bad:Bool) (l:List Tok):Prop:=
 if bad=true then readB s.data.toList 0=none∧ii≤s.size+5 else ii≤s.size∧readB s.data.toList 0=(readB s.data.toList ii).map (l++·)
def CompEnd (s:ByteArray) (w:World) (e:Ending) (w':World):Prop:=
 Below w.heap.size w w'∧if 4096<s.size then e=.returned (.tuple #[.slice none 0 0,.int .i64 21]) else match readB s.data.toList 0 with
 | none=>e=.returned (.tuple #[.slice none 0 0,.int .i64 110])
 | some ts=>∃ v,e=.returned (.tuple #[v,.int .i64 0])∧Own Shape.Tok 302 w' w.heap.size (fun _=>False) v ts
theorem tok_parts {s:ByteArray} {g i:Nat} {e:Ending} {w w':World} (h:TokEnd s g i w e w'):w.grownBy w' (some g)∧∃ (t:Tok) (W:Nat→Nat) (j:Nat) (bad:Bool),e=.returned (.agg #[.int .i64 t.kind,.int .u64 (W 0),.int .u64 (W 1),.int .u64 (W 2),.int .u64 (W 3)])∧Shape.Tok.rd w' (fun _=>False) [.int .i64 t.kind,.int .u64 (W 0),.int .u64 (W 1),.int .u64 (W 2),.int .u64 (W 3)] t∧Rdr w' g s j bad ∧
  ((bad=false∧tokB s.data.toList i=some (t,j))∨(bad=true∧tokB s.data.toList i=none∧j≤s.size+5)):=by
 obtain ⟨hg,k,W,he,hs,hm⟩:=h
 refine ⟨hg,?_⟩
 cases ht:tokB s.data.toList i with
 | none =>
  rw [ht] at hm
  obtain ⟨j,h1,h2⟩:=hm
  exact ⟨⟨k,hasN W⟩,W,j,true,he,⟨W,rfl,hs,fun _=>rfl⟩,h2,.inr ⟨rfl,rfl,h1⟩⟩
 | some x =>
  rw [ht] at hm
  obtain ⟨h1,h2,h3⟩:=hm
  subst h1
  exact ⟨x.1,W,x.2,false,he,⟨W,rfl,hs,h2⟩,h3,.inl ⟨rfl,rfl⟩⟩
theorem ReadAt.good {s:ByteArray} {ii:Nat} {l:List Tok} (h:ReadAt s ii false l):ii≤s.size∧readB s.data.toList 0=(readB s.data.toList ii).map (l++·):=by
 unfold ReadAt at h; rw [if_neg (by decide)] at h; exact h
theorem readAt_0 (s:ByteArray):ReadAt s 0 false []:=by
 unfold ReadAt
 rw [if_neg (by decide)]
 refine ⟨Nat.zero_le _,?_⟩
 cases readB s.data.toList 0 <;> simp
theorem read_step {s:ByteArray} {ii j:Nat} {bad:Bool} {l:List Tok} {t:Tok} (h:ReadAt s ii false l) (hl:ii<s.size) (hit:(bad=false∧tokB s.data.toList ii=some (t,j))∨(bad=true∧tokB s.data.toList ii=none∧j≤s.size+5)):ReadAt s j bad (l++[t]):=by
 obtain ⟨h1,h2⟩:=h.good
 have hl':ii<s.data.toList.length:=by rw [len_data']; exact hl
 unfold ReadAt
 rcases hit with ⟨rfl,hit⟩ | ⟨rfl,hit,hj⟩
 ·rw [if_neg (by decide)]
  have h3:=tokB_lt hit
  rw [len_data'] at h3
  refine ⟨h3.2,?_⟩
  rw [h2,readB_some hl' hit]
  cases readB s.data.toList j <;> simp
 ·rw [if_pos rfl]
  exact ⟨by rw [h2,readB_none hl' hit]; rfl,hj⟩
def rdrM (w:World) (g n:Nat):Nat:=match w.cell? ⟨g,2,none⟩ with
 | some (.bool true)=>0
 | _=>n - cellNat w g
theorem rdrM_eq {w:World} {g n:Nat} {s:ByteArray} {i:Nat} {bad:Bool} (h:Rdr w g s i bad):rdrM w g n=if bad=true then 0 else n - i:=by
 unfold rdrM
 rw [h.cells.2.2,Rdr.at_ h]
 cases bad <;> rfl
theorem svCompile (s:ByteArray) (w:World) (hs:s.size≤9223372036854775807) :
  Calls Tryz.prog 157 #[.string s] w (CompEnd s w):=by
 by_cases h4:4096<s.size
 ·go_enter Tryz.func157,Tryz.ntmps157
  have c1:decide ((s.size:Int)>4096)=true:=by simp; omega
  go_wp2_with fail
  go_ret2
  refine ⟨Below.refl _ _,?_⟩
  rw [if_pos h4]
  rfl
 ·have HE:Hid (∀ e w',Below w.heap.size w w'→(match readB s.data.toList 0 with
   | none=>e=.returned (.tuple #[.slice none 0 0,.int .i64 110])
   | some ts=>∃ v,e=.returned (.tuple #[v,.int .i64 0])∧Own Shape.Tok 302 w' w.heap.size (fun _=>False) v ts)→CompEnd s w e w'):=Lib.hid fun e w' h1 h2=>by
   refine ⟨h1,?_⟩
   rw [if_neg h4]
   exact h2
  have c1:decide ((s.size:Int)>4096)=false:=by simp; omega
  have H4:=Lib.hid h4
  clear h4
  go_enter Tryz.func157,Tryz.ntmps157
  go_wp2_with ((with_reducible refine at_store (ty:=298) (x:=.tmp 4) (y:=.tmp 10) ?_ ?_); exact rfl; refine wpList_store_blk rfl 298 (.tmp 4) (.tmp 10) rfl _ rfl (Blk.new w _ _) rfl (by kernel_rfl) rfl rfl ?_; intro w1 b1 g1)
  have B1:Hid (Below w.heap.size w w1):=Lib.hid (((Below.refl _ _).alloc (Nat.le_refl _) (.cells #[.string ⟨#[]⟩,.int .i64 0,.bool false] 298)).grown g1 (by simp) (fun k hk=>by injection hk; omega))
  have R1:Hid (Rdr w1 w.heap.size s 0 false):=Lib.hid b1
  have hsz1:w.heap.size+1≤w1.heap.size:=by have:=g1.size; simp at this; omega
  clear b1 g1
  go_loopw [5] (fun v wr=>∃ (ii:Nat) (bad:Bool) (l:List Tok),Rdr wr w.heap.size s ii bad∧(bad=false→l.length≤ii)∧l.length≤s.size+1∧ii≤s.size+5∧Own Shape.Tok 302 wr (w.heap.size+1) (fun _=>False) v l∧Below w.heap.size w wr∧w.heap.size+1≤wr.heap.size∧ReadAt s ii bad l) (fun _ wr=>rdrM wr w.heap.size (s.size+20))
  case atStart=>exact ⟨0,false,[],R1.out,fun _=>Nat.le_refl _,Nat.zero_le _,by omega,Own.start _ _ _ _,B1.out,hsz1,readAt_0 s⟩
  case round =>
   obtain ⟨ii,bad,l,hr,hll',hll,hii,hown,hbel,hsz,hrd⟩:=hrel
   have CN:=Lib.hid (rdrM_eq (n:=s.size+20) hr)
   have R:Hid (Rdr wr w.heap.size s ii bad):=Lib.hid hr
   have O:=Lib.hid hown; have B:=Lib.hid hbel; have RA:=Lib.hid hrd; have LL:=Lib.hid hll'
   have hs4:s.size≤4096:=by have:=H4.out; omega
   clear hr hown hbel hrd R1 B1 hll'
   go_wp2_with fail
   refine (svMore s w.heap.size ii bad _ R.out (by omega) (by omega)).mono ?_
   rintro e w2 ⟨rfl,hb⟩
   have R2:Hid (Rdr w2 w.heap.size s ii bad):=Lib.hid (R.out.below hb (by omega))
   have O2:=Lib.hid (O.out.kept (grownBy_of_below hb) (by cases hv:u5.ownBlock <;> simp) (fun _ _=>by simp))
   have B2:=Lib.hid (below_old B.out hb)
   have hsz2:w.heap.size+1≤w2.heap.size:=Nat.le_trans hsz hb.size
   clear hb R O B
   cases bad with
   | true =>
    rw [show (decide (ii<s.size) && !true)=false by simp]
    have k2:=R2.out.cells.2.2
    go_wp2_with fail
    go_ret2
    refine HE.out _ _ B2.out ?_
    have:=RA.out
    unfold ReadAt at this
    rw [if_pos rfl] at this
    rw [this.1]
    rfl
   | false =>
    rw [show (decide (ii<s.size) && !false)=decide (ii<s.size) by simp]
    by_cases hlt:ii<s.size
    ·rw [decide_eq_true hlt]
     go_wp2_with fail
     refine (svToken s w.heap.size ii _ R2.out (by omega) hlt).mono ?_
     rintro e w3 hte
     obtain ⟨hg,t,W,j,bad,rfl,hrt,hr3,hit⟩:=tok_parts hte
     have hlts:=O2.out.lt
     have R3:Hid (Rdr w3 w.heap.size s j bad):=Lib.hid hr3
     have O3:=Lib.hid (O2.out.kept hg (by right; intro e; have:=(hlts _ e).1; omega) (fun _ h=>h.elim))
     have B3:=Lib.hid (B2.out.grown hg B2.out.size (fun k hk=>by injection hk; omega))
     have hsz3:w.heap.size+1≤w3.heap.size:=Nat.le_trans hsz2 hg.size
     have RT:=Lib.hid hrt; have IT:=Lib.hid hit
     have hj5:j≤s.size+5:=by
      rcases hit with ⟨_,h⟩ | ⟨_,_,h⟩
      ·have:=tokB_lt h; rw [len_data'] at this; omega
      ·exact h
     have hjm:bad=false→ii<j:=fun hb=>by
      rcases hit with ⟨_,h⟩ | ⟨h,_⟩
      ·exact (tokB_lt h).1
      ·rw [hb] at h; cases h
     have HJM:=Lib.hid hjm
     clear hjm
     clear hg hte hr3 hrt hit R2 O2 B2
     have hl5:l.length≤ii:=LL.out trivial
     go_wp2_with (at_builtin; go_loud (refine wpList_append_one (v:=u5) flat_tok rfl (.tmp 12) (.tmp 14) _ rfl elem_tok rfl O3.out (es:=[.int .i64 t.kind,.int .u64 (W 0),.int .u64 (W 1),.int .u64 (W 2),.int .u64 (W 3)]) (b:=t) rfl RT.out (by omega) (by unfold maxLen; omega) (by omega) ?_))
     intro v' w4 hown4 hg4 hsz4 hat4
     have R4:Hid (Rdr w4 w.heap.size s j bad):=Lib.hid (R3.out.grown hg4 (by intro e; have:=(O3.out.lt _ e.symm).1; omega))
     have O4:=Lib.hid hown4
     have B4:=Lib.hid (B3.out.grown hg4 B3.out.size (fun k hk=>by have:=(O3.out.lt k hk).1; omega))
     clear hown4 hg4 hat4
     go_wp2_with fail
     go_roundw
     case rel=>exact ⟨j,bad,l++[t],R4.out,fun hb=>by have:=HJM.out hb; simp; omega,by simp; omega,hj5,O4.out,B4.out,by omega,read_step RA.out hlt IT.out⟩
     case measure =>
      have h1:=CN.out
      have h2:=rdrM_eq (n:=s.size+20) R4.out
      have h3:=HJM.out
      rw [h1,h2]
      cases bad with
      | true=>simp; omega
      | false=>have:=h3 rfl; simp; omega
    ·rw [decide_eq_false hlt]
     have k2:=R2.out.cells.2.2
     go_wp2_with fail
     go_ret2
     refine HE.out _ _ B2.out ?_
     have h1:=RA.out.good.2
     rw [readB_end (p:=s.data.toList) (i:=ii) (by rw [len_data']; exact fun h=>hlt h)] at h1
     have h2:readB s.data.toList 0=some l:=by rw [h1]; simp
     rw [h2]
     exact ⟨u5,rfl,O2.out.low (by omega)⟩
end Go.Proofs.YtfhfcipelgogjaaGreatDoor
namespace Go.Proofs.YtfhfcipelgogjaaGreatDoor
open Go.RowKit
structure RunAt (w:World) (gr go B:Nat) (A:Option Addr) (n c:Nat) (ts:List Tok) (on:List Bool):Prop where
 blk:Blk w gr 356 #[.slice A n c,.slice (some ⟨go,0,none⟩) (n+1) (n+1)]
 row:Row Shape.Tok w (fun b=>b<B) A n ts
 onb:Blk w go 4 (on.map Value.bool).toArray
 len:on.length=n+1
 hr:B≤gr
 ho:B≤go
 ne:gr≠go
section
variable {w w':World} {gr go B:Nat} {A:Option Addr} {n c:Nat} {ts:List Tok} {on:List Bool}
theorem RunAt.lenT (h:RunAt w gr go B A n c ts on):ts.length=n:=h.row.1
theorem RunAt.grown {row:Option Nat} (h:RunAt w gr go B A n c ts on) (hg:w.grownBy w' row) (h1:some gr≠row) (h2:some go≠row) (h3:∀ k,row=some k→B≤k):RunAt w' gr go B A n c ts on:=
 ⟨h.blk.grown hg h1,h.row.keep fun b hb=>hg.block b (Nat.lt_of_lt_of_le (Nat.lt_of_lt_of_le hb h.hr) (Nat.le_of_lt h.blk.lt)) (fun e=>by have:=h3 b e.symm; omega),h.onb.grown hg h2,h.len,h.hr,h.ho,h.ne⟩
theorem RunAt.below (h:RunAt w gr go B A n c ts on) (hb:Below w.heap.size w w'):RunAt w' gr go B A n c ts on:=
 h.grown (grown_bel (row:=none) hb) (by simp) (by simp) (fun _ h=>by cases h)
theorem map_set_bool (on:List Bool) (i:Nat) (v:Bool):((on.map Value.bool).toArray.setIfInBounds i (.bool v))=((on.set i v).map Value.bool).toArray:=by
 apply Array.ext'
 simp
theorem RunAt.set (h:RunAt w gr go B A n c ts on) (i:Nat) (v:Bool):RunAt (w.setCell ⟨go,i,none⟩ (.bool v)) gr go B A n c ts (on.set i v):=by
 refine ⟨h.blk.far (by simp; exact h.ne) _,h.row.keep fun b hb=>Below.heap_setCell _ _ _ b (by simp; have:=h.ho; omega),?_,by simpa using h.len,h.hr,h.ho,h.ne⟩
 have:=h.onb.set_ i (.bool v)
 rwa [map_set_bool] at this
theorem RunAt.cells (h:RunAt w gr go B A n c ts on):w.cell? ⟨gr,0,none⟩=some (.slice A n c)∧w.cell? ⟨gr,1,none⟩=some (.slice (some ⟨go,0,none⟩) (n+1) (n+1)):=⟨h.blk.cell 0,h.blk.cell 1⟩
theorem RunAt.at_ (h:RunAt w gr go B A n c ts on) {i:Nat} (hi:i≤n):w.cell? ⟨go,i,none⟩=some (.bool (on.getD i false)):=by
 have hl:=h.len
 rw [h.onb.cell i]
 simp only [List.getElem?_toArray,List.getElem?_map]
 rw [List.getElem?_eq_getElem (by omega)]
 simp [List.getD_eq_getElem?_getD,List.getElem?_eq_getElem (show i<on.length by omega)]
end
theorem tk_at {ts:List Tok} {i:Nat} (h:i<ts.length):tk ts i=ts[i]:=by unfold tk; rw [getElem!_pos ts i h]
theorem grown_alloc_one (w:World) (o:Obj) (row:Option Nat):w.grownBy (w.alloc o) row:=⟨rfl,rfl,rfl,by simp,fun n hn _=>Below.heap_alloc w o n hn⟩
theorem skip_keep {ts:List Tok} {p:Nat→Bool} {i:Nat} (h:skipRow ts p i=false∨(tk ts i).one=true) (k:Nat):(if k≤i then skipRow ts p k else p k)=if k≤i+1 then skipRow ts p k else p k:=by
 by_cases h1:k≤i
 ·rw [if_pos h1,if_pos (by omega)]
 ·rw [if_neg h1]
  by_cases h2:k≤i+1
  ·have:k=i+1:=by omega
   subst this
   rw [if_pos (Nat.le_refl _)]
   show _=(p (i+1) || (skipRow ts p i && !(tk ts i).one))
   rcases h with h | h <;> simp [h]
  ·rw [if_neg h2]
theorem skip_set {ts:List Tok} {p:Nat→Bool} {on:List Bool} {i n:Nat} (h:∀ k,k≤n→on.getD k false=if k≤i then skipRow ts p k else p k) (hl:i+1<on.length) (hs:true=skipRow ts p i) (ho:(tk ts i).one=false) (k:Nat) (hk:k≤n) :
  (on.set (i+1) true).getD k false=if k≤i+1 then skipRow ts p k else p k:=by
 by_cases h1:k=i+1
 ·subst h1
  rw [if_pos (Nat.le_refl _)]
  show _=(p (i+1) || (skipRow ts p i && !(tk ts i).one))
  rw [← hs,ho]
  simp [List.getD_eq_getElem?_getD,hl]
 ·have e:(on.set (i+1) true).getD k false=on.getD k false:=by
   simp [List.getD_eq_getElem?_getD,List.getElem?_set,Ne.symm h1]
  rw [e,h k hk]
  by_cases h2:k≤i
  ·rw [if_pos h2,if_pos (by omega)]
  ·rw [if_neg h2,if_neg (by omega)]
attribute [local go_sem] cell?_over frozen?_over lt_over le_over
theorem svSkip {gr go B:Nat} {A:Option Addr} {n c:Nat} {ts:List Tok} {on:List Bool} (w:World) (h:RunAt w gr go B A n c ts on) (hn:n≤100000) :
  Calls Tryz.prog 257 #[.pointer (some ⟨gr,0,none⟩)] w fun e w'=>e=.returned (.tuple #[])∧∃ on',RunAt w' gr go B A n c ts on'∧(∀ k,k≤n→on'.getD k false=skipRow ts (fun k=>on.getD k false) k)∧w.grownBy w' (some go):=by
 have H:=Lib.hid h
 have k0:=h.cells.1
 have l0:=h.blk.lt
 clear h
 go_enter Tryz.func257,Tryz.ntmps257
 go_wp2_with fail
 go_loopw [9] (fun it wr=>∃ (i:Nat) (on':List Bool),it=.int .i64 i∧i≤n∧RunAt wr gr go B A n c ts on'∧(∀ k,k≤n→on'.getD k false=if k≤i then skipRow ts (fun k=>on.getD k false) k else on.getD k false)∧w.grownBy wr (some go)) (fun it _=>n - (intOf it).toNat)
 case atStart=>exact ⟨0,on,rfl,Nat.zero_le _,H.out,fun k hk=>by
  by_cases hk0:k≤0
  ·have:k=0:=by omega
   subst this; simp [skipRow]
  ·rw [if_neg hk0],⟨rfl,rfl,rfl,Nat.le_refl _,fun _ _ _=>rfl⟩⟩
 case round =>
  obtain ⟨i,on',rfl,hi,hrun,hon,hg⟩:=hrel
  have R:=Lib.hid hrun; have ON:=Lib.hid hon; have G:=Lib.hid hg
  clear hrun hg k0 l0
  by_cases hlt:i<n
  ·obtain ⟨b,off,es,hl,hA,hb,hc,hc0,hrd⟩:=R.out.row.elem (Keeps.refl _ _) hlt
   subst hA
   obtain ⟨V,hes,hs4,hbits⟩:=hrd
   have e5:Shape.Tok.size=5:=rfl
   rw [e5] at hc hc0
   subst hes
   have c1:=hc 1 (by omega); have c2:=hc 2 (by omega); have c3:=hc 3 (by omega); have c4:=hc 4 (by omega)
   simp only [tokCs,List.getElem?_cons_zero,List.getElem?_cons_succ] at hc0 c1 c2 c3 c4
   have q0:=R.out.cells.1; have q1:=R.out.cells.2; have qi:=R.out.at_ (i:=i) (by omega)
   have lb:b<wr.heap.size:=by have:=R.out.hr; have:=R.out.blk.lt; omega
   have lr:=R.out.blk.lt; have lo:=R.out.onb.lt
   obtain ⟨K,hK⟩:∃ K,K=ts[i].kind:=⟨_,rfl⟩
   rw [← hK] at hc0
   have HK:=Lib.hid hK
   obtain ⟨p,hp⟩:∃ p,p=on'.getD i false:=⟨_,rfl⟩
   rw [← hp] at qi
   have HP:=Lib.hid hp
   have HS:=Lib.hid (show on'.getD i false=skipRow ts (fun k=>on.getD k false) i by rw [hon i (by omega),if_pos (Nat.le_refl _)])
   clear hc hK hp hbits hon
   have qj:=R.out.at_ (i:=i+1) (by omega)
   have fj:=R.out.onb.frozen (i+1)
   cases p with
   | false =>
    go_wp2_with fail
    go_roundw
    case rel=>exact ⟨i+1,on',by go_num,by omega,(RunAt.grown R.out (grown_alloc_one _ _ none) (by simp) (by simp) (fun _ h=>by cases h)),fun k hk=>(ON.out k hk).trans (skip_keep (.inl (by rw [← HS.out,← HP.out])) k),(grownBy_transH G.out (grown_alloc_one _ _ _))⟩
    case measure=>simp [intOf]; omega
   | true =>
    by_cases hK0:K=0
    ·have ck:((K:Int) != 0)=false:=by rw [hK0]; rfl
     go_wp2_with fail
     go_roundw
     case rel=>exact ⟨i+1,on',by go_num,by omega,(RunAt.grown R.out (grown_alloc_one _ _ none) (by simp) (by simp) (fun _ h=>by cases h)),fun k hk=>(ON.out k hk).trans (skip_keep (.inr (by unfold Tok.one; rw [tk_at hl,← HK.out,hK0]; rfl)) k),(grownBy_transH G.out (grown_alloc_one _ _ _))⟩
     case measure=>simp [intOf]; omega
    ·have ck:((K:Int) != 0)=true:=by rw [bne_iff_ne]; omega
     go_wp2_with fail
     go_roundw
     case rel=>exact ⟨i+1,on'.set (i+1) true,by go_num,by omega,(RunAt.grown (R.out.set (i+1) true) (grown_alloc_one _ _ none) (by simp) (by simp) (fun _ h=>by cases h)),fun k hk=>(skip_set (ON.out) (by have:=R.out.len; omega) (by rw [← HS.out,← HP.out]) (by unfold Tok.one; rw [tk_at hl,← HK.out]; simpa using hK0) k hk),(grownBy_transH (grown_cell G.out) (grown_alloc_one _ _ _))⟩
     case measure=>simp [intOf]; omega
  ·clear hon
   go_wp2_with fail
   refine bodyPost_end (v:=.tuple #[]) (by simp [results,Tryz.results257,go_sem]) rfl ⟨rfl,on',R.out,fun k hk=>?_,G.out⟩
   rw [ON.out k hk,if_pos (by omega)]
end Go.Proofs.YtfhfcipelgogjaaGreatDoor
namespace Go.Proofs.YtfhfcipelgogjaaGreatDoor
open Go.RowKit
attribute [local go_sem] cell?_over frozen?_over lt_over le_over
theorem bool_info:∃ i,Tryz.prog.info? 4=some i∧i.zero=some (.bool false)∧i.size=1∧i.bytes=1:=by
 have h:(Tryz.prog.info? 4).map (fun i=>(i.size,i.bytes,i.zero))=some (1,1,some (.bool false)):=by kernel_rfl
 rw [Option.map_eq_some_iff] at h
 obtain ⟨i,hi,hx⟩:=h
 simp only [Prod.mk.injEq] at hx
 exact ⟨i,hi,hx.2.2,hx.1,hx.2.1⟩
theorem made_bools (n:Nat):madeCells (Value.bool false).cells (n*1)=((List.replicate n false).map Value.bool).toArray:=by
 unfold madeCells
 apply Array.ext'
 apply List.ext_getElem?
 intro j
 simp [Value.cells]
 by_cases hj:j<n
 ·simp [hj,Nat.mod_one]
 ·simp [hj]
theorem make_bools (n:Nat) (hn:n≤140737488355328) (W:World):(Instr.makeSlice 341 (.int .i64 n) (.int .i64 n)).run Tryz.prog W=.ok (.slice (some ⟨W.heap.size,0,none⟩) n n) (W.alloc (.cells ((List.replicate n false).map Value.bool).toArray 4)):=by
 obtain ⟨i,hi,hz,h1,h2⟩:=bool_info
 have:=run_make (P:=Tryz.prog) W 341 4 i _ Tryz.underlying341 hi hz .i64 .i64 n n (by omega) (Int.le_refl _) (by rw [h2]; omega) (by omega)
 rw [h1,Int.toNat_natCast,made_bools] at this
 exact this
theorem getD_replicate (n k:Nat):(List.replicate n false).getD k false=false:=by
 rw [List.getD_eq_getElem?_getD,List.getElem?_replicate]
 split <;> rfl
theorem svBegin {A:Option Addr} {n c:Nat} {ts:List Tok} (w:World) (h:Row Shape.Tok w (Old w) A n ts) (hn:n≤100000) :
  Calls Tryz.prog 233 #[.slice A n c] w fun e w'=>∃ gr go on,e=.returned (.pointer (some ⟨gr,0,none⟩))∧RunAt w' gr go w.heap.size A n c ts on∧(∀ k,k≤n→on.getD k false=skipRow ts (fun k=>k == 0) k)∧Below w.heap.size w w':=by
 have H:=Lib.hid h
 have hmk:=make_bools (n+1) (by omega)
 have e1:((n+1:Nat):Int)=(n:Int)+1:=by omega
 simp only [e1] at hmk
 clear h e1
 go_enter Tryz.func233,Tryz.ntmps233
 go_wp2_with fail
 have RA:Hid (RunAt ((w.alloc (.cells ((Array.replicate (n+1) (Value.bool false)).setIfInBounds 0 (.bool true)) 4)).alloc (.cells #[.slice A n c,.slice (some ⟨w.heap.size,0,none⟩) (n+1) (n+1)] 356)) (w.heap.size+1) w.heap.size w.heap.size A n c ts ((List.replicate (n+1) false).set 0 true)):=Lib.hid (by
  refine ⟨?_,?_,?_,by simp,by omega,Nat.le_refl _,by omega⟩
  ·have:=Blk.new (w.alloc (.cells ((Array.replicate (n+1) (Value.bool false)).setIfInBounds 0 (.bool true)) 4)) 356 #[.slice A n c,.slice (some ⟨w.heap.size,0,none⟩) (n+1) (n+1)]
   simpa using this
  ·exact (H.out.keep fun b hb=>Below.heap_alloc w _ b hb).keep fun b hb=>Below.heap_alloc _ _ b (by simp; have:b<w.heap.size:=hb; omega)
  ·exact ((Blk.new w 4 _).alloc _).to (by apply Array.ext'; simp))
 have hb:=Lib.hid (((below_alloc' w (.cells ((Array.replicate (n+1) (Value.bool false)).setIfInBounds 0 (.bool true)) 4))).alloc (by simp) (.cells #[.slice A n c,.slice (some ⟨w.heap.size,0,none⟩) (n+1) (n+1)] 356))
 refine (svSkip _ RA.out hn).mono ?_
 rintro e w2 ⟨rfl,on',hr,hon,hg⟩
 have R2:=Lib.hid hr; have ON:=Lib.hid hon
 have HB:=Lib.hid (hb.out.grown hg hb.out.size (fun k hk=>by injection hk; omega))
 clear hr hon hg RA hb
 go_wp2_with fail
 go_ret
 refine ⟨_,_,on',rfl,R2.out,fun k hk=>?_,HB.out⟩
 rw [ON.out k hk]
 congr 1
 funext k
 rw [List.getD_eq_getElem?_getD,List.getElem?_set]
 by_cases hk0:k=0
 ·subst hk0; simp
 ·rw [if_neg (by omega)]
  have:=getD_replicate (n+1) k
  rw [List.getD_eq_getElem?_getD] at this
  rw [this]
  simpa using (by simpa using hk0:(k == 0)=false).symm
theorem svDone {gr go B:Nat} {A:Option Addr} {n c:Nat} {ts:List Tok} {on:List Bool} (w:World) (h:RunAt w gr go B A n c ts on) (hn:n≤100000) :
  Calls Tryz.prog 234 #[.pointer (some ⟨gr,0,none⟩)] w fun e w'=>e=.returned (.bool (on.getD n false))∧Below w.heap.size w w':=by
 have k0:=h.cells.1; have k1:=h.cells.2; have q:=h.at_ (i:=n) (Nat.le_refl _)
 obtain ⟨v,hv⟩:∃ v,v=on.getD n false:=⟨_,rfl⟩
 rw [← hv] at q ⊢
 clear hv h
 go_enter Tryz.func234,Tryz.ntmps234
 go_wp2_with fail
 go_quiet ((fail))
 go_wp2_with fail
 go_ret
 exact ⟨rfl,below_drewN (Below.refl _ _) _⟩
end Go.Proofs.YtfhfcipelgogjaaGreatDoor
