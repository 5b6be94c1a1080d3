/- The document's reader of patterns: a piece in memory; a set in brackets. No condition but room. -/
import Derived.Test.YtfhfcipelgogjaaGreatDoorSvEnd
import Derived.Test.YtfhfcipelgogjaaGreatDoorBaseAt
set_option linter.unusedVariables false
set_option linter.unusedSimpArgs false
namespace Go.Proofs.YtfhfcipelgogjaaGreatDoor
open Go.RowKit
attribute [local go_sem] cell?_over frozen?_over lt_over le_over
def bools256 (f:UInt8→Bool):List Value:=(List.range 256).map fun j=>Value.bool (f (UInt8.ofNat j))
def pieceCs (k:Int) (f:UInt8→Bool):Array Value:=(Value.int .i64 k :: bools256 f).toArray
theorem piece_get (k:Int) (f:UInt8→Bool) (b:UInt8):(pieceCs k f)[1+b.toNat]?=some (.bool (f b)):=by
 have hb:b.toNat<256:=b.toNat_lt
 simp only [pieceCs,bools256,List.getElem?_toArray]
 rw [Nat.add_comm,List.getElem?_cons_succ,List.getElem?_map,List.getElem?_range hb]
 simp
def updB (f:UInt8→Bool) (b:UInt8) (v:Bool):UInt8→Bool:=fun x=>if x=b then v else f x
theorem piece_set (k:Int) (f:UInt8→Bool) (b:UInt8) (v:Bool):(pieceCs k f).setIfInBounds (1+b.toNat) (.bool v)=pieceCs k (updB f b v):=by
 have hb:b.toNat<256:=b.toNat_lt
 apply Array.ext'
 simp only [pieceCs,bools256,Array.toList_setIfInBounds]
 rw [Nat.add_comm,List.set_cons_succ]
 congr 1
 apply List.ext_getElem?
 intro j
 rw [List.getElem?_set,List.getElem?_map,List.getElem?_map]
 by_cases hj:j<256
 ·rw [List.getElem?_range hj]
  by_cases hbj:b.toNat=j
  ·subst hbj
   simp [updB,hb]
  ·rw [if_neg hbj]
   simp only [Option.map_some,updB]
   rw [if_neg]
   intro e
   apply hbj
   rw [← e,UInt8.toNat_ofNat']
   omega
 ·rw [List.getElem?_eq_none (by simp; omega)]
  have:¬ b.toNat=j:=by omega
  rw [if_neg this]
  rfl
abbrev PieB (w:World) (g:Nat) (k:Int) (f:UInt8→Bool):Prop:=Blk w g 276 (pieceCs k f)
theorem PieB.at_ {w:World} {g:Nat} {k:Int} {f:UInt8→Bool} (h:PieB w g k f) (b:UInt8):w.cell? ⟨g,1+b.toNat,none⟩=some (.bool (f b)):=by rw [h.cell,piece_get]
theorem PieB.put {w:World} {g:Nat} {k:Int} {f:UInt8→Bool} (h:PieB w g k f) (b:UInt8) (v:Bool):PieB (w.setCell ⟨g,1+b.toNat,none⟩ (.bool v)) g k (updB f b v):=(h.set_ (1+b.toNat) (.bool v)).to (piece_set k f b v)
end Go.Proofs.YtfhfcipelgogjaaGreatDoor
