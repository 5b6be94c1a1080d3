/- Byte lists of the call's own: appending a byte; a byte list as a text. No condition but room. Byte lists: their elements. No condition. -/
import Derived.Test.YtfhfcipelgogjaaGreatDoorBaseAt
import Derived.Laws.IdiomStrings
import Derived.BigGuardPart
set_option linter.unusedSectionVars false
set_option linter.unusedVariables false
set_option linter.unusedSimpArgs false
namespace Go.Proofs.YtfhfcipelgogjaaGreatDoor
open Go.RowKit
section
variable {P:Program} {w W w':World} {v:Value} {l:List UInt8} {e:TypeId} {base:Nat} {ops:Array Oper} {rest:List Oper} {o:Oper} {a:Act} {Q:Exit→Act→World→Prop}
theorem Own.low {α:Type} {s:Shape α} {M:Nat→Prop} {l:List α} {base':Nat} (h:Own s e w base M v l) (hb:base'≤base):Own s e w base' M v l:=by
 obtain ⟨xs,⟨h1,h2⟩,h3⟩:=h
 refine ⟨xs,⟨h1,?_⟩,h3⟩
 rcases h2 with h | ⟨g,cap,cur,hv,hg,r⟩
 ·exact .inl h
 ·exact .inr ⟨g,cap,cur,hv,Nat.le_trans hb hg,r⟩
theorem wpList_append_one {α:Type} {s:Shape α} {l:List α} (hf:s.Flat) (hgd:o.guard=none) (sv x:Operand) (t:TypeId) (ho:o.op=.call { callee:=.builtin .append,args:=#[sv,x],argTypes:=#[t,t] }) {bytes:Nat} (el:Elem P t e s bytes)
  (hs:a.eval sv=v) (h:Own s e w base (fun _=>False) v l) {es:List Value} {b:α} (hx:a.eval x=.slice (some ⟨w.heap.size,0,none⟩) 1 1) (hr:s.rd w (fun _=>False) es b) (hlen:(l.length+1)*bytes≤140737488355328) (hlen':l.length+1≤maxLen) (hbase:base≤w.heap.size)
  (K:∀ v' w',Own s e w' base (fun _=>False) v' (l++[b])→w.grownBy w' v.ownBlock→w.heap.size≤w'.heap.size→(v'.ownBlock=v.ownBlock∨v'.ownBlock=some (w.heap.size+1))→wpList P ops Q rest (a.put o.dst v') w'):wpList P ops Q (o :: rest) a (w.alloc (.cells es.toArray e)):=by
 refine wpList_append_list hgd sv x t ho el hs (h.alloc _) hx (Src.single (s:=s) (es:=es) (a:=b) e (M:=fun _=>False) (fun _ h=>h.elim) hr) (fun _ h=>h.elim) hlen hlen' (by simp; omega) ?_
 intro v' w1 hown hg hat
 have hz:=hg.size
 simp at hz
 refine K v' w1 ?_ ?_ (by omega) (by simpa using hat)
 ·obtain ⟨xs,h1,h2,h3⟩:=hown
  exact ⟨xs,h1,h2.flat hf,fun _ h=>h.elim⟩
 ·exact ⟨hg.os,hg.tape,hg.output,by omega,fun n hn hne=>(hg.block n (by simp; omega) hne).trans (Below.heap_alloc w _ n hn)⟩
end
end Go.Proofs.YtfhfcipelgogjaaGreatDoor
namespace Go.Proofs.YtfhfcipelgogjaaGreatDoor
open Go.RowKit
theorem elem_byte:Elem Tryz.prog 58 5 Shape.byte 1:=⟨Tryz.underlying58,by kernel_rfl⟩
end Go.Proofs.YtfhfcipelgogjaaGreatDoor
