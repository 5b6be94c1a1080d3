/- What (*graph.lister).add leaves, in plain words, and how the lister lies in memory. No condition. What the lister keeps while a line is added. No condition. -/
import Derived.Test.YtfhfcipelgogjaaGreatDoorGreadAll
import Derived.Test.YtfhfcipelgogjaaGreatDoorDataAll
import Derived.Test.YtfhfcipelgogjaaGreatDoorPlanAll
import Derived.Test.YtfhfcipelgogjaaGreatDoorRegAll
import Derived.Test.YtfhfcipelgogjaaGreatDoorBaseAt
import Derived.Deep.DeepCutAuto
import Derived.Deep.CutRange
import Derived.Deep.CutBlock
set_option linter.unusedSectionVars false
set_option linter.unusedVariables false
set_option linter.unusedSimpArgs false
namespace Go.Proofs.YtfhfcipelgogjaaGreatDoor
open Go.RowKit
structure LSt where
 out:List LineD
 first:List (Int×ByteArray)
 bytes:Nat
def peerOf (st:LSt) (n:NodeD):ByteArray:=(getKv st.first n.id).getD ⟨#[]⟩
def lineAt (path:ByteArray) (n:NodeD) (peer:ByteArray):LineD:=
 if peer.size=0 then ⟨path,n.kind,n.mode,n.uid,n.gid,n.mtime,n.data,n.target,peer⟩ else ⟨path,n.kind,n.mode,n.uid,n.gid,n.mtime,[],⟨#[]⟩,peer⟩
def subPath (top:Bool) (path name:ByteArray):ByteArray:=if top=true then name else path++⟨#[47]⟩++name
def addEs (gs:List NodeD) (rec:LSt→Nat→ByteArray→LSt×Bool) (top:Bool) (path:ByteArray):List EntD→LSt→LSt×Bool
 | [],st=>(st,true)
 | e :: es,st=>match getKv (idx gs) e.id with
  | none=>(st,false)
  | some j=>if (rec st j (subPath top path e.name)).2=true then addEs gs rec top path es (rec st j (subPath top path e.name)).1 else ((rec st j (subPath top path e.name)).1,false)
def put1 (st:LSt) (n:NodeD) (path:ByteArray):LSt:=⟨st.out++[lineAt path n (peerOf st n)],if (peerOf st n).size=0 then putKv st.first n.id path else st.first,st.bytes+path.size⟩
def addF (gs:List NodeD):Nat→LSt→Nat→ByteArray→LSt×Bool
 | 0,st,_,_=>(st,false)
 | f+1,st,i,path=>if 4194304<st.bytes+path.size then (⟨st.out,st.first,st.bytes+path.size⟩,false)
  else addEs gs (addF gs f) st.out.isEmpty path (gs.getD i default).ents (put1 st (gs.getD i default) path)
theorem addEs_bytes {gs:List NodeD} {rec:LSt→Nat→ByteArray→LSt×Bool} (hr:∀ st j p,st.bytes≤4194304→(rec st j p).2=true→st.bytes≤(rec st j p).1.bytes∧(rec st j p).1.bytes≤4194304) (top:Bool) (path:ByteArray):∀ (es:List EntD) (st:LSt),st.bytes≤4194304→(addEs gs rec top path es st).2=true→st.bytes≤(addEs gs rec top path es st).1.bytes∧(addEs gs rec top path es st).1.bytes≤4194304
 | [],st,hb,_=>⟨Nat.le_refl _,hb⟩
 | e :: es,st,hb,h=>by
  unfold addEs at h ⊢
  cases hk:getKv (idx gs) e.id with
  | none=>rw [hk] at h; cases h
  | some j =>
   rw [hk] at h
   simp only at h ⊢
   by_cases h1:(rec st j (subPath top path e.name)).2=true
   ·rw [if_pos h1] at h ⊢
    obtain ⟨a1,a2⟩:=hr _ _ _ hb h1
    obtain ⟨b1,b2⟩:=addEs_bytes hr top path es _ a2 h
    exact ⟨Nat.le_trans a1 b1,b2⟩
   ·rw [if_neg h1] at h; cases h
theorem addF_bytes {gs:List NodeD}:∀ (f:Nat) (st:LSt) (j:Nat) (p:ByteArray),st.bytes≤4194304→(addF gs f st j p).2=true→st.bytes≤(addF gs f st j p).1.bytes∧(addF gs f st j p).1.bytes≤4194304
 | 0,st,j,p,_,h=>by cases h
 | f+1,st,j,p,hb,h=>by
  unfold addF at h ⊢
  by_cases h1:4194304<st.bytes+p.size
  ·rw [if_pos h1] at h; cases h
  ·rw [if_neg h1] at h ⊢
   have:=addEs_bytes (gs:=gs) (rec:=addF gs f) (addF_bytes f) st.out.isEmpty p _ (put1 st (gs.getD j default) p) (by show st.bytes+p.size≤_; omega) h
   exact ⟨Nat.le_trans (Nat.le_add_right _ _) this.1,this.2⟩
def cW (p:ByteArray):Value:=.agg #[.string p]
structure LsAt (bl bi bf B:Nat) (bg offg:Nat) (gs:List NodeD) (st:LSt) (w:World):Prop where
 own:∃ (v:Value) (M:Nat→Prop),Blk w bl 75 #[.map (some bi),v,.map (some bf),.int .i64 st.bytes]∧Own Shape.LineD 60 w B M v st.out∧∀ n,M n→B≤n
 first:IsMap kI cW w bf st.first
 bys:IsMap kI (nodeV bg offg) w bi (idx gs)
 len:st.out.length≤st.bytes
 paths:∀ p∈st.first,p.2.size≤4194304
 ltl:bl<B
 ltf:bf<B
 lti:bi<B
theorem und_first:Tryz.prog.underlying 73=some (.map kI.ty 125):=Tryz.underlying73
theorem getKv_path {st:List (Int×ByteArray)} {k:Int} {p:ByteArray} (h:getKv st k=some p):(k,p)∈st:=by
 unfold getKv at h
 rw [Option.map_eq_some_iff] at h
 obtain ⟨q,hq,rfl⟩:=h
 have h1:=List.find?_some hq
 rw [decide_eq_true_eq] at h1
 have:=List.mem_of_find?_eq_some hq
 rw [← h1]; exact this
theorem mem_putKv {st:List (Int×ByteArray)} {k:Int} {p:ByteArray}:∀ q∈putKv st k p,q∈st∨q.2=p:=by
 intro q hq
 unfold putKv at hq
 split at hq
 ·obtain ⟨x,hx,rfl⟩:=List.mem_map.1 hq
  split
  ·exact .inr rfl
  ·exact .inl hx
 ·rcases List.mem_append.1 hq with h | h
  ·exact .inl h
  ·simp only [List.mem_singleton] at h; subst h; exact .inr rfl
end Go.Proofs.YtfhfcipelgogjaaGreatDoor
namespace Go.Proofs.YtfhfcipelgogjaaGreatDoor
open Go.RowKit
attribute [local go_sem] cell?_over frozen?_over lt_over le_over
theorem node_at {B0 bg offg N i:Nat} {gs:List NodeD} {w:World} (hB:B0≤w.heap.size) (hg:Row Shape.NodeD w (fun n=>n<B0) (some ⟨bg,offg,none⟩) N gs) (hi:i<gs.length) {d:NodeD} (hd:d=gs[i]) :
  ∃ (A1:Option Addr) (c1:Nat) (A2:Option Addr) (c2:Nat),(I64 d.kind∧I64 d.mode∧I64 d.uid∧I64 d.gid∧I64 d.mtime.sec∧I64 d.mtime.nano∧d.target.size≤maxLen∧bg<B0∧d.data.length≤c1)∧∀ w',Below B0 w w' →
   w'.cell? ⟨bg,offg+i*10,none⟩=some (.int .i64 d.id)∧w'.cell? ⟨bg,offg+i*10+1,none⟩=some (.int .i64 d.kind)∧w'.cell? ⟨bg,offg+i*10+2,none⟩=some (.int .i64 d.mode)∧w'.cell? ⟨bg,offg+i*10+3,none⟩=some (.int .i64 d.uid)∧w'.cell? ⟨bg,offg+i*10+4,none⟩=some (.int .i64 d.gid)∧w'.cell? ⟨bg,offg+i*10+5,none⟩=some (.int .i64 d.mtime.sec)∧w'.cell? ⟨bg,offg+i*10+6,none⟩=some (.int .i64 d.mtime.nano)∧w'.cell? ⟨bg,offg+i*10+7,none⟩=some (.slice A1 d.data.length c1)∧w'.cell? ⟨bg,offg+i*10+8,none⟩=some (.string d.target)∧w'.cell? ⟨bg,offg+i*10+9,none⟩=some (.slice A2 d.ents.length c2) ∧
   bg<w'.heap.size∧Row Shape.byte w' (fun n=>n<B0) A1 d.data.length d.data∧Row Shape.EntD w' (fun n=>n<B0) A2 d.ents.length d.ents:=by
 have hiN:i<N:=by rw [← hg.1]; exact hi
 obtain ⟨bg',offg',es,hkl,hA,hbm,hc,hr⟩:=hg.at_ hiN
 injection hA with hA
 injection hA with hA1 hA2
 subst hA1 hA2
 rw [← hd] at hr
 obtain ⟨A1,n1,c1,A2,n2,c2,rfl,i0,i1,i2,i3,i4,i5,i6,hnc1,-,r1,t1,-,-,r2⟩:=hr
 have e1:=r1.1; have e2:=r2.1
 subst e1 e2
 refine ⟨A1,c1,A2,c2,⟨i1,i2,i3,i4,i5,i6,t1,hbm,hnc1⟩,fun w' hb=>?_⟩
 have e10:Shape.NodeD.size=10:=rfl
 rw [e10] at hc
 have g:=fun j (hj:j<10)=>(hb.cell (p:=⟨bg,offg+i*10+j,none⟩) hbm).trans (hc j hj)
 have kk:Keeps (fun n=>n<B0) w w':=hb.block
 refine ⟨g 0 (by decide),g 1 (by decide),g 2 (by decide),g 3 (by decide),g 4 (by decide),g 5 (by decide),g 6 (by decide),g 7 (by decide),g 8 (by decide),g 9 (by decide),Nat.lt_of_lt_of_le hbm (Nat.le_trans hB hb.size),r1.keep kk,r2.keep kk⟩
def SmallH (gs:List NodeD):Prop:=∀ n∈gs,n.data.length≤1000000000∧n.target.size≤100000000∧n.ents.length≤1000000000∧∀ e∈n.ents,0<e.name.size∧e.name.size≤100000000∧∃ j,getKv (idx gs) e.id=some j
def AddEnd (bl bi bf B B0 bg offg:Nat) (gs:List NodeD) (R:LSt×Bool) (w:World) (e:Ending) (w':World):Prop:=
 Below B0 w w'∧LsAt bl bi bf B bg offg gs R.1 w'∧e=.returned (.bool R.2)
theorem grown_setA (w:World) (b k:Nat) (u:Value):w.grownBy (w.setCell ⟨b,k,none⟩ u) (some b):=⟨rfl,rfl,rfl,by simp,fun n hn hne=>Below.heap_setCell w _ u n (fun e=>hne (by rw [e]))⟩
theorem below_set {B:Nat} (w:World) (b k:Nat) (u:Value) (h:B≤b):Below B w (w.setCell ⟨b,k,none⟩ u):=⟨rfl,rfl,rfl,by simp,fun n hn=>Below.heap_setCell w _ u n (by show n≠b; omega)⟩
theorem below_grown {B:Nat} {w w':World} {b:Nat} (h:w.grownBy w' (some b)) (hb:B≤b) (hB:B≤w.heap.size):Below B w w':=⟨h.os,h.tape,h.output,h.size,fun n hn=>h.block n (by omega) (fun e=>by injection e; omega)⟩
theorem grownBy_below' {a b:World} {r:Option Nat} (h:Below a.heap.size a b):a.grownBy b r:=⟨h.os,h.tape,h.output,h.size,fun n hn _=>h.block n hn⟩
theorem lineAt_cells (path:ByteArray) (d:NodeD) (peer:ByteArray):(lineAt path d peer).path=path∧(lineAt path d peer).kind=d.kind∧(lineAt path d peer).mode=d.mode∧(lineAt path d peer).uid=d.uid∧(lineAt path d peer).gid=d.gid∧(lineAt path d peer).mtime=d.mtime∧(lineAt path d peer).peer=peer∧((lineAt path d peer).target.size≤d.target.size):=by
 unfold lineAt
 split
 ·exact ⟨rfl,rfl,rfl,rfl,rfl,rfl,rfl,Nat.le_refl _⟩
 ·exact ⟨rfl,rfl,rfl,rfl,rfl,rfl,rfl,Nat.zero_le _⟩
theorem ls_of {bl bi bf B bg offg:Nat} {gs:List NodeD} {st:LSt} {w w':World} {v':Value} {M':Nat→Prop} {out':List LineD} {first':List (Int×ByteArray)} {nb:Nat} (h:LsAt bl bi bf B bg offg gs st w) (hif:bi≠bf) (hil:bi≠bl) (b:Blk w' bl 75 #[.map (some bi),v',.map (some bf),.int .i64 nb]) (o:Own Shape.LineD 60 w' B M' v' out') (hM:∀ n,M' n→B≤n) (hf:IsMap kI cW w' bf first') (hi:w'.heap[bi]?=w.heap[bi]?) (hlen:out'.length≤nb) (hp:∀ p∈first',p.2.size≤4194304):LsAt bl bi bf B bg offg gs ⟨out',first',nb⟩ w':=
 ⟨⟨v',M',b,o,hM⟩,hf,h.bys.of_block hi,hlen,hp,h.ltl,h.ltf,h.lti⟩
theorem ls_append2 {bl bi bf B B0 bg offg nv cv nb n5 c5:Nat} {gs:List NodeD} {st:LSt} {w wc wd w5:World} {Av A5:Option Addr} {M M':Nat→Prop} {fs:List (Int×ByteArray)} {ln:LineD} (HL:LsAt bl bi bf B bg offg gs st w) (hbl:B0≤bl) (hif:bi≠bf) (hil:bi≠bl) (hlf:bl≠bf) (HBC:Below B0 w wc) (hB0:B0≤w.heap.size) (hbi:wc.heap[bi]?=w.heap[bi]?) (hMC:IsMap kI cW wc bf fs) (hw:Below wc.heap.size wc wd)
  (OC:Own Shape.LineD 60 wc B M (.slice Av nv cv) st.out) (O5:Own Shape.LineD 60 w5 B M' (.slice A5 n5 c5) (st.out++[ln])) (hM':∀ n,M' n→B≤n) (G5:wd.grownBy w5 (Value.slice Av nv cv).ownBlock)
  (BL5:Blk w5 bl 75 #[.map (some bi),.slice Av nv cv,.map (some bf),.int .i64 nb]) (hlen:st.out.length+1≤nb) (hp:∀ q∈fs,q.2.size≤4194304) :
  Below B0 w (w5.setCell ⟨bl,1,none⟩ (.slice A5 n5 c5))∧LsAt bl bi bf B bg offg gs ⟨st.out++[ln],fs,nb⟩ (w5.setCell ⟨bl,1,none⟩ (.slice A5 n5 c5)):=by
 have hl:=HL.ltl; have hf:=HL.ltf; have hb:=HL.lti
 have hws:=hw.size
 have K:∀ k,k<wc.heap.size→k<B→k≠bl→(w5.setCell ⟨bl,1,none⟩ (.slice A5 n5 c5)).heap[k]?=wc.heap[k]?:=fun k h1 h2 h3=>by
  refine (Below.heap_setCell w5 _ _ k h3).trans ((G5.block k (by omega) (fun e=>?_)).trans (hw.block k h1))
  have:=(OC.lt k e.symm).1
  omega
 have g6:=grown_setA w5 bl 1 (.slice A5 n5 c5)
 refine ⟨⟨g6.os.trans (G5.os.trans (hw.os.trans HBC.os)),g6.tape.trans (G5.tape.trans (hw.tape.trans HBC.tape)),g6.output.trans (G5.output.trans (hw.output.trans HBC.output)),?_,fun n hn=>?_⟩,ls_of HL hif hil ?_ (O5.kept g6 ?_ ?_) hM' (hMC.of_block (K bf hMC.lt hf (Ne.symm hlf))) ((K bi ?_ hb hil).trans hbi) (by simpa using hlen) hp⟩
 ·have h1:=HBC.size; have h2:=G5.size; have h3:=g6.size; omega
 ·exact (K n (by have:=HBC.size; omega) (by omega) (by omega)).trans (HBC.block n hn)
 ·exact (BL5.set_ 1 (.slice A5 n5 c5)).to (by simp)
 ·cases hv:(Value.slice A5 n5 c5).ownBlock with
  | none=>exact .inl rfl
  | some k=>right; intro e; injection e with e; have:=(O5.lt k hv).1; omega
 ·intro n hn e; injection e with e; have:=hM' n hn; omega
 ·have h0:=HL.bys.lt; have:=HBC.size; omega
theorem LsAt.below {bl bi bf B bg offg:Nat} {gs:List NodeD} {st:LSt} {w w':World} (h:LsAt bl bi bf B bg offg gs st w) (hb:Below w.heap.size w w'):LsAt bl bi bf B bg offg gs st w':=by
 obtain ⟨v,M,b,o,hM⟩:=h.own
 exact ⟨⟨v,M,b.below hb b.lt,o.kept (grownBy_below' (r:=none) hb) (by cases hv:v.ownBlock <;> simp) (fun _ _=>by simp),hM⟩,h.first.of_block (hb.block bf h.first.lt),h.bys.of_block (hb.block bi h.bys.lt),h.len,h.paths,h.ltl,h.ltf,h.lti⟩
theorem subPath_size {top:Bool} {path name:ByteArray} (h:0<name.size):0<(subPath top path name).size∧(subPath top path name).size≤path.size+1+name.size:=by
 unfold subPath
 split
 ·exact ⟨h,by omega⟩
 ·rw [ByteArray.size_append,ByteArray.size_append]
  have:(ByteArray.mk #[47]).size=1:=rfl
  omega
end Go.Proofs.YtfhfcipelgogjaaGreatDoor
