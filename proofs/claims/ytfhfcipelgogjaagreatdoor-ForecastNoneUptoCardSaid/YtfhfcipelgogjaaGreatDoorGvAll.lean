/- What a law of the forecast is given, and what a forecast says, in memory. No condition but room. The bounds of what the laws of forecast are given. Plain. -/
import Derived.Test.YtfhfcipelgogjaaGreatDoorTellAll
import Derived.Test.YtfhfcipelgogjaaGreatDoorCopyAll
import Derived.Test.YtfhfcipelgogjaaGreatDoorDataAll
set_option linter.unusedSectionVars false
set_option linter.unusedVariables false
set_option linter.unusedSimpArgs false
namespace Go.Proofs.YtfhfcipelgogjaaGreatDoor
open Go.RowKit
attribute [local go_sem] cell?_over frozen?_over lt_over le_over
def gvC (A:Option Addr) (n cn:Nat) (Ae:Option Addr) (ne ce:Nat) (c:ConfigD) (A1:Option Addr) (n1 c1:Nat) (A2:Option Addr) (n2 c2:Nat) (now:TimeD):Array Value:=#[.slice A n cn,.slice Ae ne ce,.int .i64 c.maxEntries,.int .i64 c.maxBytes,.int .i64 c.maxDepth,.int .i64 c.maxName,.int .i64 c.maxPax,.int .i64 c.strip,.int .i64 c.links,.int .i64 c.replace,.int .i64 c.umask,.bool c.keepSetid,.bool c.keepIds,.slice A1 n1 c1,.slice A2 n2 c2,.int .i64 now.sec,.int .i64 now.nano]
def fcC (R:FcD) (x:(Option Addr×Nat)×(Option Addr×Nat)):Array Value:=#[.slice x.1.1 R.lines.length x.1.2,.slice x.2.1 R.done.length x.2.2,.int .i64 R.code,.int .i64 R.index]
structure FcAt (R:FcD) (n:Nat) (x:(Option Addr×Nat)×(Option Addr×Nat)) (W:World):Prop where
 c1:R.lines.length≤x.1.2∧x.1.2≤maxLen
 c2:R.done.length≤x.2.2∧x.2.2≤maxLen
 lines:Row Shape.LineD W (fun b=>n≤b∧b<W.heap.size) x.1.1 R.lines.length R.lines
 done:Row Shape.DoneD W (fun b=>n≤b∧b<W.heap.size) x.2.1 R.done.length R.done
def madeFc (R:FcD) (n:Nat):Made:=⟨(Option Addr×Nat)×(Option Addr×Nat),((none,0),(none,0)),fun x=>.agg (fcC R x),fun x W=>FcAt R n x W⟩
theorem FcAt.below {R:FcD} {n:Nat} {x:(Option Addr×Nat)×(Option Addr×Nat)} {W W':World} (h:FcAt R n x W) (hb:Below W.heap.size W W'):FcAt R n x W':=
 ⟨h.c1,h.c2,(h.lines.keep fun b hb'=>hb.block b hb'.2).more fun b hb'=>⟨hb'.1,Nat.lt_of_lt_of_le hb'.2 hb.size⟩,(h.done.keep fun b hb'=>hb.block b hb'.2).more fun b hb'=>⟨hb'.1,Nat.lt_of_lt_of_le hb'.2 hb.size⟩⟩
theorem fc_stays (R:FcD) (n:Nat):∀ x W W',Gr W W'→(madeFc R n).Fact x W→(madeFc R n).Fact x W':=fun x W W' h k=>FcAt.below k h
theorem fc_of {R:FcD} {n:Nat} {w w':World} {e:Ending} (h:TellEnd R w e w') (hn:n≤w.heap.size):∃ x,e=.returned ((madeFc R n).enc x)∧(madeFc R n).Fact x w':=by
 obtain ⟨hb,lv,dv,M,rfl,hown,hM,hdone⟩:=h
 obtain ⟨A9,n9,c9,rfl,h91,h92,hr9⟩:=hown.rd_from (B:=n) hn (fun k hk=>Nat.le_trans hn (hM k hk))
 obtain ⟨A8,n8,c8,rfl,h81,h82,hr8⟩:=hdone.rd_from (B:=n) hn (fun _ h=>h.elim)
 have e9:=hr9.1
 have e8:=hr8.1
 subst e9 e8
 exact ⟨((A9,c9),(A8,c8)),rfl,⟨h91,h92⟩,⟨h81,h82⟩,hr9,hr8⟩
theorem lines_of {w w':World} {n:Nat} {e:Ending} {ls:List LineD} (h:∃ v δ M,e=.returned v∧w'=over w δ∧Own Shape.LineD 60 w' w.heap.size M v ls∧∀ n,M n→w.heap.size≤n) (hn:n≤w.heap.size):∃ x,e=.returned ((Made.row Shape.LineD ls n).enc x)∧Gr w w'∧(Made.row Shape.LineD ls n).Fact x w':=by
 obtain ⟨v,δ,M,rfl,hw,hown,hM⟩:=h
 obtain ⟨A9,n9,c9,rfl,h91,h92,hr9⟩:=hown.rd_from (B:=n) hn (fun k hk=>Nat.le_trans hn (hM k hk))
 have e9:=hr9.1
 subst e9
 exact ⟨(A9,c9),rfl,by rw [hw]; exact below_over _ _,h91,hr9⟩
theorem entries_of {w w':World} {n:Nat} {e:Ending} {es:List EntryD} (h:∃ v M,e=.returned v∧Below w.heap.size w w'∧Own Shape.EntryD 66 w' w.heap.size M v es∧∀ n,M n→w.heap.size≤n) (hn:n≤w.heap.size):∃ x,e=.returned ((Made.row Shape.EntryD es n).enc x)∧Gr w w'∧(Made.row Shape.EntryD es n).Fact x w':=by
 obtain ⟨v,M,rfl,hw,hown,hM⟩:=h
 obtain ⟨A9,n9,c9,rfl,h91,h92,hr9⟩:=hown.rd_from (B:=n) hn (fun k hk=>Nat.le_trans hn (hM k hk))
 have e9:=hr9.1
 subst e9
 exact ⟨(A9,c9),rfl,hw,h91,hr9⟩
theorem row_off {α:Type} {s:Shape α} {W:World} {M:Nat→Prop} {A:Option Addr} {n g:Nat} {l:List α} {t:TypeId} {cs:Array Value} (h:Row s W M A n l) (hg:Blk W g t cs) (hne:∀ (es:List Value) (a:α),s.rd W M es a→(∃ v:Value,es[0]?=some v∧∀ i:Nat,cs[i]?≠some v)∧s.rd W (fun b=>M b∧b≠g) es a):Row s W (fun b=>M b∧b≠g) A n l:=by
 refine ⟨h.1,fun h0=>?_⟩
 obtain ⟨b,off,e,hb,hr⟩:=h.2 h0
 refine ⟨b,off,e,⟨hb,?_⟩,fun i hi=>?_⟩
 ·rintro rfl
  obtain ⟨es,hc,hrd⟩:=hr 0 (by rw [h.1]; exact h0)
  obtain ⟨⟨v,hv,hn⟩,-⟩:=hne _ _ hrd
  have:=hc 0 s.pos
  rw [hg.cell] at this
  exact hn _ (this.trans hv)
 ·obtain ⟨es,hc,hrd⟩:=hr i hi
  exact ⟨es,hc,(hne _ _ hrd).2⟩
def fc0:Array Value:=#[.slice none 0 0,.slice none 0 0,.int .i64 0,.int .i64 0]
theorem fc0_str (i:Nat) (x:ByteArray):fc0[i]?≠some (.string x):=by
 intro e
 unfold fc0 at e
 rcases i with _ | _ | _ | _ | i <;> simp at e
theorem fc0_u8 (i:Nat) (x:Int):fc0[i]?≠some (.int .u8 x):=by
 intro e
 unfold fc0 at e
 rcases i with _ | _ | _ | _ | i <;> simp at e
theorem bytes_off {W:World} {M:Nat→Prop} {A:Option Addr} {n g:Nat} {l:List UInt8} {t:TypeId} (h:Row Shape.byte W M A n l) (hg:Blk W g t fc0):Row Shape.byte W (fun b=>M b∧b≠g) A n l:=
 row_off h hg fun es a hr=>by
  have hr:es=[.int .u8 a.toNat]:=hr
  subst hr
  exact ⟨⟨_,rfl,fun i=>fc0_u8 i _⟩,rfl⟩
theorem lines_off {W:World} {M:Nat→Prop} {A:Option Addr} {n g:Nat} {l:List LineD} {t:TypeId} (h:Row Shape.LineD W M A n l) (hg:Blk W g t fc0):Row Shape.LineD W (fun b=>M b∧b≠g) A n l:=
 row_off h hg fun es a hr=>by
  obtain ⟨A1,n1,c1,rfl,q1,q2,q3,q4,q5,q6,q7,q8,q9,q10,q11⟩:=hr
  exact ⟨⟨_,rfl,fun i=>fc0_str i _⟩,A1,n1,c1,rfl,q1,q2,q3,q4,q5,q6,q7,q8,q9,bytes_off q10 hg,q11⟩
theorem done_off {W:World} {M:Nat→Prop} {A:Option Addr} {n g:Nat} {l:List DoneD} {t:TypeId} (h:Row Shape.DoneD W M A n l) (hg:Blk W g t fc0):Row Shape.DoneD W (fun b=>M b∧b≠g) A n l:=
 row_off h hg fun es a hr=>by
  have hr:es=[.string a.name,.int .i64 a.out,.int .i64 a.code]:=hr
  subst hr
  exact ⟨⟨_,rfl,fun i=>fc0_str i _⟩,rfl⟩
theorem FcAt.store {R:FcD} {n g:Nat} {x:(Option Addr×Nat)×(Option Addr×Nat)} {W W':World} {t:TypeId} (h:FcAt R n x W) (hg:Blk W g t fc0) (hb:W.grownBy W' (some g)):FcAt R n x W':=by
 have hk:Keeps (fun b=>(n≤b∧b<W.heap.size)∧b≠g) W W':=fun b hb'=>hb.block b hb'.1.2 (fun e=>hb'.2 (by injection e))
 exact ⟨h.c1,h.c2,((lines_off h.lines hg).keep hk).more fun b q=>⟨q.1.1,Nat.lt_of_lt_of_le q.1.2 hb.size⟩,((done_off h.done hg).keep hk).more fun b q=>⟨q.1.1,Nat.lt_of_lt_of_le q.1.2 hb.size⟩⟩
structure GvIn (ls:List LineD) (es:List EntryD) (n ne n1 n2:Nat):Prop where
 lines:SmallL ls
 small:SmallP ls
 ents:∀ e∈es,SmallE e
 hn:n≤1048576
 hne:ne≤1000000
 hn1:n1≤100000000
 hn2:n2≤100000000
def madeCfg (c:ConfigD) (n:Nat):Made:=⟨(Option Addr×Nat)×(Option Addr×Nat),((none,0),(none,0)),fun x=>.agg (cfgC c x.1.1 c.include_.length x.1.2 x.2.1 c.exclude.length x.2.2),fun x W=>Row Shape.str W (fun b=>n≤b∧b<W.heap.size) x.1.1 c.include_.length c.include_∧Row Shape.str W (fun b=>n≤b∧b<W.heap.size) x.2.1 c.exclude.length c.exclude⟩
theorem cfg_stays (c:ConfigD) (n:Nat):∀ x W W',Gr W W'→(madeCfg c n).Fact x W→(madeCfg c n).Fact x W':=fun x W W' h k =>
 ⟨(k.1.keep fun b hb=>h.block b hb.2).more fun b hb=>⟨hb.1,Nat.lt_of_lt_of_le hb.2 h.size⟩,(k.2.keep fun b hb=>h.block b hb.2).more fun b hb=>⟨hb.1,Nat.lt_of_lt_of_le hb.2 h.size⟩⟩
theorem cfg_of {c:ConfigD} {w w':World} {n:Nat} {e:Ending} (h:CopyCfgEnd c w e w') (hn:n≤w.heap.size):∃ x,e=.returned ((madeCfg c n).enc x)∧Gr w w'∧(madeCfg c n).Fact x w':=by
 obtain ⟨B1,m1,d1,B2,m2,d2,_,_,rfl,r1,r2,hb⟩:=h
 have e1:=r1.1
 have e2:=r2.1
 subst e1 e2
 exact ⟨((B1,d1),(B2,d2)),rfl,hb,r1.more fun b q=>⟨Nat.le_trans hn q.1,q.2⟩,r2.more fun b q=>⟨Nat.le_trans hn q.1,q.2⟩⟩
end Go.Proofs.YtfhfcipelgogjaaGreatDoor
namespace Go.Proofs.YtfhfcipelgogjaaGreatDoor
open Go.RowKit
theorem line_bulk (d:LineD):d.data.length+d.path.size+d.target.size+d.peer.size+1≤Shape.LineD.bulk d:=by
 have h1:=len_bulk Shape.byte d.data
 have s1:Shape.str.bulk d.path=d.path.size+1:=rfl
 have s2:Shape.str.bulk d.target=d.target.size+1:=rfl
 have s3:Shape.str.bulk d.peer=d.peer.size+1:=rfl
 have s4:(Shape.slice Shape.byte).bulk d.data=bulkAll Shape.byte.bulk d.data+1:=rfl
 simp only [Shape.LineD]
 omega
theorem ent_bulk (e:EntryD):e.data.length+e.name.size+e.link.size+2≤Shape.EntryD.bulk e:=by
 have h1:=len_bulk Shape.byte e.data
 have s1:Shape.str.bulk e.name=e.name.size+1:=rfl
 have s2:Shape.str.bulk e.link=e.link.size+1:=rfl
 have s4:(Shape.slice Shape.byte).bulk e.data=bulkAll Shape.byte.bulk e.data+1:=rfl
 simp only [Shape.EntryD]
 omega
theorem ents_two:∀ (l:List EntryD),2*l.length≤bulkAll Shape.EntryD.bulk l
 | []=>Nat.le_refl _
 | e :: l=>by
  have h1:=ents_two l
  have h2:=ent_bulk e
  show 2*(l.length+1)≤Shape.EntryD.bulk e+bulkAll Shape.EntryD.bulk l
  omega
theorem gv_in {d:GivenD} {W:World} {A Ae A1 A2:Option Addr} {n ne n1 n2 x:Nat} (hL:Row Shape.LineD W (Old W) A n d.lines) (hE:Row Shape.EntryD W (Old W) Ae ne d.entries) (hI:Row Shape.str W (Old W) A1 n1 d.cfg.include_) (hX:Row Shape.str W (Old W) A2 n2 d.cfg.exclude)
  (hb:Shape.GivenD.bulk d≤x) (hx:x≤1048576):GvIn d.lines d.entries n ne n1 n2:=by
 have l0:=len_bulk Shape.LineD d.lines
 have l1:=ents_two d.entries
 have l2:=len_bulk Shape.str d.cfg.include_
 have l3:=len_bulk Shape.str d.cfg.exclude
 have a0:=hL.1; have a1:=hE.1; have a2:=hI.1; have a3:=hX.1
 have s0:(Shape.slice Shape.LineD).bulk d.lines=bulkAll Shape.LineD.bulk d.lines+1:=rfl
 have s1:(Shape.slice Shape.EntryD).bulk d.entries=bulkAll Shape.EntryD.bulk d.entries+1:=rfl
 have s2:(Shape.slice Shape.str).bulk d.cfg.include_=bulkAll Shape.str.bulk d.cfg.include_+1:=rfl
 have s3:(Shape.slice Shape.str).bulk d.cfg.exclude=bulkAll Shape.str.bulk d.cfg.exclude+1:=rfl
 have t2:(Shape.slice Shape.str).bulk d.cfg.include_≤Shape.ConfigD.bulk d.cfg:=by simp only [Shape.ConfigD]; omega
 have t3:(Shape.slice Shape.str).bulk d.cfg.exclude≤Shape.ConfigD.bulk d.cfg:=by simp only [Shape.ConfigD]; omega
 have hb':(Shape.slice Shape.LineD).bulk d.lines+(Shape.slice Shape.EntryD).bulk d.entries+Shape.ConfigD.bulk d.cfg+Shape.TimeD.bulk d.now+1≤x:=hb
 have q:∀ y∈d.lines,y.data.length+y.path.size≤1048576:=fun y hy=>by
  have h1:=mem_bulk Shape.LineD.bulk hy
  have h2:=line_bulk y
  omega
 have p:∀ e∈d.entries,e.data.length+e.name.size+e.link.size≤1048576:=fun e he=>by
  have h1:=mem_bulk Shape.EntryD.bulk he
  have h2:=ent_bulk e
  omega
 refine ⟨fun y hy=>?_,fun y hy=>⟨?_,?_⟩,fun e he=>⟨?_,?_,?_⟩,by omega,by omega,by omega,by omega⟩
 ·have:=q y hy; omega
 ·have:=q y hy; omega
 ·have:=q y hy; omega
 ·have:=p e he; omega
 ·have:=p e he; omega
 ·have:=p e he; omega
end Go.Proofs.YtfhfcipelgogjaaGreatDoor
