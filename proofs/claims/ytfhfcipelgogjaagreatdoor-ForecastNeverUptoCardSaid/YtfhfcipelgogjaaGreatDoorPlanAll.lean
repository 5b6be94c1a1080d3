/- Joined names, both ways. No condition but room. What becomes of an entry by its words alone, plain; and how an answer says it. A refusal, both ways. No condition. slices.Clone at bytes. No condition but room. A list of bytes cloned by the library's function. No condition but room. What a Decide is given, in cells. No condition. What a Decide hands out lies in new memory. No condition. -/
import Derived.Test.YtfhfcipelgogjaaGreatDoorRouteAll
import Derived.Test.YtfhfcipelgogjaaGreatDoorLayJoin
import Derived.Lib.Join
import Derived.Shelf.Strings.OnBuilder
import Derived.Test.YtfhfcipelgogjaaGreatDoorDataAll
import Derived.Test.YtfhfcipelgogjaaGreatDoorSymAll
import Derived.Test.YtfhfcipelgogjaaGreatDoorEscAll
import Derived.Test.YtfhfcipelgogjaaGreatDoorRfEnd
import Derived.Test.YtfhfcipelgogjaaGreatDoorSvEnd
import Derived.Lib.Strings
import Derived.Test.YtfhfcipelgogjaaGreatDoorBaseAt
import Derived.Lib.SliceRun
set_option linter.unusedVariables false
set_option linter.unusedSimpArgs false
set_option maxHeartbeats 1000000
set_option maxRecDepth 100000
namespace Go.Proofs.YtfhfcipelgogjaaGreatDoor
open Go.RowKit
attribute [local go_sem] cell?_over frozen?_over lt_over le_over
def totL:List (List UInt8)→Nat
 | []=>0
 | p :: l=>p.length+1+totL l
abbrev joinP (l:List (List UInt8)):List UInt8:=Lib.join l [47]
theorem tot_append (a b:List (List UInt8)):totL (a++b)=totL a+totL b:=by
 induction a with
 | nil=>simp [totL]
 | cons p a ih=>simp only [List.cons_append,totL,ih]; omega
theorem tot_filter (f:List UInt8→Bool) (l:List (List UInt8)):totL (l.filter f)≤totL l:=by
 induction l with
 | nil=>simp
 | cons p l ih =>
  rw [List.filter_cons]
  split <;> simp only [totL] <;> omega
theorem tot_split (b:UInt8) (l:List UInt8):totL (splitW b l)=l.length+1:=by
 induction l with
 | nil=>rfl
 | cons c l ih =>
  unfold splitW
  split
  ·simp only [totL,ih,List.length_cons,List.length_nil]; omega
  ·split
   ·next w r h=>rw [h] at ih; simp only [totL,List.length_cons] at ih ⊢; omega
   ·next h=>exact absurd h (splitW_ne b l)
theorem tot_parts (l:List UInt8):totL (partsOf l)≤l.length+1:=by
 have:=tot_filter keepP (splitW 47 l)
 rw [tot_split] at this
 exact this
theorem join_snoc {l:List (List UInt8)} (h:l≠[]) (p:List UInt8):joinP (l++[p])=joinP l++[47]++p:=by
 cases l with
 | nil=>exact absurd rfl h
 | cons x r =>
  unfold joinP
  rw [List.cons_append,Lib.join_cons,Lib.join_cons]
  unfold Lib.joinTail
  rw [List.map_append,List.flatten_append]
  simp
theorem join_tot (l:List (List UInt8)):(joinP l).length≤totL l - 1:=by
 induction l with
 | nil=>simp [joinP,Lib.join_nil]
 | cons x r ih =>
  unfold joinP
  rw [Lib.join_cons]
  have:∀ r:List (List UInt8),(Lib.joinTail [47] r).length=totL r:=by
   intro r
   induction r with
   | nil=>rfl
   | cons y r ih=>unfold Lib.joinTail at ih ⊢; rw [List.map_cons,List.flatten_cons,List.length_append,ih]; simp only [totL,List.length_append,List.length_cons,List.length_nil]; omega
  rw [List.length_append,this r]
  simp only [totL]; omega
theorem bexJ:Builder.Extra Tryz.prog Tryz.lays156_ren:={
 sizeBuilder:=by kernel_rfl
 liesBuilder:=by kernel_rfl
 t5:=Tryz.underlying5
 a5:=Tryz.isAgg5
 z5:=Tryz.sizeOf5
 v5:=Tryz.zeroValue5
 infoByte:=by kernel_rfl
 cellsByte:=by kernel_rfl
 sizeByte:=by kernel_rfl
 neB5:=by decide }
theorem routeJoin {A:Option Addr} {n c:Nat} {l:List (List UInt8)} (w:World) (h:Row Shape.str w (Old w) A n (textsL l)) (hc:n≤c) (hl:totL l≤100000001) :
  Calls Tryz.prog 112 #[.slice A n c] w fun e w'=>e=.returned (.string ⟨(joinP l).toArray⟩)∧Below w.heap.size w w':=by
 have hn:n=l.length:=by have:=h.1; simpa using this.symm
 have hln:l.length≤totL l:=by
  clear h hn hl
  induction l with
  | nil=>simp
  | cons p l ih=>simp only [totL,List.length_cons]; omega
 have HJ:Hid (Calls Tryz.prog 60 #[.slice A n c,.string ⟨#[47]⟩] w fun e w'=>e=.returned (.string ⟨(joinP l).toArray⟩)∧Below w.heap.size w w'):=Lib.hid (by
  rcases Nat.eq_zero_or_pos n with h0 | h0
  ·have:l=[]:=List.eq_nil_of_length_eq_zero (by omega)
   subst this
   subst h0
   refine (Any.strings_Join_none Tryz.lays156 bexJ A c ⟨#[47]⟩ w).mono ?_
   rintro e w' ⟨rfl,hw⟩
   exact ⟨rfl,hw ▸ Below.refl _ _⟩
  ·obtain ⟨b,off,hA,hb,hcl⟩:=h.2 h0
   subst hA
   have hx:(textsL l).length=n:=h.1
   have:=Any.strings_Join Tryz.lays156 bexJ b off c (textsL l) ⟨#[47]⟩ w (fun j x hj=>by
    obtain ⟨hj1,hj2⟩:=List.getElem?_eq_some_iff.1 hj
    obtain ⟨es,hes,hrd⟩:=hcl j hj1
    have h1:=hes 0 (by decide)
    obtain ⟨rfl,_⟩:=hrd
    rw [← hj2]
    simpa [Shape.str] using h1) hb (by rw [hx]; omega) (by rw [hx]; exact hc) (by
     rw [texts_data]
     have:=join_tot l
     show (joinP l).length≤_
     omega)
   rw [texts_data,hx] at this
   exact this)
 clear h hn hl hln
 go_enter Tryz.func112,Tryz.ntmps112
 go_wp2_with fail
 refine HJ.out.mono ?_
 rintro e w' ⟨rfl,hb⟩
 have HB:=Lib.hid hb
 clear hb
 go_wp2_with fail
 go_ret
 exact ⟨rfl,HB.out⟩
end Go.Proofs.YtfhfcipelgogjaaGreatDoor
namespace Go.Proofs.YtfhfcipelgogjaaGreatDoor
open Go.RowKit
attribute [local go_sem] cell?_over frozen?_over lt_over le_over
structure PlanP where
 out:Int:=0
 code:Int:=0
 kind:Int:=0
 parts:List ByteArray:=[]
 from_:List ByteArray:=[]
 text:ByteArray:=⟨#[]⟩
 data:List UInt8:=[]
 mode:Int:=0
 uid:Int:=0
 gid:Int:=0
 sec:Int:=0
 nano:Int:=0
 dirMode:Int:=0
 replace:Int:=0
 keepIds:Bool:=false
def refusedP (c:Int):PlanP:={ out:=2,code:=c }
def skippedP:PlanP:={ out:=3 }
def leftOf (e:EntryD) (c:ConfigD):List (List UInt8):=(partsOf e.name.data.toList).drop c.strip.toNat
def linkE (e : EntryD) (c : ConfigD) : Int :=
  if e.kind = 3 then symE ((leftOf e c).length - 1) e.link.data.toList c.links c.maxName else if e.kind = 4 then hardE e.link.data.toList c.maxName c.maxDepth c.strip else 0
def planOf (e : EntryD) (c : ConfigD) : PlanP :=
  if e.kind < 1 ∨ 4 < e.kind then refusedP 230
  else if routeE e.name.data.toList c.maxName c.maxDepth ≠ 0 then refusedP (routeE e.name.data.toList c.maxName c.maxDepth)
  else if chosenE (bytesL c.include_) (bytesL c.exclude) ≠ 0 then refusedP (chosenE (bytesL c.include_) (bytesL c.exclude))
  else if chosenV (bytesL c.include_) (bytesL c.exclude) (joinP (partsOf e.name.data.toList)) = false ∨ (0 < c.strip ∧ ((partsOf e.name.data.toList).length : Int) ≤ c.strip) then skippedP
  else if leftOf e c = [] ∧ e.kind ≠ 2 then refusedP 97
  else if linkE e c ≠ 0 then refusedP (linkE e c)
  else { kind := e.kind, parts := textsL (leftOf e c), from_ := if e.kind = 4 then textsL ((partsOf e.link.data.toList).drop c.strip.toNat) else [], text := if e.kind = 3 then e.link else ⟨#[]⟩, data := if e.kind = 1 then e.data else [],
         mode := settleV e.mode c.umask c.keepSetid, uid := e.uid, gid := e.gid, sec := e.mtime.sec, nano := e.mtime.nano, dirMode := bits .or .i64 (settleV 493 c.umask false) 448, replace := c.replace, keepIds := c.keepIds }
def planCells (p:PlanP) (vp vf vd:Value):Array Value:=#[.int .i64 p.out,.int .i64 p.code,.int .i64 p.kind,vp,vf,.string p.text,vd,.int .i64 p.mode,.int .i64 p.uid,.int .i64 p.gid,.int .i64 p.sec,.int .i64 p.nano,.int .i64 p.dirMode,.int .i64 p.replace,.bool p.keepIds]
theorem whole_plan:Whole Tryz.prog 209 15:=⟨by kernel_rfl,by kernel_rfl⟩
abbrev nilS:Value:=.slice none 0 0
theorem refusedA (c:Int) (w:World):Calls Tryz.prog 159 #[.int .i64 c] w fun e w'=>e=.returned (.agg (planCells (refusedP c) nilS nilS nilS))∧Below w.heap.size w w':=by
 go_enter Tryz.func159,Tryz.ntmps159
 go_wp2_with fail
 exact ret_blk rfl rfl (Blk.new w _ _) whole_plan rfl ⟨rfl,below_alloc' w _⟩
end Go.Proofs.YtfhfcipelgogjaaGreatDoor
namespace Go.Proofs.YtfhfcipelgogjaaGreatDoor
open Go.RowKit
attribute [local go_sem] cell?_over frozen?_over lt_over le_over
theorem cloneB {A : Option Addr} {n c : Nat} {l : List UInt8} (w : World) (h : Row Shape.byte w (Old w) A n l) (hn : n ≤ 1000000000) :
    Calls Tryz.prog 36 #[.slice A n c] w fun e w' => ∃ v, e = .returned v ∧ Own Shape.byte 5 w' w.heap.size (fun _ => False) v l ∧ Below w.heap.size w w' := by
  have hl := h.1
  have qs : ∀ (w : World) (a : Option Addr) (n c n' c' : Nat), (binOp .eql 58 (.slice a n c) (.slice none n' c')).run Tryz.prog w = .ok (.bool a.isNone) w := fun w a n c n' c' => Lib.run_eql_slice_nil w _ _ a n c n' c' Tryz.underlying58
  cases A with
  | none =>
    rcases Nat.eq_zero_or_pos n with h0 | h0
    · subst h0
      obtain rfl : l = [] := List.eq_nil_of_length_eq_zero hl
      clear h hl
      go_enter Tryz.func36, Tryz.ntmps36
      go_wp2_with fail
      go_ret
      exact ⟨_, rfl, Own.start _ _ _ _, Below.refl _ _⟩
    · obtain ⟨_, _, e, _⟩ := h.2 h0
      cases e
  | some ad =>
    have hs := (Row.src (h.keep (Keeps.old_alloc w (.cells #[] 5)))).flat (M' := fun _ => False) flat_byte
    clear h
    go_enter Tryz.func36, Tryz.ntmps36
    go_wp2_with (first
      | (at_builtin
         go_loud (refine wpList_append_list (v := .slice (some ⟨w.heap.size, 0, none⟩) 0 0) rfl (.tmp 5) (.tmp 6) _ rfl elem_byte rfl (Own.made Shape.byte _ w _ (Nat.le_refl _)) rfl hs (fun _ h => h.elim) ?_ ?_ ?_ ?_)
         · first | (simp; done) | (simp; omega)
         · first | (simp [maxLen]; done) | (simp [maxLen]; omega)
         · simp
         intro v' w1 hown hg hat))
    go_ret
    exact ⟨_, rfl, by simpa using hown, ((Below.refl _ _).alloc (Nat.le_refl _) _).grown hg (by simp) (by simp [Value.ownBlock])⟩
end Go.Proofs.YtfhfcipelgogjaaGreatDoor
namespace Go.Proofs.YtfhfcipelgogjaaGreatDoor
open Go.RowKit
attribute [local go_sem] cell?_over frozen?_over lt_over le_over
theorem copyBytesD {A : Option Addr} {n c : Nat} {l : List UInt8} (w : World) (h : Row Shape.byte w (Old w) A n l) (hn : n ≤ 140737488355328) :
    Calls Tryz.prog 53 #[.slice A n c] w fun e w' => ∃ v δ, e = .returned v ∧ w' = over w δ ∧ Own Shape.byte 5 w' w.heap.size (fun _ => False) v l := by
  have hs := (Row.src (h.keep (Keeps.old_alloc w (.cells #[] 5)))).flat (M' := fun _ => False) flat_byte
  have hl := Nat.le_of_eq h.1
  go_enter Tryz.func53, Tryz.ntmps53
  go_wp2_with (first
    | (at_builtin
       refine wpList_append_list (v := .slice (some ⟨w.heap.size, 0, none⟩) 0 0) rfl (.tmp 5) (.tmp 6) _ rfl elem_byte rfl (Own.made Shape.byte _ w _ (Nat.le_refl _)) rfl hs (fun _ h => h.elim) ?_ ?_ ?_ ?_
       · simp; omega
       · simp [maxLen]; omega
       · simp
       intro v' w1 hown hg hat))
  go_ret
  have hb : Below w.heap.size w w1 := ((Below.refl _ _).alloc (Nat.le_refl _) _).grown hg (by simp) (by simp [Value.ownBlock])
  have e := over_of_below hb
  rw [e] at hown ⊢
  exact ⟨v', _, rfl, rfl, by simpa using hown⟩
theorem copyB {A:Option Addr} {n c:Nat} {l:List UInt8} (w:World) (h:Row Shape.byte w (Old w) A n l) (hn:n≤1000000000) :
  Calls Tryz.prog 53 #[.slice A n c] w fun e w'=>∃ v,e=.returned v∧Own Shape.byte 5 w' w.heap.size (fun _=>False) v l∧Below w.heap.size w w':=
 (copyBytesD w h (by omega)).mono fun _ _ ⟨v,_,h1,h2,h3⟩=>⟨v,h1,h3,by rw [h2]; exact below_over _ _⟩
end Go.Proofs.YtfhfcipelgogjaaGreatDoor
namespace Go.Proofs.YtfhfcipelgogjaaGreatDoor
open Go.RowKit
attribute [local go_sem] cell?_over frozen?_over lt_over le_over
def entC (e:EntryD) (A:Option Addr) (n c:Nat):Array Value:=#[.int .i64 e.kind,.string e.name,.string e.link,.int .i64 e.mode,.int .i64 e.uid,.int .i64 e.gid,.string e.user,.string e.group,.int .i64 e.mtime.sec,.int .i64 e.mtime.nano,.slice A n c]
def cfgC (d:ConfigD) (A1:Option Addr) (n1 c1:Nat) (A2:Option Addr) (n2 c2:Nat):Array Value:=#[.int .i64 d.maxEntries,.int .i64 d.maxBytes,.int .i64 d.maxDepth,.int .i64 d.maxName,.int .i64 d.maxPax,.int .i64 d.strip,.int .i64 d.links,.int .i64 d.replace,.int .i64 d.umask,.bool d.keepSetid,.bool d.keepIds,.slice A1 n1 c1,.slice A2 n2 c2]
structure DecIn (e:EntryD) (c:ConfigD) (w:World) (A:Option Addr) (n:Nat) (A1:Option Addr) (n1:Nat) (A2:Option Addr) (n2:Nat):Prop where
 data:Row Shape.byte w (Old w) A n e.data
 inc:Row Shape.str w (Old w) A1 n1 c.include_
 exc:Row Shape.str w (Old w) A2 n2 c.exclude
 name:e.name.size≤100000000
 link:e.link.size≤100000000
 ndata:n≤100000000
 ninc:n1≤100000000
 nexc:n2≤100000000
theorem DecIn.below {e:EntryD} {c:ConfigD} {w w':World} {A A1 A2:Option Addr} {n n1 n2:Nat} (h:DecIn e c w A n A1 n1 A2 n2) (hb:Below w.heap.size w w'):DecIn e c w' A n A1 n1 A2 n2:=
 ⟨h.data.below hb,h.inc.below hb,h.exc.below hb,h.name,h.link,h.ndata,h.ninc,h.nexc⟩
def zeroPlan:Array Value:=#[.int .i64 0,.int .i64 0,.int .i64 0,nilS,nilS,.string ⟨#[]⟩,nilS,.int .i64 0,.int .i64 0,.int .i64 0,.int .i64 0,.int .i64 0,.int .i64 0,.int .i64 0,.bool false]
theorem whole_job:Whole Tryz.prog 207 13:=⟨by kernel_rfl,by kernel_rfl⟩
def zeroJob:Array Value:=#[.int .i64 0,nilS,nilS,.string ⟨#[]⟩,nilS,.int .i64 0,.int .i64 0,.int .i64 0,.int .i64 0,.int .i64 0,.int .i64 0,.int .i64 0,.bool false]
def TextsM (w:World) (M:Nat→Prop) (v:Value) (l:List ByteArray):Prop:=∃ (A:Option Addr) (c:Nat),l.length≤c∧v=.slice A l.length c∧Row Shape.str w M A l.length l
def BytesM (w:World) (M:Nat→Prop) (v:Value) (l:List UInt8):Prop:=∃ (A:Option Addr) (c:Nat),l.length≤c∧v=.slice A l.length c∧Row Shape.byte w M A l.length l
theorem textsM_nil (w:World) (M:Nat→Prop):TextsM w M nilS []:=⟨none,0,Nat.le_refl _,rfl,Row.nil⟩
theorem bytesM_nil (w:World) (M:Nat→Prop):BytesM w M nilS []:=⟨none,0,Nat.le_refl _,rfl,Row.nil⟩
structure Turned (J:Nat) (w w':World):Prop where
 os:w'.os=w.os
 tape:w'.tape=w.tape
 output:w'.output=w.output
 size:w'.heap.size=w.heap.size
 block:∀ b,b≠J→w'.heap[b]?=w.heap[b]?
theorem turned_cell (w:World) (J off:Nat) (u:Value):Turned J w (w.setCell ⟨J,off,none⟩ u):=⟨rfl,rfl,rfl,by simp,fun k hk=>Below.heap_setCell w _ u k hk⟩
theorem Turned.trans {J:Nat} {a b c:World} (h:Turned J a b) (k:Turned J b c):Turned J a c:=
 ⟨k.os.trans h.os,k.tape.trans h.tape,k.output.trans h.output,k.size.trans h.size,fun b hb=>(k.block b hb).trans (h.block b hb)⟩
theorem Turned.below {J B:Nat} {w w':World} (h:Turned J w w') (hB:B≤J):Below B w w':=⟨h.os,h.tape,h.output,Nat.le_of_eq h.size.symm,fun k hk=>h.block k (by omega)⟩
def Mid (B J:Nat) (w:World):Nat→Prop:=fun b=>B≤b∧b≠J∧b<w.heap.size
theorem rowTake {α:Type} {s:Shape α} {w:World} {M:Nat→Prop} {A:Option Addr} {n:Nat} {l:List α} (h:Row s w M A n l) {k:Nat} (hk:k≤n):Row s w M A k (l.take k):=by
 refine ⟨by rw [List.length_take,h.1]; omega,fun h0=>?_⟩
 obtain ⟨b,off,e,hb,hi⟩:=h.2 (by omega)
 refine ⟨b,off,e,hb,fun i hil=>?_⟩
 have hil':i<l.length:=by rw [List.length_take] at hil; omega
 obtain ⟨es,hc,hr⟩:=hi i hil'
 exact ⟨es,hc,by rw [List.getElem_take]; exact hr⟩
def madeSym (E:Int):Made:=⟨Value,undef,fun v=>.tuple #[v,.int .i64 E],fun _ _=>True⟩
theorem enc_sym (E:Int) (v:Value):(madeSym E).enc v=.tuple #[v,.int .i64 E]:=rfl
theorem parts_mid {w w2 wn:World} {J:Nat} {A4:Option Addr} {n4 c4:Nat} {L:List (List UInt8)} (h:Row Shape.str wn (fun b=>w2.heap.size≤b∧b<J) A4 n4 (textsL L)) (hc:n4≤c4) (hn:n4=L.length) (h2:w.heap.size+1+1+1≤w2.heap.size) (hJ:J<wn.heap.size) :
  TextsM wn (Mid (w.heap.size+1+1+1) J wn) (.slice A4 n4 c4) (textsL L):=by
 have hl:(textsL L).length=n4:=by rw [hn]; exact List.length_map _
 refine ⟨A4,c4,by omega,by rw [hl],?_⟩
 rw [hl]
 exact h.more fun b hb=>⟨by have:=hb.1; omega,by have:=hb.2; omega,by have:=hb.2; omega⟩
theorem data_mid {w4 w5 w6:World} {B J:Nat} {A6:Option Addr} {n6 c6:Nat} {l:List UInt8} (h:Row Shape.byte w5 (New w4 w5) A6 n6 l) (hc:n6≤c6) (hk:Turned J w5 w6) (hB:B≤w4.heap.size) (hJ:J<w4.heap.size) :
  BytesM w6 (Mid B J w6) (.slice A6 n6 c6) l:=by
 have hl:=h.1
 have hs:=hk.size
 refine ⟨A6,c6,by omega,by rw [hl],?_⟩
 rw [hl]
 exact (h.keep fun b hb=>hk.block b (by have:=hb.1; omega)).more fun b hb=>⟨by have:=hb.1; omega,by have:=hb.1; omega,by have:=hb.2; omega⟩
theorem from_mid {w4 w5 w6:World} {B J:Nat} {v:Value} {l:List ByteArray} (h:TextsN w4 w5 v l) (hk:Turned J w5 w6) (hB:B≤w4.heap.size) (hJ:J<w4.heap.size):TextsM w6 (Mid B J w6) v l:=by
 obtain ⟨A,c,h1,h2,h3⟩:=h
 have hs:=hk.size
 exact ⟨A,c,h1,h2,(h3.keep fun b hb=>hk.block b (by have:=hb.1; omega)).more fun b hb=>⟨by have:=hb.1; omega,by have:=hb.1; omega,by have:=hb.2; omega⟩⟩
end Go.Proofs.YtfhfcipelgogjaaGreatDoor
namespace Go.Proofs.YtfhfcipelgogjaaGreatDoor
open Go.RowKit
def PlanRdN (w w':World) (v:Value) (p:PlanP):Prop:=∃ vp vf vd,v=.agg (planCells p vp vf vd)∧TextsM w' (New w w') vp p.parts∧TextsM w' (New w w') vf p.from_∧BytesM w' (New w w') vd p.data
def DecideEndN (e:EntryD) (c:ConfigD) (w:World) (en:Ending) (w':World):Prop:=Below w.heap.size w w'∧∃ v,en=.returned v∧PlanRdN w w' v (planOf e c)
theorem refused_rdN (w w':World) (c:Int):PlanRdN w w' (.agg (planCells (refusedP c) nilS nilS nilS)) (refusedP c):=⟨nilS,nilS,nilS,rfl,textsM_nil w' _,textsM_nil w' _,bytesM_nil w' _⟩
theorem decide_endN {w wn wu w99:World} {J:Nat} {PL p:PlanP} {vp vf vd v:Value} (hb:Below w.heap.size w wn) (hk:Turned J wn wu) (hg:wu.grownBy w99 (some (w.heap.size+1+1))) (hJ:w.heap.size+1+1+1≤J) (hp:p=PL)
  (hv:v=.agg (planCells p vp vf vd)) (hP:TextsM wn (Mid (w.heap.size+1+1+1) J wn) vp p.parts) (hF:TextsM wn (Mid (w.heap.size+1+1+1) J wn) vf p.from_) (hD:BytesM wn (Mid (w.heap.size+1+1+1) J wn) vd p.data) :
  Below w.heap.size w w99∧∃ v',Ending.returned v=.returned v'∧PlanRdN w w99 v' PL:=by
 subst hp hv
 have hs1:=hk.size
 have hs2:=hg.size
 have hs3:=hb.size
 have hkeep:Keeps (Mid (w.heap.size+1+1+1) J wn) wn w99:=fun b ⟨h1,h2,h3⟩=>(hg.block b (by omega) (by intro e; injection e; omega)).trans (hk.block b h2)
 have hmore:∀ b,Mid (w.heap.size+1+1+1) J wn b→New w w99 b:=fun b ⟨h1,h2,h3⟩=>⟨by omega,by omega⟩
 refine ⟨(hb.trans (hk.below (by omega))).grown hg (by omega) (fun j hj=>by cases hj; omega),_,rfl,vp,vf,vd,rfl,?_,?_,?_⟩
 ·obtain ⟨A,c,h1,h2,h3⟩:=hP
  exact ⟨A,c,h1,h2,(h3.keep hkeep).more hmore⟩
 ·obtain ⟨A,c,h1,h2,h3⟩:=hF
  exact ⟨A,c,h1,h2,(h3.keep hkeep).more hmore⟩
 ·obtain ⟨A,c,h1,h2,h3⟩:=hD
  exact ⟨A,c,h1,h2,(h3.keep hkeep).more hmore⟩
end Go.Proofs.YtfhfcipelgogjaaGreatDoor
