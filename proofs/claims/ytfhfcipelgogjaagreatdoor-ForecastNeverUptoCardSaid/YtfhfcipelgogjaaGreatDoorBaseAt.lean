/- Plain words for walks: a world of which everything that was there stays as it was (World.over), and what it is good for in a walk: contracts say 'the world is the old one, grown'. No condition. Plain words for data in memory: a shape says how a list of cells reads as a datum, and that this reading stays while the blocks that it leads through stay. No condition. A block that is known whole, kept over what a walk does elsewhere. No condition. Arguments that came in, read by shapes; and the bound of the second form. No condition. Small lemmas on worlds and texts. No condition. Two doors that tell a load and a store of a struct from other operations. No condition. -/
import Derived.Test.YtfhfcipelgogjaaGreatDoorRows
import Derived.WalkKit
import Derived.ProofKit
import Derived.OpenShut
import Derived.Outline
import Derived.Deep.QuietTactic
import Derived.BigQuiet
import Derived.Tactics2
import Derived.Handy
import Derived.Lib.Hide
import Derived.Deep.RegionHeld3
import Derived.WalkSpells
import Derived.WalkLawsBesides
import Derived.Deep.Slices
import Derived.Maps.AppendAt
import Derived.Laws.Rows
import Derived.Laws.Tables
import Derived.Laws.ResultCell
set_option linter.unusedVariables false
set_option linter.unusedSimpArgs false
namespace Go.Proofs.YtfhfcipelgogjaaGreatDoor
open Go.RowKit
def over (W δ:World):World:={ W with heap:=W.heap++δ.heap.extract W.heap.size δ.heap.size,drawn:=δ.drawn }
theorem over_heap_lt {W δ:World} {n:Nat} (h:n<W.heap.size):(over W δ).heap[n]?=W.heap[n]?:=by
 simp [over,Array.getElem?_append,h]
theorem size_over_le (W δ:World):W.heap.size≤(over W δ).heap.size:=by
 simp [over]
theorem below_over (W δ:World):Below W.heap.size W (over W δ):=
 ⟨rfl,rfl,rfl,size_over_le W δ,fun _ h=>over_heap_lt h⟩
theorem over_of_below {W w':World} (h:Below W.heap.size W w'):w'=over W w':=by
 have e:w'.heap=W.heap++w'.heap.extract W.heap.size w'.heap.size:=by
  apply Array.ext_getElem?
  intro n
  rw [Array.getElem?_append]
  by_cases hn:n<W.heap.size
  ·rw [if_pos hn]; exact h.block n hn
  ·rw [if_neg hn,Array.getElem?_extract]
   have hs:=h.size
   by_cases hn':n<w'.heap.size
   ·rw [if_pos (by omega)]; congr 1; omega
   ·rw [if_neg (by omega),Array.getElem?_eq_none (by omega)]
 have h1:=h.os
 have h2:=h.tape
 have h3:=h.output
 cases w'
 simp only [over,World.mk.injEq] at *
 exact ⟨e,h2,trivial,h1,h3⟩
theorem exists_over {W w':World} (h:Below W.heap.size W w'):∃ δ,w'=over W δ:=⟨w',over_of_below h⟩
theorem over_over (W δ δ':World):over (over W δ) δ'=over W (over (over W δ) δ'):=
 over_of_below ((below_over W δ).trans ((below_over _ _).mono (size_over_le _ _)))
section
variable {W δ:World} {n:Nat}
theorem cell?_over {a:Addr} (h:a.block<W.heap.size):(over W δ).cell? a=W.cell? a:=World.cell?_of_block (w:=W) (over_heap_lt h)
theorem frozen?_over {a:Addr} (h:a.block<W.heap.size):(over W δ).frozen? a=W.frozen? a:=World.frozen?_of_block (w:=W) (over_heap_lt h)
theorem lt_over (h:n<W.heap.size):n<(over W δ).heap.size:=Nat.lt_of_lt_of_le h (size_over_le _ _)
theorem le_over (h:n≤W.heap.size):n≤(over W δ).heap.size:=Nat.le_trans h (size_over_le _ _)
end
theorem wp_region_over {P:Program} {id:Nat} {Q:Exit→Act→World→Prop} {a:Act} {w:World} {l:List Oper} (hm:P.follows .mixedOrders=true) (hB:Region.lexB .any l.toArray=true)
  (h:wpQuiet P l.toArray (fun w'=>∃ δ,w'=over w δ) (fun a'=>∀ w',(∃ δ,w'=over w δ)→Q .normal a' w') l a):(Code.region id l.toArray true).wp P Q a w:=
 wp_region_quiet (C:=fun w'=>∃ δ,w'=over w δ) hm hB ⟨_,over_of_below (Below.refl _ _).drew⟩ (by simpa using h)
theorem calls_over {P:Program} {f:FuncId} {args:Array Value} {W δ:World} {v:Value}
  (h:Calls P f args (over W δ) fun e w'=>e=.returned v∧∃ δ',w'=over (over W δ) δ'):Calls P f args (over W δ) fun e w'=>e=.returned v∧∃ δ',w'=over W δ':=
 h.mono fun _ _ ⟨he,δ',hw⟩=>⟨he,_,hw.trans (over_over W δ δ')⟩
theorem calls_over_same {P:Program} {f:FuncId} {args:Array Value} {W δ:World} {v:Value}
  (h:Calls P f args (over W δ) fun e w'=>e=.returned v∧over W δ=w'):Calls P f args (over W δ) fun e w'=>e=.returned v∧∃ δ',w'=over W δ':=
 h.mono fun _ _ ⟨he,hw⟩=>⟨he,_,hw.symm⟩
theorem below_alloc' (w:World) (o:Obj):Below w.heap.size w (w.alloc o):=(Below.refl _ _).alloc (Nat.le_refl _) _
theorem below_trans_over {B:Nat} {w u:World} (h:Below B w u) (hB:B≤u.heap.size) (δ:World):Below B w (over u δ):=h.trans ((below_over u δ).mono hB)
theorem ret_bool {a b:Bool} (h:a=b):Ending.returned (.bool a)=.returned (.bool b):=by rw [h]
end Go.Proofs.YtfhfcipelgogjaaGreatDoor
namespace Go.Proofs.YtfhfcipelgogjaaGreatDoor
open Go.RowKit
def Keeps (M:Nat→Prop) (w w':World):Prop:=∀ n,M n→w'.heap[n]?=w.heap[n]?
theorem Keeps.refl (M:Nat→Prop) (w:World):Keeps M w w:=fun _ _=>rfl
theorem Keeps.of_below {B:Nat} {w w':World} (h:Below B w w'):Keeps (fun n=>n<B) w w':=h.block
theorem Keeps.of_grown {w w':World} {row:Option Nat} (h:w.grownBy w' row):Keeps (fun n=>n<w.heap.size∧some n≠row) w w':=fun n hn=>h.block n hn.1 hn.2
theorem Keeps.mono {M M':Nat→Prop} {w w':World} (h:Keeps M w w') (hM:∀ n,M' n→M n):Keeps M' w w':=fun n hn=>h n (hM n hn)
theorem Keeps.trans {M:Nat→Prop} {a b c:World} (h:Keeps M a b) (k:Keeps M b c):Keeps M a c:=fun n hn=>(k n hn).trans (h n hn)
theorem Keeps.cell {M:Nat→Prop} {w w':World} (h:Keeps M w w') {b o:Nat} (hb:M b):w'.cell? ⟨b,o,none⟩=w.cell? ⟨b,o,none⟩:=
 World.cell?_of_block (w:=w) (h b hb)
structure Shape (α:Type) where
 size:Nat
 pos:0<size
 rd:World→(Nat→Prop)→List Value→α→Prop
 bulk:α→Nat
 bpos:∀ a,1≤bulk a
 len:∀ {w M cs a},rd w M cs a→cs.length=size
 keep:∀ {w w' M cs a},rd w M cs a→Keeps M w w'→rd w' M cs a
 more:∀ {w M M' cs a},rd w M cs a→(∀ n,M n→M' n)→rd w M' cs a
 one:∀ {w M cs a},rd w M cs a→∀ v∈cs,v.oneCell'=true
def I64 (n:Int):Prop:=-9223372036854775808≤n∧n≤9223372036854775807
def Shape.int:Shape Int where
 size:=1
 pos:=Nat.one_pos
 rd _ _ cs n:=cs=[.int .i64 n]∧I64 n
 bulk _:=1
 bpos _:=Nat.le_refl _
 len h:=by rw [h.1]; rfl
 keep h _:=h
 more h _:=h
 one h v hv:=by rw [h.1] at hv; simp at hv; subst hv; rfl
def Shape.byte:Shape UInt8 where
 size:=1
 pos:=Nat.one_pos
 rd _ _ cs b:=cs=[.int .u8 b.toNat]
 bulk _:=1
 bpos _:=Nat.le_refl _
 len h:=by rw [h]; rfl
 keep h _:=h
 more h _:=h
 one h v hv:=by rw [h] at hv; simp at hv; subst hv; rfl
def Shape.bool:Shape Bool where
 size:=1
 pos:=Nat.one_pos
 rd _ _ cs b:=cs=[.bool b]
 bulk _:=1
 bpos _:=Nat.le_refl _
 len h:=by rw [h]; rfl
 keep h _:=h
 more h _:=h
 one h v hv:=by rw [h] at hv; simp at hv; subst hv; rfl
def Shape.str:Shape ByteArray where
 size:=1
 pos:=Nat.one_pos
 rd _ _ cs s:=cs=[.string s]∧s.size≤maxLen
 bulk s:=s.size+1
 bpos _:=by omega
 len h:=by rw [h.1]; rfl
 keep h _:=h
 more h _:=h
 one h v hv:=by rw [h.1] at hv; simp at hv; subst hv; rfl
def Row {α:Type} (s:Shape α) (w:World) (M:Nat→Prop) (A:Option Addr) (n:Nat) (l:List α):Prop:=
 l.length=n∧(0<n→∃ b off,A=some ⟨b,off,none⟩∧M b∧∀ i (hi:i<l.length),∃ es,(∀ j,j<s.size→w.cell? ⟨b,off+i*s.size+j,none⟩=es[j]?)∧s.rd w M es l[i])
section
variable {α:Type} {s:Shape α} {w w':World} {M M':Nat→Prop} {n:Nat} {A:Option Addr} {l:List α}
theorem Row.nil:Row s w M A 0 []:=⟨rfl,fun h=>absurd h (by omega)⟩
theorem Row.keep (h:Row s w M A n l) (k:Keeps M w w'):Row s w' M A n l:=
 ⟨h.1,fun hn=>by
  obtain ⟨b,off,e,hb,hi⟩:=h.2 hn
  refine ⟨b,off,e,hb,fun i hil=>?_⟩
  obtain ⟨es,hc,hr⟩:=hi i hil
  exact ⟨es,fun j hj=>(k.cell hb).trans (hc j hj),s.keep hr k⟩⟩
theorem Row.more (h:Row s w M A n l) (k:∀ n,M n→M' n):Row s w M' A n l:=
 ⟨h.1,fun hn=>by
  obtain ⟨b,off,e,hb,hi⟩:=h.2 hn
  refine ⟨b,off,e,k b hb,fun i hil=>?_⟩
  obtain ⟨es,hc,hr⟩:=hi i hil
  exact ⟨es,hc,s.more hr k⟩⟩
theorem Row.at_ (h:Row s w M A n l) {i:Nat} (hi:i<n):∃ b off es,∃ hl:i<l.length,A=some ⟨b,off,none⟩∧M b∧(∀ j,j<s.size→w.cell? ⟨b,off+i*s.size+j,none⟩=es[j]?)∧s.rd w M es l[i]:=by
 obtain ⟨b,off,e,hb,hr⟩:=h.2 (by omega)
 have hl:i<l.length:=by rw [h.1]; exact hi
 obtain ⟨es,hc,hrd⟩:=hr i hl
 exact ⟨b,off,es,hl,e,hb,hc,hrd⟩
end
theorem Row.elem {α:Type} {s:Shape α} {w w':World} {M:Nat→Prop} {n:Nat} {A:Option Addr} {l:List α} (h:Row s w M A n l) (k:Keeps M w w') {i:Nat} (hi:i<n) :
  ∃ b off es,∃ hl:i<l.length,A=some ⟨b,off,none⟩∧M b∧(∀ j,j<s.size→w'.cell? ⟨b,off+i*s.size+j,none⟩=es[j]?)∧w'.cell? ⟨b,off+i*s.size,none⟩=es[0]?∧s.rd w' M es l[i]:=by
 obtain ⟨b,off,es,hl,e,hb,hc,hr⟩:=(h.keep k).at_ hi
 exact ⟨b,off,es,hl,e,hb,hc,by simpa using hc 0 s.pos,hr⟩
def SliceRd {α:Type} (s:Shape α) (w:World) (M:Nat→Prop) (v:Value) (l:List α):Prop:=
 ∃ A n c,v=.slice A n c∧n≤c∧c≤maxLen∧Row s w M A n l
section
variable {α:Type} {s:Shape α} {w w':World} {M M':Nat→Prop} {v:Value} {l:List α}
theorem SliceRd.keep (h:SliceRd s w M v l) (k:Keeps M w w'):SliceRd s w' M v l:=
 let ⟨A,n,c,hv,h1,h2,hr⟩:=h
 ⟨A,n,c,hv,h1,h2,hr.keep k⟩
theorem SliceRd.more (h:SliceRd s w M v l) (k:∀ n,M n→M' n):SliceRd s w M' v l:=
 let ⟨A,n,c,hv,h1,h2,hr⟩:=h
 ⟨A,n,c,hv,h1,h2,hr.more k⟩
theorem SliceRd.one (h:SliceRd s w M v l):v.oneCell'=true:=by
 obtain ⟨A,n,c,rfl,_⟩:=h
 rfl
theorem SliceRd.nil_:SliceRd s w M (.slice none 0 0) []:=⟨none,0,0,rfl,Nat.le_refl _,by simp [maxLen],Row.nil⟩
end
def bulkAll {α:Type} (f:α→Nat):List α→Nat
 | []=>0
 | a :: l=>f a+bulkAll f l
theorem mem_bulk {α:Type} (f:α→Nat) {l:List α} {a:α} (h:a∈l):f a≤bulkAll f l:=by
 induction l with
 | nil=>cases h
 | cons x l ih =>
  simp only [bulkAll]
  rcases List.mem_cons.1 h with rfl | h
  ·omega
  ·have:=ih h; omega
theorem len_bulk {α:Type} (s:Shape α) (l:List α):l.length≤bulkAll s.bulk l:=by
 induction l with
 | nil=>simp [bulkAll]
 | cons x l ih=>have:=s.bpos x; simp only [bulkAll,List.length_cons]; omega
def Shape.slice {α:Type} (s:Shape α):Shape (List α) where
 size:=1
 pos:=Nat.one_pos
 rd w M cs l:=∃ v,cs=[v]∧SliceRd s w M v l
 bulk l:=bulkAll s.bulk l+1
 bpos _:=by omega
 len:=fun ⟨_,h,_⟩=>by rw [h]; rfl
 keep:=fun ⟨v,h,k⟩ hk=>⟨v,h,k.keep hk⟩
 more:=fun ⟨v,h,k⟩ hk=>⟨v,h,k.more hk⟩
 one:=fun ⟨v,h,k⟩ u hu=>by rw [h] at hu; simp at hu; subst hu; exact k.one
def Cells {α:Type} (s:Shape α) (w:World) (M:Nat→Prop):List Value→List α→Prop
 | xs,[]=>xs=[]
 | xs,a :: l=>∃ es rest,xs=es++rest∧s.rd w M es a∧Cells s w M rest l
section
variable {α:Type} {s:Shape α} {w w':World} {M M':Nat→Prop}
theorem Cells.keep {xs:List Value} {l:List α} (h:Cells s w M xs l) (k:Keeps M w w'):Cells s w' M xs l:=by
 induction l generalizing xs with
 | nil=>exact h
 | cons a l ih=>obtain ⟨es,rest,e,h1,h2⟩:=h; exact ⟨es,rest,e,s.keep h1 k,ih h2⟩
theorem Cells.more {xs:List Value} {l:List α} (h:Cells s w M xs l) (k:∀ n,M n→M' n):Cells s w M' xs l:=by
 induction l generalizing xs with
 | nil=>exact h
 | cons a l ih=>obtain ⟨es,rest,e,h1,h2⟩:=h; exact ⟨es,rest,e,s.more h1 k,ih h2⟩
theorem Cells.append {xs ys:List Value} {l k:List α} (h:Cells s w M xs l) (h':Cells s w M ys k):Cells s w M (xs++ys) (l++k):=by
 induction l generalizing xs with
 | nil=>have:xs=[]:=h; subst this; exact h'
 | cons a l ih=>obtain ⟨es,rest,e,h1,h2⟩:=h; exact ⟨es,rest++ys,by rw [e,List.append_assoc],h1,ih h2⟩
theorem Cells.single {es:List Value} {a:α} (h:s.rd w M es a):Cells s w M es [a]:=⟨es,[],by simp,h,rfl⟩
theorem Cells.length {xs:List Value} {l:List α} (h:Cells s w M xs l):xs.length=l.length*s.size:=by
 induction l generalizing xs with
 | nil=>have:xs=[]:=h; subst this; simp
 | cons a l ih=>obtain ⟨es,rest,e,h1,h2⟩:=h; rw [e,List.length_append,s.len h1,ih h2,List.length_cons,Nat.add_mul]; omega
theorem Cells.one {xs:List Value} {l:List α} (h:Cells s w M xs l):∀ v∈xs,v.oneCell'=true:=by
 induction l generalizing xs with
 | nil=>have:xs=[]:=h; subst this; simp
 | cons a l ih =>
  obtain ⟨es,rest,e,h1,h2⟩:=h
  intro v hv
  rw [e,List.mem_append] at hv
  exact hv.elim (s.one h1 v) (ih h2 v)
theorem Cells.get {xs:List Value} {l:List α} (h:Cells s w M xs l) (i:Nat) (hi:i<l.length):∃ es,(∀ j,j<s.size→xs[i*s.size+j]?=es[j]?)∧s.rd w M es l[i]:=by
 induction l generalizing xs i with
 | nil=>simp at hi
 | cons a l ih =>
  obtain ⟨es,rest,e,h1,h2⟩:=h
  have hlen:=s.len h1
  cases i with
  | zero =>
   refine ⟨es,fun j hj=>?_,h1⟩
   rw [e,List.getElem?_append_left (by omega)]
   simp
  | succ i =>
   obtain ⟨es',hc,hr⟩:=ih h2 i (by simpa using hi)
   refine ⟨es',fun j hj=>?_,hr⟩
   rw [e,List.getElem?_append_right (by rw [hlen,Nat.add_mul]; omega),← hc j hj,hlen]
   congr 1
   rw [Nat.add_mul]; omega
theorem Cells.row {xs:List Value} {l:List α} (h:Cells s w M xs l) {b off:Nat} (hM:M b) (hc:∀ j u,xs[j]?=some u→w.cell? ⟨b,off+j,none⟩=some u):Row s w M (some ⟨b,off,none⟩) l.length l:=by
 refine ⟨rfl,fun _=>⟨b,off,rfl,hM,fun i hi=>?_⟩⟩
 obtain ⟨es,he,hr⟩:=h.get i hi
 refine ⟨es,fun j hj=>?_,hr⟩
 have hl:=h.length
 have hb:i*s.size+j<xs.length:=by
  rw [hl]
  have:(i+1)*s.size≤l.length*s.size:=Nat.mul_le_mul_right _ hi
  rw [Nat.add_mul] at this; omega
 rw [← he j hj,List.getElem?_eq_getElem hb,Nat.add_assoc]
 exact hc _ _ (List.getElem?_eq_getElem hb)
theorem Row.cells {A:Option Addr} {n:Nat} {l:List α} (h:Row s w M A n l):∃ xs,Cells s w M xs l∧(∀ ad,A=some ad→∀ j u,xs[j]?=some u→w.cell? (ad.add j)=some u):=by
 rcases Nat.eq_zero_or_pos n with hn | hn
 ·have hl:=h.1
  subst hn
  have hl0:l=[]:=List.eq_nil_of_length_eq_zero hl
  subst hl0
  exact ⟨[],rfl,by simp⟩
 ·obtain ⟨b,off,e,hM,hr⟩:=h.2 hn
  subst e
  suffices H:∀ (k:List α) (o:Nat),(∀ i (hi:i<k.length),∃ es,(∀ j,j<s.size→w.cell? ⟨b,o+i*s.size+j,none⟩=es[j]?)∧s.rd w M es k[i])→∃ xs,Cells s w M xs k∧∀ j u,xs[j]?=some u→w.cell? ⟨b,o+j,none⟩=some u by
   obtain ⟨xs,h1,h2⟩:=H l off hr
   refine ⟨xs,h1,fun ad e j u hu=>?_⟩
   injection e with e; subst e
   have:=h2 j u hu
   unfold Addr.add
   by_cases hj:j=0
   ·subst hj; simpa using this
   ·rw [if_neg hj]; exact this
  intro k
  induction k with
  | nil=>intro o _; exact ⟨[],rfl,by simp⟩
  | cons a k ih =>
   intro o hk
   obtain ⟨es,hc,hrd⟩:=hk 0 (by simp)
   obtain ⟨xs,h1,h2⟩:=ih (o+s.size) (fun i hi=>by
    obtain ⟨es',hc',hr'⟩:=hk (i+1) (by simpa using hi)
    refine ⟨es',fun j hj=>?_,by simpa using hr'⟩
    rw [← hc' j hj]
    congr 2
    rw [Nat.add_mul]; omega)
   refine ⟨es++xs,⟨es,xs,rfl,by simpa using hrd,h1⟩,fun j u hu=>?_⟩
   have hlen:=s.len hrd
   by_cases hj:j<es.length
   ·rw [List.getElem?_append_left hj] at hu
    have:=hc j (by omega)
    rw [hu] at this
    simpa using this
   ·rw [List.getElem?_append_right (by omega)] at hu
    have:=h2 _ u hu
    rw [← this]
    congr 2
    omega
end
def Src {α:Type} (s:Shape α) (w:World) (M:Nat→Prop) (A:Option Addr) (m:Nat) (k:List α):Prop:=
 k.length=m∧(A=none→m=0)∧∃ news,Cells s w M news k∧∀ ad,A=some ad→∀ j u,news[j]?=some u→w.cell? (ad.add j)=some u
section
variable {α:Type} {s:Shape α} {w w':World} {M M':Nat→Prop} {A:Option Addr} {m:Nat} {k:List α}
theorem Row.src (h:Row s w M A m k):Src s w M A m k:=by
 refine ⟨h.1,fun hA=>?_,h.cells⟩
 rcases Nat.eq_zero_or_pos m with h0 | h0
 ·exact h0
 ·obtain ⟨_,_,e,_⟩:=h.2 h0
  rw [e] at hA; cases hA
def Shape.Flat (s:Shape α):Prop:=∀ {w w' M M' cs a},s.rd w M cs a→s.rd w' M' cs a
theorem Cells.flat (hf:s.Flat) {xs:List Value} {l:List α} (h:Cells s w M xs l):Cells s w' M' xs l:=by
 induction l generalizing xs with
 | nil=>exact h
 | cons a l ih=>obtain ⟨es,rest,e,h1,h2⟩:=h; exact ⟨es,rest,e,hf h1,ih h2⟩
theorem Src.flat (hf:s.Flat) (h:Src s w M A m k):Src s w M' A m k:=
 let ⟨h1,h2,news,h3,h4⟩:=h
 ⟨h1,h2,news,h3.flat hf,h4⟩
theorem Src.single {es:List Value} {a:α} (e:TypeId) (hM:∀ n,M n→n<w.heap.size) (h:s.rd w M es a):Src s (w.alloc (.cells es.toArray e)) M (some ⟨w.heap.size,0,none⟩) 1 [a]:=by
 refine ⟨rfl,by simp,es,Cells.single (s.keep h fun n hn=>Below.heap_alloc _ _ _ (hM n hn)),fun ad e j u hu=>?_⟩
 injection e with e; subst e
 have:(Addr.add ⟨w.heap.size,0,none⟩ j)=⟨w.heap.size,j,none⟩:=by
  unfold Addr.add
  by_cases hj:j=0
  ·subst hj; rfl
  ·rw [if_neg hj]; simp
 rw [this,World.cell?_alloc_new]
 simpa using hu
end
theorem flat_byte:Shape.byte.Flat:=fun h=>h
theorem flat_str:Shape.str.Flat:=fun h=>h
def Own {α:Type} (s:Shape α) (e:TypeId) (w:World) (base:Nat) (M:Nat→Prop) (v:Value) (l:List α):Prop:=
 ∃ xs,w.ownsRow base e s.size v l.length xs∧Cells s w M xs l∧∀ n,M n→n<w.heap.size∧some n≠v.ownBlock
section
variable {α:Type} {s:Shape α} {w w':World} {M:Nat→Prop} {v:Value} {l:List α} {e:TypeId} {base:Nat}
theorem Own.start (s:Shape α) (e:TypeId) (w:World) (base:Nat):Own s e w base (fun _=>False) (.slice none 0 0) ([]:List α):=
 ⟨[],World.ownsRow_nil w base e s.size,rfl,fun _ h=>h.elim⟩
theorem Own.made (s:Shape α) (e:TypeId) (w:World) (base:Nat) (hb:base≤w.heap.size):Own s e (w.alloc (.cells #[] e)) base (fun _=>False) (.slice (some ⟨w.heap.size,0,none⟩) 0 0) ([]:List α):=
 ⟨[],by have:=World.ownsRow_made (e:=e) (size:=s.size) w #[] 0 hb (by simp [maxLen]) (by simp); simpa using this,rfl,fun _ h=>h.elim⟩
theorem Own.kept {row:Option Nat} (h:Own s e w base M v l) (hg:w.grownBy w' row) (hne:v.ownBlock=none∨v.ownBlock≠row) (hM:∀ n,M n→some n≠row):Own s e w' base M v l:=by
 obtain ⟨xs,h1,h2,h3⟩:=h
 exact ⟨xs,h1.kept hg hne,h2.keep ((Keeps.of_grown hg).mono fun n hn=>⟨(h3 n hn).1,hM n hn⟩),fun n hn=>⟨Nat.lt_of_lt_of_le (h3 n hn).1 hg.size,(h3 n hn).2⟩⟩
theorem grownBy_over (w δ:World):w.grownBy (over w δ) none:=⟨rfl,rfl,rfl,size_over_le w δ,fun _ h _=>over_heap_lt h⟩
theorem Own.over_ (h:Own s e w base M v l) (δ:World):Own s e (over w δ) base M v l:=
 h.kept (grownBy_over w δ) (by cases hv:v.ownBlock <;> simp) (fun _ _=>by simp)
theorem Own.alloc (h:Own s e w base M v l) (o:Obj):Own s e (w.alloc o) base M v l:=
 h.kept (World.grownBy_alloc w o none) (by cases hv:v.ownBlock <;> simp) (fun _ _=>by simp)
theorem Own.drew (h:Own s e w base M v l):Own s e w.drew base M v l:=h.kept ⟨rfl,rfl,rfl,Nat.le_refl _,fun _ _ _=>rfl⟩ (row:=none) (by cases hv:v.ownBlock <;> simp) (fun _ _=>by simp)
theorem Own.lt (h:Own s e w base M v l):∀ k,v.ownBlock=some k→base≤k∧k<w.heap.size:=by
 obtain ⟨xs,h1,_⟩:=h
 exact h1.lt
theorem Own.rd (h:Own s e w base M v l):SliceRd s w (fun n=>M n∨some n=v.ownBlock) v l:=by
 obtain ⟨xs,h1,h2,h3⟩:=h
 have hl:=h2.length
 have hc:=fun (g:Nat)=>h1.cells (g:=g)
 rcases h1.2 with ⟨rfl,hn⟩ | ⟨g,cap,cur,rfl,hb,hh,hnc,hcm,_⟩
 ·have hl0:l=[]:=List.eq_nil_of_length_eq_zero hn
  subst hl0
  exact SliceRd.nil_
 ·refine ⟨_,_,_,rfl,hnc,hcm,(h2.more fun n hn=>Or.inl hn).row (Or.inr rfl) (fun j u hu=>?_)⟩
  have:=hc g rfl j u hu
  rw [← this]
  unfold Addr.add
  by_cases hj:j=0
  ·subst hj; rfl
  ·rw [if_neg hj]
theorem Own.form (h:Own s e w base M v l):(v=.slice none 0 0∧l=[])∨∃ g cap,v=.slice (some ⟨g,0,none⟩) l.length cap∧base≤g∧g<w.heap.size∧l.length≤cap∧cap≤maxLen:=by
 obtain ⟨xs,h1,_⟩:=h
 rcases h1.2 with ⟨rfl,hn⟩ | ⟨g,cap,cur,hv,hb,hh,hnc,hcm,_⟩
 ·exact .inl ⟨rfl,List.eq_nil_of_length_eq_zero hn⟩
 ·refine .inr ⟨g,cap,hv,hb,?_,hnc,hcm⟩
  rcases Nat.lt_or_ge g w.heap.size with hlt | hge
  ·exact hlt
  ·rw [Array.getElem?_eq_none hge] at hh; cases hh
theorem Own.appended {M':Nat→Prop} {v':Value} {news:List Value} {k:List α} {xs:List Value} (h2:Cells s w M xs l) (h3:∀ n,M n→n<w.heap.size∧some n≠v.ownBlock)
  (hn:Cells s w M' news k) (h3':∀ n,M' n→n<w.heap.size∧some n≠v.ownBlock)
  (hown:w'.ownsRow base e s.size v' (l.length+k.length) (xs++news)) (hg:w.grownBy w' v.ownBlock) (hat:v'.ownBlock=v.ownBlock∨v'.ownBlock=some w.heap.size) :
  Own s e w' base (fun n=>M n∨M' n) v' (l++k):=by
 have kk:∀ n,(M n∨M' n)→n<w.heap.size∧some n≠v.ownBlock:=fun n hn=>hn.elim (h3 n) (h3' n)
 refine ⟨xs++news,by rw [List.length_append]; exact hown,?_,fun n hn=>⟨Nat.lt_of_lt_of_le (kk n hn).1 hg.size,?_⟩⟩
 ·exact ((h2.more fun n hn=>Or.inl hn).append (hn.more fun n hn=>Or.inr hn)).keep ((Keeps.of_grown hg).mono kk)
 ·rcases hat with e' | e' <;> rw [e']
  ·exact (kk n hn).2
  ·intro hc; injection hc with hc; have:=(kk n hn).1; omega
end
abbrev Old (w:World) (n:Nat):Prop:=n<w.heap.size
theorem Keeps.old {w w':World} (h:Below w.heap.size w w'):Keeps (Old w) w w':=h.block
theorem Keeps.old_over (w δ:World):Keeps (Old w) w (over w δ):=(below_over w δ).block
theorem Keeps.old_alloc (w:World) (o:Obj):Keeps (Old w) w (w.alloc o):=fun n hn=>Below.heap_alloc w o n hn
theorem Old.over_ {w:World} {n:Nat} (h:Old w n) (δ:World):Old (over w δ) n:=lt_over h
theorem Old.below {w w':World} (hb:Below w.heap.size w w') {n:Nat} (h:Old w n):Old w' n:=Nat.lt_of_lt_of_le h hb.size
theorem Old.alloc {w:World} {o:Obj} {n:Nat} (h:Old w n):Old (w.alloc o) n:=by unfold Old at *; simp; omega
theorem SliceRd.below {α:Type} {s:Shape α} {w w':World} {v:Value} {l:List α} (h:SliceRd s w (Old w) v l) (hb:Below w.heap.size w w'):SliceRd s w' (Old w') v l:=(h.keep (Keeps.old hb)).more fun _ hn=>Old.below hb hn
theorem Row.below {α:Type} {s:Shape α} {w w':World} {A:Option Addr} {n:Nat} {l:List α} (h:Row s w (Old w) A n l) (hb:Below w.heap.size w w'):Row s w' (Old w') A n l:=(h.keep (Keeps.old hb)).more fun _ hn=>Old.below hb hn
theorem Shape.below {α:Type} (s:Shape α) {w w':World} {cs:List Value} {a:α} (h:s.rd w (Old w) cs a) (hb:Below w.heap.size w w'):s.rd w' (Old w') cs a:=s.more (s.keep h (Keeps.old hb)) fun _ hn=>Old.below hb hn
abbrev New (w w':World) (n:Nat):Prop:=w.heap.size≤n∧n<w'.heap.size
theorem Own.rd_old {α:Type} {s:Shape α} {w:World} {M:Nat→Prop} {v:Value} {l:List α} {e:TypeId} {base:Nat} (h:Own s e w base M v l):SliceRd s w (Old w) v l:=
 h.rd.more fun n hn=>hn.elim (fun h'=>by obtain ⟨_,_,_,h3⟩:=h; exact (h3 n h').1) (fun h'=>(h.lt n h'.symm).2)
theorem Own.rd_new {α:Type} {s:Shape α} {w w':World} {M:Nat→Prop} {v:Value} {l:List α} {e:TypeId} {base:Nat} (h:Own s e w' base M v l) (hb:w.heap.size≤base) (hM:∀ n,M n→w.heap.size≤n):SliceRd s w' (New w w') v l:=
 h.rd.more fun n hn=>hn.elim (fun h'=>by obtain ⟨_,_,_,h3⟩:=h; exact ⟨hM n h',(h3 n h').1⟩) (fun h'=>by have:=h.lt n h'.symm; exact ⟨by omega,this.2⟩)
abbrev From (B:Nat) (w:World) (n:Nat):Prop:=B≤n∧n<w.heap.size
theorem Own.rd_from {α:Type} {s:Shape α} {w:World} {M:Nat→Prop} {v:Value} {l:List α} {e:TypeId} {base B:Nat} (h:Own s e w base M v l) (hb:B≤base) (hM:∀ n,M n→B≤n):SliceRd s w (From B w) v l:=
 h.rd.more fun n hn=>hn.elim (fun h'=>by obtain ⟨_,_,_,h3⟩:=h; exact ⟨hM n h',(h3 n h').1⟩) (fun h'=>by have:=h.lt n h'.symm; exact ⟨by omega,this.2⟩)
theorem Keeps.set {M:Nat→Prop} (w:World) (p:Addr) (v:Value) (h:∀ n,M n→n≠p.block):Keeps M w (w.setCell p v):=fun n hn=>Below.heap_setCell w p v n (h n hn)
theorem Keeps.grown {M:Nat→Prop} {w w':World} {row:Option Nat} (hg:w.grownBy w' row) (h:∀ n,M n→n<w.heap.size∧some n≠row):Keeps M w w':=fun n hn=>hg.block n (h n hn).1 (h n hn).2
section
variable {P:Program} {α:Type} {s:Shape α} {w:World} {M M':Nat→Prop} {v:Value} {l k:List α} {e:TypeId} {base:Nat}
theorem run_append_of_nil (base:Nat) (t ty e:TypeId) (i:TypeInfo) (size:Nat) (ht:P.underlying t=some (.slice e)) (hi:P.info? e=some i)
  (v:Value) (n:Nat) (xs:List Value) (hown:w.ownsRow base e size v n xs) (c:Nat):(Builtin.append_ #[t,t] ty #[v,.slice none 0 c]).run P w=.ok v w:=by
 rcases hown.2 with ⟨rfl,rfl⟩ | ⟨g,cap,cur,rfl,_,_,hnc,_⟩
 ·simp [Builtin.append_,run_underlying ht,sizeOf,typeInfo,hi,Builtin.lenOf,Builtin.firstCells]
 ·simp [Builtin.append_,run_underlying ht,sizeOf,typeInfo,hi,Builtin.lenOf,Builtin.firstCells,hnc,storeCells]
structure Elem (P:Program) (t e:TypeId) (s:Shape α) (bytes:Nat):Prop where
 ty:P.underlying t=some (.slice e)
 info:(P.info? e).map (fun i=>(i.size,i.bytes,i.zero.map (·.cells.size)))=some (s.size,bytes,some s.size)
theorem Elem.parts {t:TypeId} {bytes:Nat} (h:Elem P t e s bytes):∃ i z,P.info? e=some i∧i.zero=some z∧i.size=s.size∧i.bytes=bytes∧z.cells.size=s.size:=by
 have:=h.info
 rw [Option.map_eq_some_iff] at this
 obtain ⟨i,hi,hx⟩:=this
 simp only [Prod.mk.injEq,Option.map_eq_some_iff] at hx
 obtain ⟨h1,h2,z,hz,h3⟩:=hx
 exact ⟨i,z,hi,hz,h1,h2,h3⟩
theorem run_append_list {t ty:TypeId} {bytes:Nat} (el:Elem P t e s bytes) (h:Own s e w base M v l) {A:Option Addr} {m c:Nat} (hk:Src s w M' A m k) (h3':∀ n,M' n→n<w.heap.size∧some n≠v.ownBlock)
  (hroom:(l.length+k.length)*bytes≤140737488355328) (h63:l.length+k.length≤maxLen) (hbase:base≤w.heap.size) :
  ∃ v' w',(Builtin.append_ #[t,t] ty #[v,.slice A m c]).run P w=.ok v' w'∧Own s e w' base (fun n=>M n∨M' n) v' (l++k)∧w.grownBy w' v.ownBlock∧(v'.ownBlock=v.ownBlock∨v'.ownBlock=some w.heap.size):=by
 obtain ⟨i,z,hi,hz,h1,h2,h3⟩:=el.parts
 obtain ⟨xs,hown,hcs,hM⟩:=h
 have hm:=hk.1
 obtain ⟨news,hn,hcell⟩:=hk.2.2
 rcases A with _ | ad
 ·have hm0:m=0:=hk.2.1 rfl
  have hk0:k=[]:=List.eq_nil_of_length_eq_zero (by rw [hm]; exact hm0)
  subst hm0 hk0
  exact ⟨v,w,run_append_of_nil base t ty e i s.size el.ty hi v l.length xs hown c,⟨xs,by simpa using hown,by simpa using hcs.more fun n hn=>Or.inl hn,fun n hn=>hn.elim (hM n) (h3' n)⟩,World.grownBy.refl w _,.inl rfl⟩
 ·obtain ⟨v',w',hrun,hown',hg,_,hat⟩:=run_append_own_at (P:=P) w base t ty e i z s.size bytes el.ty hi hz h1 h2 h3 s.pos v l.length xs hown ad m c news (by rw [hn.length,hm]) (hcell ad rfl) hn.one (by rw [← hm]; exact h63) (by rw [← hm]; exact hroom) hbase
  exact ⟨v',w',hrun,Own.appended hcs hM hn h3' (by rw [hm]; exact hown') hg hat,hg,hat⟩
theorem wpList_append_list {ops:Array Oper} {rest:List Oper} {o:Oper} {a:Act} {Q:Exit→Act→World→Prop} (hgd:o.guard=none) (sv x:Operand) (t:TypeId)
  (ho:o.op=.call { callee:=.builtin .append,args:=#[sv,x],argTypes:=#[t,t] }) {bytes:Nat} (el:Elem P t e s bytes)
  (hs:a.eval sv=v) (h:Own s e w base M v l) {A:Option Addr} {m c:Nat} (hx:a.eval x=.slice A m c) (hk:Src s w M' A m k) (h3':∀ n,M' n→n<w.heap.size∧some n≠v.ownBlock)
  (hroom:(l.length+k.length)*bytes≤140737488355328) (h63:l.length+k.length≤maxLen) (hbase:base≤w.heap.size)
  (K:∀ v' w',Own s e w' base (fun n=>M n∨M' n) v' (l++k)→w.grownBy w' v.ownBlock→(v'.ownBlock=v.ownBlock∨v'.ownBlock=some w.heap.size)→wpList P ops Q rest (a.put o.dst v') w'):wpList P ops Q (o :: rest) a w:=by
 refine wpList_plain hgd fun K' hK=>?_
 obtain ⟨v',w',hrun,h2,h3,h4⟩:=run_append_list (P:=P) (ty:=o.type) (c:=c) el h hk h3' hroom h63 hbase
 unfold Oper.wp execOp
 simp only [ho,resolve,invoke,builtin,Sem.run_bind,Sem.run_pure,Result.andThen_ok,List.map_toArray,List.map_cons,List.map_nil,hs,hx,hrun]
 exact hK _ _ (K v' w' h2 h3 h4)
end
end Go.Proofs.YtfhfcipelgogjaaGreatDoor
namespace Go.Proofs.YtfhfcipelgogjaaGreatDoor
open Go.RowKit
def Blk (w:World) (g:Nat) (t:TypeId) (cs:Array Value):Prop:=w.heap[g]?=some (.cells cs t (0,0))
section
variable {w w':World} {g:Nat} {t:TypeId} {cs:Array Value}
theorem Blk.lt (h:Blk w g t cs):g<w.heap.size:=by
 rcases Nat.lt_or_ge g w.heap.size with hlt | hge
 ·exact hlt
 ·unfold Blk at h; rw [Array.getElem?_eq_none hge] at h; cases h
theorem Blk.cell (h:Blk w g t cs) (i:Nat):w.cell? ⟨g,i,none⟩=cs[i]?:=cell_of_row w g i cs t (0,0) h
theorem Blk.frozen (h:Blk w g t cs) (i:Nat):w.frozen? ⟨g,i,none⟩=false:=by
 unfold Blk at h
 simp [World.frozen?,h]
theorem Blk.new (w:World) (t:TypeId) (cs:Array Value):Blk (w.alloc (.cells cs t)) w.heap.size t cs:=heap_alloc_new w _
theorem Blk.to {cs':Array Value} (h:Blk w g t cs) (e:cs=cs'):Blk w g t cs':=e ▸ h
theorem Blk.drew (h:Blk w g t cs):Blk w.drew g t cs:=h
theorem Blk.drewN (h:Blk w g t cs) (n:Nat):Blk (w.drewN n) g t cs:=h
theorem Blk.alloc (h:Blk w g t cs) (o:Obj):Blk (w.alloc o) g t cs:=(Below.heap_alloc w o g h.lt).trans h
theorem Blk.over_ (h:Blk w g t cs) (δ:World):Blk (over w δ) g t cs:=(over_heap_lt h.lt).trans h
theorem Blk.set_ (h:Blk w g t cs) (i:Nat) (u:Value):Blk (w.setCell ⟨g,i,none⟩ u) g t (cs.setIfInBounds i u):=by
 unfold Blk at h ⊢
 simp [World.setCell,Array.getElem?_modify,h]
theorem Blk.far (h:Blk w g t cs) {p:Addr} (hp:g≠p.block) (u:Value):Blk (w.setCell p u) g t cs:=(Below.heap_setCell w p u g hp).trans h
theorem Blk.below {B:Nat} (h:Blk w g t cs) (hb:Below B w w') (hg:g<B):Blk w' g t cs:=(hb.block g hg).trans h
theorem Blk.keeps {M:Nat→Prop} (h:Blk w g t cs) (hk:Keeps M w w') (hg:M g):Blk w' g t cs:=(hk g hg).trans h
theorem Blk.grown {row:Option Nat} (h:Blk w g t cs) (hb:w.grownBy w' row) (hg:some g≠row):Blk w' g t cs:=(hb.block g h.lt hg).trans h
theorem Blk.ne_ {g':Nat} {t':TypeId} {cs':Array Value} (h:Blk w g t cs) (h':Blk w g' t' cs') (hne:t≠t'):g≠g':=by
 rintro rfl
 unfold Blk at h h'
 rw [h] at h'
 injection h' with h'
 injection h' with _ ht
 exact hne ht
theorem Own.ne_blk {α:Type} {s:Shape α} {e:TypeId} {base:Nat} {M:Nat→Prop} {v:Value} {l:List α} (h:Own s e w base M v l) (hg:Blk w g t cs) (hne:e≠t):v.ownBlock≠some g:=by
 obtain ⟨xs,h,_⟩:=h
 rcases h.2 with ⟨rfl,_⟩ | ⟨g',cap,cur,rfl,_,hh,_⟩
 ·simp [Value.ownBlock]
 ·intro he
  have:g'=g:=by simpa [Value.ownBlock] using he
  subst this
  exact Blk.ne_ (t:=e) hh hg hne rfl
end
theorem below_of {X u δ:World} (h:u=over X δ):Below X.heap.size X u:=by rw [h]; exact below_over _ _
section
variable {w u:World}
theorem blks2 {c1 c2:Array Value} {t1 t2:TypeId} (h:Below ((w.alloc (.cells c1 t1)).alloc (.cells c2 t2)).heap.size ((w.alloc (.cells c1 t1)).alloc (.cells c2 t2)) u) :
  Blk u (w.heap.size) t1 c1∧Blk u (w.heap.size+1) t2 c2∧Below w.heap.size w u∧w.heap.size+1+1≤u.heap.size:=by
 refine ⟨?_,?_,Below.trans (by go_grown) (h.mono (by simp <;> omega)),by have:=h.size; simpa using this⟩
 ·have:=((Blk.new w t1 c1).alloc _).below h (by simp <;> omega); simpa using this
 ·have:=(Blk.new (w.alloc (.cells c1 t1)) t2 c2).below h (by simp <;> omega); simpa using this
theorem blks3 {c1 c2 c3:Array Value} {t1 t2 t3:TypeId} (h:Below (((w.alloc (.cells c1 t1)).alloc (.cells c2 t2)).alloc (.cells c3 t3)).heap.size (((w.alloc (.cells c1 t1)).alloc (.cells c2 t2)).alloc (.cells c3 t3)) u) :
  Blk u (w.heap.size) t1 c1∧Blk u (w.heap.size+1) t2 c2∧Blk u (w.heap.size+1+1) t3 c3∧Below w.heap.size w u∧w.heap.size+1+1+1≤u.heap.size:=by
 refine ⟨?_,?_,?_,Below.trans (by go_grown) (h.mono (by simp <;> omega)),by have:=h.size; simpa using this⟩
 ·have:=(((Blk.new w t1 c1).alloc _).alloc _).below h (by simp <;> omega); simpa using this
 ·have:=((Blk.new (w.alloc (.cells c1 t1)) t2 c2).alloc _).below h (by simp <;> omega); simpa using this
 ·have:=(Blk.new ((w.alloc (.cells c1 t1)).alloc (.cells c2 t2)) t3 c3).below h (by simp <;> omega); simpa using this
end
section
variable {P:Program} {ops:Array Oper} {rest:List Oper} {o:Oper} {a:Act} {w:World} {Q:Exit→Act→World→Prop}
structure Whole (P:Program) (ty:TypeId) (n:Nat):Prop where
 desc:((P.underlying ty).map fun d=>match d with | .struct _ | .array _ _=>true | _=>false)=some true
 info:(P.info? ty).map (·.size)=some n
theorem Whole.parts {ty:TypeId} {n:Nat} (h:Whole P ty n):∃ d,P.underlying ty=some d∧(match d with | .struct _ | .array _ _=>true | _=>false)=true:=by
 have:=h.desc
 rw [Option.map_eq_some_iff] at this
 exact this
theorem wpList_store_blk (hgd:o.guard=none) (ty:TypeId) (x y:Operand) (ho:o.op=.store ty x y) (g:Nat)
  (hx:a.eval x=.pointer (some ⟨g,0,none⟩)) {t:TypeId} {old:Array Value} (hb:Blk w g t old) (hy:a.eval y=.agg (a.eval y).cells) (hi:(P.info? ty).map (·.size)=some (a.eval y).cells.size)
  (hold:old.size=(a.eval y).cells.size) (h1:(a.eval y).cells.toList.all (·.oneCell')=true)
  (h:∀ w',Blk w' g t (a.eval y).cells→w.grownBy w' (some g)→wpList P ops Q rest (a.put o.dst undef) w'):wpList P ops Q (o :: rest) a w:=
 wpList_store_row hgd ty x y ho g (a.eval y).cells hx hy t old hb hi hold (by simpa using h1)
  (h _ (setRow_heap w g old _ t (0,0) hb) ⟨rfl,rfl,rfl,by simp,fun k _ hk=>setRow_other w g k _ (fun e=>hk (by rw [e]))⟩)
theorem wpList_load_blk (hgd:o.guard=none) (ty:TypeId) (x:Operand) (ho:o.op=.load ty x) (g:Nat) (hx:a.eval x=.pointer (some ⟨g,0,none⟩)) {t:TypeId} {cs:Array Value}
  (hb:Blk w g t cs) (hw:Whole P ty cs.size) (h:wpList P ops Q rest (a.put o.dst (.agg cs)) w):wpList P ops Q (o :: rest) a w:=by
 obtain ⟨d,hu,hd⟩:=hw.parts
 exact wpList_load_row hgd ty x ho g hx t cs (0,0) d hb hu (by revert hd; cases d <;> simp) hw.info h
theorem ret_blk {fn:Func} {R:Ending→World→Prop} {p:Tmp} {ty:TypeId} {g:Nat} {t:TypeId} {cs:Array Value} (hres:fn.results=#[.cell p ty]) (hp:a.tmps.getD p undef=.pointer (some ⟨g,0,none⟩))
  (hb:Blk w g t cs) (hw:Whole P ty cs.size) (hdef:a.defers=[]) (hR:R (.returned (.agg cs)) w):bodyPost P fn R .ret a w:=by
 obtain ⟨d,hu,hd⟩:=hw.parts
 exact bodyPost_ret (results_cell_row hres a.tmps w g t cs (0,0) d hp hb hu (by revert hd; cases d <;> simp) hw.info) hdef hR
end
end Go.Proofs.YtfhfcipelgogjaaGreatDoor
namespace Go.Proofs.YtfhfcipelgogjaaGreatDoor
open Go.RowKit Go.ChangeShapes Go.WideShapes Go.Deep
def Opens (P:Program) {α:Type} (s:Shape α) (t:TypeId):Prop:=
 P.cellsOf t=s.size∧∀ {H:Type} {enc:TypeId×Value→H} {w:World} {fuel:Nat} {cs:List Value} {x:DataW H×List MemPlace},
  DataW.trod enc P w 0 (fun _=>true) true fuel t cs=some x→∃ a,s.rd w (fun n=>n<w.heap.size) cs a∧s.bulk a≤Rows.uptoBulk x.1
section
variable {P:Program} {t:TypeId}
theorem wf_I64 {n:Int} (h:(Lit.int .i64 n).wf=true):I64 n:=by
 simpa [I64,Lit.wf,IntKind.min,IntKind.max,IntKind.signed,IntKind.bits] using h
theorem opens_int (hc:P.cellsOf t=1) (ht:P.underlying t=some (.int .i64)):Opens P Shape.int t:=
 ⟨hc,fun h=>by
  obtain ⟨n,rfl,rfl,hw⟩:=DataW.trod_int ht h
  exact ⟨n,⟨rfl,wf_I64 hw⟩,by simp [Shape.int,Rows.uptoBulk]⟩⟩
theorem opens_byte (hc:P.cellsOf t=1) (ht:P.underlying t=some (.int .u8)):Opens P Shape.byte t:=
 ⟨hc,fun h=>by
  obtain ⟨n,rfl,rfl,hw⟩:=DataW.trod_int ht h
  have hb:0≤n∧n≤255:=by simpa [Lit.wf,IntKind.min,IntKind.max,IntKind.signed,IntKind.bits] using hw
  refine ⟨UInt8.ofNat n.toNat,?_,by simp [Shape.byte,Rows.uptoBulk]⟩
  show [Value.int .u8 n]=[.int .u8 ((UInt8.ofNat n.toNat).toNat:Int)]
  have:((UInt8.ofNat n.toNat).toNat:Int)=n:=by
   have h2:n.toNat<256:=by omega
   simp [UInt8.toNat_ofNat',Nat.mod_eq_of_lt h2]
   omega
  rw [this]⟩
theorem opens_bool (hc:P.cellsOf t=1) (ht:P.underlying t=some .bool):Opens P Shape.bool t:=
 ⟨hc,fun h=>by
  obtain ⟨b,rfl,rfl⟩:=DataW.trod_bool ht h
  exact ⟨b,rfl,by simp [Shape.bool,Rows.uptoBulk]⟩⟩
theorem opens_str (hc:P.cellsOf t=1) (ht:P.underlying t=some .string):Opens P Shape.str t:=
 ⟨hc,fun h=>by
  obtain ⟨s,rfl,rfl,hs⟩:=DataW.trod_string ht h
  refine ⟨s,⟨rfl,hs⟩,?_⟩
  show s.size+1≤s.data.toList.length+1
  rw [Array.length_toList]
  exact Nat.le_refl _⟩
theorem bulkAll_le {H:Type} {α:Type} (f:α→Nat) (D:Nat→DataW H):∀ (l:List α) (o:Nat),(∀ i (hi:i<l.length),f l[i]≤Rows.uptoBulk (D (o+i)))→bulkAll f l≤Rows.uptoBulkAll ((List.range' o l.length).map D)
 | [],o,_=>by simp [bulkAll]
 | a :: l,o,h=>by
  have h0:=h 0 (by simp)
  have ih:=bulkAll_le f D l (o+1) (fun i hi=>by have:=h (i+1) (by simpa using hi); rw [show o+1+i=o+(i+1) from by omega]; simpa using this)
  simp only [List.length_cons,List.range'_succ,List.map_cons,Rows.uptoBulkAll,bulkAll]
  simp at h0
  omega
theorem opens_slice {α:Type} {s:Shape α} {e:TypeId} (hc:P.cellsOf t=1) (ht:P.underlying t=some (.slice e)) (he:Opens P s e):Opens P s.slice t:=
 ⟨hc,fun {H enc w fuel cs x} h=>by
  obtain ⟨hce,hop⟩:=he
  have hlt:=DataW.trod_lt fuel t cs x h
  rcases open_slice ht h with ⟨rfl,rfl⟩ | ⟨a,n,c,m,fu,D,Pl,rfl,hb,hnc,hcm,hm,rfl,hel⟩
  ·exact ⟨[],⟨_,rfl,SliceRd.nil_⟩,by simp [Shape.slice,bulkAll,Rows.uptoBulk]⟩
  ·have hmn:n≤m:=by rw [hm]; simpa using hnc
   have key:∀ i,i<n→∃ (es:List Value) (d:α),(∀ j,j<s.size→w.cell? (a.add (i*s.size+j))=es[j]?)∧s.rd w (fun n=>n<w.heap.size) es d∧s.bulk d≤Rows.uptoBulk (D i):=by
    intro i hi
    obtain ⟨es,hcs,htr⟩:=hel i (by omega)
    obtain ⟨_,hlen,hat⟩:=World.cells?_some hcs
    obtain ⟨d,hd,hbk⟩:=hop htr
    refine ⟨es,d,fun j hj=>?_,hd,hbk⟩
    have:=hat j (by rw [hce]; exact hj)
    rw [Go.Deep.add_add] at this
    rw [← this,hce]
   have hl:∃ l:List α,l.length=n∧∀ i (hi:i<l.length),∃ es,(∀ j,j<s.size→w.cell? (a.add (i*s.size+j))=es[j]?)∧s.rd w (fun n=>n<w.heap.size) es l[i]∧s.bulk l[i]≤Rows.uptoBulk (D i):=by
    clear hel hlt hm hmn hnc h
    induction n with
    | zero=>exact ⟨[],rfl,fun i hi=>by simp at hi⟩
    | succ n ih =>
     obtain ⟨l,hl,hi⟩:=ih (fun i hi=>key i (by omega))
     obtain ⟨es,d,h1,h2,h3⟩:=key n (by omega)
     refine ⟨l++[d],by simp [hl],fun i hil=>?_⟩
     by_cases hin:i<l.length
     ·rw [List.getElem_append_left hin]; exact hi i hin
     ·have:i=n:=by simp at hil; omega
      subst this
      refine ⟨es,h1,?_⟩
      rw [List.getElem_append_right (by omega)]
      simp only [hl,Nat.sub_self,List.getElem_cons_zero]
      exact ⟨h2,h3⟩
   obtain ⟨l,hln,hli⟩:=hl
   refine ⟨l,⟨_,rfl,some a,n,c,rfl,hnc,hcm,hln,fun hn=>?_⟩,?_⟩
   ·obtain ⟨b,off,sp⟩:=a
    obtain ⟨es,hc0,hr0,_⟩:=hli 0 (by omega)
    have hs0:=s.pos
    have hlen:=s.len hr0
    have h00:=hc0 0 hs0
    rw [List.getElem?_eq_getElem (by omega)] at h00
    have h00':w.cell? ⟨b,off,sp⟩=some es[0]:=by simpa [Addr.add] using h00
    have hsp:=World.cell?_spot h00'
    simp at hsp
    subst hsp
    refine ⟨b,off,rfl,World.block_lt_of_cell? w _ h00',fun i hi=>?_⟩
    obtain ⟨es,h1,h2,_⟩:=hli i hi
    refine ⟨es,fun j hj=>?_,h2⟩
    rw [← h1 j hj]
    unfold Addr.add
    by_cases h0:i*s.size+j=0
    ·rw [if_pos h0]
     congr 2
     omega
    ·rw [if_neg h0,Nat.add_assoc]
   ·have:=bulkAll_le s.bulk D l 0 (fun i hi=>by obtain ⟨_,_,_,h3⟩:=hli i hi; simpa using h3)
    rw [hln,← List.range_eq_range'] at this
    simp only [Shape.slice,Rows.uptoBulk]
    omega⟩
end
end Go.Proofs.YtfhfcipelgogjaaGreatDoor
namespace Go.Proofs.YtfhfcipelgogjaaGreatDoor
open Go.RowKit
theorem below_old {w wr w':World} (h:Below w.heap.size w wr) (k:Below wr.heap.size wr w'):Below w.heap.size w w':=h.trans (k.mono h.size)
theorem str_ne {a b:ByteArray} (h:¬ a=b):(a.toList == b.toList)=false:=by
 rw [beq_eq_false_iff_ne,ByteArray.toList_eq,ByteArray.toList_eq]
 intro e
 apply h
 cases a; cases b
 simp only [ByteArray.mk.injEq] at *
 exact Array.toList_inj.1 e
theorem grownBy_of_below {w w':World} (h:Below w.heap.size w w'):w.grownBy w' none:=⟨h.os,h.tape,h.output,h.size,fun n hn _=>h.block n hn⟩
end Go.Proofs.YtfhfcipelgogjaaGreatDoor
namespace Go.Proofs.YtfhfcipelgogjaaGreatDoor
open Go.RowKit
theorem at_load {P:Program} {ops:Array Oper} {Q:Exit→Act→World→Prop} {o:Oper} {rest:List Oper} {a:Act} {w:World} {ty:TypeId} {x:Operand} (ho:o.op=.load ty x) (h:wpList P ops Q (o :: rest) a w):wpList P ops Q (o :: rest) a w:=h
theorem at_store {P:Program} {ops:Array Oper} {Q:Exit→Act→World→Prop} {o:Oper} {rest:List Oper} {a:Act} {w:World} {ty:TypeId} {x y:Operand} (ho:o.op=.store ty x y) (h:wpList P ops Q (o :: rest) a w):wpList P ops Q (o :: rest) a w:=h
theorem ret_blk_tmp {P:Program} {a:Act} {w:World} {fn:Func} {R:Ending→World→Prop} {p u:Tmp} {ty:TypeId} {g:Nat} {t:TypeId} {cs:Array Value} (hres:fn.results=#[.cell p ty,.tmp u]) (hp:a.tmps.getD p undef=.pointer (some ⟨g,0,none⟩))
  (hb:Blk w g t cs) (hw:Whole P ty cs.size) (hdef:a.defers=[]) {v:Value} (hv:a.tmps.getD u undef=v) (hR:R (.returned (.tuple #[.agg cs,v])) w):bodyPost P fn R .ret a w:=by
 obtain ⟨d,hu,hd⟩:=hw.parts
 subst hv
 refine bodyPost_ret ?_ hdef hR
 rw [results_cell_tmp hres,hp]
 have hl:=run_loadVar_row (P:=P) w g t ty cs (0,0) d hb hu (by revert hd; cases d <;> simp) hw.info
 simp only [asAddr,Sem.run_pure,Result.andThen_ok,hl]
theorem str_cell {w:World} {M:Nat→Prop} {A:Option Addr} {n:Nat} {l:List ByteArray} (h:Row Shape.str w M A n l) {i:Nat} (hi:i<n):∃ (b off:Nat) (hl:i<l.length),A=some ⟨b,off,none⟩∧M b∧w.cell? ⟨b,off+i,none⟩=some (.string l[i])∧l[i].size≤maxLen:=by
 obtain ⟨b,off,es,hl,hA,hb,hc,hc0,hrd⟩:=h.elem (Keeps.refl _ _) hi
 have e1:Shape.str.size=1:=rfl
 rw [e1,Nat.mul_one] at hc0
 obtain ⟨hes,hsz⟩:=hrd
 subst hes
 exact ⟨b,off,hl,hA,hb,hc0,hsz⟩
end Go.Proofs.YtfhfcipelgogjaaGreatDoor
