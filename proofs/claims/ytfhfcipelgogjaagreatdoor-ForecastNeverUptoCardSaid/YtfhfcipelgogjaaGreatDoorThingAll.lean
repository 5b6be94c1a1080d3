/- forecast's things: a thing in memory, a new directory, a thing's bits, what a name stands for. No condition but room. forecast's tree in memory: things at blocks, what a write turns. No code. (*forecast.fold).way: along the parts. No condition but room. (*forecast.fold).fresh: the thing that a job makes. No condition but room. -/
import Derived.Test.YtfhfcipelgogjaaGreatDoorDataAll
import Derived.Test.YtfhfcipelgogjaaGreatDoorMapAll
import Derived.Test.YtfhfcipelgogjaaGreatDoorRegAll
import Derived.Test.YtfhfcipelgogjaaGreatDoorBaseAt
import Derived.Deep.MidRow
import Derived.StillTail
set_option linter.unusedSectionVars false
set_option linter.unusedVariables false
set_option linter.unusedSimpArgs false
set_option maxHeartbeats 4000000
set_option maxRecDepth 100000
namespace Go.Proofs.YtfhfcipelgogjaaGreatDoor
open Go.RowKit
attribute [local go_sem] cell?_over frozen?_over lt_over le_over
abbrev kN:KeyKind Tryz.prog ByteArray:=strKind (ty:=9) Tryz.underlying9
theorem und_in:Tryz.prog.underlying 201=some (.map kN.ty 143):=Tryz.underlying201
structure ThD where
 kind:Int
 mode:Int
 uid:Int
 gid:Int
 mtime:TimeD
 data:List UInt8
 target:ByteArray
 ins:List (ByteArray×Nat)
 deriving Inhabited
def thCells (d:ThD) (dv:Value) (m:Option Nat):Array Value:=#[.string ⟨#[]⟩,.int .i64 d.kind,.int .i64 d.mode,.int .i64 d.uid,.int .i64 d.gid,.int .i64 d.mtime.sec,.int .i64 d.mtime.nano,dv,.string d.target,.string ⟨#[]⟩,.map m]
theorem whole_thing:Whole Tryz.prog 203 11:=⟨by kernel_rfl,by kernel_rfl⟩
def cPt (b:Nat):Value:=.pointer (some ⟨b,0,none⟩)
theorem Blk.new' {w:World} {n:Nat} {ty:TypeId} {cs:Array Value} (h:n=w.heap.size):Blk (w.alloc (.cells cs ty)) n ty cs:=h ▸ Blk.new w ty cs
theorem IsMap.new' {P:Program} {κ ε:Type} [DecidableEq κ] {K:KeyKind P κ} {cv:ε→Value} {w:World} {n:Nat} (h:n=w.heap.size):IsMap K cv (w.alloc (.map #[] 0)) n ([]:List (κ×ε)):=h ▸ IsMap.new K cv w
theorem newDir (mode sec nano:Int) (w:World) :
  Calls Tryz.prog 206 #[.int .i64 mode,.agg #[.int .i64 sec,.int .i64 nano]] w fun e w'=>∃ t m,e=.returned (.pointer (some ⟨t,0,none⟩))∧w.heap.size≤t∧w.heap.size≤m∧Below w.heap.size w w' ∧
   Blk w' t 203 #[.string ⟨#[]⟩,.int .i64 2,.int .i64 mode,.int .i64 0,.int .i64 0,.int .i64 sec,.int .i64 nano,.slice none 0 0,.string ⟨#[]⟩,.string ⟨#[]⟩,.map (some m)]∧IsMap kN cPt w' m ([]:List (ByteArray×Nat)):=by
 have hmm:=@run_makeMap Tryz.prog
 go_enter Tryz.func206,Tryz.ntmps206
 go_wp2_with fail
 go_ret
 refine ⟨w.heap.size+1+1,w.heap.size+1,rfl,by omega,by omega,?_,Blk.new' (by simp),(IsMap.new' (by simp)).alloc _⟩
 exact (((below_alloc' _ _).trans ((below_alloc' _ _).mono (by simp))).trans ((below_alloc' _ _).mono (by simp; omega)))
theorem thingLets {t:Nat} {cs:Array Value} {mode bits:Int} (w:World) (h:Blk w t 203 cs) (hm:cs[2]?=some (.int .i64 mode)) :
  Calls Tryz.prog 167 #[.pointer (some ⟨t,0,none⟩),.int .i64 bits] w fun e w'=>e=.returned (.bool (Go.bits .and .i64 mode bits == bits))∧w'=w:=by
 have x2:=h.cell 2; have lg:=h.lt
 rw [hm] at x2
 clear h hm
 go_enter Tryz.func167,Tryz.ntmps167
 go_wp2_with fail
 go_ret
 exact ⟨rfl,rfl⟩
structure Cng (M:Nat→Prop) (w w':World):Prop where
 os:w'.os=w.os
 tape:w'.tape=w.tape
 output:w'.output=w.output
 size:w.heap.size≤w'.heap.size
 block:∀ n,n<w.heap.size→¬ M n→w'.heap[n]?=w.heap[n]?
theorem Cng.of_below {M:Nat→Prop} {w w':World} (h:Below w.heap.size w w'):Cng M w w':=⟨h.os,h.tape,h.output,h.size,fun n hn _=>h.block n hn⟩
theorem Cng.of_only {M:Nat→Prop} {b:Nat} {w w':World} (h:Only b w w') (hb:M b):Cng M w w':=⟨h.os,h.tape,h.output,Nat.le_of_eq h.size.symm,fun n _ hn=>h.block n (fun e=>hn (e ▸ hb))⟩
theorem Cng.trans {M:Nat→Prop} {a b c:World} (h:Cng M a b) (k:Cng M b c):Cng M a c:=
 ⟨k.os.trans h.os,k.tape.trans h.tape,k.output.trans h.output,Nat.le_trans h.size k.size,fun n hn hM=>(k.block n (Nat.lt_of_lt_of_le hn h.size) hM).trans (h.block n hn hM)⟩
theorem Cng.mono {M M':Nat→Prop} {w w':World} (h:Cng M w w') (hM:∀ n,M n→M' n):Cng M' w w':=⟨h.os,h.tape,h.output,h.size,fun n hn hn'=>h.block n hn (fun e=>hn' (hM n e))⟩
theorem Cng.keeps {M M':Nat→Prop} {w w':World} (h:Cng M w w') (hM:∀ n,M' n→n<w.heap.size∧¬ M n):Keeps M' w w':=fun n hn=>h.block n (hM n hn).1 (hM n hn).2
theorem Cng.below {M:Nat→Prop} {B:Nat} {w w':World} (h:Cng M w w') (hB:B≤w.heap.size) (hM:∀ n,M n→B≤n):Below B w w':=⟨h.os,h.tape,h.output,h.size,fun n hn=>h.block n (by omega) (fun e=>by have:=hM n e; omega)⟩
theorem Blk.rangeOf {w:World} {g:Nat} {t:TypeId} {cs:Array Value} (h:Blk w g t cs) (o:Nat) (l:List Value) (hl:∀ j v,l[j]?=some v→cs[o+j]?=some v):w.rangeAt g o l:=fun j v hj=>by rw [h.cell]; exact hl j v hj
theorem Blk.there_ {w:World} {g:Nat} {t:TypeId} {cs:Array Value} (h:Blk w g t cs) (o n:Nat) (ho:o+n≤cs.size):w.there g o n:=fun j hj=>⟨by rw [h.cell,Array.getElem?_eq_getElem (by omega)]; rfl,h.frozen _⟩
theorem Cng.of_cell {M:Nat→Prop} {w:World} {p:Addr} {v:Value} (hM:M p.block):Cng M w (w.setCell p v):=⟨rfl,rfl,rfl,by simp [World.setCell],fun n _ hn=>Below.heap_setCell w p v n (fun e=>hn (e ▸ hM))⟩
theorem Cng.drew {M:Nat→Prop} {w w':World} (h:Cng M w w'):Cng M w w'.drew:=⟨h.os,h.tape,h.output,h.size,h.block⟩
theorem Cng.set {M:Nat→Prop} {w w':World} (h:Cng M w w') {b o:Nat} (hb:M b) (v:Value):Cng M w (w'.setCell ⟨b,o,none⟩ v):=h.trans (Cng.of_cell (p:=⟨b,o,none⟩) hb)
theorem Cng.refl (M:Nat→Prop) (w:World):Cng M w w:=⟨rfl,rfl,rfl,Nat.le_refl _,fun _ _ _=>rfl⟩
theorem range2 {cs : Array Value} {o : Nat} {x y : Value} (h1 : cs[o]? = some x) (h2 : cs[o + 1]? = some y) : ∀ (j : Nat) (v : Value), [x, y][j]? = some v → cs[o + j]? = some v
  | 0, v, h => by simpa using h1.trans (by simpa using h)
  | 1, v, h => by simpa using h2.trans (by simpa using h)
  | _ + 2, v, h => by simp at h
theorem thingPut {f d m x : Nat} {kv : List (ByteArray × Nat)} {cf cs : Array Value} {name : ByteArray} {s n : Int} (w : World) (hf : Blk w f 147 cf) (hd : Blk w d 203 cs) (hm : IsMap kN cPt w m kv)
    (f1 : cf[1]? = some (.int .i64 s)) (f2 : cf[2]? = some (.int .i64 n)) (d10 : cs[10]? = some (.map (some m))) (hsz : cs.size = 11) :
    Calls Tryz.prog 171 #[.pointer (some ⟨f, 0, none⟩), .pointer (some ⟨d, 0, none⟩), .string name, .pointer (some ⟨x, 0, none⟩)] w fun e w' => e = .returned (.tuple #[]) ∧ Cng (fun k => k = d ∨ k = m) w w' ∧ Blk w' d 203 ((cs.setIfInBounds 5 (.int .i64 s)).setIfInBounds 6 (.int .i64 n)) ∧ IsMap kN cPt w' m (putKv kv name x) := by
  have x10 := hd.cell 10; have lg := hd.lt; have lf := hf.lt
  have hdm := hm.ne_blk hd; have hfm := hm.ne_blk hf
  rw [d10] at x10
  have HM := Lib.hid hm; have HD := Lib.hid hd; have HF := Lib.hid hf; have F12 := Lib.hid (range2 f1 f2)
  clear hm hd hf f1 f2 d10
  go_enter Tryz.func171, Tryz.ntmps171
  go_wp2_with (first
    | (refine wpList_mapUpdate_kv rfl (.tmp 11) (.tmp 12) (.tmp 13) _ rfl (K := kN) (cv := cPt) und_in (b := m) (kv := kv) HM.out name x rfl rfl rfl ?_
       intro w2 hm2 ho2
       have HO2 := Lib.hid ho2
       have HM2 := Lib.hid hm2
       have BD2 : Hid (Blk w2 d 203 cs) := Lib.hid (HD.out.grown ho2.grown (fun e => hdm (by injection e with e; exact e.symm)))
       have BF2 : Hid (Blk w2 f 147 cf) := Lib.hid (HF.out.grown ho2.grown (fun e => hfm (by injection e with e; exact e.symm)))
       clear ho2 hm2)
    | (refine wpList_load_mid rfl 44 (.tmp 17) rfl f 1 rfl [.int .i64 s, .int .i64 n] _ (BF2.out.rangeOf 1 _ F12.out) Tryz.underlying44 rfl (by kernel_rfl) ?_)
    | (refine wpList_store_mid rfl 44 (.tmp 21) (.tmp 18) rfl d 5 #[.int .i64 s, .int .i64 n] rfl rfl (BD2.out.there_ 5 2 (by rw [hsz]; decide)) (by kernel_rfl) (by simp [Value.oneCell']) ?_))
  have r1 : Blk ((w2.setCell ⟨d, 5, none⟩ (.int .i64 s)).setCell ⟨d, 6, none⟩ (.int .i64 n)) d 203 ((cs.setIfInBounds 5 (.int .i64 s)).setIfInBounds 6 (.int .i64 n)) := (BD2.out.set_ 5 _).set_ 6 _
  have r2 : Cng (fun k => k = d ∨ k = m) w ((w2.setCell ⟨d, 5, none⟩ (.int .i64 s)).setCell ⟨d, 6, none⟩ (.int .i64 n)) := ((Cng.of_only HO2.out (.inr rfl)).trans (Cng.of_cell (.inl rfl))).trans (Cng.of_cell (.inl rfl))
  exact bodyPost_end (v := .tuple #[]) (by simp [results, Tryz.results171, go_sem]) rfl ⟨rfl, r2, r1, (HM2.out.far hdm _).far hdm _⟩
theorem thingDrop {f d m : Nat} {kv : List (ByteArray × Nat)} {cf cs : Array Value} {name : ByteArray} {s n : Int} (w : World) (hf : Blk w f 147 cf) (hd : Blk w d 203 cs) (hm : IsMap kN cPt w m kv)
    (f1 : cf[1]? = some (.int .i64 s)) (f2 : cf[2]? = some (.int .i64 n)) (d10 : cs[10]? = some (.map (some m))) (hsz : cs.size = 11) :
    Calls Tryz.prog 169 #[.pointer (some ⟨f, 0, none⟩), .pointer (some ⟨d, 0, none⟩), .string name] w fun e w' => e = .returned (.tuple #[]) ∧ Cng (fun k => k = d ∨ k = m) w w' ∧ Blk w' d 203 ((cs.setIfInBounds 5 (.int .i64 s)).setIfInBounds 6 (.int .i64 n)) ∧ IsMap kN cPt w' m (delKv kv name) := by
  have x10 := hd.cell 10; have lg := hd.lt; have lf := hf.lt
  have hdm := hm.ne_blk hd; have hfm := hm.ne_blk hf
  rw [d10] at x10
  have HM := Lib.hid hm; have HD := Lib.hid hd; have HF := Lib.hid hf; have F12 := Lib.hid (range2 f1 f2)
  clear hm hd hf f1 f2 d10
  go_enter Tryz.func169, Tryz.ntmps169
  go_wp2_with (first
    | (refine wpList_delete_kv rfl (.tmp 9) (.tmp 10) _ _ rfl (K := kN) (cv := cPt) und_in (b := m) (kv := kv) HM.out name rfl rfl ?_
       intro w2 hm2 ho2
       have HO2 := Lib.hid ho2
       have HM2 := Lib.hid hm2
       have BD2 : Hid (Blk w2 d 203 cs) := Lib.hid (HD.out.grown ho2.grown (fun e => hdm (by injection e with e; exact e.symm)))
       have BF2 : Hid (Blk w2 f 147 cf) := Lib.hid (HF.out.grown ho2.grown (fun e => hfm (by injection e with e; exact e.symm)))
       clear ho2 hm2)
    | (refine wpList_load_mid rfl 44 (.tmp 14) rfl f 1 rfl [.int .i64 s, .int .i64 n] _ (BF2.out.rangeOf 1 _ F12.out) Tryz.underlying44 rfl (by kernel_rfl) ?_)
    | (refine wpList_store_mid rfl 44 (.tmp 18) (.tmp 15) rfl d 5 #[.int .i64 s, .int .i64 n] rfl rfl (BD2.out.there_ 5 2 (by rw [hsz]; decide)) (by kernel_rfl) (by simp [Value.oneCell']) ?_))
  have r1 : Blk ((w2.setCell ⟨d, 5, none⟩ (.int .i64 s)).setCell ⟨d, 6, none⟩ (.int .i64 n)) d 203 ((cs.setIfInBounds 5 (.int .i64 s)).setIfInBounds 6 (.int .i64 n)) := (BD2.out.set_ 5 _).set_ 6 _
  have r2 : Cng (fun k => k = d ∨ k = m) w ((w2.setCell ⟨d, 5, none⟩ (.int .i64 s)).setCell ⟨d, 6, none⟩ (.int .i64 n)) := ((Cng.of_only HO2.out (.inr rfl)).trans (Cng.of_cell (.inl rfl))).trans (Cng.of_cell (.inl rfl))
  exact bodyPost_end (v := .tuple #[]) (by simp [results, Tryz.results169, go_sem]) rfl ⟨rfl, r2, r1, (HM2.out.far hdm _).far hdm _⟩
theorem thingSource {d m : Nat} {kv : List (ByteArray × Nat)} {cs : Array Value} {name : ByteArray} {kd : Nat → Int} (w : World) (hd : Blk w d 203 cs) (hm : IsMap kN cPt w m kv) (d10 : cs[10]? = some (.map (some m)))
    (hk : ∀ x, getKv kv name = some x → ∃ cx, Blk w x 203 cx ∧ cx[1]? = some (.int .i64 (kd x))) :
    Calls Tryz.prog 168 #[.pointer (some ⟨d, 0, none⟩), .string name] w fun e w' => w' = w ∧ e = .returned (match getKv kv name with | none => .tuple #[.pointer none, .int .i64 170] | some x => if kd x = 2 then .tuple #[.pointer none, .int .i64 172] else .tuple #[.pointer (some ⟨x, 0, none⟩), .int .i64 0]) := by
  have x10 := hd.cell 10; have lg := hd.lt
  rw [d10] at x10
  have HM := Lib.hid hm; have HD := Lib.hid hd
  clear hm hd d10
  cases hg : getKv kv name with
  | none =>
    go_enter Tryz.func168, Tryz.ntmps168
    go_wp2_with (refine wpList_lookup_kv0 rfl (.tmp 10) (.tmp 11) _ rfl (K := kN) (cv := cPt) und_in (b := m) (kv := kv) HM.out name (z := .pointer none) (Tryz.zeroValue143 _) rfl rfl ?_
                 rw [hg])
    go_ret2
    exact ⟨rfl, rfl⟩
  | some x =>
    obtain ⟨cx, hx, hx1⟩ := hk x hg
    have x1 := hx.cell 1; have lx := hx.lt
    rw [hx1] at x1
    clear hx hx1 hk
    dsimp only
    generalize kd x = kx at x1 ⊢
    by_cases hk2 : kx = 2
    · subst hk2
      rw [if_pos rfl]
      go_enter Tryz.func168, Tryz.ntmps168
      go_wp2_with (refine wpList_lookup_kv0 rfl (.tmp 10) (.tmp 11) _ rfl (K := kN) (cv := cPt) und_in (b := m) (kv := kv) HM.out name (z := .pointer none) (Tryz.zeroValue143 _) rfl rfl ?_
                   rw [hg]
                   dsimp only [Option.map, Option.getD, cPt])
      all_goals go_ret2
      all_goals exact ⟨rfl, rfl⟩
    · have hb : (kx == 2) = false := by simpa using hk2
      rw [if_neg hk2]
      go_enter Tryz.func168, Tryz.ntmps168
      go_wp2_with (refine wpList_lookup_kv0 rfl (.tmp 10) (.tmp 11) _ rfl (K := kN) (cv := cPt) und_in (b := m) (kv := kv) HM.out name (z := .pointer none) (Tryz.zeroValue143 _) rfl rfl ?_
                   rw [hg]
                   dsimp only [Option.map, Option.getD, cPt])
      all_goals go_ret2
      all_goals exact ⟨rfl, rfl⟩
end Go.Proofs.YtfhfcipelgogjaaGreatDoor
namespace Go.Proofs.YtfhfcipelgogjaaGreatDoor
open Go.RowKit
structure Hn where
 a:Nat
 m:Nat
 dv:Value
instance:Inhabited Hn:=⟨⟨0,0,.pointer none⟩⟩
def adr (hs:List Hn) (j:Nat):Nat:=(hs.getD j default).a
def insA (hs:List Hn) (l:List (ByteArray×Nat)):List (ByteArray×Nat):=l.map fun p=>(p.1,adr hs p.2)
def mapOf (t:ThD) (h:Hn):Option Nat:=if t.kind=2 then some h.m else none
theorem adr_at {hs:List Hn} {j:Nat} {h:Hn} (e:hs[j]?=some h):adr hs j=h.a:=by unfold adr; rw [List.getD_eq_getElem?_getD,e]; rfl
theorem adr_app {hs k:List Hn} {j:Nat} (h:j<hs.length):adr (hs++k) j=adr hs j:=by
 unfold adr
 rw [List.getD_eq_getElem?_getD,List.getD_eq_getElem?_getD,List.getElem?_append_left h]
theorem insA_app {hs k:List Hn} {l:List (ByteArray×Nat)} (h:∀ p∈l,p.2<hs.length):insA (hs++k) l=insA hs l:=by
 unfold insA
 exact List.map_congr_left fun p hp=>by rw [adr_app (h p hp)]
theorem insA_put {hs:List Hn} (l:List (ByteArray×Nat)) (name:ByteArray) (x:Nat):putKv (insA hs l) name (adr hs x)=insA hs (putKv l name x):=by
 unfold putKv insA hasKv
 have:((l.map fun p=>(p.1,adr hs p.2)).any fun p=>decide (p.1=name))=l.any fun p=>decide (p.1=name):=by rw [List.any_map]; rfl
 rw [this]
 split
 ·rw [List.map_map,List.map_map]
  refine List.map_congr_left fun p _=>?_
  show (if p.1=name then (name,adr hs x) else (p.1,adr hs p.2))=_
  by_cases hp:p.1=name
  ·simp [hp]
  ·simp [hp]
 ·simp
theorem insA_del {hs:List Hn} (l:List (ByteArray×Nat)) (name:ByteArray):delKv (insA hs l) name=insA hs (delKv l name):=by
 unfold delKv insA
 rw [List.filter_map]
 rfl
theorem insA_get {hs:List Hn} (l:List (ByteArray×Nat)) (name:ByteArray):getKv (insA hs l) name=(getKv l name).map (adr hs):=by
 unfold getKv insA
 rw [List.find?_map]
 show Option.map _ (Option.map _ (l.find? fun p=>decide (p.1=name)))=_
 cases l.find? fun p=>decide (p.1=name) <;> rfl
def inTree (hs:List Hn) (ths:List ThD) (k:Nat):Prop:=∃ (j:Nat) (t:ThD) (h:Hn),ths[j]?=some t∧hs[j]?=some h∧(k=h.a∨(t.kind=2∧k=h.m))
structure TreeAt (w:World) (B:Nat) (hs:List Hn) (ths:List ThD):Prop where
 len:hs.length=ths.length
 blk:∀ (j:Nat) (t:ThD) (h:Hn),ths[j]?=some t→hs[j]?=some h→Blk w h.a 203 (thCells t h.dv (mapOf t h))
 map:∀ (j:Nat) (t:ThD) (h:Hn),ths[j]?=some t→hs[j]?=some h→t.kind=2→IsMap kN cPt w h.m (insA hs t.ins)
 ainj:∀ (i j:Nat) (h k:Hn),hs[i]?=some h→hs[j]?=some k→h.a=k.a→i=j
 minj:∀ (i j:Nat) (h k:Hn) (s t:ThD),hs[i]?=some h→hs[j]?=some k→ths[i]?=some s→ths[j]?=some t→s.kind=2→t.kind=2→h.m=k.m→i=j
 ok:∀ (j:Nat) (t:ThD),ths[j]?=some t→(t.kind=1∨t.kind=2∨t.kind=3)∧(t.kind≠2→t.ins=[])∧∀ p∈t.ins,p.2<ths.length
 lo:∀ h∈hs,B≤h.a∧B≤h.m
theorem TreeAt.keeps {w w':World} {B:Nat} {hs:List Hn} {ths:List ThD} (hT:TreeAt w B hs ths) (hk:∀ k,inTree hs ths k→w'.heap[k]?=w.heap[k]?):TreeAt w' B hs ths:=
 ⟨hT.len,fun j t h e1 e2=>(hk h.a ⟨j,t,h,e1,e2,.inl rfl⟩).trans (hT.blk j t h e1 e2),fun j t h e1 e2 e3=>(hT.map j t h e1 e2 e3).of_block (hk h.m ⟨j,t,h,e1,e2,.inr ⟨e3,rfl⟩⟩),hT.ainj,hT.minj,hT.ok,hT.lo⟩
theorem TreeAt.lt {w:World} {B:Nat} {hs:List Hn} {ths:List ThD} (hT:TreeAt w B hs ths) {k:Nat} (hk:inTree hs ths k):k<w.heap.size∧B≤k:=by
 obtain ⟨j,t,h,e1,e2,rfl | ⟨e3,rfl⟩⟩:=hk
 ·exact ⟨(hT.blk j t h e1 e2).lt,(hT.lo h (List.mem_of_getElem? e2)).1⟩
 ·exact ⟨(hT.map j t h e1 e2 e3).lt,(hT.lo h (List.mem_of_getElem? e2)).2⟩
theorem TreeAt.below {w w':World} {B:Nat} {hs:List Hn} {ths:List ThD} (hT:TreeAt w B hs ths) (hb:Below w.heap.size w w'):TreeAt w' B hs ths:=hT.keeps fun k hk=>hb.block k (hT.lt hk).1
theorem TreeAt.not_blk {w:World} {B:Nat} {hs:List Hn} {ths:List ThD} (hT:TreeAt w B hs ths) {k:Nat} {ty:TypeId} {cs:Array Value} (hb:Blk w k ty cs) (hne:ty≠203):¬ inTree hs ths k:=by
 rintro ⟨j,t,h,e1,e2,rfl | ⟨e3,rfl⟩⟩
 ·exact hb.ne_ (hT.blk j t h e1 e2) hne rfl
 ·exact (hT.map j t h e1 e2 e3).ne_blk hb rfl
theorem TreeAt.hand {w:World} {B:Nat} {hs:List Hn} {ths:List ThD} (hT:TreeAt w B hs ths) {j:Nat} {t:ThD} (e:ths[j]?=some t):∃ h,hs[j]?=some h:=by
 have:=(List.getElem?_eq_some_iff.1 e).1
 exact ⟨hs[j]'(by rw [hT.len]; exact this),List.getElem?_eq_getElem _⟩
theorem TreeAt.upd {w w':World} {B:Nat} {hs:List Hn} {ths:List ThD} (hT:TreeAt w B hs ths) {d:Nat} {t t':ThD} {h:Hn} (hd:ths[d]?=some t) (hh:hs[d]?=some h) (hkind:t'.kind=t.kind)
  (hb:Blk w' h.a 203 (thCells t' h.dv (mapOf t h))) (hm:t.kind=2→IsMap kN cPt w' h.m (insA hs t'.ins)) (hins:(t.kind≠2→t'.ins=[])∧∀ p∈t'.ins,p.2<ths.length)
  (hc:Cng (fun k=>k=h.a∨(t.kind=2∧k=h.m)) w w'):TreeAt w' B hs (ths.set d t'):=by
 have hdl:=(List.getElem?_eq_some_iff.1 hd).1
 have look:∀ (j:Nat) (s:ThD),(ths.set d t')[j]?=some s→(j=d∧s=t')∨(j≠d∧ths[j]?=some s):=by
  intro j s e
  rw [List.getElem?_set] at e
  by_cases hj:d=j
  ·subst hj
   rw [if_pos rfl,if_pos hdl] at e
   exact .inl ⟨rfl,by injection e with e; exact e.symm⟩
  ·rw [if_neg hj] at e
   exact .inr ⟨fun e=>hj e.symm,e⟩
 have old:∀ (j:Nat) (s:ThD),(ths.set d t')[j]?=some s→∃ s',ths[j]?=some s'∧s'.kind=s.kind:=by
  intro j s e
  rcases look j s e with ⟨rfl,rfl⟩ | ⟨_,e⟩
  ·exact ⟨t,hd,hkind.symm⟩
  ·exact ⟨s,e,rfl⟩
 refine ⟨by rw [List.length_set]; exact hT.len,?_,?_,hT.ainj,?_,?_,hT.lo⟩
 ·intro j s k e1 e2
  rcases look j s e1 with ⟨rfl,rfl⟩ | ⟨hj,e1⟩
  ·obtain rfl:h=k:=by rw [hh] at e2; injection e2
   have:mapOf s h=mapOf t h:=by unfold mapOf; rw [hkind]
   rw [this]; exact hb
  ·have b:=hT.blk j s k e1 e2
   refine (hc.block k.a b.lt ?_).trans b
   rintro (e | ⟨e,e'⟩)
   ·exact hj (hT.ainj j d k h e2 hh e)
   ·exact (hT.map d t h hd hh e).ne_blk b e'.symm
 ·intro j s k e1 e2 e3
  rcases look j s e1 with ⟨rfl,rfl⟩ | ⟨hj,e1⟩
  ·obtain rfl:h=k:=by rw [hh] at e2; injection e2
   exact hm (hkind ▸ e3)
  ·have b:=hT.map j s k e1 e2 e3
   refine b.of_block (hc.block k.m b.lt ?_)
   rintro (e | ⟨e,e'⟩)
   ·exact b.ne_blk (hT.blk d t h hd hh) e
   ·exact hj (hT.minj j d k h s t e2 hh e1 hd e3 e e')
 ·intro i j k l s u e1 e2 e3 e4 e5 e6 e7
  obtain ⟨s',a1,a2⟩:=old i s e3
  obtain ⟨u',b1,b2⟩:=old j u e4
  exact hT.minj i j k l s' u' e1 e2 a1 b1 (a2.trans e5) (b2.trans e6) e7
 ·intro j s e
  rw [List.length_set]
  rcases look j s e with ⟨rfl,rfl⟩ | ⟨_,e⟩
  ·rw [hkind]; exact ⟨(hT.ok j t hd).1,hins⟩
  ·exact hT.ok j s e
theorem TreeAt.push {w:World} {B:Nat} {hs:List Hn} {ths:List ThD} (hT:TreeAt w B hs ths) {t:ThD} {h:Hn}
  (hb:Blk w h.a 203 (thCells t h.dv (mapOf t h))) (hm:t.kind=2→IsMap kN cPt w h.m (insA hs t.ins)) (hk:t.kind=1∨t.kind=2∨t.kind=3) (hins:(t.kind≠2→t.ins=[])∧∀ p∈t.ins,p.2<ths.length)
  (hn:∀ (j:Nat) (s:ThD) (k:Hn),ths[j]?=some s→hs[j]?=some k→k.a≠h.a∧(s.kind=2→k.m≠h.m)) (hlo:B≤h.a∧B≤h.m):TreeAt w B (hs++[h]) (ths++[t]):=by
 have look:∀ (j:Nat) (s:ThD) (k:Hn),(ths++[t])[j]?=some s→(hs++[h])[j]?=some k→(j<ths.length∧ths[j]?=some s∧hs[j]?=some k)∨(j=ths.length∧s=t∧k=h):=by
  intro j s k e1 e2
  by_cases hj:j<ths.length
  ·rw [List.getElem?_append_left hj] at e1
   rw [List.getElem?_append_left (by rw [hT.len]; exact hj)] at e2
   exact .inl ⟨hj,e1,e2⟩
  ·have h1:=(List.getElem?_eq_some_iff.1 e1).1
   rw [List.length_append] at h1
   have h1:j=ths.length:=by simp at h1; omega
   subst h1
   rw [List.getElem?_append_right (Nat.le_refl _),Nat.sub_self] at e1
   rw [List.getElem?_append_right (by rw [hT.len]; exact Nat.le_refl _),hT.len,Nat.sub_self] at e2
   exact .inr ⟨rfl,by injection e1 with e1; exact e1.symm,by injection e2 with e2; exact e2.symm⟩
 have lookh:∀ (j:Nat) (k:Hn),(hs++[h])[j]?=some k→(j<hs.length∧hs[j]?=some k)∨(j=hs.length∧k=h):=by
  intro j k e2
  by_cases hj:j<hs.length
  ·rw [List.getElem?_append_left hj] at e2
   exact .inl ⟨hj,e2⟩
  ·have h1:=(List.getElem?_eq_some_iff.1 e2).1
   rw [List.length_append] at h1
   have h1:j=hs.length:=by simp at h1; omega
   subst h1
   rw [List.getElem?_append_right (Nat.le_refl _),Nat.sub_self] at e2
   exact .inr ⟨rfl,by injection e2 with e2; exact e2.symm⟩
 have thing:∀ (j:Nat) (k:Hn),hs[j]?=some k→∃ s,ths[j]?=some s:=fun j k e=>by
  have:=(List.getElem?_eq_some_iff.1 e).1
  exact ⟨ths[j]'(by rw [← hT.len]; exact this),List.getElem?_eq_getElem _⟩
 refine ⟨by rw [List.length_append,List.length_append,hT.len]; rfl,?_,?_,?_,?_,?_,?_⟩
 ·intro j s k e1 e2
  rcases look j s k e1 e2 with ⟨_,e1,e2⟩ | ⟨_,rfl,rfl⟩
  ·exact hT.blk j s k e1 e2
  ·exact hb
 ·intro j s k e1 e2 e3
  rcases look j s k e1 e2 with ⟨_,e1,e2⟩ | ⟨_,rfl,rfl⟩
  ·rw [insA_app (fun p hp=>by rw [hT.len]; exact (hT.ok j s e1).2.2 p hp)]
   exact hT.map j s k e1 e2 e3
  ·rw [insA_app (fun p hp=>by rw [hT.len]; exact hins.2 p hp)]
   exact hm e3
 ·intro i j k l e1 e2 e3
  rcases lookh i k e1 with ⟨_,f1⟩ | ⟨h1,rfl⟩
  ·rcases lookh j l e2 with ⟨_,f2⟩ | ⟨h2,rfl⟩
   ·exact hT.ainj i j k l f1 f2 e3
   ·obtain ⟨s,hs'⟩:=thing i k f1
    exact absurd e3 (hn i s k hs' f1).1
  ·rcases lookh j l e2 with ⟨_,f2⟩ | ⟨h2,rfl⟩
   ·obtain ⟨s,hs'⟩:=thing j l f2
    exact absurd e3.symm (hn j s l hs' f2).1
   ·rw [h1,h2]
 ·intro i j k l s u e1 e2 e3 e4 e5 e6 e7
  rcases look i s k e3 e1 with ⟨_,f3,f1⟩ | ⟨h1,rfl,rfl⟩
  ·rcases look j u l e4 e2 with ⟨_,f4,f2⟩ | ⟨h2,rfl,rfl⟩
   ·exact hT.minj i j k l s u f1 f2 f3 f4 e5 e6 e7
   ·exact absurd e7 ((hn i s k f3 f1).2 e5)
  ·rcases look j u l e4 e2 with ⟨_,f4,f2⟩ | ⟨h2,rfl,rfl⟩
   ·exact absurd e7.symm ((hn j u l f4 f2).2 e6)
   ·rw [h1,h2]
 ·intro j s e
  obtain ⟨k,e2⟩:∃ k,(hs++[h])[j]?=some k:=⟨(hs++[h])[j]'(by have:=(List.getElem?_eq_some_iff.1 e).1; simp at this ⊢; rw [hT.len]; exact this),List.getElem?_eq_getElem _⟩
  rcases look j s k e e2 with ⟨_,e1,_⟩ | ⟨_,rfl,rfl⟩
  ·have:=hT.ok j s e1
   exact ⟨this.1,this.2.1,fun p hp=>by have:=this.2.2 p hp; simp; omega⟩
  ·exact ⟨hk,hins.1,fun p hp=>by have:=hins.2 p hp; simp; omega⟩
 ·intro k hk'
  rcases List.mem_append.1 hk' with h1 | h1
  ·exact hT.lo k h1
  ·obtain rfl:=List.mem_singleton.1 h1; exact hlo
def thD (ths:List ThD) (j:Nat):ThD:=ths.getD j default
theorem thD_at {ths:List ThD} {j:Nat} (h:j<ths.length):ths[j]?=some (thD ths j):=by
 unfold thD; rw [List.getD_eq_getElem?_getD,List.getElem?_eq_getElem h]; rfl
theorem thD_set {ths:List ThD} {d:Nat} {t:ThD} (h:d<ths.length) (j:Nat):thD (ths.set d t) j=if j=d then t else thD ths j:=by
 unfold thD
 rw [List.getD_eq_getElem?_getD,List.getD_eq_getElem?_getD,List.getElem?_set]
 by_cases hj:d=j
 ·subst hj; simp [h]
 ·rw [if_neg hj,if_neg (fun e=>hj e.symm)]
theorem thD_app {ths l:List ThD} {j:Nat} (h:j<ths.length):thD (ths++l) j=thD ths j:=by
 unfold thD
 rw [List.getD_eq_getElem?_getD,List.getD_eq_getElem?_getD,List.getElem?_append_left h]
theorem thD_new {ths:List ThD} {t:ThD}:thD (ths++[t]) ths.length=t:=by
 unfold thD
 rw [List.getD_eq_getElem?_getD,List.getElem?_append_right (Nat.le_refl _),Nat.sub_self]; rfl
def letsB (t:ThD) (bits:Int):Bool:=Go.bits .and .i64 t.mode bits == bits
def dirD (mode:Int) (now:TimeD):ThD:=⟨2,mode,0,0,now,[],⟨#[]⟩,[]⟩
def putT (now:TimeD) (ths:List ThD) (d:Nat) (name:ByteArray) (x:Nat):List ThD:=ths.set d { thD ths d with ins:=putKv (thD ths d).ins name x,mtime:=now }
def dropT (now:TimeD) (ths:List ThD) (d:Nat) (name:ByteArray):List ThD:=ths.set d { thD ths d with ins:=delKv (thD ths d).ins name,mtime:=now }
def wayF (now:TimeD) (mode:Int):List ByteArray→List ThD→Nat→List ThD×Int×Nat
 | [],ths,d=>(ths,0,d)
 | p :: ps,ths,d =>
  if letsB (thD ths d) 64=true then
   match getKv (thD ths d).ins p with
   | none=>if mode<0 then (ths,170,0) else if letsB (thD ths d) 192=true then wayF now mode ps (putT now (ths++[dirD mode now]) d p ths.length) ths.length else (ths,175,0)
   | some x=>if (thD ths x).kind=3 then (ths,174,0) else if (thD ths x).kind=1 then (ths,173,0) else wayF now mode ps ths x
  else (ths,175,0)
theorem mem_put {l:List (ByteArray×Nat)} {k:ByteArray} {x:Nat} {p:ByteArray×Nat} (h:p∈putKv l k x):p∈l∨p.2=x:=by
 unfold putKv at h
 split at h
 ·obtain ⟨q,hq,rfl⟩:=List.mem_map.1 h
  by_cases e:q.1=k
  ·rw [if_pos e]; exact .inr rfl
  ·rw [if_neg e]; exact .inl hq
 ·rcases List.mem_append.1 h with h | h
  ·exact .inl h
  ·rw [List.mem_singleton.1 h]; exact .inr rfl
theorem get_mem {l:List (ByteArray×Nat)} {k:ByteArray} {x:Nat} (h:getKv l k=some x):(k,x)∈l:=by
 unfold getKv at h
 rw [Option.map_eq_some_iff] at h
 obtain ⟨p,h1,h2⟩:=h
 have h3:=List.find?_some h1
 have h4:p.1=k:=by simpa using h3
 have h5:=List.mem_of_find?_eq_some h1
 obtain ⟨p1,p2⟩:=p
 simp only at h2 h4
 subst h2 h4
 exact h5
theorem TreeAt.put {w w':World} {B:Nat} {hs:List Hn} {ths:List ThD} {now:TimeD} (hT:TreeAt w B hs ths) {d x:Nat} {name:ByteArray} {h:Hn} (hd:d<ths.length) (hk:(thD ths d).kind=2) (hh:hs[d]?=some h) (hx:x<ths.length)
  (hc:Cng (fun k=>k=h.a∨k=h.m) w w') (hb:Blk w' h.a 203 (((thCells (thD ths d) h.dv (mapOf (thD ths d) h)).setIfInBounds 5 (.int .i64 now.sec)).setIfInBounds 6 (.int .i64 now.nano)))
  (hm:IsMap kN cPt w' h.m (putKv (insA hs (thD ths d).ins) name (adr hs x))):TreeAt w' B hs (putT now ths d name x):=by
 rw [insA_put] at hm
 refine hT.upd (thD_at hd) hh rfl hb (fun _=>hm) ⟨fun e=>absurd hk e,fun p hp=>?_⟩ (hc.mono fun k hk'=>hk'.imp id fun e=>⟨hk,e⟩)
 rcases mem_put hp with hp | hp
 ·exact (hT.ok d _ (thD_at hd)).2.2 p hp
 ·rw [hp]; exact hx
theorem TreeAt.drop {w w':World} {B:Nat} {hs:List Hn} {ths:List ThD} {now:TimeD} (hT:TreeAt w B hs ths) {d:Nat} {name:ByteArray} {h:Hn} (hd:d<ths.length) (hk:(thD ths d).kind=2) (hh:hs[d]?=some h)
  (hc:Cng (fun k=>k=h.a∨k=h.m) w w') (hb:Blk w' h.a 203 (((thCells (thD ths d) h.dv (mapOf (thD ths d) h)).setIfInBounds 5 (.int .i64 now.sec)).setIfInBounds 6 (.int .i64 now.nano)))
  (hm:IsMap kN cPt w' h.m (delKv (insA hs (thD ths d).ins) name)):TreeAt w' B hs (dropT now ths d name):=by
 rw [insA_del] at hm
 exact hT.upd (thD_at hd) hh rfl hb (fun _=>hm) ⟨fun e=>absurd hk e,fun p hp=>(hT.ok d _ (thD_at hd)).2.2 p (by unfold delKv at hp; exact (List.mem_filter.1 hp).1)⟩ (hc.mono fun k hk'=>hk'.imp id fun e=>⟨hk,e⟩)
end Go.Proofs.YtfhfcipelgogjaaGreatDoor
namespace Go.Proofs.YtfhfcipelgogjaaGreatDoor
open Go.RowKit
attribute [local go_sem] cell?_over frozen?_over lt_over le_over
def foldC (r o:Nat) (now:TimeD):Array Value:=#[.pointer (some ⟨r,0,none⟩),.int .i64 now.sec,.int .i64 now.nano,.map (some o)]
structure Grew (w w':World) (hs hs2:List Hn) (ths ths2:List ThD):Prop where
 new:∀ h∈hs2,w.heap.size≤h.a∧w.heap.size≤h.m
 cng:Cng (inTree hs ths) w w'
 len:ths.length≤ths2.length
 kinds:∀ j,j<ths.length→(thD ths2 j).kind=(thD ths j).kind
 dold:∀ j,j<ths.length→(thD ths2 j).data=(thD ths j).data
 dnew:∀ j,ths.length≤j→j<ths2.length→(thD ths2 j).data=[]
 vnew:∀ h∈hs2,h.dv=.slice none 0 0
theorem Grew.refl (w:World) (hs:List Hn) (ths:List ThD):Grew w w hs [] ths ths:=⟨(fun _ h=>by cases h),⟨rfl,rfl,rfl,Nat.le_refl _,fun _ _ _=>rfl⟩,Nat.le_refl _,fun _ _=>rfl,fun _ _=>rfl,fun _ h1 h2=>absurd h2 (by omega),(fun _ h=>by cases h)⟩
theorem Grew.own {w w':World} {hs hs2:List Hn} {ths ths2:List ThD} (h:Grew w w' hs hs2 ths ths2) (hl:hs.length=ths.length) {d:Nat} {k:Hn} (hk:(hs++hs2)[d]?=some k) (h2:(thD ths2 d).kind=2) {n:Nat} (hn:n<w.heap.size) (ho:n=k.a∨n=k.m):inTree hs ths n:=by
 by_cases hd:d<hs.length
 ·rw [List.getElem?_append_left hd] at hk
  rw [hl] at hd
  exact ⟨d,thD ths d,k,thD_at hd,hk,ho.imp id fun e=>⟨by rw [← h.kinds d hd]; exact h2,e⟩⟩
 ·rw [List.getElem?_append_right (by omega)] at hk
  have:=h.new k (List.mem_of_getElem? hk)
  omega
theorem Grew.write {w w1 w2:World} {hs hs2:List Hn} {ths ths2:List ThD} (h:Grew w w1 hs hs2 ths ths2) (hl:hs.length=ths.length) {d:Nat} {k:Hn} (hk:(hs++hs2)[d]?=some k) (h2:(thD ths2 d).kind=2) (hc:Cng (fun n=>n=k.a∨n=k.m) w1 w2):Cng (inTree hs ths) w w2:=
 ⟨hc.os.trans h.cng.os,hc.tape.trans h.cng.tape,hc.output.trans h.cng.output,Nat.le_trans h.cng.size hc.size,fun n hn hi=>(hc.block n (Nat.lt_of_lt_of_le hn h.cng.size) (fun ho=>hi (h.own hl hk h2 hn ho))).trans (h.cng.block n hn hi)⟩
theorem Grew.alloc {w w1 w2:World} {hs hs2:List Hn} {ths ths2:List ThD} (h:Grew w w1 hs hs2 ths ths2) (hb:Below w1.heap.size w1 w2):Grew w w2 hs hs2 ths ths2:=
 ⟨h.new,h.cng.trans (Cng.of_below hb),h.len,h.kinds,h.dold,h.dnew,h.vnew⟩
def WayEnd (R:List ThD×Int×Nat) (hs:List Hn) (ths:List ThD) (B:Nat) (w:World) (e:Ending) (w':World):Prop:=
 ∃ hs2,TreeAt w' B (hs++hs2) R.1∧Grew w w' hs hs2 ths R.1∧((R.2.1=0∧e=.returned (.tuple #[.pointer (some ⟨adr (hs++hs2) R.2.2,0,none⟩),.int .i64 0])∧R.2.2<R.1.length∧(thD R.1 R.2.2).kind=2)∨(R.2.1≠0∧e=.returned (.tuple #[.pointer none,.int .i64 R.2.1])))
theorem way_err {R:List ThD×Int×Nat} {hs hs2:List Hn} {ths ths2:List ThD} {B:Nat} {w w':World} {err:Int} (h:R=(ths2,err,0)) (he:err≠0) (hT:TreeAt w' B (hs++hs2) ths2) (hG:Grew w w' hs hs2 ths ths2):WayEnd R hs ths B w (.returned (.tuple #[.pointer none,.int .i64 err])) w':=by
 subst h; exact ⟨hs2,hT,hG,.inr ⟨he,rfl⟩⟩
theorem text_at {w : World} {M : Nat → Prop} {A : Option Addr} {n i : Nat} {l : List ByteArray} (h : Row Shape.str w M A n l) (hi : i < n) : ∃ (b off : Nat) (p : ByteArray), A = some ⟨b, off, none⟩ ∧ M b ∧ w.cell? ⟨b, off + i, none⟩ = some (.string p) ∧ l.drop i = p :: l.drop (i + 1) := by
  obtain ⟨b, off, hl, hA, hb, hc, _⟩ := str_cell h hi
  exact ⟨b, off, l[i], hA, hb, hc, List.drop_eq_getElem_cons hl⟩
theorem foldWay {f r o B n c : Nat} {now : TimeD} {hs : List Hn} {ths : List ThD} {ps : List ByteArray} {M : Nat → Prop} {A : Option Addr} (mode : Int) (w : World) (hf : Blk w f 147 (foldC (adr hs r) o now)) (hT : TreeAt w B hs ths) (hr : r < ths.length) (hk : (thD ths r).kind = 2)
    (hp : Row Shape.str w M A n ps) (hn : n ≤ 140737488355328) (hM : ∀ k, M k → k < w.heap.size ∧ ¬ inTree hs ths k) (hB : B ≤ w.heap.size) :
    Calls Tryz.prog 166 #[.pointer (some ⟨f, 0, none⟩), .slice A n c, .int .i64 mode] w (WayEnd (wayF now mode ps ths r) hs ths B w) := by
  obtain ⟨R, hR⟩ : ∃ x, x = wayF now mode ps ths r := ⟨_, rfl⟩
  rw [← hR]
  have HR := Lib.hid hR; have HF := Lib.hid hf; have HT := Lib.hid hT; have HK := Lib.hid hk; have HP := Lib.hid hp; have HM := Lib.hid hM; have HB := Lib.hid hB
  have hn1 : n < 9223372036854775807 := by omega
  have lf := hf.lt; have f0 := hf.cell 0
  have hfn := hT.not_blk hf (by decide)
  have hlen := hT.len
  unfold foldC at f0
  simp only [List.getElem?_toArray, List.getElem?_cons_zero] at f0
  clear hR hf hT hk hp hM hB
  go_enter Tryz.func166, Tryz.ntmps166
  go_wp2_with fail
  go_loopw [8, 18] (fun v8 v18 wr => ∃ (i d : Nat) (ths2 : List ThD) (hs2 : List Hn), i ≤ n ∧ v18 = .int .i64 i ∧ v8 = .pointer (some ⟨adr (hs ++ hs2) d, 0, none⟩) ∧ R = wayF now mode (ps.drop i) ths2 d ∧ TreeAt wr B (hs ++ hs2) ths2 ∧ d < ths2.length ∧ (thD ths2 d).kind = 2 ∧ Grew w wr hs hs2 ths ths2) (fun _ v18 _ => n - (intOf v18).toNat)
  case atStart => exact ⟨0, r, ths, [], Nat.zero_le _, rfl, by rw [List.append_nil], HR.out, by rw [List.append_nil]; exact HT.out, hr, HK.out, Grew.refl _ _ _⟩
  case round =>
    obtain ⟨i, d, ths2, hs2, hi, rfl, rfl, hRi, hTi, hdi, hki, hGi⟩ := hrel
    by_cases hl : i < n
    · have hls : (i : Int) < n := by omega
      obtain ⟨bp, op, p, hA, hMp, hcp, hdrop⟩ := text_at HP.out hl
      subst hA
      obtain ⟨lp, np⟩ := HM.out bp hMp
      have cp := (World.cell?_of_block (w := w) (a := ⟨bp, op + i, none⟩) (hGi.cng.block bp lp np)).trans hcp
      have lbp : bp < wr.heap.size := Nat.lt_of_lt_of_le lp hGi.cng.size
      obtain ⟨hd', hhd⟩ := hTi.hand (thD_at hdi)
      have BD := hTi.blk d _ hd' (thD_at hdi) hhd
      have MD := hTi.map d _ hd' (thD_at hdi) hhd hki
      have had := adr_at hhd
      rw [had]
      have hmo : mapOf (thD ths2 d) hd' = some hd'.m := if_pos hki
      obtain ⟨D, hD⟩ : ∃ x, x = thD ths2 d := ⟨_, rfl⟩
      rw [← hD] at BD MD hmo hki
      rw [hmo] at BD
      have x2 := BD.cell 2; have x10 := BD.cell 10; have lD := BD.lt
      unfold thCells at x2 x10
      simp only [List.getElem?_toArray, List.getElem?_cons_succ, List.getElem?_cons_zero] at x2 x10
      have HTi := Lib.hid hTi; have HRi := Lib.hid hRi; have HGi := Lib.hid hGi; have HKi := Lib.hid hki; have HBD := Lib.hid BD; have HMD := Lib.hid MD; have HDR := Lib.hid hdrop; have HHD := Lib.hid hhd; have HD := Lib.hid hD; have HAD := Lib.hid had; have HMO := Lib.hid hmo
      clear hTi hRi hGi hki BD MD hdrop hhd hD had hmo hMp hcp lp np
      go_wp2_with fail
      refine (thingLets wr HBD.out rfl).mono ?_
      rintro e w' ⟨rfl, rfl⟩
      have hlb : (Go.bits .and .i64 D.mode 64 == 64) = letsB D 64 := rfl
      rw [hlb]
      clear hlb
      cases hv : letsB D 64 with
      | false =>
        have hend : R = (ths2, 175, 0) := by rw [HRi.out, HDR.out]; unfold wayF; rw [if_neg (by rw [← HD.out, hv]; decide)]
        have HEND := Lib.hid hend
        clear hv hend
        go_wp2_with fail
        go_ret2
        exact way_err HEND.out (by decide) HTi.out HGi.out
      | true =>
        have HV := Lib.hid hv
        clear hv
        cases hg : getKv D.ins p with
        | none =>
          have hga : getKv (insA (hs ++ hs2) D.ins) p = none := by rw [insA_get, hg]; rfl
          have HG := Lib.hid hg; have HGA := Lib.hid hga
          clear hg hga
          by_cases hm0 : mode < 0
          · have hend : R = (ths2, 170, 0) := by rw [HRi.out, HDR.out]; unfold wayF; rw [if_pos (by rw [← HD.out, HV.out]), ← HD.out, HG.out]; exact if_pos hm0
            have HEND := Lib.hid hend
            clear hend
            go_wp2_with (refine wpList_lookup_kv0 rfl (.tmp 28) (.tmp 29) _ rfl (K := kN) (cv := cPt) und_in HMD.out p (z := .pointer none) (Tryz.zeroValue143 _) rfl rfl ?_
                         rw [HGA.out]
                         dsimp only [Option.map, Option.getD])
            go_ret2
            exact way_err HEND.out (by decide) HTi.out HGi.out
          · go_wp2_with (refine wpList_lookup_kv0 rfl (.tmp 28) (.tmp 29) _ rfl (K := kN) (cv := cPt) und_in HMD.out p (z := .pointer none) (Tryz.zeroValue143 _) rfl rfl ?_
                         rw [HGA.out]
                         dsimp only [Option.map, Option.getD])
            refine (thingLets w' HBD.out rfl).mono ?_
            rintro e w'' ⟨rfl, rfl⟩
            have hlb : (Go.bits .and .i64 D.mode 192 == 192) = letsB D 192 := rfl
            rw [hlb]
            clear hlb
            cases hv : letsB D 192 with
            | false =>
              have hend : R = (ths2, 175, 0) := by
                rw [HRi.out, HDR.out]
                unfold wayF
                rw [if_pos (by rw [← HD.out, HV.out]), ← HD.out, HG.out]
                show (if mode < 0 then _ else if _ then _ else _) = _
                rw [if_neg (by omega), if_neg (by rw [hv]; decide)]
              have HEND := Lib.hid hend
              clear hv hend
              go_wp2_with fail
              go_ret2
              exact way_err HEND.out (by decide) HTi.out HGi.out
            | true =>
              have hst : R = wayF now mode (ps.drop (i + 1)) (putT now (ths2 ++ [dirD mode now]) d p ths2.length) ths2.length := by
                rw [HRi.out, HDR.out]
                conv => lhs; unfold wayF
                rw [if_pos (by rw [← HD.out, HV.out]), ← HD.out, HG.out]
                show (if mode < 0 then _ else if _ then _ else _) = _
                rw [if_neg (by omega), if_pos (by rw [hv])]
              have HST := Lib.hid hst
              clear hv hst
              have BF := Lib.hid (show Blk w'' f 147 (foldC (adr hs r) o now) from (HGi.out.cng.block f lf hfn).trans HF.out)
              have y1 := BF.out.cell 1; have y2 := BF.out.cell 2
              unfold foldC at y1 y2
              simp only [List.getElem?_toArray, List.getElem?_cons_succ, List.getElem?_cons_zero] at y1 y2
              have hff := BF.out.lt
              go_wp2_with fail
              refine (newDir mode now.sec now.nano w'').mono ?_
              rintro e w3 ⟨t, m, rfl, ht, hm, hb3, bt, mt⟩
              have BF3 := Lib.hid (BF.out.below hb3 BF.out.lt)
              have BD3 := Lib.hid (HBD.out.below hb3 HBD.out.lt)
              have MD3 := Lib.hid (HMD.out.of_block (hb3.block _ HMD.out.lt))
              have hT3 : TreeAt w3 B (hs ++ (hs2 ++ [⟨t, m, .slice none 0 0⟩])) (ths2 ++ [dirD mode now]) := by
                rw [← List.append_assoc]
                refine (HTi.out.below hb3).push (h := ⟨t, m, .slice none 0 0⟩) bt (fun _ => mt) (.inr (.inl rfl)) ⟨fun h => absurd rfl h, (fun p hp => by cases hp)⟩ (fun j s k e1 e2 => ⟨?_, fun e3 => ?_⟩) ⟨?_, ?_⟩
                · have := (HTi.out.blk j s k e1 e2).lt; show k.a ≠ t; omega
                · have := (HTi.out.map j s k e1 e2 e3).lt; show k.m ≠ m; omega
                · exact Nat.le_trans HB.out (Nat.le_trans HGi.out.cng.size ht)
                · exact Nat.le_trans HB.out (Nat.le_trans HGi.out.cng.size hm)
              have HT3 := Lib.hid hT3
              have HG3 : Hid (Grew w w3 hs (hs2 ++ [⟨t, m, .slice none 0 0⟩]) ths (ths2 ++ [dirD mode now])) := Lib.hid ⟨fun h hh => by
                rcases List.mem_append.1 hh with hh | hh
                · exact HGi.out.new h hh
                · obtain rfl := List.mem_singleton.1 hh
                  exact ⟨Nat.le_trans HGi.out.cng.size ht, Nat.le_trans HGi.out.cng.size hm⟩, HGi.out.cng.trans (Cng.of_below hb3), by rw [List.length_append]; have := HGi.out.len; omega, fun j hj => by rw [thD_app (Nat.lt_of_lt_of_le hj HGi.out.len)]; exact HGi.out.kinds j hj,
                fun j hj => by rw [thD_app (Nat.lt_of_lt_of_le hj HGi.out.len)]; exact HGi.out.dold j hj,
                fun j hj hj2 => by
                  by_cases hj3 : j < ths2.length
                  · rw [thD_app hj3]; exact HGi.out.dnew j hj hj3
                  · have : j = ths2.length := by rw [List.length_append] at hj2; simp at hj2; omega
                    rw [this, thD_new]; rfl,
                fun h hh => by
                  rcases List.mem_append.1 hh with hh | hh
                  · exact HGi.out.vnew h hh
                  · rw [List.mem_singleton.1 hh]⟩
              clear bt mt hb3 hT3
              go_wp2_with fail
              refine (thingPut (x := t) w3 BF3.out BD3.out MD3.out rfl rfl rfl rfl).mono ?_
              rintro e w4 ⟨rfl, hc4, b4, m4⟩
              have hdl : d < (ths2 ++ [dirD mode now]).length := by rw [List.length_append]; omega
              have hDd : thD (ths2 ++ [dirD mode now]) d = D := by rw [thD_app hdi]; exact HD.out.symm
              have hhd3 : (hs ++ (hs2 ++ [(⟨t, m, .slice none 0 0⟩ : Hn)]))[d]? = some hd' := by
                rw [← List.append_assoc, List.getElem?_append_left (List.getElem?_eq_some_iff.1 HHD.out).1]; exact HHD.out
              have hat : adr (hs ++ (hs2 ++ [(⟨t, m, .slice none 0 0⟩ : Hn)])) ths2.length = t := by
                rw [← List.append_assoc]
                refine adr_at (h := ⟨t, m, .slice none 0 0⟩) ?_
                rw [List.getElem?_append_right (by rw [HTi.out.len]; exact Nat.le_refl _), HTi.out.len, Nat.sub_self]; rfl
              have hT4 : TreeAt w4 B (hs ++ (hs2 ++ [⟨t, m, .slice none 0 0⟩])) (putT now (ths2 ++ [dirD mode now]) d p ths2.length) := by
                refine HT3.out.put hdl (by rw [hDd]; exact HKi.out) hhd3 (by rw [List.length_append]; exact Nat.lt_succ_self _) hc4 (by rw [hDd, HMO.out]; exact b4) ?_
                rw [hDd, hat, ← List.append_assoc, insA_app (fun q hq => by rw [HTi.out.len]; rw [HD.out] at hq; exact (HTi.out.ok d _ (thD_at hdi)).2.2 q hq)]
                exact m4
              have hG4 : Grew w w4 hs (hs2 ++ [⟨t, m, .slice none 0 0⟩]) ths (putT now (ths2 ++ [dirD mode now]) d p ths2.length) :=
                ⟨HG3.out.new, HG3.out.write hlen hhd3 (by rw [hDd]; exact HKi.out) hc4, by unfold putT; rw [List.length_set]; exact HG3.out.len, fun j hj => by
                  unfold putT
                  rw [thD_set hdl]
                  by_cases hjd : j = d
                  · rw [if_pos hjd, hjd]; rw [hjd] at hj; exact HG3.out.kinds d hj
                  · rw [if_neg hjd]; exact HG3.out.kinds j hj, fun j hj => by
                  unfold putT
                  rw [thD_set hdl]
                  by_cases hjd : j = d
                  · rw [if_pos hjd, hjd]; rw [hjd] at hj; exact HG3.out.dold d hj
                  · rw [if_neg hjd]; exact HG3.out.dold j hj, fun j hj hj2 => by
                  unfold putT at hj2 ⊢
                  rw [List.length_set] at hj2
                  rw [thD_set hdl]
                  by_cases hjd : j = d
                  · rw [if_pos hjd]; rw [hjd] at hj; exact HG3.out.dnew d hj hdl
                  · rw [if_neg hjd]; exact HG3.out.dnew j hj hj2, HG3.out.vnew⟩
              have hll : (putT now (ths2 ++ [dirD mode now]) d p ths2.length).length = ths2.length + 1 := by unfold putT; rw [List.length_set, List.length_append]; rfl
              have hkl : (thD (putT now (ths2 ++ [dirD mode now]) d p ths2.length) ths2.length).kind = 2 := by
                unfold putT
                rw [thD_set hdl, if_neg (by omega), thD_new]; rfl
              have HT4 := Lib.hid hT4; have HG4 := Lib.hid hG4; have HLL := Lib.hid hll; have HKL := Lib.hid hkl; have HAT := Lib.hid hat
              clear hc4 b4 m4 hT4 hG4 hDd hhd3 hat hll hkl hdl HT3 HG3
              go_wp2_with fail
              go_roundw
              case rel =>
                exact ⟨i + 1, ths2.length, _, hs2 ++ [⟨t, m, .slice none 0 0⟩], by omega, by go_num, by rw [HAT.out], HST.out, HT4.out, by rw [HLL.out]; exact Nat.lt_succ_self _, HKL.out, HG4.out⟩
              case measure => simp [intOf]; omega
        | some x =>
          obtain ⟨hx', hhx⟩ : ∃ h, (hs ++ hs2)[x]? = some h := HTi.out.hand (thD_at ((HTi.out.ok d _ (thD_at hdi)).2.2 _ (by rw [← HD.out]; exact get_mem hg)))
          have hxl : x < ths2.length := (HTi.out.ok d _ (thD_at hdi)).2.2 _ (by rw [← HD.out]; exact get_mem hg)
          have BX := HTi.out.blk x _ hx' (thD_at hxl) hhx
          have x1 := BX.cell 1; have lX := BX.lt
          unfold thCells at x1
          simp only [List.getElem?_toArray, List.getElem?_cons_succ, List.getElem?_cons_zero] at x1
          have hkx := (HTi.out.ok x _ (thD_at hxl)).1
          have hga : getKv (insA (hs ++ hs2) D.ins) p = some hx'.a := by rw [insA_get, hg]; exact congrArg some (adr_at hhx)
          have hst : R = if (thD ths2 x).kind = 3 then (ths2, 174, 0) else if (thD ths2 x).kind = 1 then (ths2, 173, 0) else wayF now mode (ps.drop (i + 1)) ths2 x := by
            rw [HRi.out, HDR.out]
            conv => lhs; unfold wayF
            rw [if_pos (by rw [← HD.out, HV.out]), ← HD.out, hg]
          have HG := Lib.hid hg; have HGA := Lib.hid hga; have HST := Lib.hid hst; have HHX := Lib.hid hhx
          clear hg hga hst hhx BX
          obtain ⟨kx, hkxe⟩ : ∃ y, y = (thD ths2 x).kind := ⟨_, rfl⟩
          rw [← hkxe] at x1 hkx
          have HKX := Lib.hid hkxe
          clear hkxe
          rcases hkx with rfl | rfl | rfl
          · have hend : R = (ths2, 173, 0) := by rw [HST.out, ← HKX.out]; rfl
            have HEND := Lib.hid hend
            clear hend
            go_wp2_with (refine wpList_lookup_kv0 rfl (.tmp 28) (.tmp 29) _ rfl (K := kN) (cv := cPt) und_in HMD.out p (z := .pointer none) (Tryz.zeroValue143 _) rfl rfl ?_
                         rw [HGA.out]
                         dsimp only [Option.map, Option.getD, cPt])
            go_ret2
            exact way_err HEND.out (by decide) HTi.out HGi.out
          · have hnx : R = wayF now mode (ps.drop (i + 1)) ths2 x := by rw [HST.out, ← HKX.out]; rfl
            have HNX := Lib.hid hnx
            clear hnx
            go_wp2_with (refine wpList_lookup_kv0 rfl (.tmp 28) (.tmp 29) _ rfl (K := kN) (cv := cPt) und_in HMD.out p (z := .pointer none) (Tryz.zeroValue143 _) rfl rfl ?_
                         rw [HGA.out]
                         dsimp only [Option.map, Option.getD, cPt])
            go_roundw
            case rel =>
              exact ⟨i + 1, x, ths2, hs2, by omega, by go_num, by rw [adr_at HHX.out], HNX.out, HTi.out, hxl, HKX.out.symm, HGi.out⟩
            case measure => simp [intOf]; omega
          · have hend : R = (ths2, 174, 0) := by rw [HST.out, ← HKX.out]; rfl
            have HEND := Lib.hid hend
            clear hend
            go_wp2_with (refine wpList_lookup_kv0 rfl (.tmp 28) (.tmp 29) _ rfl (K := kN) (cv := cPt) und_in HMD.out p (z := .pointer none) (Tryz.zeroValue143 _) rfl rfl ?_
                         rw [HGA.out]
                         dsimp only [Option.map, Option.getD, cPt])
            go_ret2
            exact way_err HEND.out (by decide) HTi.out HGi.out
    · have hin : i = n := by omega
      subst hin
      have hnil : ps.drop i = [] := by rw [List.drop_eq_nil_iff, HP.out.1]; exact Nat.le_refl _
      rw [hnil] at hRi
      have HTi := Lib.hid hTi; have HRi := Lib.hid hRi; have HGi := Lib.hid hGi; have HKi := Lib.hid hki
      clear hTi hRi hGi hki hnil
      go_wp2_with fail
      go_ret2
      refine ⟨hs2, ?_, ?_, .inl ⟨?_, ?_, ?_, ?_⟩⟩ <;> rw [HRi.out]
      · exact HTi.out
      · exact HGi.out
      · rfl
      · rfl
      · exact hdi
      · exact HKi.out
end Go.Proofs.YtfhfcipelgogjaaGreatDoor
namespace Go.Proofs.YtfhfcipelgogjaaGreatDoor
open Go.RowKit
attribute [local go_sem] cell?_over frozen?_over lt_over le_over
structure JobD where
 kind:Int
 parts:List ByteArray
 from_:List ByteArray
 text:ByteArray
 data:List UInt8
 mode:Int
 uid:Int
 gid:Int
 mtime:TimeD
 dirMode:Int
 replace:Int
 keepIds:Bool
 deriving Inhabited
def jobC (j:JobD) (vp vf vd:Value):Array Value:=#[.int .i64 j.kind,vp,vf,.string j.text,vd,.int .i64 j.mode,.int .i64 j.uid,.int .i64 j.gid,.int .i64 j.mtime.sec,.int .i64 j.mtime.nano,.int .i64 j.dirMode,.int .i64 j.replace,.bool j.keepIds]
def freshD (now:TimeD) (j:JobD):ThD:=
 if j.kind=2 then dirD 448 now else if j.kind=3 then ⟨3,511,0,0,now,[],j.text,[]⟩ else ⟨1,j.mode,if j.keepIds then j.uid else 0,if j.keepIds then j.gid else 0,j.mtime,j.data,⟨#[]⟩,[]⟩
theorem wp_region_tail_at {P:Program} {id:Nat} {Q:Exit→Act→World→Prop} {a:Act} {w:World} {l:List Oper} (F:World→Prop) (hF:F w.drew) (n:Nat) (hm:P.follows .mixedOrders=true) (hB:Region.lexTailB .any l.toArray n=true)
  (h:∀ u,F u→wpStill P l.toArray u (fun a'=>wpList P l.toArray Q (l.drop n) a' u) (l.take n) a):(Code.region id l.toArray true).wp P Q a w:=
 wp_region_still_tail n hm hB (h w.drew hF)
theorem freshD_ins (now:TimeD) (j:JobD):(freshD now j).ins=[]:=by
 unfold freshD dirD; split
 ·rfl
 ·split <;> rfl
theorem freshD_kind (now:TimeD) (j:JobD):(freshD now j).kind=1∨(freshD now j).kind=2∨(freshD now j).kind=3:=by
 unfold freshD dirD; split
 ·exact .inr (.inl rfl)
 ·split
  ·exact .inr (.inr rfl)
  ·exact .inl rfl
def FreshEnd (now:TimeD) (j:JobD) (vd:Value) (w:World) (e:Ending) (w':World):Prop:=
 ∃ h:Hn,e=.returned (.pointer (some ⟨h.a,0,none⟩))∧w.heap.size≤h.a∧w.heap.size≤h.m∧Below w.heap.size w w'∧Blk w' h.a 203 (thCells (freshD now j) h.dv (mapOf (freshD now j) h))∧((freshD now j).kind=2→IsMap kN cPt w' h.m ([]:List (ByteArray×Nat)))∧((h.dv=vd∧(freshD now j).data=j.data)∨((freshD now j).data=[]∧h.dv=.slice none 0 0))
theorem foldFresh {f r o:Nat} {now:TimeD} {j:JobD} {vp vf vd:Value} (w:World) (hf:Blk w f 147 (foldC r o now)) (hp:∃ A n c,vp=.slice A n c) (hv:∃ A n c,vd=.slice A n c) (hw:∃ A n c,vf=.slice A n c) :
  Calls Tryz.prog 170 #[.pointer (some ⟨f,0,none⟩),.agg (jobC j vp vf vd)] w (FreshEnd now j vd w):=by
 have HF:=Lib.hid hf
 have lf:=hf.lt; have f0:=hf.cell 0; have f1:=hf.cell 1; have f2:=hf.cell 2
 unfold foldC at f0 f1 f2
 simp only [List.getElem?_toArray,List.getElem?_cons_succ,List.getElem?_cons_zero] at f0 f1 f2
 obtain ⟨Ap,np,cp,rfl⟩:=hp
 obtain ⟨Ad,nd,cd,rfl⟩:=hv
 obtain ⟨Af,nf,cf,rfl⟩:=hw
 clear hf
 by_cases hk2:j.kind=2
 ·have hD:freshD now j=dirD 448 now:=if_pos hk2
  have HD:=Lib.hid hD
  clear hD
  unfold jobC
  rw [hk2]
  go_enter Tryz.func170,Tryz.ntmps170
  go_wp2_with fail
  refine (newDir 448 now.sec now.nano _).mono ?_
  rintro e w3 ⟨t,m,rfl,ht,hm,hb3,bt,mt⟩
  simp at ht hm
  have hbw:=(below_alloc' w (.cells #[.int .i64 2,.slice Ap np cp,.slice Af nf cf,.string j.text,.slice Ad nd cd,.int .i64 j.mode,.int .i64 j.uid,.int .i64 j.gid,.int .i64 j.mtime.sec,.int .i64 j.mtime.nano,.int .i64 j.dirMode,.int .i64 j.replace,.bool j.keepIds] 207)).trans (hb3.mono (by simp))
  have HBW:=Lib.hid hbw; have HBT:=Lib.hid bt; have HMT:=Lib.hid mt
  clear hbw bt mt hb3
  go_wp2_with fail
  go_ret
  refine ⟨⟨t,m,.slice none 0 0⟩,rfl,by show _≤t; omega,by show _≤m; omega,HBW.out,?_,fun _=>HMT.out,.inr ⟨by rw [HD.out]; rfl,rfl⟩⟩
  rw [HD.out]
  exact HBT.out
 ·by_cases hk3:j.kind=3
  ·have hD:freshD now j=⟨3,511,0,0,now,[],j.text,[]⟩:=by unfold freshD; rw [if_neg hk2,if_pos hk3]
   have HD:=Lib.hid hD
   clear hD
   unfold jobC
   rw [hk3]
   go_enter Tryz.func170,Tryz.ntmps170
   go_wp2_with fail
   obtain ⟨w1,hw1⟩:∃ x,x=w.alloc (.cells #[.int .i64 3,.slice Ap np cp,.slice Af nf cf,.string j.text,.slice Ad nd cd,.int .i64 j.mode,.int .i64 j.uid,.int .i64 j.gid,.int .i64 j.mtime.sec,.int .i64 j.mtime.nano,.int .i64 j.dirMode,.int .i64 j.replace,.bool j.keepIds] 207):=⟨_,rfl⟩
   rw [← hw1]
   have b1:Blk w1 w.heap.size 207 #[.int .i64 3,.slice Ap np cp,.slice Af nf cf,.string j.text,.slice Ad nd cd,.int .i64 j.mode,.int .i64 j.uid,.int .i64 j.gid,.int .i64 j.mtime.sec,.int .i64 j.mtime.nano,.int .i64 j.dirMode,.int .i64 j.replace,.bool j.keepIds]:=by rw [hw1]; exact Blk.new w _ _
   have hs1:w1.heap.size=w.heap.size+1:=by rw [hw1]; simp
   have hbw1:Below w.heap.size w w1:=by rw [hw1]; exact below_alloc' _ _
   have BF1:=HF.out.below hbw1 HF.out.lt
   clear hw1
   refine wp_region_tail_at (fun u=>Blk u w.heap.size 207 #[.int .i64 3,.slice Ap np cp,.slice Af nf cf,.string j.text,.slice Ad nd cd,.int .i64 j.mode,.int .i64 j.uid,.int .i64 j.gid,.int .i64 j.mtime.sec,.int .i64 j.mtime.nano,.int .i64 j.dirMode,.int .i64 j.replace,.bool j.keepIds]∧Blk u f 147 (foldC r o now)∧u.heap.size=w.heap.size+1∧Below w.heap.size w u) ⟨b1.drew,BF1.drew,hs1,hbw1.drew⟩ 8 (by kernel_rfl) (by kernel_rfl) ?_
   rintro u ⟨bu,bfu,hsu,hbu⟩
   have k3:=bu.cell 3; have f1:=bfu.cell 1; have f2:=bfu.cell 2; have lu:=bu.lt; have lfu:=bfu.lt
   unfold foldC at f1 f2
   simp only [List.getElem?_toArray,List.getElem?_cons_succ,List.getElem?_cons_zero] at f1 f2 k3
   have HBU:=Lib.hid hbu; have HSU:=Lib.hid hsu
   clear b1 bu bfu hbu hbw1 BF1
   simp only [List.take_succ_cons,List.take_zero,List.drop_succ_cons,List.drop_zero]
   repeat still_step
   refine wpStill_nil ?_
   go_wp2_with fail
   go_ret
   refine ⟨⟨w.heap.size+1,w.heap.size+1,.slice none 0 0⟩,rfl,by show _≤w.heap.size+1; omega,by show _≤w.heap.size+1; omega,HBU.out.trans ((below_alloc' _ _).mono (by rw [HSU.out]; omega)),?_,(fun h=>by rw [HD.out] at h; cases h),.inr ⟨by rw [HD.out],rfl⟩⟩
   rw [HD.out]
   exact Blk.new' HSU.out.symm
  ·have hb2:(j.kind == 2)=false:=by simpa using hk2
   have hb3:(j.kind == 3)=false:=by simpa using hk3
   cases hki:j.keepIds with
   | false =>
    have hD:freshD now j=⟨1,j.mode,0,0,j.mtime,j.data,⟨#[]⟩,[]⟩:=by unfold freshD; rw [if_neg hk2,if_neg hk3,hki]; rfl
    unfold jobC
    go_enter Tryz.func170,Tryz.ntmps170
    go_wp2_with fail
    go_ret
    refine ⟨⟨w.heap.size+1,w.heap.size+1,.slice Ad nd cd⟩,rfl,by show _≤w.heap.size+1; omega,by show _≤w.heap.size+1; omega,?_,?_,(fun h=>by rw [hD] at h; cases h),.inl ⟨rfl,by rw [hD]⟩⟩
    ·exact (below_alloc' _ _).trans ((below_alloc' _ _).mono (by simp))
    ·rw [hD]; exact Blk.new' (by simp)
   | true =>
    have hD:freshD now j=⟨1,j.mode,j.uid,j.gid,j.mtime,j.data,⟨#[]⟩,[]⟩:=by unfold freshD; rw [if_neg hk2,if_neg hk3,hki]; rfl
    unfold jobC
    go_enter Tryz.func170,Tryz.ntmps170
    go_wp2_with fail
    have k6:((w.alloc (.cells #[.int .i64 j.kind,.slice Ap np cp,.slice Af nf cf,.string j.text,.slice Ad nd cd,.int .i64 j.mode,.int .i64 j.uid,.int .i64 j.gid,.int .i64 j.mtime.sec,.int .i64 j.mtime.nano,.int .i64 j.dirMode,.int .i64 j.replace,.bool true] 207))).cell? ⟨w.heap.size,6,none⟩=some (.int .i64 j.uid):=(Blk.new w _ _).cell 6
    go_region_held3 (fun w'=>w'.cell? ⟨w.heap.size,6,none⟩=some (.int .i64 j.uid)∧w'.cell? ⟨w.heap.size,7,none⟩=some (.int .i64 j.gid)) (first | assumption | (refine ⟨?_,?_⟩ <;> go_simp)) (fail)
    all_goals go_wp2_with fail
    go_ret
    refine ⟨⟨w.heap.size+1,w.heap.size+1,.slice Ad nd cd⟩,rfl,by show _≤w.heap.size+1; omega,by show _≤w.heap.size+1; omega,?_,?_,(fun h=>by rw [hD] at h; cases h),.inl ⟨rfl,by rw [hD]⟩⟩
    ·exact ((below_alloc' _ _).trans ((below_alloc' _ _).mono (by simp))).drew
    ·rw [hD]; exact (Blk.new' (by simp)).drew
end Go.Proofs.YtfhfcipelgogjaaGreatDoor
