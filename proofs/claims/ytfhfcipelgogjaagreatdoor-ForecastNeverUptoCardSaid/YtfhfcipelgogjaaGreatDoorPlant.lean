/- graph.Plant: a graph of lines. No condition but room. -/
import Derived.Test.YtfhfcipelgogjaaGreatDoorPLawAll
import Derived.Test.YtfhfcipelgogjaaGreatDoorOwnAll
import Derived.Test.YtfhfcipelgogjaaGreatDoorRegAll
import Derived.Test.YtfhfcipelgogjaaGreatDoorPlanAll
import Derived.Test.YtfhfcipelgogjaaGreatDoorGtree
import Derived.Test.YtfhfcipelgogjaaGreatDoorSameAll
import Derived.Test.YtfhfcipelgogjaaGreatDoorCopyG
set_option linter.unusedSectionVars false
set_option linter.unusedVariables false
set_option linter.unusedSimpArgs false
set_option maxHeartbeats 4000000
set_option maxRecDepth 100000
namespace Go.Proofs.YtfhfcipelgogjaaGreatDoor
open Go.RowKit
attribute [local go_sem] cell?_over frozen?_over lt_over le_over
def kT:KeyKind Tryz.prog ByteArray:=strKind (ty:=9) Tryz.underlying9
theorem und_ids:Tryz.prog.underlying 97=some (.map kT.ty 3):=Tryz.underlying97
theorem lastSl_lt:∀ (l:List UInt8) (k:Nat),lastSl l=some k→k<l.length
 | [],k,h=>by cases h
 | b :: r,k,h=>by
  unfold lastSl at h
  cases hr:lastSl r with
  | none =>
   rw [hr] at h
   simp only at h
   split at h
   ·injection h with h; subst h; simp
   ·cases h
  | some j =>
   rw [hr] at h
   injection h with h
   have:=lastSl_lt r j hr
   rw [List.length_cons]; omega
def EntOk (i:Nat) (ns:List NodeD):Prop:=∀ x∈ns,x.data.length≤1000000000∧x.ents.length≤i∧∀ e∈x.ents,e.name.size≤100000000
structure PlInv (w:World) (br bg bm B:Nat) (ps:PSt) (i:Nat) (wr:World):Prop where
 below:Below w.heap.size w wr
 res:Blk wr br 24 #[.slice none 0 0]
 gr:∃ gv xs,Blk wr bg 24 #[gv]∧NodesAt wr B gv xs∧xs.map (·.d)=ps.nodes
 map:IsMap kT cI wr bm ps.ids
 cnt:ps.nodes.length≤i
 pos:0<i→0<ps.nodes.length
 ent:EntOk i ps.nodes
 ids:∀ p∈ps.ids,1≤p.2∧p.2≤ps.nodes.length
def SmallP (ls:List LineD):Prop:=∀ d∈ls,d.data.length≤1000000000∧d.path.size≤100000000
def PlantEnd (ls:List LineD) (w:World) (e:Ending) (w':World):Prop:=
 Below w.heap.size w w'∧((∃ ps A n c,plantL 0 ls ⟨[],[]⟩=some ps∧e=.returned (.tuple #[.agg #[.slice A n c],.int .i64 0])∧Row Shape.NodeD w' (From w.heap.size w') A n ps.nodes∧SmallG ps.nodes∧n≤1000000000∧∃ i st,RootG ps.nodes 1 i∧tree0 ps.nodes i=(st,true)∧st.out=ls) ∨
  (e=.returned (.tuple #[.agg #[.slice none 0 0],.int .i64 151])∧∀ ps,plantL 0 ls ⟨[],[]⟩=some ps→NoRootG ps.nodes 1∨∃ i,RootG ps.nodes 1 i∧¬ (tree0 ps.nodes i=(⟨ls,(tree0 ps.nodes i).1.first,(tree0 ps.nodes i).1.bytes⟩,true))))
def madeData (l:List UInt8) (n:Nat):Made:=⟨Option Addr×Nat,(none,0),fun x=>.slice x.1 l.length x.2,fun x W=>l.length≤x.2∧x.2≤maxLen∧Row Shape.byte W (fun b=>n≤b∧b<W.heap.size) x.1 l.length l⟩
theorem data_stays (l:List UInt8) (n:Nat):∀ x W W',Gr W W'→(madeData l n).Fact x W→(madeData l n).Fact x W':=fun x W W' h k =>
 ⟨k.1,k.2.1,(k.2.2.keep ((Keeps.of_below h).mono fun b hb=>hb.2)).more fun b hb=>⟨hb.1,Nat.lt_of_lt_of_le hb.2 h.size⟩⟩
theorem data_of_own {e:TypeId} {w:World} {base n:Nat} {v:Value} {l:List UInt8} (h:Own Shape.byte e w base (fun _=>False) v l) (hn:n≤base):∃ x,v=(madeData l n).enc x∧(madeData l n).Fact x w:=by
 obtain ⟨A,m,c,rfl,h1,h2,hr⟩:=h.rd_from (B:=n) hn (fun _ h=>h.elim)
 have:=hr.1
 subst this
 exact ⟨(A,c),rfl,h1,h2,hr⟩
theorem enc_data (l:List UInt8) (n:Nat) (A:Option Addr) (c:Nat):(madeData l n).enc (A,c)=.slice A l.length c:=rfl
def madeNode (d:NodeD) (n:Nat):Made:=⟨Nat,0,fun g=>.slice (some ⟨g,0,none⟩) 1 1,fun g W=>∃ A c,Blk W g 79 (nodeCells d A d.data.length c (.slice none 0 0)).toArray∧d.data.length≤c∧c≤maxLen∧Row Shape.byte W (fun b=>n≤b∧b<W.heap.size) A d.data.length d.data∧n≤g⟩
theorem node_stays (d:NodeD) (n:Nat):∀ x W W',Gr W W'→(madeNode d n).Fact x W→(madeNode d n).Fact x W':=fun g W W' h k=>by
 obtain ⟨A,c,h1,h2,h3,h4,h5⟩:=k
 exact ⟨A,c,Blk.below (g:=g) h1 h h1.lt,h2,h3,(h4.keep ((Keeps.of_below h).mono fun b hb=>hb.2)).more fun b hb=>⟨hb.1,Nat.lt_of_lt_of_le hb.2 h.size⟩,h5⟩
theorem getKv_mem {κ β:Type} [DecidableEq κ] {kv:List (κ×β)} {k:κ} {v:β} (h:getKv kv k=some v):(k,v)∈kv:=by
 unfold getKv at h
 rw [Option.map_eq_some_iff] at h
 obtain ⟨p,hp,hp2⟩:=h
 have h3:=List.find?_some hp
 have h4:=List.mem_of_find?_eq_some hp
 rw [decide_eq_true_eq] at h3
 rw [← h3,← hp2]; exact h4
theorem parent_range {ids:List (ByteArray×Int)} {N:Nat} {p:ByteArray} (hids:∀ q∈ids,1≤q.2∧q.2≤N) (hN:0<N) (h0:¬ (parentOf ids p).1=0):1≤(parentOf ids p).1∧(parentOf ids p).1≤N:=by
 unfold parentOf at h0 ⊢
 split
 ·exact ⟨Int.le_refl _,by show (1:Int)≤N; omega⟩
 ·rename_i k hk
  rw [hk] at h0
  simp only at h0 ⊢
  cases hg:getKv ids (p.extract 0 k) with
  | none=>rw [hg] at h0; exact absurd rfl h0
  | some v=>exact hids _ (getKv_mem hg)
theorem parent_size (ids:List (ByteArray×Int)) (p:ByteArray):(parentOf ids p).2.size≤p.size:=by
 unfold parentOf
 split
 ·exact Nat.le_refl _
 ·show (p.extract _ _).size≤_
  rw [ByteArray.size_extract]; omega
theorem newId_range {ps:PSt} {d:LineD} (hids:∀ q∈ps.ids,1≤q.2∧q.2≤ps.nodes.length) (h0:¬ newId ps d=0):1≤newId ps d∧newId ps d≤(nodes1 ps d).length∧ps.nodes.length≤(nodes1 ps d).length∧(nodes1 ps d).length≤ps.nodes.length+1:=by
 unfold newId nodes1 at *
 by_cases hp:d.peer.size=0
 ·simp only [if_pos hp] at *
  rw [List.length_append]
  simp only [List.length_cons,List.length_nil]
  omega
 ·simp only [if_neg hp] at *
  cases hg:getKv ps.ids d.peer with
  | none=>rw [hg] at h0; exact absurd rfl h0
  | some v =>
   have:=hids _ (getKv_mem hg)
   exact ⟨this.1,this.2,Nat.le_refl _,Nat.le_succ _⟩
theorem addEnt_len (ns:List NodeD) (k:Nat) (e:EntD):(addEnt ns k e).length=ns.length:=by unfold addEnt; rw [List.length_modify]
theorem addEnt_mem {ns:List NodeD} {k:Nat} {e:EntD}:∀ x∈addEnt ns k e,∃ y∈ns,x.data=y.data∧(x.ents=y.ents∨x.ents=y.ents++[e]):=by
 intro x hx
 obtain ⟨j,hj⟩:=List.getElem?_of_mem hx
 unfold addEnt at hj
 rw [List.getElem?_modify] at hj
 cases hy:ns[j]? with
 | none=>rw [hy] at hj; simp at hj
 | some y =>
  rw [hy] at hj
  refine ⟨y,List.mem_of_getElem? hy,?_⟩
  by_cases hjk:k=j
  ·simp [hjk] at hj; subst hj; exact ⟨rfl,.inr rfl⟩
  ·simp [hjk] at hj; subst hj; exact ⟨rfl,.inl rfl⟩
theorem addEnt_set (xs:List NodeC) (m:Nat) (x:NodeC) (ev:Value) (e:EntD) (hx:xs[m]?=some x):(xs.set m ⟨{ x.d with ents:=x.d.ents++[e] },ev⟩).map (·.d)=addEnt (xs.map (·.d)) m e:=by
 apply List.ext_getElem?
 intro j
 unfold addEnt
 rw [List.getElem?_map,List.getElem?_modify,List.getElem?_set,List.getElem?_map]
 by_cases hj:m=j
 ·subst hj
  rw [if_pos rfl,if_pos (List.getElem?_eq_some_iff.1 hx).1,hx]
  simp
 ·simp [hj]
theorem putKv_mem {κ β:Type} [DecidableEq κ] {kv:List (κ×β)} {k:κ} {v:β}:∀ q∈putKv kv k v,q∈kv∨q.2=v:=by
 intro q hq
 unfold putKv at hq
 split at hq
 ·obtain ⟨x,hx,rfl⟩:=List.mem_map.1 hq
  split
  ·exact .inr rfl
  ·exact .inl hx
 ·rcases List.mem_append.1 hq with h | h
  ·exact .inl h
  ·simp only [List.mem_singleton] at h; subst h; exact .inr rfl
theorem plant1_keeps {ps ps':PSt} {d:LineD} {top:Bool} {i:Nat} (h:plant1 top ps d=some ps') (hcnt:ps.nodes.length≤i) (hent:EntOk i ps.nodes) (hids:∀ p∈ps.ids,1≤p.2∧p.2≤ps.nodes.length) (hd:d.data.length≤1000000000) (hp:d.path.size≤100000000) :
  ps'.nodes.length≤i+1∧0<ps'.nodes.length∧EntOk (i+1) ps'.nodes∧∀ p∈ps'.ids,1≤p.2∧p.2≤ps'.nodes.length:=by
 unfold plant1 at h
 split at h
 ·cases h
 ·rename_i hc
  have h0:¬ newId ps d=0:=fun e=>hc (.inr e)
  obtain ⟨a,b,c,c'⟩:=newId_range hids h0
  have hent1:∀ x∈nodes1 ps d,x.data.length≤1000000000∧x.ents.length≤i∧∀ e∈x.ents,e.name.size≤100000000:=by
   intro x hx
   unfold nodes1 at hx
   split at hx
   ·rcases List.mem_append.1 hx with hx | hx
    ·exact hent x hx
    ·simp only [List.mem_singleton] at hx
     subst hx
     exact ⟨hd,Nat.zero_le _,fun e he=>(by cases he)⟩
   ·exact hent x hx
  have hids1:∀ N,(nodes1 ps d).length≤N→∀ p∈putKv ps.ids d.path (newId ps d),1≤p.2∧p.2≤N:=fun N hN p hpm=>by
   rcases putKv_mem p hpm with h | h
   ·have:=hids p h; omega
   ·rw [h]; omega
  split at h
  ·injection h with h
   subst h
   exact ⟨by show (nodes1 ps d).length≤_; omega,by show 0<(nodes1 ps d).length; omega,fun x hx=>⟨(hent1 x hx).1,by have:=(hent1 x hx).2.1; omega,(hent1 x hx).2.2⟩,hids1 _ (Nat.le_refl _)⟩
  ·split at h
   ·cases h
   ·injection h with h
    subst h
    have hl:=addEnt_len (nodes1 ps d) ((parentOf ps.ids d.path).1 - 1).toNat ⟨(parentOf ps.ids d.path).2,newId ps d⟩
    refine ⟨by show (addEnt _ _ _).length≤_; omega,by show 0<(addEnt _ _ _).length; omega,fun x hx=>?_,hids1 _ (Nat.le_of_eq hl.symm)⟩
    obtain ⟨y,hy,e1,e2⟩:=addEnt_mem x hx
    obtain ⟨q1,q2,q3⟩:=hent1 y hy
    rw [e1]
    rcases e2 with e2 | e2 <;> rw [e2]
    ·exact ⟨q1,by omega,q3⟩
    ·refine ⟨q1,by rw [List.length_append]; simp; omega,fun e he=>?_⟩
     rcases List.mem_append.1 he with he | he
     ·exact q3 e he
     ·simp only [List.mem_singleton] at he
      subst he
      exact Nat.le_trans (parent_size _ _) hp
theorem own_flatE {w:World} {base:Nat} {M:Nat→Prop} {v:Value} {l:List EntD} (h:Own Shape.EntD 103 w base M v l):Own Shape.EntD 103 w base (fun _=>False) v l:=by
 obtain ⟨xs,h1,h2,_⟩:=h
 exact ⟨xs,h1,h2.flat flat_EntD,fun _ h=>h.elim⟩
theorem isSome_has {κ β:Type} [DecidableEq κ] {kv:List (κ×β)} {k:κ}:(getKv kv k).isSome=hasKv kv k:=by
 rw [Bool.eq_iff_iff,hasKv_iff,Option.isSome_iff_exists]
 constructor
 ·rintro ⟨v,hv⟩; exact get_has hv
 ·intro h
  obtain ⟨p,hp,he⟩:=List.mem_map.1 h
  unfold getKv
  cases hf:kv.find? fun q=>decide (q.1=k) with
  | none =>
   have:=List.find?_eq_none.1 hf p hp
   simp [he] at this
  | some q=>exact ⟨q.2,rfl⟩
theorem node_lengths {ps : PSt} {xs : List NodeC} (h : xs.map (·.d) = ps.nodes) : xs.length = ps.nodes.length := by rw [← h, List.length_map]
theorem graphPlant {A : Option Addr} {n c : Nat} {ls : List LineD} (w : World) (h : Row Shape.LineD w (Old w) A n ls) (hs : SmallP ls) (hn : n ≤ 1000000000) (hne : 0 < n) :
    Calls Tryz.prog 15 #[.slice A n c] w (PlantEnd ls w) := by
  have HL := Lib.hid h.1
  have H := Lib.hid h
  obtain ⟨R, hR⟩ : ∃ R, R = plantL 0 ls ⟨[], []⟩ := ⟨_, rfl⟩
  have HR := Lib.hid hR
  have HS := Lib.hid hs
  clear h hR hs
  have hmm := @run_makeMap Tryz.prog
  have hzi : ∀ w, (zeroValue 3).run Tryz.prog w = .ok (.int .i64 0) w := fun w => by kernel_rfl
  go_enter Tryz.func15, Tryz.ntmps15
  go_wp2_with fail
  obtain ⟨bm, hbm⟩ : ∃ x, x = w.heap.size + 1 + 1 := ⟨_, rfl⟩
  obtain ⟨bg, hbg⟩ : ∃ x, x = w.heap.size + 1 := ⟨_, rfl⟩
  obtain ⟨br, hbr⟩ : ∃ x, x = w.heap.size := ⟨_, rfl⟩
  rw [← hbm, ← hbg, ← hbr]
  have HBM := Lib.hid hbm; have HBG := Lib.hid hbg; have HBR := Lib.hid hbr
  clear hbm hbg hbr
  go_loopw [20] (fun v20 wr => ∃ (i : Nat) (ps : PSt), i ≤ n ∧ v20 = .int .i64 i ∧ R = plantL i (ls.drop i) ps ∧ PlInv w br bg bm (bm + 1) ps i wr) (fun v20 _ => n - (intOf v20).toNat)
  case atStart =>
    have e1 : (w.alloc (.cells #[.slice none 0 0] 24)).heap.size = bg := by rw [HBG.out]; simp
    have e2 : ((w.alloc (.cells #[.slice none 0 0] 24)).alloc (.cells #[.slice none 0 0] 24)).heap.size = bm := by rw [HBM.out]; simp
    have b1 := Blk.new w 24 #[.slice none 0 0]
    have b2 := Blk.new (w.alloc (.cells #[.slice none 0 0] 24)) 24 #[.slice none 0 0]
    have m3 := IsMap.new kT cI ((w.alloc (.cells #[.slice none 0 0] 24)).alloc (.cells #[.slice none 0 0] 24))
    rw [e1] at b2
    rw [e2] at m3
    rw [← HBR.out] at b1
    refine ⟨0, ⟨[], []⟩, Nat.zero_le _, rfl, HR.out, ⟨?_, (b1.alloc _).alloc _, ⟨.slice none 0 0, [], b2.alloc _, NodesAt.start _ _, rfl⟩, m3, Nat.le_refl _, fun h => absurd h (Nat.lt_irrefl _), fun x hx => (by cases hx), fun p hp => (by cases hp)⟩⟩
    exact (((below_alloc' _ _).trans ((below_alloc' _ _).mono (by simp))).trans ((below_alloc' _ _).mono (by simp; omega)))
  case round =>
    obtain ⟨i, ps, hi, rfl, hRi, hinv⟩ := hrel
    have HRi := Lib.hid hRi; have HI := Lib.hid hinv
    clear hRi hinv
    by_cases hlt : i < n
    · obtain ⟨b, off, es, hkl, rfl, hb, hc, hc0, hr⟩ := H.out.elem (Keeps.old HI.out.below) hlt
      obtain ⟨d, hd⟩ : ∃ d, d = ls[i] := ⟨_, rfl⟩
      rw [← hd] at hr
      have HD := Lib.hid hd
      have R0 := Lib.hid hr
      obtain ⟨A1, n1, c1, rfl, -⟩ := hr
      have e13 : Shape.LineD.size = 10 := rfl
      simp only [e13] at hc hc0
      clear e13 hd
      have hb2 := Nat.lt_of_lt_of_le hb HI.out.below.size
      have hks : (i : Int) < n := by omega
      obtain ⟨W1, hW1⟩ : ∃ x, x = wr.alloc (.cells #[.string d.path, .int .i64 d.kind, .int .i64 d.mode, .int .i64 d.uid, .int .i64 d.gid, .int .i64 d.mtime.sec, .int .i64 d.mtime.nano, .slice A1 n1 c1, .string d.target, .string d.peer] 60) := ⟨_, rfl⟩
      have M1 : Hid (IsMap kT cI W1 bm ps.ids) := Lib.hid (by rw [hW1]; exact HI.out.map.alloc _)
      obtain ⟨id0, hid0⟩ : ∃ x, x = (getKv ps.ids d.peer).getD 0 := ⟨_, rfl⟩
      have hlk : (Instr.lookup 97 (.map (some bm)) (.string d.peer) false).run Tryz.prog W1 = .ok (.int .i64 id0) W1 := by
        refine (run_lookup_kv0 und_ids M1.out d.peer (hzi W1)).trans ?_
        rw [hid0]
        cases getKv ps.ids d.peer <;> rfl
      have HID0 := Lib.hid hid0
      have HW1 := Lib.hid hW1
      rw [hW1] at hlk
      clear hid0 hW1
      go_upto_if 31 with (fail)
      rw [← HW1.out]
      obtain ⟨tl, htl⟩ : ∃ x, x = wr.heap.size := ⟨_, rfl⟩
      rw [← htl]
      have BT1 : Hid (Blk W1 tl 60 #[.string d.path, .int .i64 d.kind, .int .i64 d.mode, .int .i64 d.uid, .int .i64 d.gid, .int .i64 d.mtime.sec, .int .i64 d.mtime.nano, .slice A1 n1 c1, .string d.target, .string d.peer]) := Lib.hid (by rw [HW1.out, htl]; exact Blk.new _ _ _)
      have hbw1 : Below wr.heap.size wr W1 := by rw [HW1.out]; exact below_alloc' _ _
      have HB1 : Hid (Below w.heap.size w W1) := Lib.hid (HI.out.below.trans (hbw1.mono HI.out.below.size))
      have RES1 : Hid (Blk W1 br 24 #[.slice none 0 0]) := Lib.hid (HI.out.res.below hbw1 HI.out.res.lt)
      have R1 : Hid (LineD.rd W1 (Old wr) [.string d.path, .int .i64 d.kind, .int .i64 d.mode, .int .i64 d.uid, .int .i64 d.gid, .int .i64 d.mtime.sec, .int .i64 d.mtime.nano, .slice A1 n1 c1, .string d.target, .string d.peer] d) := Lib.hid (Shape.LineD.more (Shape.LineD.keep (Shape.LineD.more (M' := Old wr) R0.out fun _ hn => Old.below HI.out.below hn) hbw1.block) fun _ h => h)
      obtain ⟨gv, xs, bgv, hna, hxm⟩ := HI.out.gr
      have BG1 : Hid (Blk W1 bg 24 #[gv]) := Lib.hid (bgv.below hbw1 bgv.lt)
      have NA1 : Hid (NodesAt W1 (bm + 1) gv xs) := Lib.hid (hna.keep (row := none) (grownBy_of_below hbw1) (fun k e => by cases e))
      have HXM := Lib.hid hxm
      have LTB : Hid (br < bm ∧ bg < bm ∧ bm < tl) := Lib.hid ⟨by rw [HBR.out, HBM.out]; omega, by rw [HBG.out, HBM.out]; omega, by rw [htl]; exact HI.out.map.lt⟩
      have hx0 := node_lengths hxm
      have hcnt := HI.out.cnt
      obtain ⟨A3, n3, c3, hgv, hrow3⟩ : ∃ A3 n3 c3, gv = .slice A3 n3 c3 ∧ xs.length = n3 := by
        obtain ⟨M, ho, _⟩ := hna.own
        obtain ⟨A3, n3, c3, e, _, _, hr⟩ := ho.rd
        exact ⟨A3, n3, c3, e, hr.1⟩
      subst hgv
      have HN3 := Lib.hid hrow3
      have hn3 : n3 ≤ 1000000000 := by omega
      have t0 := BT1.out.cell 0; have t1 := BT1.out.cell 1; have t2 := BT1.out.cell 2; have t3 := BT1.out.cell 3; have t4 := BT1.out.cell 4; have t5 := BT1.out.cell 5; have t6 := BT1.out.cell 6; have t7 := BT1.out.cell 7; have t8 := BT1.out.cell 8; have t9 := BT1.out.cell 9
      have g0 := BG1.out.cell 0
      have ltl := BT1.out.lt; have lbg := BG1.out.lt; have lbr := RES1.out.lt
      simp only [List.getElem?_toArray, List.getElem?_cons_succ, List.getElem?_cons_zero] at t0 t1 t2 t3 t4 t5 t6 t7 t8 t9 g0
      have SZ1 : Hid (W1.heap.size = tl + 1) := Lib.hid (by rw [HW1.out, htl]; simp)
      clear hbw1 bgv hna hxm hx0 hcnt hrow3 hc hc0 hb hb2 hlk htl
      go_cut [8] (fun v8 wx => v8 = .int .i64 (newId ps d) ∧ Below w.heap.size w wx ∧ Blk wx br 24 #[.slice none 0 0] ∧ (∃ gv xs, Blk wx bg 24 #[gv] ∧ NodesAt wx (bm + 1) gv xs ∧ xs.map (·.d) = nodes1 ps d) ∧ IsMap kT cI wx bm ps.ids ∧ Blk wx tl 60 #[.string d.path, .int .i64 d.kind, .int .i64 d.mode, .int .i64 d.uid, .int .i64 d.gid, .int .i64 d.mtime.sec, .int .i64 d.mtime.nano, .slice A1 n1 c1, .string d.target, .string d.peer])
      case first =>
        cases hz : d.peer.toList.isEmpty with
        | false =>
          have hps : ¬ d.peer.size = 0 := by rw [isEmpty_size] at hz; simpa using hz
          have E1 : Hid (newId ps d = id0) := Lib.hid (by unfold newId; rw [if_neg hps, HID0.out])
          have E2 : Hid (nodes1 ps d = ps.nodes) := Lib.hid (by unfold nodes1; rw [if_neg hps])
          have HZ := Lib.hid hz
          clear hps
          go_wp2_with fail
          go_meet
          case rel =>
            exact ⟨by rw [E1.out], HB1.out, RES1.out, ⟨_, xs, BG1.out, NA1.out, by rw [E2.out]; exact HXM.out⟩, M1.out, BT1.out⟩
        | true =>
          have hps : d.peer.size = 0 := by rw [isEmpty_size] at hz; simpa using hz
          have hlen : ps.nodes.length = n3 := by rw [← HXM.out, List.length_map, HN3.out]
          have E1 : Hid (newId ps d = (n3 : Int) + 1) := Lib.hid (by unfold newId; rw [if_pos hps, hlen])
          have E2 : Hid (nodes1 ps d = ps.nodes ++ [nodeOf d ((n3 : Int) + 1)]) := Lib.hid (by unfold nodes1; rw [if_pos hps, hlen])
          have HZ := Lib.hid hz
          have hwr : IntKind.i64.wrap ((n3 : Int) + 1) = (n3 : Int) + 1 := by rw [IntKind.wrap_i64]; omega
          clear hps hlen
          go_wp2_with fail
          have SM := Lib.hid (HS.out d (by rw [HD.out]; exact List.getElem_mem hkl))
          have RW1 : Hid (Row Shape.byte W1 (Old wr) A1 n1 d.data) := Lib.hid (by
            obtain ⟨A, n, c, e, -, -, -, -, -, -, -, -, -, hrow, -⟩ := R1.out
            simp only [List.cons.injEq, Value.slice.injEq, and_true, true_and] at e
            obtain ⟨rfl, rfl, rfl⟩ := e
            exact hrow)
          have hn1 : n1 ≤ 1000000000 := by have := RW1.out.1; have := SM.out.1; omega
          refine wp_region_grow_tt [(15, madeData d.data W1.heap.size), (19, madeNode (nodeOf d ((n3 : Int) + 1)) W1.heap.size)] 20 22 _ _ rfl rfl (by kernel_rfl) [15, 19] rfl (by kernel_rfl) (stays_cons (data_stays _ _) (stays_cons (node_stays _ _) stays_nil)) ?_
          simp only [List.take_succ_cons, List.take_zero, List.drop_succ_cons, List.drop_zero]
          repeat (first
            | (refine g_w rfl ?_ (fun W => ?_) ?_; rotate_left; (focus (go_simp; (try with_reducible rfl); done)); simp only [Act.put, List.setIfInBounds_toArray, List.set_cons_zero, List.set_cons_succ])
            | (refine g_d rfl (by kernel_rfl) ?_ (fun δ => ?_) ?_; rotate_left; (focus (go_simp; (try with_reducible rfl); done)); simp only [Act.put, List.setIfInBounds_toArray, List.set_cons_zero, List.set_cons_succ]))
          refine g_call rfl 36 #[.slice A1 n1 c1] (fun W => ?_) (fun δ hF => ?_) (fun x => ?_)
          · go_simp; try (constructor <;> with_reducible rfl)
          · refine (cloneB (over W1 δ) ((RW1.out.keep ((Keeps.old_over W1 δ).mono fun n hn => ?_)).more fun n hn => ?_) hn1).mono ?_
            · have h1 := hn; have h2 := SZ1.out; have h3 := LTB.out; have h4 := HW1.out; show n < _; rw [h4]; simp; have : n < wr.heap.size := hn; omega
            · have h5 := size_over_le W1 δ; have h4 : n < wr.heap.size := hn; have h6 : wr.heap.size ≤ W1.heap.size := by rw [HW1.out]; simp
              show n < _; omega
            rintro e w' ⟨v, rfl, hown, hb⟩
            obtain ⟨x, rfl, hx⟩ := data_of_own hown (size_over_le W1 δ)
            exact ⟨x, rfl, hb, hx⟩
          obtain ⟨A5, c5⟩ := x
          simp only [Act.put, List.setIfInBounds_toArray, List.set_cons_zero, List.set_cons_succ, enc_data]
          repeat (first
            | (refine g_w rfl ?_ (fun W => ?_) ?_; rotate_left; (focus (go_simp; (try with_reducible rfl); done)); simp only [Act.put, List.setIfInBounds_toArray, List.set_cons_zero, List.set_cons_succ])
            | (refine g_d rfl (by kernel_rfl) ?_ (fun δ => ?_) ?_; rotate_left; (focus (go_simp; (try with_reducible rfl); done)); simp only [Act.put, List.setIfInBounds_toArray, List.set_cons_zero, List.set_cons_succ]))
          refine g_new rfl (fun δ hF => ?_) (fun gN => ?_)
          · have h15 : (madeData d.data W1.heap.size).Fact (A5, c5) (over W1 δ) := hF 15 (by kernel_rfl)
            obtain ⟨k1, k2, k3⟩ := h15
            refine ⟨(over W1 δ).heap.size, (over W1 δ).alloc (.cells #[.int .i64 ((n3 : Int) + 1), .int .i64 d.kind, .int .i64 d.mode, .int .i64 d.uid, .int .i64 d.gid, .int .i64 d.mtime.sec, .int .i64 d.mtime.nano, .slice A5 d.data.length c5, .string d.target, .slice none 0 0] 79), ?_, below_alloc' _ _, A5, c5, Blk.new _ _ _, k1, k2, ?_, size_over_le _ _⟩
            · clear hF
              go_simp; rfl
            · exact (k3.keep ((Keeps.old_alloc _ _).mono fun n hn => hn.2)).more fun n hn => ⟨hn.1, by have := hn.2; simp; omega⟩
          simp only [Act.put, List.setIfInBounds_toArray, List.set_cons_zero, List.set_cons_succ]
          refine g_end fun δ hF => ?_
          have h19 : (madeNode (nodeOf d ((n3 : Int) + 1)) W1.heap.size).Fact gN (over W1 δ) := hF 19
          clear hF
          obtain ⟨A6, c6, hB6, k1, k2, k3, hgN⟩ := h19
          obtain ⟨M3, own3, hM3⟩ := NA1.out.own
          have hlt3 := own3.lt
          have hbt : (Value.slice A3 n3 c3).ownBlock ≠ some tl := own3.ne_blk BT1.out (by decide)
          have IR := R1.out
          obtain ⟨_, _, _, _, _, i1, i2, i3, i4, i5, i6, _, _, _, s8, _⟩ := IR
          refine endTT_append elem_NodeC (.tmp 37) (.tmp 55) rfl rfl (own3.over_ δ) rfl (src_blkT (s := Shape.NodeC) (a := ⟨nodeOf d ((n3 : Int) + 1), .slice none 0 0⟩) hB6 ⟨A6, _, c6, rfl, ⟨by show _ ≤ (n3 : Int) + 1; omega, by show (n3 : Int) + 1 ≤ _; omega⟩, i1, i2, i3, i4, i5, i6, k1, k2, k3, s8, rfl⟩) ?_ ?_ ?_ ?_ (fun v' w3 ho3 hg3 hat3 => ?_)
          · intro k hk
            exact ⟨hk.2, fun e => by have := (hlt3 k e.symm).2; have := hk.1; omega⟩
          · simp only [List.length_cons, List.length_nil, HN3.out]; omega
          · simp only [List.length_cons, List.length_nil, HN3.out, maxLen]; omega
          · have := size_over_le W1 δ; have := SZ1.out; have := LTB.out; omega
          simp only [Act.put, List.setIfInBounds_toArray, List.set_cons_zero, List.set_cons_succ]
          obtain ⟨g4, cap4, hv4, -⟩ := own_some ho3 (List.append_ne_nil_of_right_ne_nil _ (List.cons_ne_nil _ _))
          obtain ⟨len4, hl4⟩ : ∃ x, x = (xs ++ [(⟨nodeOf d ((n3 : Int) + 1), .slice none 0 0⟩ : NodeC)]).length := ⟨_, rfl⟩
          rw [← hl4] at hv4
          clear hl4
          subst hv4
          have hgo : ∀ k, k ≤ bm → some k ≠ (Value.slice A3 n3 c3).ownBlock := fun k hk e => by have := (hlt3 k e.symm).1; omega
          have hLT := LTB.out
          have BG3 : Hid (Blk w3 bg 24 #[.slice A3 n3 c3]) := Lib.hid ((BG1.out.over_ δ).grown hg3 (hgo bg (by omega)))
          have RES3 : Hid (Blk w3 br 24 #[.slice none 0 0]) := Lib.hid ((RES1.out.over_ δ).grown hg3 (hgo br (by omega)))
          have M3' : Hid (IsMap kT cI w3 bm ps.ids) := Lib.hid ((M1.out.over_ δ).grown hg3 (hgo bm (by omega)))
          have BT3 : Hid (Blk w3 tl 60 #[.string d.path, .int .i64 d.kind, .int .i64 d.mode, .int .i64 d.uid, .int .i64 d.gid, .int .i64 d.mtime.sec, .int .i64 d.mtime.nano, .slice A1 n1 c1, .string d.target, .string d.peer]) := Lib.hid ((BT1.out.over_ δ).grown hg3 (fun e => hbt e.symm))
          have hsz3 := SZ1.out
          have HB3 : Hid (Below w.heap.size w w3) := Lib.hid (below_trans_over HB1.out HB1.out.size δ |>.grown hg3 (Nat.le_trans HB1.out.size (size_over_le _ _)) (fun k e => by have := (hlt3 k e).1; have := HBM.out; omega))
          have NA3 : Hid (NodesAt w3 (bm + 1) (.slice (some ⟨g4, 0, none⟩) len4 cap4) (xs ++ [⟨nodeOf d ((n3 : Int) + 1), .slice none 0 0⟩])) := Lib.hid ((NA1.out.keep (row := none) (grownBy_over W1 δ) (fun k e => by cases e)).push rfl (own3.over_ δ) hM3 ho3 (fun n hn => ⟨by have := hn.1; omega, fun x hx e => by have := ((NA1.out.ents x hx).lt n e.symm).2; have := hn.1; omega⟩) hg3)
          have y0 := BG3.out.cell 0; have f0 := BG3.out.frozen 0; have ly := BG3.out.lt
          simp only [List.getElem?_toArray, List.getElem?_cons_succ, List.getElem?_cons_zero] at y0
          clear ho3 hg3 hat3 hgo hlt3 own3 hM3 hbt hB6 k1 k2 k3 hgN i1 i2 i3 i4 i5 i6 s8 hLT hsz3 t0 t1 t2 t3 t4 t5 t6 t7 t8 t9 g0
          refine g_mid (by kernel_rfl) (.pointer (some ⟨bg, 0, none⟩)) ?_ ?_
          · go_simp
          simp only [Act.put, List.setIfInBounds_toArray, List.set_cons_zero, List.set_cons_succ]
          refine g_mid_end ?_
          refine endT_of undef (w3.setCell ⟨bg, 0, none⟩ (.slice (some ⟨g4, 0, none⟩) len4 cap4)) (.inr ⟨?_, rfl⟩) ?_
          · go_simp
          simp only [Act.put, List.setIfInBounds_toArray, List.set_cons_zero, List.set_cons_succ]
          refine g_tail_end ?_
          go_wp2_with fail
          go_meet
          case rel =>
            have hLT := LTB.out
            refine ⟨by rw [E1.out], HB3.out.setCell (p := ⟨bg, 0, none⟩) (by show w.heap.size ≤ bg; have := HBG.out; omega) _, RES3.out.far (by show br ≠ bg; have := HBR.out; have := HBG.out; omega) _, ⟨_, _, BG3.out.set_ 0 _, NA3.out.keep (grown_setA _ _ _ _) (fun k e => by injection e with e; omega), ?_⟩, M3'.out.far (by show bm ≠ bg; have := HBG.out; have := HBM.out; omega) _, BT3.out.far (by show tl ≠ bg; omega) _⟩
            rw [E2.out, List.map_append, HXM.out]; rfl
      case rest =>
        obtain ⟨rfl, hbx, hresx, ⟨gv2, xs2, hbg2, hna2, hxm2⟩, hmapx, hbtx⟩ := hcut
        have HBX := Lib.hid hbx; have RESX := Lib.hid hresx; have BGX := Lib.hid hbg2; have NAX := Lib.hid hna2; have HXM2 := Lib.hid hxm2; have MX := Lib.hid hmapx; have BTX := Lib.hid hbtx
        obtain ⟨idn, hidn⟩ : ∃ x, x = newId ps d := ⟨_, rfl⟩
        rw [← hidn]
        have HIDN := Lib.hid hidn
        have hlo := run_lookup_ok und_ids hmapx d.path (hzi wc)
        rw [isSome_has] at hlo
        obtain ⟨x0, hx0⟩ : ∃ x0, (Instr.lookup 97 (.map (some bm)) (.string d.path) true).run Tryz.prog wc = .ok (.tuple #[.int .i64 x0, .bool (hasKv ps.ids d.path)]) wc := by
          refine ⟨(getKv ps.ids d.path).getD 0, hlo.trans ?_⟩
          cases getKv ps.ids d.path <;> rfl
        have HSTEP : Hid (R = (plant1 (decide (i = 0)) ps d).bind (plantL (i + 1) (ls.drop (i + 1)))) := Lib.hid (by rw [HRi.out, List.drop_eq_getElem_cons hkl, ← HD.out]; rfl)
        have p0 := BTX.out.cell 0; have lp := BTX.out.lt
        have q0 := BGX.out.cell 0; have fq := BGX.out.frozen 0; have lq := BGX.out.lt
        have r0 := RESX.out.cell 0; have fr := RESX.out.frozen 0; have lr := RESX.out.lt
        simp only [List.getElem?_toArray, List.getElem?_cons_succ, List.getElem?_cons_zero] at p0 q0 r0
        obtain ⟨has, hhas⟩ : ∃ x, x = hasKv ps.ids d.path := ⟨_, rfl⟩
        rw [← hhas] at hx0
        have HHAS := Lib.hid hhas
        have ERR : Hid (plant1 (decide (i = 0)) ps d = none → ∀ (wz : World), Below w.heap.size w wz → PlantEnd ls w (.returned (.tuple #[.agg #[.slice none 0 0], .int .i64 151])) wz) := Lib.hid (fun hp wz hb => ⟨hb, .inr ⟨rfl, fun ps' hps => by rw [← HR.out, HSTEP.out, hp] at hps; cases hps⟩⟩)
        clear hbx hresx hbg2 hna2 hxm2 hmapx hbtx hidn hlo hhas hmm t0 t1 t2 t3 t4 t5 t6 t7 t8 t9 g0 ltl lbg lbr
        cases has with
        | true =>
          have HP : Hid (plant1 (decide (i = 0)) ps d = none) := Lib.hid (by unfold plant1; rw [if_pos (.inl HHAS.out.symm)])
          go_wp2_with fail
          refine ret_blk_tmp rfl rfl (RESX.out.set_ 0 (.slice none 0 0)) whole_Graph rfl rfl (ERR.out HP.out _ (HBX.out.setCell (p := ⟨br, 0, none⟩) (Nat.le_of_eq HBR.out.symm) _))
        | false =>
          by_cases hz0 : idn = 0
          · have HP : Hid (plant1 (decide (i = 0)) ps d = none) := Lib.hid (by unfold plant1; rw [if_pos (.inr (by rw [← HIDN.out, hz0]))])
            subst hz0
            go_wp2_with fail
            refine ret_blk_tmp rfl rfl (RESX.out.set_ 0 (.slice none 0 0)) whole_Graph rfl rfl (ERR.out HP.out _ (HBX.out.setCell (p := ⟨br, 0, none⟩) (Nat.le_of_eq HBR.out.symm) _))
          · have hz1 : (idn == 0) = false := by simpa using hz0
            have HZ0 := Lib.hid hz0
            clear hz0
            go_upto_if 72 with (fail)
            go_cut [] (fun wy => Below w.heap.size w wy ∧ Blk wy br 24 #[.slice none 0 0] ∧ IsMap kT cI wy bm ps.ids ∧ Blk wy tl 60 #[.string d.path, .int .i64 d.kind, .int .i64 d.mode, .int .i64 d.uid, .int .i64 d.gid, .int .i64 d.mtime.sec, .int .i64 d.mtime.nano, .slice A1 n1 c1, .string d.target, .string d.peer] ∧ ∃ ns' gv xs, plant1 (decide (i = 0)) ps d = some ⟨ns', putKv ps.ids d.path idn⟩ ∧ Blk wy bg 24 #[gv] ∧ NodesAt wy (bm + 1) gv xs ∧ xs.map (·.d) = ns')
            case first =>
              by_cases hi0 : i = 0
              · have hgt : ¬ (i : Int) > 0 := by omega
                have HP : Hid (plant1 (decide (i = 0)) ps d = some ⟨nodes1 ps d, putKv ps.ids d.path idn⟩) := Lib.hid (by unfold plant1; rw [← HIDN.out, ← HHAS.out, if_neg (by simp [HZ0.out]), decide_eq_true hi0, if_pos rfl])
                clear hi0
                go_wp2_with fail
                go_meet
                case rel => exact ⟨HBX.out, RESX.out, MX.out, BTX.out, _, gv2, xs2, HP.out, BGX.out, NAX.out, HXM2.out⟩
              · have hgt : (i : Int) > 0 := by omega
                have HI0 := Lib.hid hi0
                clear hi0
                go_wp2_with fail
                refine wp_region_grow [] (by kernel_rfl) (by kernel_rfl) stays_nil ?_
                repeat (first
                  | (refine g_w rfl ?_ (fun W => ?_) ?_; rotate_left; (focus (go_simp; (try with_reducible rfl); done)); simp only [Act.put, List.setIfInBounds_toArray, List.set_cons_zero, List.set_cons_succ])
                  | (refine g_d rfl (by kernel_rfl) ?_ (fun δ => ?_) ?_; rotate_left; (focus (go_simp; (try with_reducible rfl); done)); simp only [Act.put, List.setIfInBounds_toArray, List.set_cons_zero, List.set_cons_succ]))
                refine g_end fun δ _ => ?_
                obtain ⟨wd, hwd⟩ : ∃ x, x = over wc δ := ⟨_, rfl⟩
                rw [← hwd]
                have HBD : Hid (Below w.heap.size w wd) := Lib.hid (by rw [hwd]; exact below_trans_over HBX.out HBX.out.size δ)
                have RESD : Hid (Blk wd br 24 #[.slice none 0 0]) := Lib.hid (by rw [hwd]; exact RESX.out.over_ δ)
                have BGD : Hid (Blk wd bg 24 #[gv2]) := Lib.hid (by rw [hwd]; exact BGX.out.over_ δ)
                have NAD : Hid (NodesAt wd (bm + 1) gv2 xs2) := Lib.hid (by rw [hwd]; exact NAX.out.keep (row := none) (grownBy_over wc δ) (fun k e => by cases e))
                have MD : Hid (IsMap kT cI wd bm ps.ids) := Lib.hid (by rw [hwd]; exact MX.out.over_ δ)
                have BTD : Hid (Blk wd tl 60 #[.string d.path, .int .i64 d.kind, .int .i64 d.mode, .int .i64 d.uid, .int .i64 d.gid, .int .i64 d.mtime.sec, .int .i64 d.mtime.nano, .slice A1 n1 c1, .string d.target, .string d.peer]) := Lib.hid (by rw [hwd]; exact BTX.out.over_ δ)
                clear hwd p0 lp q0 fq lq r0 fr lr hx0
                have p0 := BTD.out.cell 0; have lp := BTD.out.lt
                simp only [List.getElem?_toArray, List.getElem?_cons_succ, List.getElem?_cons_zero] at p0
                have SMP := Lib.hid (HS.out d (by rw [HD.out]; exact List.getElem_mem hkl)).2
                go_wp2_with fail
                refine (lastIndexByte d.path _ (by have := SMP.out; omega)).mono ?_
                rintro e we ⟨rfl, rfl⟩
                obtain ⟨li, hli⟩ : ∃ x, x = lastIx d.path := ⟨_, rfl⟩
                rw [← hli]
                have HLI := Lib.hid hli
                clear hli
                go_upto_if 79 with (fail)
                go_cut [11, 12] (fun v11 v12 wx => v11 = .int .i64 (parentOf ps.ids d.path).1 ∧ v12 = .string (parentOf ps.ids d.path).2 ∧ Below we.heap.size we wx)
                case first =>
                  cases hls : lastSl d.path.data.toList with
                  | none =>
                    have E1 : li = -1 := by rw [HLI.out]; unfold lastIx; rw [hls]
                    subst E1
                    have E2 : Hid (parentOf ps.ids d.path = (1, d.path)) := Lib.hid (by unfold parentOf; rw [hls])
                    clear hls
                    go_wp2_with fail
                    go_meet
                    case rel => exact ⟨by rw [E2.out], by rw [E2.out], Below.refl _ _⟩
                  | some k =>
                    have E1 : li = (k : Int) := by rw [HLI.out]; unfold lastIx; rw [hls]
                    have hkl2 : k < d.path.size := by
                      have := lastSl_lt _ k hls
                      rw [size_list] at this; exact this
                    subst E1
                    obtain ⟨pd, hpd⟩ : ∃ x, x = (getKv ps.ids (d.path.extract 0 k)).getD 0 := ⟨_, rfl⟩
                    have E2 : Hid (parentOf ps.ids d.path = (pd, d.path.extract (k + 1) d.path.size)) := Lib.hid (by unfold parentOf; rw [hls, hpd])
                    have hge : ((k : Int) ≥ 0) := by omega
                    have hszp := SMP.out
                    have hw1 : IntKind.i64.wrap ((k : Int) + 1) = (k : Int) + 1 := by rw [IntKind.wrap_i64]; omega
                    clear hls
                    go_wp2_with fail
                    refine wp_region_grow [] (by kernel_rfl) (by kernel_rfl) stays_nil ?_
                    repeat (first
                      | (refine g_w rfl ?_ (fun W => ?_) ?_; rotate_left; (focus (go_simp; (try with_reducible rfl); done)); simp only [Act.put, List.setIfInBounds_toArray, List.set_cons_zero, List.set_cons_succ])
                      | (refine g_d rfl (by kernel_rfl) ?_ (fun δ => ?_) ?_; rotate_left; (focus (go_simp; (try with_reducible rfl); done)); simp only [Act.put, List.setIfInBounds_toArray, List.set_cons_zero, List.set_cons_succ]))
                    refine g_w rfl (.string (d.path.extract 0 k)) (fun W => ?_) ?_
                    · go_simp
                      intro hx; omega
                    simp only [Act.put, List.setIfInBounds_toArray, List.set_cons_zero, List.set_cons_succ]
                    refine g_d rfl (by kernel_rfl) (.int .i64 pd) (fun δ => ?_) ?_
                    · have hl' := run_lookup_kv0 und_ids (MD.out.over_ δ) (d.path.extract 0 k) (hzi (over we δ))
                      have hl'' : (Instr.lookup 97 (.map (some bm)) (.string (d.path.extract 0 k)) false).run Tryz.prog (over we δ) = .ok (.int .i64 pd) (over we δ) := by
                        refine hl'.trans ?_
                        rw [hpd]
                        cases getKv ps.ids (d.path.extract 0 k) <;> rfl
                      clear hl'
                      go_simp
                    simp only [Act.put, List.setIfInBounds_toArray, List.set_cons_zero, List.set_cons_succ]
                    repeat (first
                      | (refine g_w rfl ?_ (fun W => ?_) ?_; rotate_left; (focus (go_simp; (try with_reducible rfl); done)); simp only [Act.put, List.setIfInBounds_toArray, List.set_cons_zero, List.set_cons_succ])
                      | (refine g_d rfl (by kernel_rfl) ?_ (fun δ => ?_) ?_; rotate_left; (focus (go_simp; (try with_reducible rfl); done)); simp only [Act.put, List.setIfInBounds_toArray, List.set_cons_zero, List.set_cons_succ]))
                    refine g_w rfl (.string (d.path.extract (k + 1) d.path.size)) (fun W => ?_) ?_
                    · go_simp
                      intro hx
                      exfalso
                      have := hx (by omega)
                      omega
                    simp only [Act.put, List.setIfInBounds_toArray, List.set_cons_zero, List.set_cons_succ]
                    repeat (first
                      | (refine g_w rfl ?_ (fun W => ?_) ?_; rotate_left; (focus (go_simp; (try with_reducible rfl); done)); simp only [Act.put, List.setIfInBounds_toArray, List.set_cons_zero, List.set_cons_succ])
                      | (refine g_d rfl (by kernel_rfl) ?_ (fun δ => ?_) ?_; rotate_left; (focus (go_simp; (try with_reducible rfl); done)); simp only [Act.put, List.setIfInBounds_toArray, List.set_cons_zero, List.set_cons_succ]))
                    refine g_end fun δ _ => ?_
                    go_wp2_with fail
                    go_meet
                    case rel => exact ⟨by rw [E2.out, hpd], by rw [E2.out], below_over we δ⟩
                case rest =>
                  obtain ⟨rfl, rfl, hbw⟩ := hcut
                  obtain ⟨pr, hpr⟩ : ∃ x, x = parentOf ps.ids d.path := ⟨_, rfl⟩
                  rw [← hpr]
                  have HPR := Lib.hid hpr
                  have HBE : Hid (Below w.heap.size w wc) := Lib.hid (below_old HBD.out hbw)
                  have RESE : Hid (Blk wc br 24 #[.slice none 0 0]) := Lib.hid (RESD.out.below hbw RESD.out.lt)
                  have BGE : Hid (Blk wc bg 24 #[gv2]) := Lib.hid (BGD.out.below hbw BGD.out.lt)
                  have NAE : Hid (NodesAt wc (bm + 1) gv2 xs2) := Lib.hid (NAD.out.keep (row := none) (grownBy_of_below hbw) (fun k e => by cases e))
                  have ME : Hid (IsMap kT cI wc bm ps.ids) := Lib.hid (MD.out.of_block (hbw.block bm MD.out.lt))
                  have BTE : Hid (Blk wc tl 60 #[.string d.path, .int .i64 d.kind, .int .i64 d.mode, .int .i64 d.uid, .int .i64 d.gid, .int .i64 d.mtime.sec, .int .i64 d.mtime.nano, .slice A1 n1 c1, .string d.target, .string d.peer]) := Lib.hid (BTD.out.below hbw BTD.out.lt)
                  have r0 := RESE.out.cell 0; have fr := RESE.out.frozen 0; have lr := RESE.out.lt
                  have q0 := BGE.out.cell 0; have lq := BGE.out.lt
                  simp only [List.getElem?_toArray, List.getElem?_cons_succ, List.getElem?_cons_zero] at r0 q0
                  clear hbw hpr p0 lp
                  by_cases hp0 : pr.1 = 0
                  · have hp1 : (pr.1 == 0) = true := by simpa using hp0
                    have HP : Hid (plant1 (decide (i = 0)) ps d = none) := Lib.hid (by unfold plant1; rw [← HIDN.out, ← HHAS.out, if_neg (by simp [HZ0.out]), decide_eq_false HI0.out, if_neg (by decide), ← HPR.out, if_pos hp0])
                    clear hp0
                    go_wp2_with fail
                    refine ret_blk_tmp rfl rfl (RESE.out.set_ 0 (.slice none 0 0)) whole_Graph rfl rfl (ERR.out HP.out _ (HBE.out.setCell (p := ⟨br, 0, none⟩) (Nat.le_of_eq HBR.out.symm) _))
                  · have hp1 : (pr.1 == 0) = false := by simpa using hp0
                    have hrange := parent_range (p := d.path) HI.out.ids (HI.out.pos (by have := HI0.out; omega)) (by rw [← HPR.out]; exact hp0)
                    rw [← HPR.out] at hrange
                    have hnid := newId_range (d := d) HI.out.ids (by rw [← HIDN.out]; exact HZ0.out)
                    have hpsz : pr.2.size ≤ 100000000 := by rw [HPR.out]; exact Nat.le_trans (parent_size _ _) SMP.out
                    have HP : Hid (plant1 (decide (i = 0)) ps d = some ⟨addEnt (nodes1 ps d) (pr.1 - 1).toNat ⟨pr.2, idn⟩, putKv ps.ids d.path idn⟩) := Lib.hid (by unfold plant1; rw [← HIDN.out, ← HHAS.out, if_neg (by simp [HZ0.out]), decide_eq_false HI0.out, if_neg (by decide), ← HPR.out, if_neg hp0])
                    obtain ⟨p1, p2⟩ := pr
                    simp only at hp0 hp1 hrange hpsz HP ⊢
                    obtain ⟨m, hm⟩ : ∃ m : Nat, p1 = (m : Int) + 1 := ⟨(p1 - 1).toNat, by omega⟩
                    subst hm
                    have hx2l : xs2.length = (nodes1 ps d).length := by rw [← HXM2.out, List.length_map]
                    have hml : m < xs2.length := by omega
                    have hw2 : Go.RowKit.wrap64 (m : Int) = m := by have := HI.out.cnt; unfold Go.RowKit.wrap64; omega
                    have HIDR : Hid (1 ≤ idn ∧ idn ≤ 1000000001) := Lib.hid (by rw [HIDN.out]; have := HI.out.cnt; omega)
                    obtain ⟨M2, own2, hM2⟩ := NAE.out.own
                    obtain ⟨g2, cap2, hgv2, hcap2⟩ := own_some own2 (fun e => by rw [e] at hml; simp at hml)
                    obtain ⟨x, hx⟩ : ∃ x, x = xs2[m] := ⟨_, rfl⟩
                    have hxm : xs2[m]? = some x := by rw [hx]; exact List.getElem?_eq_getElem hml
                    obtain ⟨es2, hrd2, hcell2, hfz2⟩ := own2.cellC hgv2 hml
                    have e10 : Shape.NodeC.size = 10 := rfl
                    rw [← hx] at hrd2
                    obtain ⟨A7, n7, c7, rfl, _⟩ := hrd2
                    have k9 := hcell2 9 (by decide)
                    have f9 := hfz2 (m * 10 + 9)
                    simp only [e10, nodeCells, List.getElem?_cons_succ, List.getElem?_cons_zero] at k9
                    have OE := NAE.out.ents x (List.mem_of_getElem? hxm)
                    obtain ⟨A8, n8, c8, hev, hnc8, hcm8, hr8⟩ := OE.rd
                    have hlg2 := (own2.lt g2 (by rw [hgv2]; rfl)).2
                    have hgne : (Value.slice A8 n8 c8).ownBlock ≠ some g2 := fun e => by
                      rcases own_types OE own2 ent_node_ne with h1 | h1
                      · rw [hev] at h1; rw [h1] at e; cases e
                      · rw [hev, hgv2] at h1; exact h1 e
                    have hxe : x.d.ents.length ≤ 1000000000 := by
                      have hxd : x.d ∈ nodes1 ps d := by rw [← HXM2.out]; exact List.mem_map.2 ⟨x, List.mem_of_getElem? hxm, rfl⟩
                      have hi2 : x.d.ents.length ≤ i := by
                        unfold nodes1 at hxd
                        split at hxd
                        · rcases List.mem_append.1 hxd with h1 | h1
                          · exact (HI.out.ent _ h1).2.1
                          · simp only [List.mem_singleton] at h1
                            rw [h1]; exact Nat.zero_le _
                        · exact (HI.out.ent _ hxd).2.1
                      omega
                    rw [hev] at k9 OE
                    have HEV := Lib.hid hev; have OE8 := Lib.hid OE; have HXMM := Lib.hid hxm; have HGNE := Lib.hid hgne
                    have hn8 := hr8.1
                    obtain ⟨len2, hlen2⟩ : ∃ y, y = xs2.length := ⟨_, rfl⟩
                    rw [← hlen2] at hgv2 hml
                    have HLEN2 := Lib.hid hlen2
                    subst hgv2
                    have hltl := LTB.out
                    have hg2B := (own2.lt g2 rfl).1
                    have OWN2 := Lib.hid own2
                    have hmi : (m : Int) < len2 := Int.ofNat_lt.2 hml
                    have HN8 := Lib.hid hn8
                    clear hev OE hxm hgne own2 hM2 hx hr8 hlen2 hcell2 hfz2 hx2l hrange hnid hn8 hp0 e10
                    go_wp2_with (first
                      | (at_builtin
                         go_loud (refine wpList_append_list (v := .slice A8 n8 c8) rfl (.tmp 103) (.tmp 107) _ rfl elem_EntD rfl (OE8.out.alloc _) rfl ((Src.single (s := Shape.EntD) (M := fun _ => False) (a := ⟨p2, idn⟩) _ (fun _ h => h.elim) ⟨rfl, by show p2.size ≤ maxLen; simp only [maxLen]; omega, by have := HIDR.out; exact ⟨by show _ ≤ idn; omega, by show idn ≤ _; omega⟩⟩)) (fun _ h => h.elim) ?_ ?_ ?_ ?_)
                         · simp only [List.length_cons, List.length_nil]; omega
                         · simp only [List.length_cons, List.length_nil, maxLen]; omega
                         · simp; omega
                         intro v' w1 hown' hg hat
                         refine StopR.mk ?_))
                    unfold StopR
                    obtain ⟨g9, cap9, hv9, -⟩ := own_some hown' (List.append_ne_nil_of_right_ne_nil _ (List.cons_ne_nil _ _))
                    obtain ⟨len9, hl9⟩ : ∃ y, y = (x.d.ents ++ [(⟨p2, idn⟩ : EntD)]).length := ⟨_, rfl⟩
                    rw [← hl9] at hv9
                    clear hl9
                    subst hv9
                    have HOWN9 := Lib.hid hown'; have HG9 := Lib.hid hg; have HAT9 := Lib.hid hat
                    have hlow : ∀ k, k ≤ bm → some k ≠ (Value.slice A8 n8 c8).ownBlock := fun k hk e => by have := (OE8.out.lt k e.symm).1; omega
                    have HLOW := Lib.hid hlow
                    have hg2ne : some g2 ≠ (Value.slice A8 n8 c8).ownBlock := fun e => HGNE.out e.symm
                    have hlga : g2 < (wc.alloc (.cells #[.string p2, .int .i64 idn] 103)).heap.size := by simp; omega
                    have hblk : w1.heap[g2]? = wc.heap[g2]? := (hg.block g2 hlga hg2ne).trans (Below.heap_alloc wc _ g2 hlg2)
                    have k9' := (World.cell?_of_block (w := wc) (w' := w1) (a := ⟨g2, m * 10 + 9, none⟩) hblk).trans k9
                    have f9' := (World.frozen?_of_block (w := wc) (w' := w1) (a := ⟨g2, m * 10 + 9, none⟩) hblk).trans f9
                    have lg9 : g2 < w1.heap.size := Nat.lt_of_lt_of_le hlga hg.size
                    clear hown' hg hat hlow hg2ne hlga hblk k9 f9 q0 lq r0 fr lr
                    go_wp2_with fail
                    go_meet
                    case rel =>
                      have eA : Below w.heap.size w (wc.alloc (.cells #[.string p2, .int .i64 idn] 103)) := HBE.out.alloc HBE.out.size _
                      have e1 : Below w.heap.size w w1 := eA.grown HG9.out eA.size (fun k e => by have := (OE8.out.lt k e).1; have := HBM.out; omega)
                      have hg2 : bm + 1 ≤ g2 := hg2B
                      have hLT := LTB.out
                      have hBM := HBM.out
                      have hne2 : ∀ k, k ≤ bm → k ≠ g2 := fun k hk e => by omega
                      have hbt9 : some tl ≠ (Value.slice A8 n8 c8).ownBlock := fun e => OE8.out.ne_blk BTE.out (by decide) e.symm
                      have htg : tl ≠ g2 := fun e => OWN2.out.ne_blk BTE.out (by decide) (by rw [e]; rfl)
                      refine ⟨e1.setCell (p := ⟨g2, m * 10 + 9, none⟩) (by show w.heap.size ≤ g2; omega) _, ((RESE.out.alloc _).grown HG9.out (HLOW.out br (by omega))).far (hne2 br (by omega)) _, ((ME.out.alloc _).grown HG9.out (HLOW.out bm (Nat.le_refl _))).far (hne2 bm (Nat.le_refl _)) _, ((BTE.out.alloc _).grown HG9.out hbt9).far htg _, _, _, _, HP.out, ((BGE.out.alloc _).grown HG9.out (HLOW.out bg (by omega))).far (hne2 bg (by omega)) _, NodesAt.ent (NAE.out.keep (row := none) (World.grownBy_alloc wc _ none) (fun k e => by cases e)) HXMM.out (own_flatE HOWN9.out) (by rw [HEV.out]; exact HG9.out) (by rw [HEV.out]; exact HAT9.out) rfl, ?_⟩
                      rw [addEnt_set xs2 m x _ _ HXMM.out, HXM2.out]
                      have e3 : ((m : Int) + 1 - 1).toNat = m := by omega
                      rw [e3]
            case rest =>
              obtain ⟨hbz, hresz, hmapz, hbtz, ns', gvz, xsz, hpz, hbgz, hnaz, hxmz⟩ := hcut
              have HBZ := Lib.hid hbz; have RESZ := Lib.hid hresz; have MZ := Lib.hid hmapz; have BGZ := Lib.hid hbgz; have NAZ := Lib.hid hnaz; have HXMZ := Lib.hid hxmz
              have HPZ := Lib.hid hpz
              have p0 := hbtz.cell 0; have lp := hbtz.lt
              simp only [List.getElem?_toArray, List.getElem?_cons_succ, List.getElem?_cons_zero] at p0
              clear hbz hresz hmapz hbtz hpz hbgz hnaz hxmz
              go_wp2_with (first
                | ((with_reducible refine at_upd (t := 97) (m := .tmp 110) (x := .tmp 112) (v := .tmp 113) ?_ ?_); exact rfl; go_loud (refine wpList_mapUpdate_kv rfl (.tmp 110) (.tmp 112) (.tmp 113) _ rfl und_ids MZ.out d.path idn rfl rfl rfl (fun w7 hm7 ho7 => StopR.mk ?_))))
              unfold StopR
              have hbr : br ≠ bm := by have := HBR.out; have := HBM.out; omega
              have hbg : bg ≠ bm := by have := HBG.out; have := HBM.out; omega
              have HI7 : Hid (PlInv w br bg bm (bm + 1) ⟨ns', putKv ps.ids d.path idn⟩ (i + 1) w7) := Lib.hid (by
                have SMP := HS.out d (by rw [HD.out]; exact List.getElem_mem hkl)
                obtain ⟨a1, a2, a3, a4⟩ := plant1_keeps HPZ.out HI.out.cnt HI.out.ent HI.out.ids SMP.1 SMP.2
                refine ⟨HBZ.out.grown ho7.grown HBZ.out.size (fun k e => by injection e with e; have := HBM.out; omega), RESZ.out.grown ho7.grown (fun e => hbr (by injection e)), ⟨gvz, xsz, BGZ.out.grown ho7.grown (fun e => hbg (by injection e)), NAZ.out.keep ho7.grown (fun k e => by injection e with e; omega), HXMZ.out⟩, hm7, a1, fun _ => a2, a3, a4⟩)
              have HR7 : Hid (R = plantL (i + 1) (ls.drop (i + 1)) ⟨ns', putKv ps.ids d.path idn⟩) := Lib.hid (by rw [HSTEP.out, HPZ.out]; rfl)
              clear hm7 ho7 p0 lp hbr hbg
              go_wp2_with fail
              go_roundw
              case rel => exact ⟨i + 1, ⟨ns', putKv ps.ids d.path idn⟩, by omega, by go_num, HR7.out, HI7.out⟩
              case measure => simp [intOf]; omega
    · have hin : i = n := by omega
      have hks : ¬ (i : Int) < n := by omega
      have HPS : Hid (R = some ps) := Lib.hid (by rw [HRi.out, List.drop_eq_nil_of_le (by rw [HL.out]; omega)]; rfl)
      obtain ⟨gv, xs, bgv, hna, hxm⟩ := HI.out.gr
      have hpos := HI.out.pos (by omega)
      have hcnt := HI.out.cnt
      have hx0 := node_lengths hxm
      obtain ⟨M, own, -⟩ := hna.own
      obtain ⟨g2, cap2, hgv, -⟩ := own_some own (fun e => by rw [e] at hx0; simp at hx0; omega)
      obtain ⟨N, hN⟩ : ∃ y, y = xs.length := ⟨_, rfl⟩
      rw [← hN] at hgv hx0
      subst hgv
      obtain ⟨hnc, hcm, hrows⟩ := hna.rows
      rw [hxm] at hrows
      have ROW := Lib.hid hrows
      have SG : Hid (SmallG ps.nodes) := Lib.hid (fun x hx => ⟨by have := (HI.out.ent x hx).2.1; omega, (HI.out.ent x hx).2.2⟩)
      have DT : Hid (∀ x ∈ ps.nodes, x.data.length ≤ 1000000000) := Lib.hid (fun x hx => (HI.out.ent x hx).1)
      have hN9 : N ≤ 1000000000 := by omega
      have GT := Lib.hid (graphTree (c := cap2) 1 wr (hrows.more fun k hk => hk.2) SG.out DT.out hN9)
      have BGV := Lib.hid bgv
      have q0 := bgv.cell 0; have lq := bgv.lt
      simp only [List.getElem?_toArray, List.getElem?_cons_succ, List.getElem?_cons_zero] at q0
      have BI := Lib.hid HI.out.below; have RS := Lib.hid HI.out.res
      clear hin bgv hna hxm hpos hcnt hx0 own hN hnc hcm hrows hmm
      go_wp2_with fail
      refine GT.out.mono ?_
      rintro e w1 ⟨hb1, hcase⟩
      have HB1 := Lib.hid hb1
      have HBw1 : Hid (Below w.heap.size w w1) := Lib.hid (below_old BI.out hb1)
      have RS1 := Lib.hid (RS.out.below hb1 RS.out.lt)
      have BG1 := Lib.hid (BGV.out.below hb1 BGV.out.lt)
      clear hb1 q0 lq GT
      rcases hcase with ⟨i', st, v, M', hroot, htree, ⟨hs1, hs2⟩, rfl, hown, hM'⟩ | ⟨err, herr, rfl, hno⟩
      · obtain ⟨A5, n5, c5, rfl, h51, h52, hr5⟩ := hown.rd_old
        have HRT := Lib.hid hroot; have HTR := Lib.hid htree
        have hn5 := hr5.1
        have EQ := Lib.hid (eqLines (c := c5) (c' := c) w1 hr5 ((H.out.keep (Keeps.old HBw1.out)).more fun k hk => Old.below HBw1.out hk) (fun d hd => by have := hs2 d hd; omega) (fun d hd => by have := (HS.out d hd).1; omega) (by omega) (by omega))
        clear hroot htree hs1 hs2 hown hM' hr5 hn5
        go_wp2_with fail
        refine EQ.out.mono ?_
        rintro e w2 ⟨rfl, hb2⟩
        have HBw2 : Hid (Below w.heap.size w w2) := Lib.hid (below_old HBw1.out hb2)
        have HB2 : Hid (Below wr.heap.size wr w2) := Lib.hid (below_old HB1.out hb2)
        have RS2 := Lib.hid (RS1.out.below hb2 RS1.out.lt)
        have BG2 := Lib.hid (BG1.out.below hb2 BG1.out.lt)
        have r0 := RS2.out.cell 0; have fr := RS2.out.frozen 0; have lr := RS2.out.lt
        have q0 := BG2.out.cell 0; have lq := BG2.out.lt
        simp only [List.getElem?_toArray, List.getElem?_cons_succ, List.getElem?_cons_zero] at r0 q0
        clear hb2 EQ
        by_cases heq : st.out = ls
        · rw [decide_eq_true heq]
          have HEQ := Lib.hid heq
          clear heq
          go_wp2_with fail
          refine ret_blk_tmp rfl rfl (RS2.out.set_ 0 (.slice (some ⟨g2, 0, none⟩) N cap2)) whole_Graph rfl rfl ⟨HBw2.out.setCell (p := ⟨br, 0, none⟩) (Nat.le_of_eq HBR.out.symm) _, .inl ⟨ps, _, _, _, by rw [← HR.out]; exact HPS.out, rfl, ?_, SG.out, hN9, i', st, HRT.out, HTR.out, HEQ.out⟩⟩
          have hk : Keeps (fun k => bm + 1 ≤ k ∧ k < wr.heap.size) wr (w2.setCell ⟨br, 0, none⟩ (.slice (some ⟨g2, 0, none⟩) N cap2)) := fun k hk => by
            have h1 := HBR.out; have h2 := HBM.out
            exact (Below.heap_setCell _ _ _ k (by show k ≠ br; omega)).trans (HB2.out.block k hk.2)
          refine (ROW.out.keep hk).more fun k hk => ⟨by have := HBM.out; have := hk.1; omega, ?_⟩
          have := HB2.out.size; have := hk.2
          simp [World.setCell]; omega
        · rw [decide_eq_false heq]
          have HEQ := Lib.hid heq
          clear heq
          go_wp2_with fail
          refine ret_blk_tmp rfl rfl (RS2.out.set_ 0 (.slice none 0 0)) whole_Graph rfl rfl ⟨HBw2.out.setCell (p := ⟨br, 0, none⟩) (Nat.le_of_eq HBR.out.symm) _, .inr ⟨rfl, fun ps' hps => ?_⟩⟩
          rw [← HR.out, HPS.out] at hps
          injection hps with hps
          subst hps
          refine .inr ⟨i', HRT.out, fun e => HEQ.out ?_⟩
          rw [HTR.out] at e
          have := congrArg (fun x : LSt × Bool => x.1.out) e
          exact this
      · have HNO := Lib.hid hno
        have r0 := RS1.out.cell 0; have fr := RS1.out.frozen 0; have lr := RS1.out.lt
        simp only [List.getElem?_toArray, List.getElem?_cons_succ, List.getElem?_cons_zero] at r0
        clear hno
        go_wp2_with fail
        refine ret_blk_tmp rfl rfl (RS1.out.set_ 0 (.slice none 0 0)) whole_Graph rfl rfl ⟨HBw1.out.setCell (p := ⟨br, 0, none⟩) (Nat.le_of_eq HBR.out.symm) _, .inr ⟨rfl, fun ps' hps => ?_⟩⟩
        rw [← HR.out, HPS.out] at hps
        injection hps with hps
        subst hps
        rcases HNO.out with h | ⟨i', h1, h2⟩
        · exact .inl h
        · refine .inr ⟨i', h1, fun e => ?_⟩
          rw [e] at h2
          cases h2
end Go.Proofs.YtfhfcipelgogjaaGreatDoor
