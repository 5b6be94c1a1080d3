/- graph.rooted: whether every way upwards ends. No condition but room. -/
import Derived.Test.YtfhfcipelgogjaaGreatDoorMapAll
import Derived.Test.YtfhfcipelgogjaaGreatDoorEscAll
set_option linter.unusedSectionVars false
set_option linter.unusedVariables false
set_option linter.unusedSimpArgs false
set_option maxHeartbeats 2000000
set_option maxRecDepth 100000
namespace Go.Proofs.YtfhfcipelgogjaaGreatDoor
open Go.RowKit
attribute [local go_sem] cell?_over frozen?_over lt_over le_over
def endsB (kv:List (Int×Int)):Nat→Int→Bool
 | 0,k=>(getKv kv k).isNone
 | n+1,k=>match getKv kv k with
  | none=>true
  | some u=>endsB kv n u
def Ends (kv:List (Int×Int)) (k:Int):Prop:=∃ n,endsB kv n k=true
def AllEnds (kv:List (Int×Int)):Prop:=∀ p∈kv,Ends kv p.1
def Falls (kv:List (Int×Int)) (rank:Int→Nat):Prop:=∀ k u,getKv kv k=some u→rank u<rank k
theorem ends_none {kv:List (Int×Int)} {k:Int} (h:getKv kv k=none):Ends kv k:=⟨0,by unfold endsB; rw [h]; rfl⟩
theorem ends_some {kv:List (Int×Int)} {k u:Int} (h:getKv kv k=some u) (hu:Ends kv u):Ends kv k:=by
 obtain ⟨n,hn⟩:=hu
 exact ⟨n+1,by unfold endsB; rw [h]; exact hn⟩
theorem get_has {κ β:Type} [DecidableEq κ] {kv:List (κ×β)} {k:κ} {v:β} (h:getKv kv k=some v):k∈kv.map (·.1):=by
 unfold getKv at h
 rw [Option.map_eq_some_iff] at h
 obtain ⟨p,hp,_⟩:=h
 have h1:=List.find?_some hp
 have h2:=List.mem_of_find?_eq_some hp
 rw [decide_eq_true_eq] at h1
 exact h1 ▸ List.mem_map_of_mem h2
theorem nodup_len:∀ (l m:List Int),l.Nodup→(∀ x∈l,x∈m)→l.length≤m.length
 | [],m,_,_=>Nat.zero_le _
 | a :: l,m,hn,hs=>by
  rw [List.nodup_cons] at hn
  have ha:a∈m:=hs a (List.mem_cons_self ..)
  have:=nodup_len l (m.erase a) hn.2 fun x hx=>(List.mem_erase_of_ne (by rintro rfl; exact hn.1 hx)).2 (hs x (List.mem_cons_of_mem _ hx))
  rw [List.length_erase_of_mem ha] at this
  have hp:0<m.length:=List.length_pos_of_mem ha
  simp only [List.length_cons]
  omega
structure WayUp (kv:List (Int×Int)) (id:Int) (way:List Int) (at_:Int):Prop where
 end_ : Ends kv at_ → Ends kv id ∧ ∀ x ∈ way, Ends kv x
 fall:∀ rank,Falls kv rank→way.Nodup∧∀ x∈way,rank at_<rank x
 keys:∀ x∈way,x∈kv.map (·.1)
theorem wayUp_start (kv:List (Int×Int)) (id:Int):WayUp kv id [] id:=⟨fun h=>⟨h,fun x hx=>by cases hx⟩,fun _ _=>⟨List.nodup_nil,fun x hx=>by cases hx⟩,fun x hx=>by cases hx⟩
theorem WayUp.step {kv:List (Int×Int)} {id at_ u:Int} {way:List Int} (h:WayUp kv id way at_) (hu:getKv kv at_=some u):WayUp kv id (way++[at_]) u:=by
 refine ⟨fun he=>?_,fun rank hf=>?_,fun x hx=>?_⟩
 ·have h1:=ends_some hu he
  have h2:=h.end_ h1
  refine ⟨h2.1,fun x hx=>?_⟩
  rw [List.mem_append,List.mem_singleton] at hx
  rcases hx with hx | rfl
  ·exact h2.2 x hx
  ·exact h1
 ·obtain ⟨h1,h2⟩:=h.fall rank hf
  have h3:=hf _ _ hu
  refine ⟨?_,fun x hx=>?_⟩
  ·rw [List.nodup_append]
   refine ⟨h1,by simp,fun a ha b hb=>?_⟩
   rw [List.mem_singleton] at hb
   subst hb
   rintro rfl
   exact Nat.lt_irrefl _ (h2 a ha)
  ·rw [List.mem_append,List.mem_singleton] at hx
   rcases hx with hx | rfl
   ·exact Nat.lt_trans h3 (h2 x hx)
   ·exact h3
 ·rw [List.mem_append,List.mem_singleton] at hx
  rcases hx with hx | rfl
  ·exact h.keys x hx
  ·exact get_has hu
theorem WayUp.no {kv:List (Int×Int)} {id at_ u:Int} {way:List Int} (h:WayUp kv id way at_) (hu:getKv kv at_=some u) (hl:kv.length<(way++[at_]).length):¬ ∃ rank,Falls kv rank:=by
 rintro ⟨rank,hf⟩
 have h':=h.step hu
 have:=nodup_len _ _ (h'.fall rank hf).1 h'.keys
 rw [List.length_map] at this
 omega
def Shape.intV:Shape Int where
 size:=1
 pos:=Nat.one_pos
 rd _ _ cs n:=cs=[.int .i64 n]
 bulk _:=1
 bpos _:=Nat.le_refl _
 len h:=by rw [h]; rfl
 keep h _:=h
 more h _:=h
 one h v hv:=by rw [h] at hv; simp at hv; subst hv; rfl
theorem flat_intV:Shape.intV.Flat:=fun h=>h
theorem elem_intV:Elem Tryz.prog 156 3 Shape.intV 8:=⟨Tryz.underlying156,by kernel_rfl⟩
def kI:KeyKind Tryz.prog Int:=intKind Tryz.underlying3
abbrev cI (v:Int):Value:=.int .i64 v
theorem und_mii:Tryz.prog.underlying 174=some (.map kI.ty 3):=Tryz.underlying174
def FineOk (kv kvF:List (Int×Int)):Prop:=∀ k v,getKv kvF k=some v→v≠0→Ends kv k
theorem getKv_putR (kv:List (Int×Int)) (k k' v:Int):getKv (putKv kv k v) k'=if k'=k then some v else getKv kv k':=by
 unfold putKv getKv
 by_cases hh:hasKv kv k=true
 ·rw [if_pos hh]
  induction kv with
  | nil=>simp [hasKv] at hh
  | cons p kv ih =>
   simp only [List.map_cons,List.find?_cons]
   by_cases hp:p.1=k
   ·rw [if_pos hp]
    by_cases hk:k'=k
    ·subst hk; simp
    ·have h1:decide (k=k')=false:=by simpa using fun e=>hk e.symm
     have h2:decide (p.1=k')=false:=by rw [hp]; exact h1
     simp only [h1,h2,if_neg hk]
     by_cases hh':hasKv kv k=true
     ·have:=ih hh'
      rw [if_neg hk] at this
      exact this
     ·have hm:(kv.map fun p=>if p.1=k then (k,v) else p)=kv:=by
       have:∀ q∈kv,(if q.1=k then (k,v) else q)=q:=fun q hq=>by
        rw [if_neg]
        intro e
        exact hh' ((hasKv_iff kv k).2 (e ▸ List.mem_map_of_mem hq))
       rw [List.map_congr_left this,List.map_id']
      rw [hm]
   ·rw [if_neg hp]
    have hh':hasKv kv k=true:=by
     rw [hasKv_iff] at hh ⊢
     simp only [List.map_cons,List.mem_cons] at hh
     exact hh.resolve_left (fun e=>hp e.symm)
    by_cases hpk:p.1=k'
    ·have:k'≠k:=fun e=>hp (hpk.trans e)
     simp [hpk,this]
    ·have h2:decide (p.1=k')=false:=by simpa using hpk
     simp only [h2]
     exact ih hh'
 ·rw [if_neg hh,List.find?_append]
  by_cases hk:k'=k
  ·subst hk
   have:kv.find? (fun p=>decide (p.1=k'))=none:=by
    rw [List.find?_eq_none]
    intro p hp e
    rw [decide_eq_true_eq] at e
    exact hh ((hasKv_iff kv k').2 (e ▸ List.mem_map_of_mem hp))
   simp [this]
  ·have h1:decide (k=k')=false:=by simpa using fun e=>hk e.symm
   rw [if_neg hk]
   cases kv.find? (fun p=>decide (p.1=k')) <;> simp [h1]
theorem FineOk.put {kv kvF:List (Int×Int)} (h:FineOk kv kvF) {x:Int} (hx:Ends kv x):FineOk kv (putKv kvF x 1):=by
 intro k v hk hv
 rw [getKv_putR] at hk
 by_cases e:k=x
 ·subst e; exact hx
 ·rw [if_neg e] at hk; exact h k v hk hv
def slLen:Value→Nat
 | .slice _ n _=>n
 | _=>0
theorem own_slLen {α:Type} {s:Shape α} {e:TypeId} {w:World} {base:Nat} {M:Nat→Prop} {v:Value} {l:List α} (h:Own s e w base M v l):slLen v=l.length:=by
 obtain ⟨A,n,c,rfl,_,_,hrow⟩:=h.rd_old
 exact hrow.1.symm
theorem at_look {P:Program} {ops:Array Oper} {Q:Exit→Act→World→Prop} {o:Oper} {rest:List Oper} {a:Act} {w:World} {t:TypeId} {m x:Operand} {c:Bool} (ho:o.op=.lookup t m x c) (h:wpList P ops Q (o :: rest) a w):wpList P ops Q (o :: rest) a w:=h
theorem at_upd {P:Program} {ops:Array Oper} {Q:Exit→Act→World→Prop} {o:Oper} {rest:List Oper} {a:Act} {w:World} {t:TypeId} {m x v:Operand} (ho:o.op=.mapUpdate t m x v) (h:wpList P ops Q (o :: rest) a w):wpList P ops Q (o :: rest) a w:=h
def StopR (p:Prop):Prop:=p
theorem StopR.mk {p:Prop} (h:StopR p):p:=h
theorem graphRooted {kv:List (Int×Int)} {b:Nat} (w:World) (h:IsMap kI cI w b kv) (hn:kv.length≤1000000000) :
  Calls Tryz.prog 90 #[.map (some b)] w fun e w'=>∃ r,e=.returned (.bool r)∧(r=true→AllEnds kv)∧(r=false→¬ ∃ rank,Falls kv rank)∧Below w.heap.size w w':=by
 have H:=Lib.hid h
 have hlt:=h.lt
 have hz:∀ w,(zeroValue 3).run Tryz.prog w=.ok (.int .i64 0) w:=fun w=>Tryz.zeroValue3 w
 clear h
 have hmm:=@run_makeMap Tryz.prog
 go_enter Tryz.func90,Tryz.ntmps90
 have H1:=Lib.hid (H.out.alloc (.map #[] 0))
 have F1:=Lib.hid (IsMap.new kI cI w)
 go_wp2_with (first
  | (at_range; refine wpList_range_kv rfl (.tmp 12) _ rfl und_mii H1.out rfl (fun w2 hit hg hz2=>StopR.mk ?_)))
 unfold StopR
 have F2:=Lib.hid (F1.out.grown hg (by simp))
 have B2:=Lib.hid (((Below.refl w.heap.size w).alloc (Nat.le_refl _) (.map #[] 0)).grown hg (by simp) (fun k e=>by cases e))
 have IT:Hid (MapIt kI cI w2 (w.heap.size+1) b kv kv):=Lib.hid (by simpa using hit)
 clear hit hg H1 F1
 go_wp2_with fail
 go_loopw [4] (fun _ wr=>∃ done left kvF,MapIt kI cI wr (w.heap.size+1) b kv left∧(done++left).Perm kv∧IsMap kI cI wr w.heap.size kvF∧FineOk kv kvF∧(∀ p∈done,Ends kv p.1)∧Below w.heap.size w wr) (fun _ wr=>wr.rangeLeft b (w.heap.size+1))
 case atStart=>exact ⟨[],kv,[],IT.out,List.Perm.refl _,F2.out,(fun k v h=>by simp [getKv] at h),(fun p hp=>by cases hp),B2.out⟩
 case round =>
  clear IT F2 B2
  obtain ⟨done,left,kvF,hit,hperm,hf,hfok,hdn,hbel⟩:=hrel
  have IT:=Lib.hid hit; have PM:=Lib.hid hperm; have FF:=Lib.hid hf; have FO:=Lib.hid hfok; have DN:=Lib.hid hdn; have HB:=Lib.hid hbel
  clear hit hperm hf hfok hdn hbel
  go_wp2_with (first
   | (at_next; refine wpList_next_kv rfl (.tmp 13) rfl rfl IT.out (fun hl0=>StopR.mk ?_) (fun k v left' w4 hpl hit4 hg4 hz4 hen=>StopR.mk ?_)))
  ·unfold StopR
   subst hl0
   go_wp2_with fail
   go_ret
   refine ⟨true,rfl,fun _ p hp=>?_,(fun h=>by cases h),HB.out⟩
   exact DN.out p ((by simpa using PM.out:done.Perm kv).mem_iff.2 hp)
  ·unfold StopR
   have IT4:=Lib.hid hit4; have HPL:=Lib.hid hpl; have HEN:=Lib.hid hen
   have FF4:=Lib.hid (FF.out.grown hg4 (by intro e; injection e with e; omega))
   have HB4:=Lib.hid (HB.out.grown hg4 HB.out.size (fun k e=>by injection e with e; omega))
   have HZ4:Hid (w.heap.size+2≤w4.heap.size):=Lib.hid (by have:=IT.out.lt; omega)
   clear hit4 hpl hg4 hz4 FF HB hen
   have IT0:=IT
   have hen2:(Instr.entry (.pointer (some ⟨w.heap.size+1,0,none⟩))).run Tryz.prog w4=.ok (.tuple #[.int .i64 k,.int .i64 v]) w4:=HEN.out
   clear HEN
   go_wp2_with fail
   clear hen2
   go_loopw [5,6] (fun v5 v6 wr2=>∃ (way:List Int) (at_:Int),v6=.int .i64 at_∧Own Shape.intV 3 wr2 (w.heap.size+2) (fun _=>False) v5 way∧way.length≤kv.length∧WayUp kv k way at_∧MapIt kI cI wr2 (w.heap.size+1) b kv left'∧IsMap kI cI wr2 w.heap.size kvF∧Below w.heap.size w wr2∧w.heap.size+2≤wr2.heap.size) (fun v5 _ _=>kv.length - slLen v5)
   case atStart=>exact ⟨[],k,rfl,Own.start _ _ _ _,Nat.zero_le _,wayUp_start kv k,IT4.out,FF4.out,HB4.out,HZ4.out⟩
   case round =>
    clear IT4 FF4 HB4 HZ4
    obtain ⟨way,at_,rfl,hown,hwl,hwu,hit,hf,hbel,hs2⟩:=hrel
    have OW:=Lib.hid hown; have WU:=Lib.hid hwu; have ITr:=Lib.hid hit; have FFr:=Lib.hid hf; have HBr:=Lib.hid hbel
    have HSL:=Lib.hid (own_slLen hown)
    clear hown hwu hit hf hbel
    obtain ⟨fv,hfv,hfe⟩:∃ f:Int,((getKv kvF at_).map cI).getD (.int .i64 0)=.int .i64 f∧(f≠0→Ends kv at_):=by
     cases hg:getKv kvF at_ with
     | none=>exact ⟨0,rfl,fun h=>absurd rfl h⟩
     | some f=>exact ⟨f,rfl,fun h=>FO.out at_ f hg h⟩
    have HFE:=Lib.hid hfe; have HFV:=Lib.hid hfv
    clear hfe hfv
    by_cases hf0:fv=0
    ·subst hf0
     go_wp2_with (first
      | ((with_reducible refine at_look (t:=174) (m:=.tmp 19) (x:=.tmp 20) (c:=false) ?_ ?_); exact rfl; go_loud (refine wpList_lookup_kv0 rfl (.tmp 19) (.tmp 20) _ rfl und_mii FFr.out at_ (hz _) rfl rfl ?_); rw [HFV.out])
      | (at_builtin; go_loud (refine wpList_append_one (w:=wr) (s:=Shape.intV) (l:=way) flat_intV rfl (.tmp 23) (.tmp 25) _ rfl elem_intV rfl OW.out (es:=[.int .i64 at_]) (b:=at_) rfl rfl (by omega) (by simp [maxLen]; omega) hs2 ?_); intro v6 w6 hown6 hg6 hs6 hob6; refine StopR.mk ?_))
     unfold StopR
     have hlt5:=OW.out.lt
     have OW6:=Lib.hid hown6
     have IT6:=Lib.hid (ITr.out.grown hg6 (ITr.out.isMap.ne_own OW.out) (ITr.out.ne_own OW.out))
     have FF6:=Lib.hid (FFr.out.grown hg6 (FFr.out.ne_own OW.out))
     have HB6:=Lib.hid (HBr.out.grown hg6 (by omega) (fun k e=>by have:=(hlt5 k e).1; omega))
     have hs7:w.heap.size+2≤w6.heap.size:=by omega
     clear hown6 hg6 hs6 hob6 hlt5 OW ITr FFr HBr HFV
     obtain ⟨W6,hW6⟩:∃ x,x=way++[at_]:=⟨_,rfl⟩
     rw [← hW6] at OW6
     have HW6:=Lib.hid hW6
     have hl6:W6.length=way.length+1:=by rw [hW6]; simp
     have HL6:=Lib.hid hl6
     clear hW6 hl6
     obtain ⟨A6,n6,c6,rfl,_,_,hrow6⟩:=OW6.out.rd_old
     have hn6:n6=W6.length:=hrow6.1.symm
     subst hn6
     clear hrow6
     cases hu:getKv kv at_ with
     | none =>
      have HU:=Lib.hid hu
      clear hu
      go_wp2_with (first
       | ((with_reducible refine at_look (t:=174) (m:=.tmp 28) (x:=.tmp 29) (c:=true) ?_ ?_); exact rfl; go_loud (refine wpList_lookup_kv rfl (.tmp 28) (.tmp 29) _ rfl und_mii IT6.out.isMap at_ (hz _) rfl rfl ?_); rw [HU.out]; refine StopR.mk ?_))
      unfold StopR
      try simp only [Option.map_none,Option.getD_none,Option.isSome_none]
      go_wp2_with fail
      have EWL:Hid (∀ x∈W6,Ends kv x):=Lib.hid ((⟨(WU.out.end_ (ends_none HU.out)).1,fun x hx=>by rw [HW6.out,List.mem_append,List.mem_singleton] at hx; rcases hx with hx | rfl; exact (WU.out.end_ (ends_none HU.out)).2 x hx; exact ends_none HU.out⟩:Ends kv k∧∀ x∈W6,Ends kv x)).2
      have EID:Hid (Ends kv k):=Lib.hid ((⟨(WU.out.end_ (ends_none HU.out)).1,fun x hx=>by rw [HW6.out,List.mem_append,List.mem_singleton] at hx; rcases hx with hx | rfl; exact (WU.out.end_ (ends_none HU.out)).2 x hx; exact ends_none HU.out⟩:Ends kv k∧∀ x∈W6,Ends kv x)).1
      obtain ⟨A9,n9,c9,e9,hc9,_,hrow9⟩:=OW6.out.rd_from (B:=w.heap.size+2) (Nat.le_refl _) (fun _ h=>h.elim)
      injection e9 with q1 q2 q3
      subst q1 q2 q3
      have RW:=Lib.hid hrow9
      clear hrow9 hc9
      have hb9:(W6).length≤2000000000:=by have:=HL6.out; omega
      obtain ⟨WL,hWL⟩:∃ x,x=W6:=⟨_,rfl⟩
      rw [← hWL] at EWL RW hb9 ⊢
      obtain ⟨N9,hN9⟩:∃ x,x=WL.length:=⟨_,rfl⟩
      rw [← hN9] at RW hb9 ⊢
      clear hWL hN9
      go_wp2_with fail
      go_loopw [10,43] (fun _ i wr3=>∃ (q:Nat) (kvG:List (Int×Int)),q≤N9∧i=.int .i64 q∧MapIt kI cI wr3 (w.heap.size+1) b kv left'∧IsMap kI cI wr3 w.heap.size kvG∧FineOk kv kvG∧Row Shape.intV wr3 (From (w.heap.size+2) wr3) A6 N9 WL∧Below w.heap.size w wr3) (fun _ i _=>N9 - (intOf i).toNat)
      case atStart=>exact ⟨0,kvF,Nat.zero_le _,rfl,IT6.out,FF6.out,FO.out,RW.out,HB6.out⟩
      case round =>
       obtain ⟨q,kvG,hq,rfl,hit,hf,hfok,hrw,hbel⟩:=hrel
       have ITq:=Lib.hid hit; have FFq:=Lib.hid hf; have FOq:=Lib.hid hfok; have RWq:=Lib.hid hrw; have HBq:=Lib.hid hbel
       clear hit hf hfok hrw hbel
       by_cases hlq:q<N9
       ·have hqs:(q:Int)<N9:=by omega
        obtain ⟨b9,off9,es9,hkl9,rfl,hbm9,hc9,hr9⟩:=RWq.out.at_ hlq
        have c9':=hc9 0 (by decide)
        have hr9':es9=[.int .i64 WL[q]]:=hr9
        subst hr9'
        have e13:Shape.intV.size=1:=rfl
        simp only [e13,Nat.mul_one,Nat.add_zero,List.getElem?_cons_zero] at c9'
        have lb9:=hbm9.2
        obtain ⟨x9,hx9⟩:∃ x,x=WL[q]:=⟨_,rfl⟩
        rw [← hx9] at c9'
        have HX9:=Lib.hid hx9
        have hmem9:Ends kv x9:=by rw [hx9]; exact EWL.out _ (List.getElem_mem hkl9)
        have HM9:=Lib.hid hmem9
        clear hc9 hr9 hx9 hmem9
        go_wp2_with (first
         | ((with_reducible refine at_upd (t:=174) (m:=.tmp 47) (x:=.tmp 48) (v:=.const (.int .i64 1)) ?_ ?_); exact rfl; go_loud (refine wpList_mapUpdate_kv rfl (.tmp 47) (.tmp 48) (.const (.int .i64 1)) _ rfl und_mii FFq.out x9 1 rfl rfl rfl (fun w7 hm7 ho7=>StopR.mk ?_))))
        unfold StopR
        have hg7:=ho7.grown
        go_wp2_with fail
        go_roundw
        case rel =>
         refine ⟨q+1,_,by omega,by go_num,ITq.out.grown hg7 ?_ ?_,hm7,FOq.out.put HM9.out,(RWq.out.keep fun n hn=>ho7.block n (by have:=hn.1; omega)).more fun n hn=>⟨hn.1,by have:=hn.2; have:=ho7.size; omega⟩,HBq.out.grown hg7 (by have:=HBq.out.size; omega) (fun k e=>by injection e with e; omega)⟩
         ·intro e; injection e with e; omega
         ·intro e; injection e with e; omega
        case measure=>simp [intOf]; omega
       ·have hqs:¬ (q:Int)<N9:=by omega
        go_wp2_with fail
        go_roundw
        case rel =>
         refine ⟨done++[(k,v)],left',kvG,ITq.out,perm_next PM.out HPL.out,FFq.out,FOq.out,fun p hp=>?_,HBq.out⟩
         rw [List.mem_append,List.mem_singleton] at hp
         rcases hp with hp | rfl
         ·exact DN.out p hp
         ·exact EID.out
        case measure =>
         rw [ITq.out.left_eq,IT0.out.left_eq,HPL.out.length_eq]
         simp
     | some u =>
      have HU:=Lib.hid hu
      clear hu
      have hlen:=run_len_map (ty:=3) und_mii IT6.out.isMap
      by_cases hle:kv.length<W6.length
      ·have hle2:(kv.length:Int)<(W6.length:Int):=by omega
       have NO:=Lib.hid (WU.out.no HU.out (by rw [← HW6.out]; exact hle))
       go_wp2_with (first
        | ((with_reducible refine at_look (t:=174) (m:=.tmp 28) (x:=.tmp 29) (c:=true) ?_ ?_); exact rfl; go_loud (refine wpList_lookup_kv rfl (.tmp 28) (.tmp 29) _ rfl und_mii IT6.out.isMap at_ (hz _) rfl rfl ?_); rw [HU.out]; simp only [Option.map_some,Option.getD_some,Option.isSome_some]))
       go_ret
       exact ⟨false,rfl,(fun h=>by cases h),fun _=>NO.out,HB6.out⟩
      ·have hle2:¬ (kv.length:Int)<(W6.length:Int):=by omega
       have hwl7:W6.length≤kv.length:=by omega
       have hwl8:way.length<kv.length:=by have:=HL6.out; omega
       have WU7:=Lib.hid (WU.out.step HU.out)
       go_wp2_with (first
        | ((with_reducible refine at_look (t:=174) (m:=.tmp 28) (x:=.tmp 29) (c:=true) ?_ ?_); exact rfl; go_loud (refine wpList_lookup_kv rfl (.tmp 28) (.tmp 29) _ rfl und_mii IT6.out.isMap at_ (hz _) rfl rfl ?_); rw [HU.out]; simp only [Option.map_some,Option.getD_some,Option.isSome_some]))
       go_roundw
       case rel=>exact ⟨W6,u,rfl,OW6.out,hwl7,HW6.out ▸ WU7.out,IT6.out,FF6.out,HB6.out,hs7⟩
       case measure =>
        have h1:=HSL.out
        have h2:=HL6.out
        show kv.length - W6.length<kv.length - slLen _
        omega
    ·have EE:=Lib.hid (HFE.out hf0)
     have hf1:(fv == 0)=false:=by simpa using hf0
     clear hf0
     have EWL:Hid (∀ x∈way,Ends kv x):=Lib.hid (WU.out.end_ EE.out).2
     have EID:Hid (Ends kv k):=Lib.hid (WU.out.end_ EE.out).1
     obtain ⟨A9,n9,c9,e9,hc9,_,hrow9⟩:=OW.out.rd_from (B:=w.heap.size+2) (Nat.le_refl _) (fun _ h=>h.elim)
     have hn9:n9=way.length:=hrow9.1.symm
     subst hn9
     subst e9
     have RW:=Lib.hid hrow9
     clear hrow9 hc9
     have hb9:(way).length≤2000000000:=by omega
     obtain ⟨WL,hWL⟩:∃ x,x=way:=⟨_,rfl⟩
     rw [← hWL] at EWL RW hb9 ⊢
     obtain ⟨N9,hN9⟩:∃ x,x=WL.length:=⟨_,rfl⟩
     rw [← hN9] at RW hb9 ⊢
     clear hWL hN9
     go_wp2_with (first
      | ((with_reducible refine at_look (t:=174) (m:=.tmp 19) (x:=.tmp 20) (c:=false) ?_ ?_); exact rfl; go_loud (refine wpList_lookup_kv0 rfl (.tmp 19) (.tmp 20) _ rfl und_mii FFr.out at_ (hz _) rfl rfl ?_); rw [HFV.out]))
     go_loopw [10,43] (fun _ i wr3=>∃ (q:Nat) (kvG:List (Int×Int)),q≤N9∧i=.int .i64 q∧MapIt kI cI wr3 (w.heap.size+1) b kv left'∧IsMap kI cI wr3 w.heap.size kvG∧FineOk kv kvG∧Row Shape.intV wr3 (From (w.heap.size+2) wr3) A9 N9 WL∧Below w.heap.size w wr3) (fun _ i _=>N9 - (intOf i).toNat)
     case atStart=>exact ⟨0,kvF,Nat.zero_le _,rfl,ITr.out,FFr.out,FO.out,RW.out,HBr.out⟩
     case round =>
      obtain ⟨q,kvG,hq,rfl,hit,hf,hfok,hrw,hbel⟩:=hrel
      have ITq:=Lib.hid hit; have FFq:=Lib.hid hf; have FOq:=Lib.hid hfok; have RWq:=Lib.hid hrw; have HBq:=Lib.hid hbel
      clear hit hf hfok hrw hbel
      by_cases hlq:q<N9
      ·have hqs:(q:Int)<N9:=by omega
       obtain ⟨b9,off9,es9,hkl9,rfl,hbm9,hc9,hr9⟩:=RWq.out.at_ hlq
       have c9':=hc9 0 (by decide)
       have hr9':es9=[.int .i64 WL[q]]:=hr9
       subst hr9'
       have e13:Shape.intV.size=1:=rfl
       simp only [e13,Nat.mul_one,Nat.add_zero,List.getElem?_cons_zero] at c9'
       have lb9:=hbm9.2
       obtain ⟨x9,hx9⟩:∃ x,x=WL[q]:=⟨_,rfl⟩
       rw [← hx9] at c9'
       have HX9:=Lib.hid hx9
       have hmem9:Ends kv x9:=by rw [hx9]; exact EWL.out _ (List.getElem_mem hkl9)
       have HM9:=Lib.hid hmem9
       clear hc9 hr9 hx9 hmem9
       go_wp2_with (first
        | ((with_reducible refine at_upd (t:=174) (m:=.tmp 47) (x:=.tmp 48) (v:=.const (.int .i64 1)) ?_ ?_); exact rfl; go_loud (refine wpList_mapUpdate_kv rfl (.tmp 47) (.tmp 48) (.const (.int .i64 1)) _ rfl und_mii FFq.out x9 1 rfl rfl rfl (fun w7 hm7 ho7=>StopR.mk ?_))))
       unfold StopR
       have hg7:=ho7.grown
       go_wp2_with fail
       go_roundw
       case rel =>
        refine ⟨q+1,_,by omega,by go_num,ITq.out.grown hg7 ?_ ?_,hm7,FOq.out.put HM9.out,(RWq.out.keep fun n hn=>ho7.block n (by have:=hn.1; omega)).more fun n hn=>⟨hn.1,by have:=hn.2; have:=ho7.size; omega⟩,HBq.out.grown hg7 (by have:=HBq.out.size; omega) (fun k e=>by injection e with e; omega)⟩
        ·intro e; injection e with e; omega
        ·intro e; injection e with e; omega
       case measure=>simp [intOf]; omega
      ·have hqs:¬ (q:Int)<N9:=by omega
       go_wp2_with fail
       go_roundw
       case rel =>
        refine ⟨done++[(k,v)],left',kvG,ITq.out,perm_next PM.out HPL.out,FFq.out,FOq.out,fun p hp=>?_,HBq.out⟩
        rw [List.mem_append,List.mem_singleton] at hp
        rcases hp with hp | rfl
        ·exact DN.out p hp
        ·exact EID.out
       case measure =>
        rw [ITq.out.left_eq,IT0.out.left_eq,HPL.out.length_eq]
        simp
end Go.Proofs.YtfhfcipelgogjaaGreatDoor
