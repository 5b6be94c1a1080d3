/- What a walk does to the things keeps them in bounds. Plain. -/
import Derived.Test.YtfhfcipelgogjaaGreatDoorFModAll
import Derived.Test.YtfhfcipelgogjaaGreatDoorFPlant
import Derived.Test.YtfhfcipelgogjaaGreatDoorGtree
import Derived.OpenShut
set_option linter.unusedSectionVars false
set_option linter.unusedVariables false
set_option linter.unusedSimpArgs false
namespace Go.Proofs.YtfhfcipelgogjaaGreatDoor
open Go.RowKit
def NameOk (p:ByteArray):Prop:=0<p.size∧p.size≤50000000
def TimeOk (t:TimeD):Prop:=I64 t.sec∧I64 t.nano
def OkN (N:Nat) (ths:List ThD):Prop:=∀ t∈ths,(I64 t.mode∧I64 t.uid∧I64 t.gid∧TimeOk t.mtime∧t.data.length≤1000000000∧t.target.size≤100000000∧∀ p∈t.ins,NameOk p.1)∧t.ins.length≤N
structure JobOk (j:JobD):Prop where
 mode:I64 j.mode
 uid:I64 j.uid
 gid:I64 j.gid
 mtime:TimeOk j.mtime
 dirMode:I64 j.dirMode
 data:j.data.length≤1000000000
 text:j.text.size≤100000000
 parts:∀ p∈j.parts,NameOk p
 few:j.parts.length≤64
theorem OkN.mono {N M:Nat} {ths:List ThD} (h:OkN N ths) (hm:N≤M):OkN M ths:=fun t ht=>⟨(h t ht).1,Nat.le_trans (h t ht).2 hm⟩
theorem OkN.oks {N:Nat} {ths:List ThD} (h:OkN N ths) (hN:N≤1000000000):OkTs ths:=fun t ht=>by
 obtain ⟨⟨a,b,c,d,e,f,g⟩,k⟩:=h t ht
 exact ⟨a,b,c,d.1,d.2,e,f,Nat.le_trans k hN,g⟩
theorem putKv_lenT {l:List (ByteArray×Nat)} {k:ByteArray} {x:Nat}:(putKv l k x).length≤l.length+1:=by
 unfold putKv; split
 ·rw [List.length_map]; omega
 ·simp
theorem putKv_memT {l:List (ByteArray×Nat)} {k:ByteArray} {x:Nat}:∀ p∈putKv l k x,p∈l∨p.1=k:=by
 intro p h
 unfold putKv at h
 split at h
 ·obtain ⟨q,hq,rfl⟩:=List.mem_map.1 h
  split
  ·exact .inr rfl
  ·exact .inl hq
 ·rcases List.mem_append.1 h with h | h
  ·exact .inl h
  ·simp only [List.mem_singleton] at h; subst h; exact .inr rfl
theorem mem_set_thD {ths:List ThD} {d:Nat} {t x:ThD} (h:x∈ths.set d t):x∈ths∨(d<ths.length∧x=t):=by
 rcases List.mem_or_eq_of_mem_set h with h1 | h1
 ·exact .inl h1
 ·by_cases hd:d<ths.length
  ·exact .inr ⟨hd,h1⟩
  ·rw [List.set_eq_of_length_le (by omega)] at h; exact .inl h
theorem thD_mem {ths:List ThD} {d:Nat} (h:d<ths.length):thD ths d∈ths:=List.mem_of_getElem? (thD_at h)
theorem OkN.put {N:Nat} {now:TimeD} {ths:List ThD} {d:Nat} {name:ByteArray} {x:Nat} (h:OkN N ths) (hn:TimeOk now) (hp:NameOk name):OkN (N+1) (putT now ths d name x):=by
 intro t ht
 rcases mem_set_thD ht with h1 | ⟨hd,rfl⟩
 ·exact ⟨(h t h1).1,Nat.le_succ_of_le (h t h1).2⟩
 ·obtain ⟨⟨a,b,c,-,e,f,g⟩,k⟩:=h _ (thD_mem hd)
  refine ⟨⟨a,b,c,hn,e,f,fun p hpm=>?_⟩,Nat.le_trans putKv_lenT (by omega)⟩
  rcases putKv_memT p hpm with h2 | h2
  ·exact g p h2
  ·rw [h2]; exact hp
theorem OkN.drop {N:Nat} {now:TimeD} {ths:List ThD} {d:Nat} {name:ByteArray} (h:OkN N ths) (hn:TimeOk now):OkN N (dropT now ths d name):=by
 intro t ht
 rcases mem_set_thD ht with h1 | ⟨hd,rfl⟩
 ·exact h t h1
 ·obtain ⟨⟨a,b,c,-,e,f,g⟩,k⟩:=h _ (thD_mem hd)
  refine ⟨⟨a,b,c,hn,e,f,fun p hpm=>g p ?_⟩,Nat.le_trans ?_ k⟩
  ·unfold delKv at hpm; exact (List.mem_filter.1 hpm).1
  ·unfold delKv; exact List.length_filter_le _ _
theorem OkN.push {N:Nat} {ths:List ThD} {t:ThD} (h:OkN N ths) (ht:OkN N [t]):OkN N (ths++[t]):=by
 intro x hx
 rcases List.mem_append.1 hx with h1 | h1
 ·exact h x h1
 ·exact ht x h1
theorem i64_0:I64 0:=by unfold I64; omega
theorem okN_dir {N:Nat} {mode:Int} {now:TimeD} (hm:I64 mode) (hn:TimeOk now):OkN N [dirD mode now]:=by
 intro t ht
 simp only [List.mem_singleton] at ht
 subst ht
 exact ⟨⟨hm,i64_0,i64_0,hn,Nat.zero_le _,Nat.zero_le _,fun p hp=>(by cases hp)⟩,Nat.zero_le _⟩
theorem okN_fresh {N:Nat} {now:TimeD} {j:JobD} (hj:JobOk j) (hn:TimeOk now):OkN N [freshD now j]:=by
 unfold freshD
 split
 ·exact okN_dir (by unfold I64; omega) hn
 split
 ·intro t ht
  simp only [List.mem_singleton] at ht
  subst ht
  exact ⟨⟨by show I64 511; unfold I64; omega,i64_0,i64_0,hn,Nat.zero_le _,hj.text,fun p hp=>(by cases hp)⟩,Nat.zero_le _⟩
 ·intro t ht
  simp only [List.mem_singleton] at ht
  subst ht
  refine ⟨⟨hj.mode,?_,?_,hj.mtime,hj.data,Nat.zero_le _,fun p hp=>(by cases hp)⟩,Nat.zero_le _⟩
  ·show I64 (if j.keepIds then j.uid else 0)
   split
   ·exact hj.uid
   ·exact i64_0
  ·show I64 (if j.keepIds then j.gid else 0)
   split
   ·exact hj.gid
   ·exact i64_0
theorem wayF_ok {now:TimeD} {mode:Int} (hm:I64 mode) (hn:TimeOk now):∀ (ps:List ByteArray) (ths:List ThD) (d N:Nat),(∀ p∈ps,NameOk p)→OkN N ths→OkN (N+ps.length) (wayF now mode ps ths d).1
 | [],ths,d,N,_,h=>h
 | p :: ps,ths,d,N,hp,h=>by
  have hps:∀ q∈ps,NameOk q:=fun q hq=>hp q (List.mem_cons_of_mem _ hq)
  unfold wayF
  split
  ·split
   ·split
    ·exact h.mono (Nat.le_add_right _ _)
    ·split
     ·have:=wayF_ok hm hn ps _ ths.length (N+1) hps (((h.push (okN_dir hm hn)).put (d:=d) (x:=ths.length) hn (hp p (by simp))))
      rw [show N+(p :: ps).length=N+1+ps.length by simp; omega]
      exact this
     ·exact h.mono (Nat.le_add_right _ _)
   ·split
    ·exact h.mono (Nat.le_add_right _ _)
    ·split
     ·exact h.mono (Nat.le_add_right _ _)
     ·exact (wayF_ok hm hn ps ths _ N hps h).mono (by simp)
  ·exact h.mono (Nat.le_add_right _ _)
def OkS (N:Nat) (s:FoldS):Prop:=OkN N s.ths∧∀ p∈s.off,JobOk p.2
theorem putKv_memO {l:List (Nat×JobD)} {k:Nat} {x:JobD}:∀ p∈putKv l k x,p∈l∨p.2=x:=by
 intro p h
 unfold putKv at h
 split at h
 ·obtain ⟨q,hq,rfl⟩:=List.mem_map.1 h
  split
  ·exact .inr rfl
  ·exact .inl hq
 ·rcases List.mem_append.1 h with h | h
  ·exact .inl h
  ·simp only [List.mem_singleton] at h; subst h; exact .inr rfl
theorem off_put {off:List (Nat×JobD)} {k:Nat} {j:JobD} (h:∀ p∈off,JobOk p.2) (hj:JobOk j):∀ p∈putKv off k j,JobOk p.2:=fun p hp=>by
 rcases putKv_memO p hp with h1 | h1
 ·exact h p h1
 ·rw [h1]; exact hj
theorem placeF_ok {now:TimeD} {j:JobD} {ths:List ThD} {off:List (Nat×JobD)} {d:Nat} {name:ByteArray} {src N:Nat} (h:OkN N ths) (ho:∀ p∈off,JobOk p.2) (hj:JobOk j) (hn:TimeOk now) (hp:NameOk name):OkS (N+1) (placeF now j ths off d name src).1:=by
 unfold placeF
 split
 ·exact ⟨h.put hn hp,ho⟩
 ·refine ⟨(h.push (okN_fresh hj hn)).put hn hp,?_⟩
  show ∀ p∈(if j.kind=2 then _ else _),_
  split
  ·exact off_put ho hj
  ·exact ho
theorem overF_ok {now:TimeD} {j:JobD} {ths:List ThD} {off:List (Nat×JobD)} {d:Nat} {name:ByteArray} {src N:Nat} (h:OkN N ths) (ho:∀ p∈off,JobOk p.2) (hj:JobOk j) (hn:TimeOk now) (hp:NameOk name):OkS (N+1) (overF now j ths off d name src).1:=by
 have h1:=h.mono (Nat.le_succ N)
 unfold overF
 split
 ·exact placeF_ok h ho hj hn hp
 ·split
  ·exact ⟨h1,ho⟩
  split
  ·exact ⟨h1,off_put ho hj⟩
  split
  ·exact ⟨h1,ho⟩
  split
  ·exact ⟨h1,ho⟩
  split
  ·exact ⟨h1,ho⟩
  ·exact placeF_ok (h.drop hn) ho hj hn hp
theorem lastP_ok {j:JobD} (hj:JobOk j) (hne:¬ j.parts=[]):NameOk (lastP j.parts):=by
 unfold lastP
 have:0<j.parts.length:=List.length_pos_iff.2 hne
 rw [List.getD_eq_getElem?_getD,List.getElem?_eq_getElem (by omega)]
 exact hj.parts _ (List.getElem_mem _)
theorem applyF_ok {now:TimeD} {r:Nat} {j:JobD} {ths:List ThD} {off:List (Nat×JobD)} {N:Nat} (h:OkN N ths) (ho:∀ p∈off,JobOk p.2) (hj:JobOk j) (hn:TimeOk now):OkS (N+66) (applyF now r j ths off).1:=by
 have way0:∀ (ps:List ByteArray) (ths:List ThD) (d:Nat),(wayF now (-1) ps ths d).1=ths:=by
  intro ps
  induction ps with
  | nil=>intro ths d; rfl
  | cons p ps ih =>
   intro ths d
   unfold wayF
   split
   ·split
    ·simp
    ·split
     ·rfl
     ·split
      ·rfl
      ·exact ih _ _
   ·rfl
 have hb:∀ d,OkN (N+64) (wayF now j.dirMode (j.parts.take (j.parts.length - 1)) ths d).1:=fun d=>(wayF_ok hj.dirMode hn _ ths d N (fun p hp=>hj.parts p (List.mem_of_mem_take hp)) h).mono (by rw [List.length_take]; have:=hj.few; omega)
 have up:∀ {s:FoldS},OkS (N+64+1) s→OkS (N+66) s:=fun q=>⟨q.1.mono (by omega),q.2⟩
 unfold applyF
 split
 ·exact ⟨h.mono (Nat.le_add_right _ _),off_put ho hj⟩
 ·rename_i hne
  split
  ·simp only [way0]
   split
   ·exact ⟨h.mono (Nat.le_add_right _ _),ho⟩
   split
   ·exact ⟨(hb r).mono (by omega),ho⟩
   split
   ·exact ⟨(hb r).mono (by omega),ho⟩
   ·split
    ·exact ⟨(hb r).mono (by omega),ho⟩
    ·split
     ·exact ⟨(hb r).mono (by omega),ho⟩
     ·exact up (overF_ok (hb r) ho hj hn (lastP_ok hj hne))
  ·simp only
   split
   ·exact ⟨(hb r).mono (by omega),ho⟩
   split
   ·exact ⟨(hb r).mono (by omega),ho⟩
   ·exact up (overF_ok (hb r) ho hj hn (lastP_ok hj hne))
theorem settleV_I64 (a b:Int) (k:Bool):I64 (settleV a b k):=by
 unfold settleV I64
 have:=settle_lt (bv a) (bv b) k
 omega
theorem jobOk {e:EntryD} {c:ConfigD} (hf:fitB e=true) (hl:e.link.size≤100000000) (hd:e.data.length≤100000000) (hc:(cfgBs c).all inB=true) (ho:¬ (planOf e c).out≠0):JobOk (jobOf (planOf e c)):=by
 unfold fitB at hf
 simp only [Bool.and_eq_true,decide_eq_true_eq] at hf
 obtain ⟨⟨⟨⟨u1,u2⟩,g1⟩,g2⟩,hst⟩:=hf
 unfold stampOk at hst
 have hst:=of_decide_eq_true hst
 have hbs:∀ b∈cfgBs c,b.lo≤b.v∧b.v≤b.hi:=fun b hb=>by
  have:=List.all_eq_true.1 hc b hb
  unfold inB at this
  simp at this
  exact ⟨this.1,this.2⟩
 have b3:=hbs ⟨c.maxDepth,1,64⟩ (by simp [cfgBs])
 have b4:=hbs ⟨c.maxName,1,4096⟩ (by simp [cfgBs])
 simp only at b3 b4
 by_cases h1:e.kind<1∨4<e.kind
 ·exact absurd (by unfold planOf; rw [if_pos h1]; exact (by decide:(2:Int)≠0)) ho
 by_cases h2:routeE e.name.data.toList c.maxName c.maxDepth≠0
 ·exact absurd (by unfold planOf; rw [if_neg h1,if_pos h2]; exact (by decide:(2:Int)≠0)) ho
 by_cases h3:chosenE (bytesL c.include_) (bytesL c.exclude)≠0
 ·exact absurd (by unfold planOf; rw [if_neg h1,if_neg h2,if_pos h3]; exact (by decide:(2:Int)≠0)) ho
 by_cases h4:chosenV (bytesL c.include_) (bytesL c.exclude) (joinP (partsOf e.name.data.toList))=false∨(0<c.strip∧((partsOf e.name.data.toList).length:Int)≤c.strip)
 ·exact absurd (by unfold planOf; rw [if_neg h1,if_neg h2,if_neg h3,if_pos h4]; exact (by decide:(3:Int)≠0)) ho
 by_cases h5:leftOf e c=[]∧e.kind≠2
 ·exact absurd (by unfold planOf; rw [if_neg h1,if_neg h2,if_neg h3,if_neg h4,if_pos h5]; exact (by decide:(2:Int)≠0)) ho
 by_cases h6:linkE e c≠0
 ·exact absurd (by unfold planOf; rw [if_neg h1,if_neg h2,if_neg h3,if_neg h4,if_neg h5,if_pos h6]; exact (by decide:(2:Int)≠0)) ho
 have hlen:e.name.data.toList.length≤4096∧(partsOf e.name.data.toList).length≤64:=by
  have h2:routeE e.name.data.toList c.maxName c.maxDepth=0:=Classical.byContradiction h2
  unfold routeE at h2
  split at h2
  ·cases h2
  split at h2
  ·cases h2
  rename_i hq
  split at h2
  ·cases h2
  split at h2
  ·cases h2
  split at h2
  ·cases h2
  split at h2
  ·cases h2
  split at h2
  ·cases h2
  rename_i hq2
  omega
 have E:planOf e c={ kind:=e.kind,parts:=textsL (leftOf e c),from_:=if e.kind=4 then textsL ((partsOf e.link.data.toList).drop c.strip.toNat) else [],text:=if e.kind=3 then e.link else ⟨#[]⟩,data:=if e.kind=1 then e.data else [],mode:=settleV e.mode c.umask c.keepSetid,uid:=e.uid,gid:=e.gid,sec:=e.mtime.sec,nano:=e.mtime.nano,dirMode:=bits .or .i64 (settleV 493 c.umask false) 448,replace:=c.replace,keepIds:=c.keepIds }:=by
  unfold planOf
  rw [if_neg h1,if_neg h2,if_neg h3,if_neg h4,if_neg h5,if_neg h6]
 rw [E]
 have k1:I64 e.uid:=⟨by omega,by omega⟩
 have k2:I64 e.gid:=⟨by omega,by omega⟩
 have k3:I64 e.mtime.sec:=⟨by omega,by omega⟩
 have k4:I64 e.mtime.nano:=⟨by omega,by omega⟩
 have k5:I64 (bits .or .i64 (settleV 493 c.umask false) 448):=wf_I64 (wf_bits _ _ _ _)
 have k6:(if e.kind=1 then e.data else []).length≤1000000000:=by
  split
  ·omega
  ·simp
 have k7:(if e.kind=3 then e.link else (⟨#[]⟩:ByteArray)).size≤100000000:=by
  split
  ·exact hl
  ·exact Nat.zero_le _
 have k8:∀ p∈textsL (leftOf e c),NameOk p:=by
  intro p hp
  unfold textsL leftOf at hp
  obtain ⟨q,hq,rfl⟩:=List.mem_map.1 hp
  have hm:=parts_mem (List.mem_of_mem_drop hq)
  obtain ⟨-,-,m3,-,m5⟩:=hm
  have es:(ByteArray.mk q.toArray).size=q.length:=by simp [ByteArray.size]
  have m3:=List.length_pos_iff.2 m3
  exact ⟨by rw [es]; exact m3,by rw [es]; omega⟩
 have k9:(textsL (leftOf e c)).length≤64:=by
  unfold textsL leftOf
  rw [List.length_map,List.length_drop]
  omega
 have k0:=settleV_I64 e.mode c.umask c.keepSetid
 clear E hlen hst u1 u2 g1 g2 hbs b3 b4 h1 h2 h3 h4 h5 h6 ho hc
 exact { mode:=k0,uid:=k1,gid:=k2,mtime:=⟨k3,k4⟩,dirMode:=k5,data:=k6,text:=k7,parts:=k8,few:=k9 }
theorem stepF_ok {now:TimeD} {r:Nat} {c:ConfigD} {x:WSt} {e:EntryD} (hf:fitB e=true) (hl:e.link.size≤100000000) (hd:e.data.length≤100000000) (hc:(cfgBs c).all inB=true) (hn:TimeOk now) {N:Nat} (h:OkS N x.s):OkS (N+66) (stepF now r c x e).1.s:=by
 have h1:OkS (N+66) x.s:=⟨h.1.mono (Nat.le_add_right _ _),h.2⟩
 unfold stepF
 split
 ·exact h1
 split
 ·exact h1
 rename_i ho
 split
 ·exact h1
 split <;> exact applyF_ok h.1 h.2 (jobOk hf hl hd hc ho) hn
theorem stepF_more {now:TimeD} {r:Nat} {c:ConfigD} {x:WSt} {e:EntryD} (h:(stepF now r c x e).2=0):(stepF now r c x e).1.done.length=x.done.length+1∧(x.done.length:Int)<c.maxEntries:=by
 unfold stepF at h ⊢
 split at h
 ·cases h
 rename_i h0
 rw [if_neg h0]
 split at h
 ·rename_i h1; rw [if_pos h1]; exact ⟨by simp,by omega⟩
 rename_i h1
 rw [if_neg h1]
 split at h
 ·cases h
 rename_i h2
 rw [if_neg h2]
 split at h
 ·cases h
 rename_i h3
 rw [if_neg h3]
 exact ⟨by simp,by omega⟩
theorem walkF_ok {now:TimeD} {r:Nat} {c:ConfigD} (hc:(cfgBs c).all inB=true) (hn:TimeOk now):∀ (es:List EntryD) (x:WSt) (N:Nat),(∀ e∈es,fitB e=true∧e.link.size≤100000000∧e.data.length≤100000000)→x.done.length≤65536→OkS (N+66*x.done.length) x.s→OkS (N+66*65537) (walkF now r c es x).1.s
 | [],x,N,_,hx,h=>⟨h.1.mono (by omega),h.2⟩
 | e :: es,x,N,he,hx,h=>by
  obtain ⟨e1,e2,e3⟩:=he e (by simp)
  have h1:=stepF_ok (r:=r) e1 e2 e3 hc hn h
  unfold walkF
  split
  ·rename_i h0
   obtain ⟨q1,q2⟩:=stepF_more h0
   have hme:c.maxEntries≤65536:=by
    have:=List.all_eq_true.1 hc ⟨c.maxEntries,0,65536⟩ (by simp [cfgBs])
    unfold inB at this
    simp at this
    exact this.2
   refine walkF_ok hc hn es _ N (fun e he'=>he e (List.mem_cons_of_mem _ he')) (by omega) ?_
   rw [q1,show N+66*(x.done.length+1)=N+66*x.done.length+66 by omega]
   exact h1
  ·exact ⟨h1.1.mono (by omega),h1.2⟩
theorem finishF_ok {N:Nat} {ths:List ThD} {off:List (Nat×JobD)} (h:OkN N ths) (ho:∀ p∈off,JobOk p.2):OkN N (finishF ths off):=by
 intro t ht
 obtain ⟨i,hi⟩:=List.getElem?_of_mem ht
 have hlt:i<ths.length:=by rw [← finBy_len (getKv off) ths]; exact (List.getElem?_eq_some_iff.1 hi).1
 have e:t=thD (finBy (getKv off) ths) i:=by unfold thD; rw [List.getD_eq_getElem?_getD]; show t=((finishF ths off)[i]?).getD _; rw [hi]; rfl
 rw [finBy_at _ _ hlt] at e
 obtain ⟨⟨a,b,c,d,e1,f,g⟩,k⟩:=h _ (thD_mem hlt)
 cases hk:getKv off i with
 | none=>rw [hk] at e; rw [e]; exact h _ (thD_mem hlt)
 | some j =>
  rw [hk] at e
  simp only at e
  subst e
  have hj:JobOk j:=by
   unfold getKv at hk
   rw [Option.map_eq_some_iff] at hk
   obtain ⟨q,hq,rfl⟩:=hk
   exact ho q (List.mem_of_find?_eq_some hq)
  refine ⟨⟨hj.mode,?_,?_,hj.mtime,e1,f,g⟩,k⟩
  ·show I64 (if j.keepIds then j.uid else _)
   split
   ·exact hj.uid
   ·exact b
  ·show I64 (if j.keepIds then j.gid else _)
   split
   ·exact hj.gid
   ·exact c
theorem enterAll_good {gs:List NodeD}:∀ (l:List NodeD) (kv kv':List (Int×Int)),enterAll gs l kv=some kv'→∀ n∈l,∀ e∈n.ents,0<e.name.size∧e.name.size≤255
 | [],_,_,_=>fun n hn=>by cases hn
 | x :: l,kv,kv',h=>by
  unfold enterAll at h
  rw [Option.bind_eq_some_iff] at h
  obtain ⟨kv1,h1,h2⟩:=h
  intro n hn
  rcases List.mem_cons.1 hn with rfl | hn
  ·have key:∀ (es:List EntD) (name:ByteArray) (kv kv':List (Int×Int)),enterF gs n.id es name kv=some kv'→∀ e∈es,0<e.name.size∧e.name.size≤255:=by
    intro es
    induction es with
    | nil=>intro _ _ _ _ e he; cases he
    | cons x es ih =>
     intro name kv kv' h e he
     unfold enterF at h
     cases hk:getKv (idx gs) x.id with
     | none=>rw [hk] at h; cases h
     | some i =>
      rw [hk] at h
      simp only at h
      have hgood:GoodP x.name:=by
       apply Classical.byContradiction
       intro hg
       rw [if_pos hg] at h; cases h
      have hrest:∃ name kv kv',enterF gs n.id es name kv=some kv':=by
       rw [if_neg (by simpa using hgood)] at h
       split at h
       ·cases h
       ·split at h
        ·exact ⟨_,_,_,h⟩
        ·split at h
         ·cases h
         ·exact ⟨_,_,_,h⟩
      rcases List.mem_cons.1 he with rfl | he
      ·refine ⟨?_,hgood.2.2.2.1⟩
       rw [← size_list]
       exact List.length_pos_iff.2 hgood.1
      ·obtain ⟨a,b,c,hr⟩:=hrest
       exact ih a b c hr e he
   exact key _ _ _ _ h1
  ·exact enterAll_good l kv1 kv' h2 n hn
theorem entsSum_mem {gs:List NodeD} {n:NodeD} (h:n∈gs):n.ents.length≤entsSum gs:=by
 induction gs with
 | nil=>cases h
 | cons a l ih =>
  simp only [entsSum]
  rcases List.mem_cons.1 h with rfl | h
  ·omega
  ·have:=ih h; omega
theorem plantT_ok {gs:List NodeD} (hW:WfG gs) (hd:∀ n∈gs,n.data.length≤1000000000):OkN 8192 (plantT gs):=by
 intro t ht
 obtain ⟨i,hi⟩:=List.getElem?_of_mem ht
 unfold plantT at hi
 rw [plantP_get] at hi
 cases hg:gs[i]? with
 | none=>rw [hg] at hi; cases hi
 | some n =>
  rw [hg] at hi
  simp only [Option.map_some,Option.some.injEq] at hi
  have hil:i<gs.length:=(List.getElem?_eq_some_iff.1 hg).1
  rw [if_pos hil] at hi
  subst hi
  have hmem:=List.mem_of_getElem? hg
  obtain ⟨hb,kv,hkv,-⟩:=hW
  unfold basicB at hb
  simp only [Bool.and_eq_true,decide_eq_true_eq] at hb
  have hs:=scanB_sound gs 0 hb.1.2 n hmem
  have hs2:=hs
  unfold soundB at hs
  simp only [Bool.and_eq_true] at hs
  obtain ⟨⟨⟨⟨⟨⟨-,h2⟩,h3⟩,h4⟩,-⟩,h6⟩,-⟩:=hs
  unfold withinB at h2 h3 h4
  simp only [Bool.and_eq_true,decide_eq_true_eq] at h2 h3 h4
  unfold stampOk at h6
  have h6:=of_decide_eq_true h6
  have hsum:=entsSum_mem hmem
  refine ⟨⟨⟨by show _≤n.mode; omega,by show n.mode≤_; omega⟩,⟨by show _≤n.uid; omega,by show n.uid≤_; omega⟩,⟨by show _≤n.gid; omega,by show n.gid≤_; omega⟩,⟨⟨by show _≤n.mtime.sec; omega,by show n.mtime.sec≤_; omega⟩,⟨by show _≤n.mtime.nano; omega,by show n.mtime.nano≤_; omega⟩⟩,hd n hmem,?_,?_⟩,?_⟩
  ·have:=small_target hs2
   show n.target.size≤_
   omega
  ·intro p hp
   have hp:p∈insG gs n.ents:=hp
   unfold insG at hp
   obtain ⟨e,he,rfl⟩:=List.mem_map.1 hp
   have:=enterAll_good gs [] kv hkv n hmem e he
   exact ⟨this.1,by show e.name.size≤_; omega⟩
  ·show (insG gs n.ents).length≤_
   unfold insG
   rw [List.length_map]
   omega
end Go.Proofs.YtfhfcipelgogjaaGreatDoor
