/- The reference's comparison of two byte lists. No condition but room. Copies and comparisons of byte lists. No condition but room. slices.Equal at byte lists. No condition but room. graph's comparison of lines. No condition but room. slices.EqualFunc at lists of lines, with graph's comparison. No condition but room. The reference's comparison of lines. No condition but room. Copies and comparisons of lists of lines. No condition but room. -/
import Derived.Test.YtfhfcipelgogjaaGreatDoorBaseAt
import Derived.Test.YtfhfcipelgogjaaGreatDoorEscAll
import Derived.Test.YtfhfcipelgogjaaGreatDoorDataAll
import Derived.BigGuardPart
set_option linter.unusedVariables false
set_option linter.unusedSimpArgs false
set_option linter.unusedSectionVars false
set_option maxHeartbeats 4000000
set_option maxRecDepth 100000
namespace Go.Proofs.YtfhfcipelgogjaaGreatDoor
open Go.RowKit
attribute [local go_sem] cell?_over frozen?_over lt_over le_over
theorem sameBytes {A A':Option Addr} {n c n' c':Nat} {l l':List UInt8} (w:World) (h:Row Shape.byte w (Old w) A n l) (h':Row Shape.byte w (Old w) A' n' l') (hn:n≤140737488355328) (hn':n'≤140737488355328) :
  Calls Tryz.prog 24 #[.slice A n c,.slice A' n' c'] w fun e w'=>e=.returned (.bool (decide (l=l')))∧∃ δ,w'=over w δ:=by
 have hl:=h.1
 have hl':=h'.1
 by_cases hnn:n=n'
 ·subst hnn
  have HL:=Lib.hid hl; have HL':=Lib.hid hl'; clear hl hl'
  have hb0:((n:Int) != n)=false:=by simp
  go_enter Tryz.func24,Tryz.ntmps24
  go_wp2_with fail
  go_loopw [5] (fun i wr=>∃ k:Nat,k≤n∧i=.int .i64 k∧l.take k=l'.take k∧Below w.heap.size w wr) (fun i _=>n - (intOf i).toNat)
  case atStart=>exact ⟨0,Nat.zero_le _,rfl,by simp,Below.refl _ _⟩
  case round =>
   obtain ⟨k,hk,rfl,htake,hbel⟩:=hrel
   have HT:=Lib.hid htake; clear htake
   by_cases hlt:k<n
   ·obtain ⟨b,off,es,hkl,rfl,hb,hc,hr⟩:=h.at_ hlt
    obtain ⟨b',off',es',hkl',rfl,hb',hc',hr'⟩:=h'.at_ hlt
    have c0:=hc 0 (by decide)
    have c0':=hc' 0 (by decide)
    simp only [Shape.byte] at hr hr' c0 c0'
    subst hr hr'
    simp only [Nat.mul_one,Nat.add_zero,List.getElem?_cons_zero] at c0 c0'
    rw [← hbel.cell (p:=⟨b,off+k,none⟩) hb] at c0
    rw [← hbel.cell (p:=⟨b',off'+k,none⟩) hb'] at c0'
    have hb2:=Nat.lt_of_lt_of_le hb hbel.size
    have hb2':=Nat.lt_of_lt_of_le hb' hbel.size
    have hks:(k:Int)<n:=by omega
    clear hc hc'
    by_cases heq:l[k]=l'[k]
    ·have hne:((l[k].toNat:Int) != (l'[k].toNat:Int))=false:=by rw [heq]; simp
     have HE:=Lib.hid heq; clear heq
     go_wp2
     refine wp_region_over (by kernel_rfl) (by kernel_rfl) ?_
     repeat (go_big_quiet_step (fail))
     refine wpQuiet_nil ?_
     rintro _ ⟨δ',rfl⟩
     go_wp2
     go_roundw
     case rel =>
      refine ⟨k+1,by omega,by go_num,?_,below_trans_over hbel hbel.size _⟩
      rw [List.take_succ_eq_append_getElem hkl,List.take_succ_eq_append_getElem hkl',HT.out,HE.out]
     case measure=>simp [intOf]; omega
    ·have hne:((l[k].toNat:Int) != (l'[k].toNat:Int))=true:=by
      simp only [bne_iff_ne,ne_eq,Int.natCast_inj]
      exact fun e=>heq (UInt8.toNat_inj.1 e)
     have HE:=Lib.hid heq; clear heq
     go_wp2
     refine wp_region_over (by kernel_rfl) (by kernel_rfl) ?_
     repeat (go_big_quiet_step (fail))
     refine wpQuiet_nil ?_
     rintro _ ⟨δ',rfl⟩
     go_wp2
     go_ret
     refine ⟨ret_bool ?_,exists_over (below_trans_over hbel hbel.size _)⟩
     rw [eq_comm,decide_eq_false_iff_not]
     intro e
     apply HE.out
     simp only [e]
   ·go_wp2
    go_ret
    refine ⟨ret_bool ?_,exists_over hbel⟩
    rw [eq_comm,decide_eq_true_iff]
    have h1:=HT.out
    rw [List.take_of_length_le (by rw [HL.out]; omega),List.take_of_length_le (by rw [HL'.out]; omega)] at h1
    exact h1
 ·have hb0:((n:Int) != n')=true:=by simp; omega
  have e:decide (l=l')=false:=by
   rw [decide_eq_false_iff_not]
   rintro rfl
   omega
  have E:=Lib.hid e; clear e hl hl' hnn
  go_enter Tryz.func24,Tryz.ntmps24
  go_wp2_with fail
  go_ret
  exact ⟨ret_bool E.out.symm,exists_over (Below.refl _ _)⟩
end Go.Proofs.YtfhfcipelgogjaaGreatDoor
namespace Go.Proofs.YtfhfcipelgogjaaGreatDoor
open Go.RowKit
attribute [local go_sem] cell?_over frozen?_over lt_over le_over
def SmallL (l:List LineD):Prop:=∀ d∈l,d.data.length≤140737488355328
theorem line_ext {d d' : LineD} (e0 : d.path = d'.path) (e1 : d.kind = d'.kind) (e2 : d.mode = d'.mode) (e3 : d.uid = d'.uid) (e4 : d.gid = d'.gid) (e5 : d.mtime.sec = d'.mtime.sec) (e6 : d.mtime.nano = d'.mtime.nano)
    (e7 : d.target = d'.target) (e8 : d.peer = d'.peer) (e9 : d.data = d'.data) : d = d' := by
  obtain ⟨a0, a1, a2, a3, a4, ⟨a5, a6⟩, a7, a8, a9⟩ := d
  obtain ⟨b0, b1, b2, b3, b4, ⟨b5, b6⟩, b7, b8, b9⟩ := d'
  simp only at *
  subst e0 e1 e2 e3 e4 e5 e6 e7 e8 e9
  rfl
theorem copyBytes {A : Option Addr} {n c : Nat} {l : List UInt8} (w : World) (h : Row Shape.byte w (Old w) A n l) (hn : n ≤ 140737488355328) :
    Calls Tryz.prog 53 #[.slice A n c] w fun e w' => ∃ v δ, e = .returned v ∧ w' = over w δ ∧ Own Shape.byte 5 w' w.heap.size (fun _ => False) v l := by
  have hs := (Row.src (h.keep (Keeps.old_alloc w (.cells #[] 5)))).flat (M' := fun _ => False) flat_byte
  have hl := Nat.le_of_eq h.1
  go_enter Tryz.func53, Tryz.ntmps53
  go_wp2_with (first
    | (at_builtin
       refine wpList_append_list (v := .slice (some ⟨w.heap.size, 0, none⟩) 0 0) rfl (.tmp 5) (.tmp 6) _ rfl elem_byte rfl (Own.made Shape.byte _ w _ (Nat.le_refl _)) rfl hs (fun _ h => h.elim) ?_ ?_ ?_ ?_
       · simp; omega
       · simp [maxLen]; omega
       · simp
       intro v' w1 hown hg hat))
  go_ret
  have hb : Below w.heap.size w w1 := ((Below.refl _ _).alloc (Nat.le_refl _) _).grown hg (by simp) (by simp [Value.ownBlock])
  have e := over_of_below hb
  rw [e] at hown ⊢
  exact ⟨v', _, rfl, rfl, by simpa using hown⟩
end Go.Proofs.YtfhfcipelgogjaaGreatDoor
namespace Go.Proofs.YtfhfcipelgogjaaGreatDoor
open Go.RowKit
attribute [local go_sem] cell?_over frozen?_over lt_over le_over
theorem equalBytes {A A':Option Addr} {n c n' c':Nat} {l l':List UInt8} (w:World) (h:Row Shape.byte w (Old w) A n l) (h':Row Shape.byte w (Old w) A' n' l') (hn:n≤140737488355328) (hn':n'≤140737488355328) :
  Calls Tryz.prog 71 #[.slice A n c,.slice A' n' c'] w fun e w'=>e=.returned (.bool (decide (l=l')))∧∃ δ,w'=over w δ:=by
 have hl:=h.1
 have hl':=h'.1
 by_cases hnn:n=n'
 ·subst hnn
  have HL:=Lib.hid hl; have HL':=Lib.hid hl'; clear hl hl'
  have hb0:((n:Int) != n)=false:=by simp
  go_enter Tryz.func71,Tryz.ntmps71
  go_wp2_with fail
  go_loopw [13] (fun i wr=>∃ k:Nat,k≤n∧i=.int .i64 k∧l.take k=l'.take k∧Below w.heap.size w wr) (fun i _=>n - (intOf i).toNat)
  case atStart=>exact ⟨0,Nat.zero_le _,rfl,by simp,Below.refl _ _⟩
  case round =>
   obtain ⟨k,hk,rfl,htake,hbel⟩:=hrel
   have HT:=Lib.hid htake; clear htake
   by_cases hlt:k<n
   ·obtain ⟨b,off,es,hkl,rfl,hb,hc,hr⟩:=h.at_ hlt
    obtain ⟨b',off',es',hkl',rfl,hb',hc',hr'⟩:=h'.at_ hlt
    have c0:=hc 0 (by decide)
    have c0':=hc' 0 (by decide)
    simp only [Shape.byte] at hr hr' c0 c0'
    subst hr hr'
    simp only [Nat.mul_one,Nat.add_zero,List.getElem?_cons_zero] at c0 c0'
    rw [← hbel.cell (p:=⟨b,off+k,none⟩) hb] at c0
    rw [← hbel.cell (p:=⟨b',off'+k,none⟩) hb'] at c0'
    have hb2:=Nat.lt_of_lt_of_le hb hbel.size
    have hb2':=Nat.lt_of_lt_of_le hb' hbel.size
    have hks:(k:Int)<n:=by omega
    clear hc hc'
    by_cases heq:l[k]=l'[k]
    ·have hne:((l[k].toNat:Int) != (l'[k].toNat:Int))=false:=by rw [heq]; simp
     have HE:=Lib.hid heq; clear heq
     go_wp2
     refine wp_region_over (by kernel_rfl) (by kernel_rfl) ?_
     repeat (go_big_quiet_step (fail))
     refine wpQuiet_nil ?_
     rintro _ ⟨δ',rfl⟩
     go_wp2
     go_roundw
     case rel =>
      refine ⟨k+1,by omega,by go_num,?_,below_trans_over hbel hbel.size _⟩
      rw [List.take_succ_eq_append_getElem hkl,List.take_succ_eq_append_getElem hkl',HT.out,HE.out]
     case measure=>simp [intOf]; omega
    ·have hne:((l[k].toNat:Int) != (l'[k].toNat:Int))=true:=by
      simp only [bne_iff_ne,ne_eq,Int.natCast_inj]
      exact fun e=>heq (UInt8.toNat_inj.1 e)
     have HE:=Lib.hid heq; clear heq
     go_wp2
     refine wp_region_over (by kernel_rfl) (by kernel_rfl) ?_
     repeat (go_big_quiet_step (fail))
     refine wpQuiet_nil ?_
     rintro _ ⟨δ',rfl⟩
     go_wp2
     go_ret
     refine ⟨ret_bool ?_,exists_over (below_trans_over hbel hbel.size _)⟩
     rw [eq_comm,decide_eq_false_iff_not]
     intro e
     apply HE.out
     simp only [e]
   ·go_wp2
    go_ret
    refine ⟨ret_bool ?_,exists_over hbel⟩
    rw [eq_comm,decide_eq_true_iff]
    have h1:=HT.out
    rw [List.take_of_length_le (by rw [HL.out]; omega),List.take_of_length_le (by rw [HL'.out]; omega)] at h1
    exact h1
 ·have hb0:((n:Int) != n')=true:=by simp; omega
  have e:decide (l=l')=false:=by
   rw [decide_eq_false_iff_not]
   rintro rfl
   omega
  have E:=Lib.hid e; clear e hl hl' hnn
  go_enter Tryz.func71,Tryz.ntmps71
  go_wp2_with fail
  go_ret
  exact ⟨ret_bool E.out.symm,exists_over (Below.refl _ _)⟩
end Go.Proofs.YtfhfcipelgogjaaGreatDoor
namespace Go.Proofs.YtfhfcipelgogjaaGreatDoor
open Go.RowKit
attribute [local go_sem] cell?_over frozen?_over lt_over le_over
theorem graphSame_0 {cs cs':List Value} {d d':LineD} (w:World) (h:LineD.rd w (Old w) cs d) (h':LineD.rd w (Old w) cs' d') (hn:d.data.length≤140737488355328) (hn':d'.data.length≤140737488355328) (ne:¬ d.path=d'.path) :
  Calls Tryz.prog 39 #[.agg cs.toArray,.agg cs'.toArray] w fun e w'=>e=.returned (.bool false)∧∃ δ,w'=over w δ:=by
 obtain ⟨A,n,c,rfl,-,-,-,-,-,-,-,-,-,hrow,-⟩:=h
 obtain ⟨A',n',c',rfl,-,-,-,-,-,-,-,-,-,hrow',-⟩:=h'
 rw [hrow.1] at hn
 rw [hrow'.1] at hn'
 have HR:=Lib.hid hrow; have HR':=Lib.hid hrow'; clear hrow hrow'
 have hk:=str_ne ne
 have NE:=Lib.hid ne; clear ne
 go_enter Tryz.func39,Tryz.ntmps39
 go_wp2_with fail
 go_ret
 exact ⟨rfl,exists_over (by first | (refine below_trans_over ?_ ?_ _ <;> first | (go_grown; done) | (simp <;> omega)) | go_grown)⟩
theorem graphSame_1 {cs cs':List Value} {d d':LineD} (w:World) (h:LineD.rd w (Old w) cs d) (h':LineD.rd w (Old w) cs' d') (hn:d.data.length≤140737488355328) (hn':d'.data.length≤140737488355328) (e0:d.path=d'.path) (ne:¬ d.kind=d'.kind) :
  Calls Tryz.prog 39 #[.agg cs.toArray,.agg cs'.toArray] w fun e w'=>e=.returned (.bool false)∧∃ δ,w'=over w δ:=by
 obtain ⟨A,n,c,rfl,-,-,-,-,-,-,-,-,-,hrow,-⟩:=h
 obtain ⟨A',n',c',rfl,-,-,-,-,-,-,-,-,-,hrow',-⟩:=h'
 rw [hrow.1] at hn
 rw [hrow'.1] at hn'
 have HR:=Lib.hid hrow; have HR':=Lib.hid hrow'; clear hrow hrow'
 rw [← e0]
 have hk:(d.kind == d'.kind)=false:=by simpa using ne
 clear e0
 have NE:=Lib.hid ne; clear ne
 go_enter Tryz.func39,Tryz.ntmps39
 go_wp2_with fail
 go_ret
 exact ⟨rfl,exists_over (by first | (refine below_trans_over ?_ ?_ _ <;> first | (go_grown; done) | (simp <;> omega)) | go_grown)⟩
theorem graphSame_2 {cs cs':List Value} {d d':LineD} (w:World) (h:LineD.rd w (Old w) cs d) (h':LineD.rd w (Old w) cs' d') (hn:d.data.length≤140737488355328) (hn':d'.data.length≤140737488355328) (e0:d.path=d'.path) (e1:d.kind=d'.kind) (ne:¬ d.mode=d'.mode) :
  Calls Tryz.prog 39 #[.agg cs.toArray,.agg cs'.toArray] w fun e w'=>e=.returned (.bool false)∧∃ δ,w'=over w δ:=by
 obtain ⟨A,n,c,rfl,-,-,-,-,-,-,-,-,-,hrow,-⟩:=h
 obtain ⟨A',n',c',rfl,-,-,-,-,-,-,-,-,-,hrow',-⟩:=h'
 rw [hrow.1] at hn
 rw [hrow'.1] at hn'
 have HR:=Lib.hid hrow; have HR':=Lib.hid hrow'; clear hrow hrow'
 rw [← e0,← e1]
 have hk:(d.mode == d'.mode)=false:=by simpa using ne
 clear e0 e1
 have NE:=Lib.hid ne; clear ne
 go_enter Tryz.func39,Tryz.ntmps39
 go_wp2_with fail
 go_ret
 exact ⟨rfl,exists_over (by first | (refine below_trans_over ?_ ?_ _ <;> first | (go_grown; done) | (simp <;> omega)) | go_grown)⟩
theorem graphSame_3 {cs cs':List Value} {d d':LineD} (w:World) (h:LineD.rd w (Old w) cs d) (h':LineD.rd w (Old w) cs' d') (hn:d.data.length≤140737488355328) (hn':d'.data.length≤140737488355328) (e0:d.path=d'.path) (e1:d.kind=d'.kind) (e2:d.mode=d'.mode) (ne:¬ d.uid=d'.uid) :
  Calls Tryz.prog 39 #[.agg cs.toArray,.agg cs'.toArray] w fun e w'=>e=.returned (.bool false)∧∃ δ,w'=over w δ:=by
 obtain ⟨A,n,c,rfl,-,-,-,-,-,-,-,-,-,hrow,-⟩:=h
 obtain ⟨A',n',c',rfl,-,-,-,-,-,-,-,-,-,hrow',-⟩:=h'
 rw [hrow.1] at hn
 rw [hrow'.1] at hn'
 have HR:=Lib.hid hrow; have HR':=Lib.hid hrow'; clear hrow hrow'
 rw [← e0,← e1,← e2]
 have hk:(d.uid == d'.uid)=false:=by simpa using ne
 clear e0 e1 e2
 have NE:=Lib.hid ne; clear ne
 go_enter Tryz.func39,Tryz.ntmps39
 go_wp2_with fail
 go_ret
 exact ⟨rfl,exists_over (by first | (refine below_trans_over ?_ ?_ _ <;> first | (go_grown; done) | (simp <;> omega)) | go_grown)⟩
theorem graphSame_4 {cs cs':List Value} {d d':LineD} (w:World) (h:LineD.rd w (Old w) cs d) (h':LineD.rd w (Old w) cs' d') (hn:d.data.length≤140737488355328) (hn':d'.data.length≤140737488355328) (e0:d.path=d'.path) (e1:d.kind=d'.kind) (e2:d.mode=d'.mode) (e3:d.uid=d'.uid) (ne:¬ d.gid=d'.gid) :
  Calls Tryz.prog 39 #[.agg cs.toArray,.agg cs'.toArray] w fun e w'=>e=.returned (.bool false)∧∃ δ,w'=over w δ:=by
 obtain ⟨A,n,c,rfl,-,-,-,-,-,-,-,-,-,hrow,-⟩:=h
 obtain ⟨A',n',c',rfl,-,-,-,-,-,-,-,-,-,hrow',-⟩:=h'
 rw [hrow.1] at hn
 rw [hrow'.1] at hn'
 have HR:=Lib.hid hrow; have HR':=Lib.hid hrow'; clear hrow hrow'
 rw [← e0,← e1,← e2,← e3]
 have hk:(d.gid == d'.gid)=false:=by simpa using ne
 clear e0 e1 e2 e3
 have NE:=Lib.hid ne; clear ne
 go_enter Tryz.func39,Tryz.ntmps39
 go_wp2_with fail
 go_ret
 exact ⟨rfl,exists_over (by first | (refine below_trans_over ?_ ?_ _ <;> first | (go_grown; done) | (simp <;> omega)) | go_grown)⟩
theorem graphSame_5 {cs cs':List Value} {d d':LineD} (w:World) (h:LineD.rd w (Old w) cs d) (h':LineD.rd w (Old w) cs' d') (hn:d.data.length≤140737488355328) (hn':d'.data.length≤140737488355328) (e0:d.path=d'.path) (e1:d.kind=d'.kind) (e2:d.mode=d'.mode) (e3:d.uid=d'.uid) (e4:d.gid=d'.gid) (ne:¬ d.mtime.sec=d'.mtime.sec) :
  Calls Tryz.prog 39 #[.agg cs.toArray,.agg cs'.toArray] w fun e w'=>e=.returned (.bool false)∧∃ δ,w'=over w δ:=by
 obtain ⟨A,n,c,rfl,-,-,-,-,-,-,-,-,-,hrow,-⟩:=h
 obtain ⟨A',n',c',rfl,-,-,-,-,-,-,-,-,-,hrow',-⟩:=h'
 rw [hrow.1] at hn
 rw [hrow'.1] at hn'
 have HR:=Lib.hid hrow; have HR':=Lib.hid hrow'; clear hrow hrow'
 rw [← e0,← e1,← e2,← e3,← e4]
 have hk:(d.mtime.sec == d'.mtime.sec)=false:=by simpa using ne
 clear e0 e1 e2 e3 e4
 go_enter Tryz.func39,Tryz.ntmps39
 go_wp2_with fail
 go_ret
 exact ⟨rfl,exists_over (by first | (refine below_trans_over ?_ ?_ _ <;> first | (go_grown; done) | (simp <;> omega)) | go_grown)⟩
theorem graphSame_6 {cs cs':List Value} {d d':LineD} (w:World) (h:LineD.rd w (Old w) cs d) (h':LineD.rd w (Old w) cs' d') (hn:d.data.length≤140737488355328) (hn':d'.data.length≤140737488355328) (e0:d.path=d'.path) (e1:d.kind=d'.kind) (e2:d.mode=d'.mode) (e3:d.uid=d'.uid) (e4:d.gid=d'.gid) (e5:d.mtime.sec=d'.mtime.sec) (ne:¬ d.mtime.nano=d'.mtime.nano) :
  Calls Tryz.prog 39 #[.agg cs.toArray,.agg cs'.toArray] w fun e w'=>e=.returned (.bool false)∧∃ δ,w'=over w δ:=by
 obtain ⟨A,n,c,rfl,-,-,-,-,-,-,-,-,-,hrow,-⟩:=h
 obtain ⟨A',n',c',rfl,-,-,-,-,-,-,-,-,-,hrow',-⟩:=h'
 rw [hrow.1] at hn
 rw [hrow'.1] at hn'
 have HR:=Lib.hid hrow; have HR':=Lib.hid hrow'; clear hrow hrow'
 rw [← e0,← e1,← e2,← e3,← e4,← e5]
 have hk:(d.mtime.nano == d'.mtime.nano)=false:=by simpa using ne
 clear e0 e1 e2 e3 e4 e5
 go_enter Tryz.func39,Tryz.ntmps39
 go_wp2_with fail
 go_ret
 exact ⟨rfl,exists_over (by first | (refine below_trans_over ?_ ?_ _ <;> first | (go_grown; done) | (simp <;> omega)) | go_grown)⟩
theorem graphSame_7 {cs cs':List Value} {d d':LineD} (w:World) (h:LineD.rd w (Old w) cs d) (h':LineD.rd w (Old w) cs' d') (hn:d.data.length≤140737488355328) (hn':d'.data.length≤140737488355328) (e0:d.path=d'.path) (e1:d.kind=d'.kind) (e2:d.mode=d'.mode) (e3:d.uid=d'.uid) (e4:d.gid=d'.gid) (e5:d.mtime.sec=d'.mtime.sec) (e6:d.mtime.nano=d'.mtime.nano) (ne:¬ d.target=d'.target) :
  Calls Tryz.prog 39 #[.agg cs.toArray,.agg cs'.toArray] w fun e w'=>e=.returned (.bool false)∧∃ δ,w'=over w δ:=by
 obtain ⟨A,n,c,rfl,-,-,-,-,-,-,-,-,-,hrow,-⟩:=h
 obtain ⟨A',n',c',rfl,-,-,-,-,-,-,-,-,-,hrow',-⟩:=h'
 rw [hrow.1] at hn
 rw [hrow'.1] at hn'
 have HR:=Lib.hid hrow; have HR':=Lib.hid hrow'; clear hrow hrow'
 rw [← e0,← e1,← e2,← e3,← e4,← e5,← e6]
 have hk:=str_ne ne
 clear e0 e1 e2 e3 e4 e5 e6
 have NE:=Lib.hid ne; clear ne
 go_enter Tryz.func39,Tryz.ntmps39
 go_wp2_with fail
 go_ret
 exact ⟨rfl,exists_over (by first | (refine below_trans_over ?_ ?_ _ <;> first | (go_grown; done) | (simp <;> omega)) | go_grown)⟩
theorem graphSame_8 {cs cs':List Value} {d d':LineD} (w:World) (h:LineD.rd w (Old w) cs d) (h':LineD.rd w (Old w) cs' d') (hn:d.data.length≤140737488355328) (hn':d'.data.length≤140737488355328) (e0:d.path=d'.path) (e1:d.kind=d'.kind) (e2:d.mode=d'.mode) (e3:d.uid=d'.uid) (e4:d.gid=d'.gid) (e5:d.mtime.sec=d'.mtime.sec) (e6:d.mtime.nano=d'.mtime.nano) (e7:d.target=d'.target) (ne:¬ d.peer=d'.peer) :
  Calls Tryz.prog 39 #[.agg cs.toArray,.agg cs'.toArray] w fun e w'=>e=.returned (.bool false)∧∃ δ,w'=over w δ:=by
 obtain ⟨A,n,c,rfl,-,-,-,-,-,-,-,-,-,hrow,-⟩:=h
 obtain ⟨A',n',c',rfl,-,-,-,-,-,-,-,-,-,hrow',-⟩:=h'
 rw [hrow.1] at hn
 rw [hrow'.1] at hn'
 have HR:=Lib.hid hrow; have HR':=Lib.hid hrow'; clear hrow hrow'
 rw [← e0,← e1,← e2,← e3,← e4,← e5,← e6,← e7]
 have hk:=str_ne ne
 clear e0 e1 e2 e3 e4 e5 e6 e7
 have NE:=Lib.hid ne; clear ne
 go_enter Tryz.func39,Tryz.ntmps39
 go_wp2_with fail
 go_ret
 exact ⟨rfl,exists_over (by first | (refine below_trans_over ?_ ?_ _ <;> first | (go_grown; done) | (simp <;> omega)) | go_grown)⟩
theorem graphSame_9 {cs cs':List Value} {d d':LineD} (w:World) (h:LineD.rd w (Old w) cs d) (h':LineD.rd w (Old w) cs' d') (hn:d.data.length≤140737488355328) (hn':d'.data.length≤140737488355328) (e0:d.path=d'.path) (e1:d.kind=d'.kind) (e2:d.mode=d'.mode) (e3:d.uid=d'.uid) (e4:d.gid=d'.gid) (e5:d.mtime.sec=d'.mtime.sec) (e6:d.mtime.nano=d'.mtime.nano) (e7:d.target=d'.target) (e8:d.peer=d'.peer) (ne:¬ d.data=d'.data) :
  Calls Tryz.prog 39 #[.agg cs.toArray,.agg cs'.toArray] w fun e w'=>e=.returned (.bool false)∧∃ δ,w'=over w δ:=by
 obtain ⟨A,n,c,rfl,-,-,-,-,-,-,-,-,-,hrow,-⟩:=h
 obtain ⟨A',n',c',rfl,-,-,-,-,-,-,-,-,-,hrow',-⟩:=h'
 rw [hrow.1] at hn
 rw [hrow'.1] at hn'
 have HR:=Lib.hid hrow; have HR':=Lib.hid hrow'; clear hrow hrow'
 rw [← e0,← e1,← e2,← e3,← e4,← e5,← e6,← e7,← e8]
 have Cdata:decide (d.data=d'.data)=false:=decide_eq_false ne
 have Kdata:=Lib.hid Cdata; clear Cdata
 clear e0 e1 e2 e3 e4 e5 e6 e7 e8
 have NE:=Lib.hid ne; clear ne
 go_enter Tryz.func39,Tryz.ntmps39
 go_wp2_with (first | (go_at_call 71; refine (equalBytes _ (HR.out.below (by go_grown)) (HR'.out.below (by go_grown)) hn hn').mono ?_; rintro e w1 ⟨rfl,δ,hu⟩; rw [Kdata.out]))
 go_ret
 exact ⟨rfl,exists_over (by first | (refine below_trans_over ?_ ?_ _ <;> first | (go_grown; done) | (simp <;> omega)) | go_grown)⟩
theorem graphSame_eq {cs cs':List Value} {d d':LineD} (w:World) (h:LineD.rd w (Old w) cs d) (h':LineD.rd w (Old w) cs' d') (hn:d.data.length≤140737488355328) (hn':d'.data.length≤140737488355328) (e0:d.path=d'.path) (e1:d.kind=d'.kind) (e2:d.mode=d'.mode) (e3:d.uid=d'.uid) (e4:d.gid=d'.gid) (e5:d.mtime.sec=d'.mtime.sec) (e6:d.mtime.nano=d'.mtime.nano) (e7:d.target=d'.target) (e8:d.peer=d'.peer) (e9:d.data=d'.data) :
  Calls Tryz.prog 39 #[.agg cs.toArray,.agg cs'.toArray] w fun e w'=>e=.returned (.bool true)∧∃ δ,w'=over w δ:=by
 obtain ⟨A,n,c,rfl,-,-,-,-,-,-,-,-,-,hrow,-⟩:=h
 obtain ⟨A',n',c',rfl,-,-,-,-,-,-,-,-,-,hrow',-⟩:=h'
 rw [hrow.1] at hn
 rw [hrow'.1] at hn'
 have HR:=Lib.hid hrow; have HR':=Lib.hid hrow'; clear hrow hrow'
 rw [← e0,← e1,← e2,← e3,← e4,← e5,← e6,← e7,← e8]
 have Cdata:decide (d.data=d'.data)=true:=decide_eq_true e9
 have Kdata:=Lib.hid Cdata; clear Cdata
 clear e0 e1 e2 e3 e4 e5 e6 e7 e8 e9
 go_enter Tryz.func39,Tryz.ntmps39
 go_wp2_with (first | (go_at_call 71; refine (equalBytes _ (HR.out.below (by go_grown)) (HR'.out.below (by go_grown)) hn hn').mono ?_; rintro e w1 ⟨rfl,δ,hu⟩; rw [Kdata.out]))
 go_ret
 exact ⟨rfl,exists_over (by first | (refine below_trans_over ?_ ?_ _ <;> first | (go_grown; done) | (simp <;> omega)) | go_grown)⟩
theorem graphSame {cs cs':List Value} {d d':LineD} (w:World) (h:LineD.rd w (Old w) cs d) (h':LineD.rd w (Old w) cs' d') (hn:d.data.length≤140737488355328) (hn':d'.data.length≤140737488355328) :
  Calls Tryz.prog 39 #[.agg cs.toArray,.agg cs'.toArray] w fun e w'=>e=.returned (.bool (decide (d=d')))∧∃ δ,w'=over w δ:=by
 by_cases e0:d.path=d'.path
 case neg=>exact (show false=decide (d=d') from (decide_eq_false (fun e=>e0 (by rw [e]))).symm) ▸ graphSame_0 w h h' hn hn'  e0
 by_cases e1:d.kind=d'.kind
 case neg=>exact (show false=decide (d=d') from (decide_eq_false (fun e=>e1 (by rw [e]))).symm) ▸ graphSame_1 w h h' hn hn' e0 e1
 by_cases e2:d.mode=d'.mode
 case neg=>exact (show false=decide (d=d') from (decide_eq_false (fun e=>e2 (by rw [e]))).symm) ▸ graphSame_2 w h h' hn hn' e0 e1 e2
 by_cases e3:d.uid=d'.uid
 case neg=>exact (show false=decide (d=d') from (decide_eq_false (fun e=>e3 (by rw [e]))).symm) ▸ graphSame_3 w h h' hn hn' e0 e1 e2 e3
 by_cases e4:d.gid=d'.gid
 case neg=>exact (show false=decide (d=d') from (decide_eq_false (fun e=>e4 (by rw [e]))).symm) ▸ graphSame_4 w h h' hn hn' e0 e1 e2 e3 e4
 by_cases e5:d.mtime.sec=d'.mtime.sec
 case neg=>exact (show false=decide (d=d') from (decide_eq_false (fun e=>e5 (by rw [e]))).symm) ▸ graphSame_5 w h h' hn hn' e0 e1 e2 e3 e4 e5
 by_cases e6:d.mtime.nano=d'.mtime.nano
 case neg=>exact (show false=decide (d=d') from (decide_eq_false (fun e=>e6 (by rw [e]))).symm) ▸ graphSame_6 w h h' hn hn' e0 e1 e2 e3 e4 e5 e6
 by_cases e7:d.target=d'.target
 case neg=>exact (show false=decide (d=d') from (decide_eq_false (fun e=>e7 (by rw [e]))).symm) ▸ graphSame_7 w h h' hn hn' e0 e1 e2 e3 e4 e5 e6 e7
 by_cases e8:d.peer=d'.peer
 case neg=>exact (show false=decide (d=d') from (decide_eq_false (fun e=>e8 (by rw [e]))).symm) ▸ graphSame_8 w h h' hn hn' e0 e1 e2 e3 e4 e5 e6 e7 e8
 by_cases e9:d.data=d'.data
 case neg=>exact (show false=decide (d=d') from (decide_eq_false (fun e=>e9 (by rw [e]))).symm) ▸ graphSame_9 w h h' hn hn' e0 e1 e2 e3 e4 e5 e6 e7 e8 e9
 have ee:d=d':=by
  exact line_ext e0 e1 e2 e3 e4 e5 e6 e7 e8 e9
 exact (show true=decide (d=d') from (decide_eq_true ee).symm) ▸ graphSame_eq w h h' hn hn' e0 e1 e2 e3 e4 e5 e6 e7 e8 e9
end Go.Proofs.YtfhfcipelgogjaaGreatDoor
namespace Go.Proofs.YtfhfcipelgogjaaGreatDoor
open Go.RowKit
attribute [local go_sem] cell?_over frozen?_over lt_over le_over
def SmallLn (l:List LineD):Prop:=∀ d∈l,d.data.length≤140737488355328
theorem eqLines {A A':Option Addr} {n c n' c':Nat} {l l':List LineD} (w:World) (h:Row Shape.LineD w (Old w) A n l) (h':Row Shape.LineD w (Old w) A' n' l') (hs:SmallLn l) (hs':SmallLn l') (hn:n≤140737488355328) (hn':n'≤140737488355328) :
  Calls Tryz.prog 38 #[.slice A n c,.slice A' n' c',.func (.func 39) #[] #[]] w fun e w'=>e=.returned (.bool (decide (l=l')))∧Below w.heap.size w w':=by
 obtain ⟨E,hE⟩:∃ E,E=decide (l=l'):=⟨_,rfl⟩
 rw [← hE]
 have HE:=Lib.hid hE
 have HL:=Lib.hid h.1; have HL':=Lib.hid h'.1
 have H:=Lib.hid h; have H':=Lib.hid h'
 clear hE h h'
 by_cases hnn:n=n'
 ·subst hnn
  have hb0:((n:Int) != n)=false:=by simp
  go_enter Tryz.func38,Tryz.ntmps38
  go_wp2_with fail
  go_loopw [17] (fun i wr=>∃ k:Nat,k≤n∧i=.int .i64 k∧l.take k=l'.take k∧Below w.heap.size w wr) (fun i _=>n - (intOf i).toNat)
  case atStart=>exact ⟨0,Nat.zero_le _,rfl,by simp,Below.refl _ _⟩
  case round =>
   obtain ⟨k,hk,rfl,htake,hbel⟩:=hrel
   have HT:=Lib.hid htake; clear htake
   by_cases hlt:k<n
   ·obtain ⟨b,off,es,hkl,rfl,hb,hc,hc0,hr⟩:=H.out.elem (Keeps.old hbel) hlt
    obtain ⟨b',off',es',hkl',rfl,hb',hc',hc0',hr'⟩:=H'.out.elem (Keeps.old hbel) hlt
    have hsm:=hs _ (List.getElem_mem hkl)
    have hsm':=hs' _ (List.getElem_mem hkl')
    have hr2:LineD.rd wr (Old wr) es l[k]:=Shape.LineD.more hr fun _ hn=>Old.below hbel hn
    have hr2':LineD.rd wr (Old wr) es' l'[k]:=Shape.LineD.more hr' fun _ hn=>Old.below hbel hn
    have R:=Lib.hid hr2; have R':=Lib.hid hr2'; clear hr2 hr2'
    obtain ⟨_,_,_,rfl,-⟩:=hr
    obtain ⟨_,_,_,rfl,-⟩:=hr'
    have e13:Shape.LineD.size=10:=rfl
    simp only [e13] at hc hc0 hc' hc0'
    clear e13
    have hb2:=Nat.lt_of_lt_of_le hb hbel.size
    have hb2':=Nat.lt_of_lt_of_le hb' hbel.size
    have hks:(k:Int)<n:=by omega
    have HB:=Lib.hid hbel
    clear hbel
    go_wp2_with fail
    obtain ⟨w2,hw2,hb2w⟩:∃ w2,w2=_∧Below wr.heap.size wr w2:=⟨_,rfl,((below_alloc' _ _).trans ((below_alloc' _ _).mono (by simp)))⟩
    rw [← hw2]
    refine (graphSame w2 (Shape.LineD.below R.out hb2w) (Shape.LineD.below R'.out hb2w) hsm hsm').mono ?_
    clear hw2
    rintro e w3 ⟨rfl,δ,rfl⟩
    have HB3:=Lib.hid (HB.out.trans ((hb2w.trans ((below_over w2 δ).mono hb2w.size)).mono HB.out.size))
    clear hb2w
    by_cases heq:l[k]=l'[k]
    ·rw [decide_eq_true heq]
     have HT2:Hid (l.take (k+1)=l'.take (k+1)):=Lib.hid (by rw [List.take_succ_eq_append_getElem hkl,List.take_succ_eq_append_getElem hkl',HT.out,heq])
     clear heq
     go_wp2_with fail
     go_roundw
     case rel=>exact ⟨k+1,by omega,by go_num,HT2.out,HB3.out⟩
     case measure=>simp [intOf]; omega
    ·rw [decide_eq_false heq]
     have HE2:Hid (E=false):=Lib.hid (by
      rw [HE.out,decide_eq_false_iff_not]
      intro e
      apply heq
      subst e
      rfl)
     clear heq
     go_wp2_with fail
     go_ret
     exact ⟨by rw [HE2.out]; rfl,HB3.out⟩
   ·have hks:¬ (k:Int)<n:=by omega
    have hkn:k=n:=by omega
    have HE2:Hid (E=true):=Lib.hid (by
     rw [HE.out,decide_eq_true_iff]
     have:=HT.out
     rwa [hkn,List.take_of_length_le (Nat.le_of_eq HL.out),List.take_of_length_le (Nat.le_of_eq HL'.out)] at this)
    clear hkn
    go_wp2_with fail
    go_ret
    exact ⟨by rw [HE2.out]; rfl,hbel⟩
 ·have hb0:((n:Int) != n')=true:=by
   rw [bne_iff_ne]; omega
  have HE2:Hid (E=false):=Lib.hid (by
   rw [HE.out,decide_eq_false_iff_not]
   intro e
   apply hnn
   rw [← HL.out,← HL'.out,e])
  clear hnn
  go_enter Tryz.func38,Tryz.ntmps38
  go_wp2_with fail
  go_ret
  exact ⟨by rw [HE2.out]; rfl,Below.refl _ _⟩
end Go.Proofs.YtfhfcipelgogjaaGreatDoor
namespace Go.Proofs.YtfhfcipelgogjaaGreatDoor
open Go.RowKit
attribute [local go_sem] cell?_over frozen?_over lt_over le_over
theorem sameLine_0 {cs cs':List Value} {d d':LineD} (w:World) (h:LineD.rd w (Old w) cs d) (h':LineD.rd w (Old w) cs' d') (hn:d.data.length≤140737488355328) (hn':d'.data.length≤140737488355328) (ne:¬ d.path=d'.path) :
  Calls Tryz.prog 40 #[.agg cs.toArray,.agg cs'.toArray] w fun e w'=>e=.returned (.bool false)∧∃ δ,w'=over w δ:=by
 obtain ⟨A,n,c,rfl,-,-,-,-,-,-,-,-,-,hrow,-⟩:=h
 obtain ⟨A',n',c',rfl,-,-,-,-,-,-,-,-,-,hrow',-⟩:=h'
 rw [hrow.1] at hn
 rw [hrow'.1] at hn'
 have HR:=Lib.hid hrow; have HR':=Lib.hid hrow'; clear hrow hrow'
 have hk:=str_ne ne
 have NE:=Lib.hid ne; clear ne
 go_enter Tryz.func40,Tryz.ntmps40
 go_wp2_with fail
 go_ret
 exact ⟨rfl,exists_over (by first | (refine below_trans_over ?_ ?_ _ <;> first | (go_grown; done) | (simp <;> omega)) | go_grown)⟩
theorem sameLine_1 {cs cs':List Value} {d d':LineD} (w:World) (h:LineD.rd w (Old w) cs d) (h':LineD.rd w (Old w) cs' d') (hn:d.data.length≤140737488355328) (hn':d'.data.length≤140737488355328) (e0:d.path=d'.path) (ne:¬ d.kind=d'.kind) :
  Calls Tryz.prog 40 #[.agg cs.toArray,.agg cs'.toArray] w fun e w'=>e=.returned (.bool false)∧∃ δ,w'=over w δ:=by
 obtain ⟨A,n,c,rfl,-,-,-,-,-,-,-,-,-,hrow,-⟩:=h
 obtain ⟨A',n',c',rfl,-,-,-,-,-,-,-,-,-,hrow',-⟩:=h'
 rw [hrow.1] at hn
 rw [hrow'.1] at hn'
 have HR:=Lib.hid hrow; have HR':=Lib.hid hrow'; clear hrow hrow'
 rw [← e0]
 have hk:(d.kind == d'.kind)=false:=by simpa using ne
 clear e0
 have NE:=Lib.hid ne; clear ne
 go_enter Tryz.func40,Tryz.ntmps40
 go_wp2_with fail
 go_ret
 exact ⟨rfl,exists_over (by first | (refine below_trans_over ?_ ?_ _ <;> first | (go_grown; done) | (simp <;> omega)) | go_grown)⟩
theorem sameLine_2 {cs cs':List Value} {d d':LineD} (w:World) (h:LineD.rd w (Old w) cs d) (h':LineD.rd w (Old w) cs' d') (hn:d.data.length≤140737488355328) (hn':d'.data.length≤140737488355328) (e0:d.path=d'.path) (e1:d.kind=d'.kind) (ne:¬ d.mode=d'.mode) :
  Calls Tryz.prog 40 #[.agg cs.toArray,.agg cs'.toArray] w fun e w'=>e=.returned (.bool false)∧∃ δ,w'=over w δ:=by
 obtain ⟨A,n,c,rfl,-,-,-,-,-,-,-,-,-,hrow,-⟩:=h
 obtain ⟨A',n',c',rfl,-,-,-,-,-,-,-,-,-,hrow',-⟩:=h'
 rw [hrow.1] at hn
 rw [hrow'.1] at hn'
 have HR:=Lib.hid hrow; have HR':=Lib.hid hrow'; clear hrow hrow'
 rw [← e0,← e1]
 have hk:(d.mode == d'.mode)=false:=by simpa using ne
 clear e0 e1
 have NE:=Lib.hid ne; clear ne
 go_enter Tryz.func40,Tryz.ntmps40
 go_wp2_with fail
 go_ret
 exact ⟨rfl,exists_over (by first | (refine below_trans_over ?_ ?_ _ <;> first | (go_grown; done) | (simp <;> omega)) | go_grown)⟩
theorem sameLine_3 {cs cs':List Value} {d d':LineD} (w:World) (h:LineD.rd w (Old w) cs d) (h':LineD.rd w (Old w) cs' d') (hn:d.data.length≤140737488355328) (hn':d'.data.length≤140737488355328) (e0:d.path=d'.path) (e1:d.kind=d'.kind) (e2:d.mode=d'.mode) (ne:¬ d.uid=d'.uid) :
  Calls Tryz.prog 40 #[.agg cs.toArray,.agg cs'.toArray] w fun e w'=>e=.returned (.bool false)∧∃ δ,w'=over w δ:=by
 obtain ⟨A,n,c,rfl,-,-,-,-,-,-,-,-,-,hrow,-⟩:=h
 obtain ⟨A',n',c',rfl,-,-,-,-,-,-,-,-,-,hrow',-⟩:=h'
 rw [hrow.1] at hn
 rw [hrow'.1] at hn'
 have HR:=Lib.hid hrow; have HR':=Lib.hid hrow'; clear hrow hrow'
 rw [← e0,← e1,← e2]
 have hk:(d.uid == d'.uid)=false:=by simpa using ne
 clear e0 e1 e2
 have NE:=Lib.hid ne; clear ne
 go_enter Tryz.func40,Tryz.ntmps40
 go_wp2_with fail
 go_ret
 exact ⟨rfl,exists_over (by first | (refine below_trans_over ?_ ?_ _ <;> first | (go_grown; done) | (simp <;> omega)) | go_grown)⟩
theorem sameLine_4 {cs cs':List Value} {d d':LineD} (w:World) (h:LineD.rd w (Old w) cs d) (h':LineD.rd w (Old w) cs' d') (hn:d.data.length≤140737488355328) (hn':d'.data.length≤140737488355328) (e0:d.path=d'.path) (e1:d.kind=d'.kind) (e2:d.mode=d'.mode) (e3:d.uid=d'.uid) (ne:¬ d.gid=d'.gid) :
  Calls Tryz.prog 40 #[.agg cs.toArray,.agg cs'.toArray] w fun e w'=>e=.returned (.bool false)∧∃ δ,w'=over w δ:=by
 obtain ⟨A,n,c,rfl,-,-,-,-,-,-,-,-,-,hrow,-⟩:=h
 obtain ⟨A',n',c',rfl,-,-,-,-,-,-,-,-,-,hrow',-⟩:=h'
 rw [hrow.1] at hn
 rw [hrow'.1] at hn'
 have HR:=Lib.hid hrow; have HR':=Lib.hid hrow'; clear hrow hrow'
 rw [← e0,← e1,← e2,← e3]
 have hk:(d.gid == d'.gid)=false:=by simpa using ne
 clear e0 e1 e2 e3
 have NE:=Lib.hid ne; clear ne
 go_enter Tryz.func40,Tryz.ntmps40
 go_wp2_with fail
 go_ret
 exact ⟨rfl,exists_over (by first | (refine below_trans_over ?_ ?_ _ <;> first | (go_grown; done) | (simp <;> omega)) | go_grown)⟩
theorem sameLine_5 {cs cs':List Value} {d d':LineD} (w:World) (h:LineD.rd w (Old w) cs d) (h':LineD.rd w (Old w) cs' d') (hn:d.data.length≤140737488355328) (hn':d'.data.length≤140737488355328) (e0:d.path=d'.path) (e1:d.kind=d'.kind) (e2:d.mode=d'.mode) (e3:d.uid=d'.uid) (e4:d.gid=d'.gid) (ne:¬ d.mtime.sec=d'.mtime.sec) :
  Calls Tryz.prog 40 #[.agg cs.toArray,.agg cs'.toArray] w fun e w'=>e=.returned (.bool false)∧∃ δ,w'=over w δ:=by
 obtain ⟨A,n,c,rfl,-,-,-,-,-,-,-,-,-,hrow,-⟩:=h
 obtain ⟨A',n',c',rfl,-,-,-,-,-,-,-,-,-,hrow',-⟩:=h'
 rw [hrow.1] at hn
 rw [hrow'.1] at hn'
 have HR:=Lib.hid hrow; have HR':=Lib.hid hrow'; clear hrow hrow'
 rw [← e0,← e1,← e2,← e3,← e4]
 have hk:(d.mtime.sec == d'.mtime.sec)=false:=by simpa using ne
 clear e0 e1 e2 e3 e4
 go_enter Tryz.func40,Tryz.ntmps40
 go_wp2_with fail
 go_ret
 exact ⟨rfl,exists_over (by first | (refine below_trans_over ?_ ?_ _ <;> first | (go_grown; done) | (simp <;> omega)) | go_grown)⟩
theorem sameLine_6 {cs cs':List Value} {d d':LineD} (w:World) (h:LineD.rd w (Old w) cs d) (h':LineD.rd w (Old w) cs' d') (hn:d.data.length≤140737488355328) (hn':d'.data.length≤140737488355328) (e0:d.path=d'.path) (e1:d.kind=d'.kind) (e2:d.mode=d'.mode) (e3:d.uid=d'.uid) (e4:d.gid=d'.gid) (e5:d.mtime.sec=d'.mtime.sec) (ne:¬ d.mtime.nano=d'.mtime.nano) :
  Calls Tryz.prog 40 #[.agg cs.toArray,.agg cs'.toArray] w fun e w'=>e=.returned (.bool false)∧∃ δ,w'=over w δ:=by
 obtain ⟨A,n,c,rfl,-,-,-,-,-,-,-,-,-,hrow,-⟩:=h
 obtain ⟨A',n',c',rfl,-,-,-,-,-,-,-,-,-,hrow',-⟩:=h'
 rw [hrow.1] at hn
 rw [hrow'.1] at hn'
 have HR:=Lib.hid hrow; have HR':=Lib.hid hrow'; clear hrow hrow'
 rw [← e0,← e1,← e2,← e3,← e4,← e5]
 have hk:(d.mtime.nano == d'.mtime.nano)=false:=by simpa using ne
 clear e0 e1 e2 e3 e4 e5
 go_enter Tryz.func40,Tryz.ntmps40
 go_wp2_with fail
 go_ret
 exact ⟨rfl,exists_over (by first | (refine below_trans_over ?_ ?_ _ <;> first | (go_grown; done) | (simp <;> omega)) | go_grown)⟩
theorem sameLine_7 {cs cs':List Value} {d d':LineD} (w:World) (h:LineD.rd w (Old w) cs d) (h':LineD.rd w (Old w) cs' d') (hn:d.data.length≤140737488355328) (hn':d'.data.length≤140737488355328) (e0:d.path=d'.path) (e1:d.kind=d'.kind) (e2:d.mode=d'.mode) (e3:d.uid=d'.uid) (e4:d.gid=d'.gid) (e5:d.mtime.sec=d'.mtime.sec) (e6:d.mtime.nano=d'.mtime.nano) (ne:¬ d.target=d'.target) :
  Calls Tryz.prog 40 #[.agg cs.toArray,.agg cs'.toArray] w fun e w'=>e=.returned (.bool false)∧∃ δ,w'=over w δ:=by
 obtain ⟨A,n,c,rfl,-,-,-,-,-,-,-,-,-,hrow,-⟩:=h
 obtain ⟨A',n',c',rfl,-,-,-,-,-,-,-,-,-,hrow',-⟩:=h'
 rw [hrow.1] at hn
 rw [hrow'.1] at hn'
 have HR:=Lib.hid hrow; have HR':=Lib.hid hrow'; clear hrow hrow'
 rw [← e0,← e1,← e2,← e3,← e4,← e5,← e6]
 have hk:=str_ne ne
 clear e0 e1 e2 e3 e4 e5 e6
 have NE:=Lib.hid ne; clear ne
 go_enter Tryz.func40,Tryz.ntmps40
 go_wp2_with fail
 go_ret
 exact ⟨rfl,exists_over (by first | (refine below_trans_over ?_ ?_ _ <;> first | (go_grown; done) | (simp <;> omega)) | go_grown)⟩
theorem sameLine_8 {cs cs':List Value} {d d':LineD} (w:World) (h:LineD.rd w (Old w) cs d) (h':LineD.rd w (Old w) cs' d') (hn:d.data.length≤140737488355328) (hn':d'.data.length≤140737488355328) (e0:d.path=d'.path) (e1:d.kind=d'.kind) (e2:d.mode=d'.mode) (e3:d.uid=d'.uid) (e4:d.gid=d'.gid) (e5:d.mtime.sec=d'.mtime.sec) (e6:d.mtime.nano=d'.mtime.nano) (e7:d.target=d'.target) (ne:¬ d.peer=d'.peer) :
  Calls Tryz.prog 40 #[.agg cs.toArray,.agg cs'.toArray] w fun e w'=>e=.returned (.bool false)∧∃ δ,w'=over w δ:=by
 obtain ⟨A,n,c,rfl,-,-,-,-,-,-,-,-,-,hrow,-⟩:=h
 obtain ⟨A',n',c',rfl,-,-,-,-,-,-,-,-,-,hrow',-⟩:=h'
 rw [hrow.1] at hn
 rw [hrow'.1] at hn'
 have HR:=Lib.hid hrow; have HR':=Lib.hid hrow'; clear hrow hrow'
 rw [← e0,← e1,← e2,← e3,← e4,← e5,← e6,← e7]
 have hk:=str_ne ne
 clear e0 e1 e2 e3 e4 e5 e6 e7
 have NE:=Lib.hid ne; clear ne
 go_enter Tryz.func40,Tryz.ntmps40
 go_wp2_with fail
 go_ret
 exact ⟨rfl,exists_over (by first | (refine below_trans_over ?_ ?_ _ <;> first | (go_grown; done) | (simp <;> omega)) | go_grown)⟩
theorem sameLine_9 {cs cs':List Value} {d d':LineD} (w:World) (h:LineD.rd w (Old w) cs d) (h':LineD.rd w (Old w) cs' d') (hn:d.data.length≤140737488355328) (hn':d'.data.length≤140737488355328) (e0:d.path=d'.path) (e1:d.kind=d'.kind) (e2:d.mode=d'.mode) (e3:d.uid=d'.uid) (e4:d.gid=d'.gid) (e5:d.mtime.sec=d'.mtime.sec) (e6:d.mtime.nano=d'.mtime.nano) (e7:d.target=d'.target) (e8:d.peer=d'.peer) (ne:¬ d.data=d'.data) :
  Calls Tryz.prog 40 #[.agg cs.toArray,.agg cs'.toArray] w fun e w'=>e=.returned (.bool false)∧∃ δ,w'=over w δ:=by
 obtain ⟨A,n,c,rfl,-,-,-,-,-,-,-,-,-,hrow,-⟩:=h
 obtain ⟨A',n',c',rfl,-,-,-,-,-,-,-,-,-,hrow',-⟩:=h'
 rw [hrow.1] at hn
 rw [hrow'.1] at hn'
 have HR:=Lib.hid hrow; have HR':=Lib.hid hrow'; clear hrow hrow'
 rw [← e0,← e1,← e2,← e3,← e4,← e5,← e6,← e7,← e8]
 have Cdata:decide (d.data=d'.data)=false:=decide_eq_false ne
 have Kdata:=Lib.hid Cdata; clear Cdata
 clear e0 e1 e2 e3 e4 e5 e6 e7 e8
 have NE:=Lib.hid ne; clear ne
 go_enter Tryz.func40,Tryz.ntmps40
 go_wp2_with (first | (go_at_call 24; refine (sameBytes _ (HR.out.below (by go_grown)) (HR'.out.below (by go_grown)) hn hn').mono ?_; rintro e w1 ⟨rfl,δ,hu⟩; rw [Kdata.out]))
 go_ret
 exact ⟨rfl,exists_over (by first | (refine below_trans_over ?_ ?_ _ <;> first | (go_grown; done) | (simp <;> omega)) | go_grown)⟩
theorem sameLine_eq {cs cs':List Value} {d d':LineD} (w:World) (h:LineD.rd w (Old w) cs d) (h':LineD.rd w (Old w) cs' d') (hn:d.data.length≤140737488355328) (hn':d'.data.length≤140737488355328) (e0:d.path=d'.path) (e1:d.kind=d'.kind) (e2:d.mode=d'.mode) (e3:d.uid=d'.uid) (e4:d.gid=d'.gid) (e5:d.mtime.sec=d'.mtime.sec) (e6:d.mtime.nano=d'.mtime.nano) (e7:d.target=d'.target) (e8:d.peer=d'.peer) (e9:d.data=d'.data) :
  Calls Tryz.prog 40 #[.agg cs.toArray,.agg cs'.toArray] w fun e w'=>e=.returned (.bool true)∧∃ δ,w'=over w δ:=by
 obtain ⟨A,n,c,rfl,-,-,-,-,-,-,-,-,-,hrow,-⟩:=h
 obtain ⟨A',n',c',rfl,-,-,-,-,-,-,-,-,-,hrow',-⟩:=h'
 rw [hrow.1] at hn
 rw [hrow'.1] at hn'
 have HR:=Lib.hid hrow; have HR':=Lib.hid hrow'; clear hrow hrow'
 rw [← e0,← e1,← e2,← e3,← e4,← e5,← e6,← e7,← e8]
 have Cdata:decide (d.data=d'.data)=true:=decide_eq_true e9
 have Kdata:=Lib.hid Cdata; clear Cdata
 clear e0 e1 e2 e3 e4 e5 e6 e7 e8 e9
 go_enter Tryz.func40,Tryz.ntmps40
 go_wp2_with (first | (go_at_call 24; refine (sameBytes _ (HR.out.below (by go_grown)) (HR'.out.below (by go_grown)) hn hn').mono ?_; rintro e w1 ⟨rfl,δ,hu⟩; rw [Kdata.out]))
 go_ret
 exact ⟨rfl,exists_over (by first | (refine below_trans_over ?_ ?_ _ <;> first | (go_grown; done) | (simp <;> omega)) | go_grown)⟩
theorem sameLine {cs cs':List Value} {d d':LineD} (w:World) (h:LineD.rd w (Old w) cs d) (h':LineD.rd w (Old w) cs' d') (hn:d.data.length≤140737488355328) (hn':d'.data.length≤140737488355328) :
  Calls Tryz.prog 40 #[.agg cs.toArray,.agg cs'.toArray] w fun e w'=>e=.returned (.bool (decide (d=d')))∧∃ δ,w'=over w δ:=by
 by_cases e0:d.path=d'.path
 case neg=>exact (show false=decide (d=d') from (decide_eq_false (fun e=>e0 (by rw [e]))).symm) ▸ sameLine_0 w h h' hn hn'  e0
 by_cases e1:d.kind=d'.kind
 case neg=>exact (show false=decide (d=d') from (decide_eq_false (fun e=>e1 (by rw [e]))).symm) ▸ sameLine_1 w h h' hn hn' e0 e1
 by_cases e2:d.mode=d'.mode
 case neg=>exact (show false=decide (d=d') from (decide_eq_false (fun e=>e2 (by rw [e]))).symm) ▸ sameLine_2 w h h' hn hn' e0 e1 e2
 by_cases e3:d.uid=d'.uid
 case neg=>exact (show false=decide (d=d') from (decide_eq_false (fun e=>e3 (by rw [e]))).symm) ▸ sameLine_3 w h h' hn hn' e0 e1 e2 e3
 by_cases e4:d.gid=d'.gid
 case neg=>exact (show false=decide (d=d') from (decide_eq_false (fun e=>e4 (by rw [e]))).symm) ▸ sameLine_4 w h h' hn hn' e0 e1 e2 e3 e4
 by_cases e5:d.mtime.sec=d'.mtime.sec
 case neg=>exact (show false=decide (d=d') from (decide_eq_false (fun e=>e5 (by rw [e]))).symm) ▸ sameLine_5 w h h' hn hn' e0 e1 e2 e3 e4 e5
 by_cases e6:d.mtime.nano=d'.mtime.nano
 case neg=>exact (show false=decide (d=d') from (decide_eq_false (fun e=>e6 (by rw [e]))).symm) ▸ sameLine_6 w h h' hn hn' e0 e1 e2 e3 e4 e5 e6
 by_cases e7:d.target=d'.target
 case neg=>exact (show false=decide (d=d') from (decide_eq_false (fun e=>e7 (by rw [e]))).symm) ▸ sameLine_7 w h h' hn hn' e0 e1 e2 e3 e4 e5 e6 e7
 by_cases e8:d.peer=d'.peer
 case neg=>exact (show false=decide (d=d') from (decide_eq_false (fun e=>e8 (by rw [e]))).symm) ▸ sameLine_8 w h h' hn hn' e0 e1 e2 e3 e4 e5 e6 e7 e8
 by_cases e9:d.data=d'.data
 case neg=>exact (show false=decide (d=d') from (decide_eq_false (fun e=>e9 (by rw [e]))).symm) ▸ sameLine_9 w h h' hn hn' e0 e1 e2 e3 e4 e5 e6 e7 e8 e9
 have ee:d=d':=by
  exact line_ext e0 e1 e2 e3 e4 e5 e6 e7 e8 e9
 exact (show true=decide (d=d') from (decide_eq_true ee).symm) ▸ sameLine_eq w h h' hn hn' e0 e1 e2 e3 e4 e5 e6 e7 e8 e9
end Go.Proofs.YtfhfcipelgogjaaGreatDoor
namespace Go.Proofs.YtfhfcipelgogjaaGreatDoor
open Go.RowKit
attribute [local go_sem] cell?_over frozen?_over lt_over le_over
theorem copyLine {cs : List Value} {d : LineD} (w : World) (h : LineD.rd w (Old w) cs d) (hn : d.data.length ≤ 140737488355328) :
    Calls Tryz.prog 33 #[.agg cs.toArray] w fun e w' => ∃ cs' δ, e = .returned (.agg cs'.toArray) ∧ w' = over w δ ∧ LineD.rd w' (New w w') cs' d := by
  obtain ⟨A, n, c, rfl, s0, i1, i2, i3, i4, i5, i6, hnc, hcm, hrow, s8, s9⟩ := h
  have hn' : n ≤ 140737488355328 := by have := hrow.1; omega
  go_enter Tryz.func33, Tryz.ntmps33
  go_wp2_with fail
  refine (copyBytes _ (hrow.below ?_) hn').mono ?_
  · go_grown
  rintro e u ⟨v, δ, rfl, hu, hown⟩
  obtain ⟨b1, b2, hbw, hsz⟩ := blks2 (below_of hu)
  clear hu
  have hrd := hown.rd_from (B := w.heap.size + 2) (by simp) (fun _ h => h.elim)
  obtain ⟨A', m, c', rfl, hmc, hcm', hrow'⟩ := hrd
  have k1 := b1.cell; have k2 := b2.cell; have f1 := b1.frozen; have f2 := b2.frozen
  have HR := Lib.hid hrow'; clear hrow'
  have g1 := b1.ne_ b2
  go_wp2_with (first
    | (refine wpList_store_blk rfl 60 (.tmp 2) (.tmp 7) rfl _ rfl (b2.far ?_ _) ?_ ?_ ?_ ?_ ?_
       · simp
       · rfl
       · kernel_rfl
       · rfl
       · rfl
       intro u2 b3 hg3))
  refine ret_blk rfl rfl b3 whole_LineD rfl ?_
  have e := Below.trans (hbw.setCell (p := ⟨w.heap.size, 7, none⟩) (Nat.le_refl _) (.slice A' m c')) ((Below.refl _ _).grown hg3 (by simp; omega) (by simp))
  refine ⟨[.string d.path, .int .i64 d.kind, .int .i64 d.mode, .int .i64 d.uid, .int .i64 d.gid, .int .i64 d.mtime.sec, .int .i64 d.mtime.nano, .slice A' m c', .string d.target, .string d.peer], _, ?_, over_of_below e, ?_⟩
  · rfl
  · refine ⟨A', m, c', rfl, s0, i1, i2, i3, i4, i5, i6, hmc, hcm', ?_, s8, s9⟩
    refine (HR.out.keep ((Keeps.set u ⟨w.heap.size, 7, none⟩ (.slice A' m c') ?_).trans (Keeps.grown hg3 ?_))).more ?_
    · rintro n ⟨h1, h2⟩; simp; omega
    · rintro n ⟨h1, h2⟩; simp [World.setCell]; omega
    · rintro n ⟨h1, h2⟩; exact ⟨by omega, Nat.lt_of_lt_of_le h2 (by have := hg3.size; simpa [World.setCell] using this)⟩
theorem sameLines_eq {A A' : Option Addr} {n c c' : Nat} {l : List LineD} (w : World) (h : Row Shape.LineD w (Old w) A n l) (h' : Row Shape.LineD w (Old w) A' n l) (hs : SmallL l) (hn : n ≤ 140737488355328) :
    Calls Tryz.prog 16 #[.slice A n c, .slice A' n c'] w fun e w' => e = .returned (.bool true) ∧ ∃ δ, w' = over w δ := by
  have HL := Lib.hid h.1
  go_enter Tryz.func16, Tryz.ntmps16
  go_wp2_with fail
  go_loopw [5] (fun i wr => ∃ k : Nat, k ≤ n ∧ i = .int .i64 k ∧ Below w.heap.size w wr) (fun i _ => n - (intOf i).toNat)
  case atStart => exact ⟨0, Nat.zero_le _, rfl, Below.refl _ _⟩
  case round =>
    obtain ⟨k, hk, rfl, hbel⟩ := hrel
    by_cases hlt : k < n
    · obtain ⟨b, off, es, hkl, rfl, hb, hc, hc0, hr⟩ := h.elem (Keeps.old hbel) hlt
      obtain ⟨b', off', es', _, rfl, hb', hc', hc0', hr'⟩ := h'.elem (Keeps.old hbel) hlt
      have hsm := hs _ (List.getElem_mem hkl)
      have hr2 : LineD.rd wr (Old wr) es l[k] := Shape.LineD.more hr fun _ hn => Old.below hbel hn
      have hr2' : LineD.rd wr (Old wr) es' l[k] := Shape.LineD.more hr' fun _ hn => Old.below hbel hn
      have R := Lib.hid hr2; have R' := Lib.hid hr2'; clear hr2 hr2'
      obtain ⟨_, _, _, rfl, -⟩ := hr
      obtain ⟨_, _, _, rfl, -⟩ := hr'
      have e13 : Shape.LineD.size = 10 := rfl
      simp only [e13] at hc hc0 hc' hc0'
      clear e13
      have hb2 := Nat.lt_of_lt_of_le hb hbel.size
      have hb2' := Nat.lt_of_lt_of_le hb' hbel.size
      have hks : (k : Int) < n := by omega
      have SL : ∀ δ, Calls Tryz.prog 40 _ (over wr δ) _ := fun δ => sameLine (over wr δ) (Shape.LineD.below R.out (below_over _ _)) (Shape.LineD.below R'.out (below_over _ _)) hsm hsm
      simp only [decide_true] at SL
      have HSL := Lib.hid SL; clear SL
      go_wp2
      refine wp_region_over (by kernel_rfl) (by kernel_rfl) ?_
      repeat (go_big_quiet_step (first | (go_at_call 40; exact calls_over (HSL.out _))))
      refine wpQuiet_nil ?_
      rintro _ ⟨δ', rfl⟩
      go_wp2
      go_roundw
      case rel => exact ⟨k + 1, by omega, by go_num, below_trans_over hbel hbel.size _⟩
      case measure => simp [intOf]; omega
    · go_wp2
      go_ret
      exact ⟨rfl, exists_over hbel⟩
theorem copyLines {A : Option Addr} {n c : Nat} {l : List LineD} (w : World) (h : Row Shape.LineD w (Old w) A n l) (hs : SmallL l) (hn : n ≤ 1000000000000) :
    Calls Tryz.prog 13 #[.slice A n c] w fun e w' => ∃ v δ M, e = .returned v ∧ w' = over w δ ∧ Own Shape.LineD 60 w' w.heap.size M v l ∧ ∀ n, M n → w.heap.size ≤ n := by
  have HL := Lib.hid h.1
  go_enter Tryz.func13, Tryz.ntmps13
  go_wp2_with fail
  go_loopw [3, 4] (fun v i wr => ∃ (k : Nat) (M : Nat → Prop), k ≤ n ∧ i = .int .i64 k ∧ Below w.heap.size w wr ∧ Own Shape.LineD 60 wr w.heap.size M v (l.take k) ∧ ∀ n, M n → w.heap.size ≤ n) (fun _ i _ => n - (intOf i).toNat)
  case atStart => exact ⟨0, fun _ => False, Nat.zero_le _, rfl, (Below.refl _ _).alloc (Nat.le_refl _) _, Own.made Shape.LineD _ w _ (Nat.le_refl _), fun _ h => h.elim⟩
  case round =>
    obtain ⟨k, M, hk, rfl, hbel, hown, hM⟩ := hrel
    by_cases hlt : k < n
    · obtain ⟨b, off, es, hkl, rfl, hb, hc, hc0, hr⟩ := h.elem (Keeps.old hbel) hlt
      have hsm := hs _ (List.getElem_mem hkl)
      have hr2 : LineD.rd wr (Old wr) es l[k] := Shape.LineD.more hr fun _ hn => Old.below hbel hn
      have R := Lib.hid hr2; clear hr2
      obtain ⟨_, _, _, rfl, -⟩ := hr
      have e13 : Shape.LineD.size = 10 := rfl
      simp only [e13] at hc hc0
      clear e13
      have hb2 := Nat.lt_of_lt_of_le hb hbel.size
      have hks : (k : Int) < n := by omega
      have hszw := hbel.size
      have O := Lib.hid hown; clear hown
      have HM := Lib.hid hM; clear hM
      have HB := Lib.hid hbel; clear hbel
      go_wp2_with fail
      refine (copyLine _ R.out hsm).mono ?_
      rintro e u ⟨cs', δ, rfl, hu, hrd⟩
      have hbu := below_of hu
      have hszu := hbu.size
      have htk := List.length_take_le k l
      have O2 := O.out.over_ δ
      rw [← hu] at O2
      have hO2 := Lib.hid O2; clear O2 hu
      have R2 := Lib.hid hrd
      obtain ⟨_, _, _, rfl, -⟩ := hrd
      have hlt3 := O.out.lt
      have HL3 := Lib.hid hlt3; clear hlt3
      go_wp2_with (first
        | (at_builtin
           refine wpList_append_list (v := u3) rfl (.tmp 12) (.tmp 18) _ rfl elem_LineD rfl (hO2.out.alloc _) rfl (Src.single (s := Shape.LineD) _ (fun _ h => h.2) R2.out) ?_ ?_ ?_ ?_ ?_
           · intro n hn
             refine ⟨by have := hn.2; simp; omega, fun e => ?_⟩
             have := (HL3.out n e.symm).2
             have := hn.1
             omega
           · simp only [List.length_cons, List.length_nil]; omega
           · simp only [List.length_cons, List.length_nil, maxLen]; omega
           · have := HB.out.size; simp; omega
           intro v' w1 hown' hg hat))
      go_roundw
      case rel =>
        have e : l.take (k + 1) = l.take k ++ [l[k]] := List.take_succ_eq_append_getElem hkl
        refine ⟨k + 1, _, by omega, by go_num, ?_, by rw [e]; exact hown', ?_⟩
        · refine (HB.out.trans (hbu.mono hszw)).alloc (by have := hbu.size; omega) _ |>.grown hg (by have := hbu.size; simp; omega) (fun m hm => (HL3.out m hm).1)
        · rintro n (hn | hn)
          · exact HM.out n hn
          · have := hn.1; omega
      case measure => simp [intOf]; omega
    · go_wp2
      go_ret
      refine ⟨_, _, M, rfl, over_of_below hbel, ?_, hM⟩
      rw [← List.take_of_length_le (l := l) (i := k) (by rw [HL.out]; omega)]
      exact hown
end Go.Proofs.YtfhfcipelgogjaaGreatDoor
