/- Lines by path: manifest's byPath and the reference's at. No condition but room. -/
import Derived.Test.YtdlkgpnfhmablaaDiffLaw
import Derived.Test.YtdlkgpnfhmablaaMapIt
import Derived.BigGuardPart
namespace Go.Proofs.Ytdlkgpnfhmablaa
open Go.RowKit
set_option linter.unusedVariables false
set_option linter.unusedSimpArgs false
attribute [local go_sem] cell?_over frozen?_over lt_over le_over

def kS : KeyKind Try.prog ByteArray := strKind (ty := 9) Try.underlying9
def cvI (n : Int) : Value := .int .i64 n
section
variable {P : Program} {κ β : Type} [DecidableEq κ] {cv : β → Value} {K : KeyKind P κ} {w : World} {ops : Array Oper} {rest : List Oper} {o : Oper} {a : Act} {Q : Exit → Act → World → Prop} {b : Nat} {kv : List (κ × β)}
theorem wpList_lookup_no (hg : o.guard = none) (m x : Operand) (t : TypeId) (hop : o.op = Op.lookup t m x true) {e : TypeId} (ht : P.underlying t = some (.map K.ty e)) (h : IsMap K cv w b kv) (k : κ) {z : Value} (hz : (zeroValue e).run P w = .ok z w)
    (hm : a.eval m = .map (some b)) (hx : a.eval x = K.kf k) (hno : getKv kv k = none) (hK : wpList P ops Q rest (a.put o.dst (.tuple #[z, .bool false])) w) : wpList P ops Q (o :: rest) a w := by
  refine wpList_lookup_kv hg m x t hop ht h k hz hm hx ?_
  rw [hno]; exact hK
theorem wpList_lookup_yes (hg : o.guard = none) (m x : Operand) (t : TypeId) (hop : o.op = Op.lookup t m x true) {e : TypeId} (ht : P.underlying t = some (.map K.ty e)) (h : IsMap K cv w b kv) (k : κ) {z : Value} (hz : (zeroValue e).run P w = .ok z w)
    (hm : a.eval m = .map (some b)) (hx : a.eval x = K.kf k) {v : β} (hv : getKv kv k = some v) (hK : wpList P ops Q rest (a.put o.dst (.tuple #[cv v, .bool true])) w) : wpList P ops Q (o :: rest) a w := by
  refine wpList_lookup_kv hg m x t hop ht h k hz hm hx ?_
  rw [hv]; exact hK
end
theorem hasKv_of_get {β : Type} {kv : List (ByteArray × β)} {p : ByteArray} {v : β} (h : getKv kv p = some v) : hasKv kv p = true := by
  rw [hasKv_iff]; exact List.mem_map.2 ⟨(p, v), getKv_mem h, rfl⟩
theorem und_map : Try.prog.underlying 49 = some (.map kS.ty 3) := Try.underlying49
set_option maxHeartbeats 1000000 in
set_option maxRecDepth 100000 in
theorem byPath {A : Option Addr} {n c : Nat} {l : List LineD} (w : World) (h : Row Shape.LineD w (Old w) A n l) (hn : n ≤ 1000000000000) :
    Calls Try.prog 19 #[.slice A n c] w fun e w' => ∃ b, e = .returned (.map (some b)) ∧ IsMap kS cvI w' b (byP l l.length) ∧ w.heap.size ≤ b ∧ Below w.heap.size w w' := by
  have HL := Lib.hid h.1
  have hmm := @run_makeMap Try.prog
  go_enter Try.func19, Try.ntmps19
  go_wp2_with fail
  clear hmm
  go_loopw [11] (fun i wr => ∃ k : Nat, k ≤ n ∧ i = .int .i64 k ∧ IsMap kS cvI wr w.heap.size (byP l k) ∧ Below w.heap.size w wr) (fun i _ => n - (intOf i).toNat)
  case atStart => exact ⟨0, Nat.zero_le _, rfl, IsMap.new kS cvI w, by go_grown⟩
  case round =>
    obtain ⟨k, hk, rfl, hm, hbel⟩ := hrel
    by_cases hlt : k < n
    · obtain ⟨b, off, es, hkl, rfl, hb, hc, hc0, hr⟩ := h.elem (Keeps.old hbel) hlt
      obtain ⟨_, _, _, rfl, -⟩ := hr
      have e13 : Shape.LineD.size = 10 := rfl
      simp only [e13] at hc hc0
      clear e13
      have hb2 := Nat.lt_of_lt_of_le hb hbel.size
      have hks : (k : Int) < n := by omega
      have hst := byP_step (l := l) (n := k) hkl
      rw [getD_lt hkl] at hst
      generalize l[k] = d at *
      have HM := Lib.hid hm
      have hml := hm.lt
      clear hm
      have HB := Lib.hid hbel; clear hbel
      have HST := Lib.hid hst; clear hst
      have hz : ∀ w, (zeroValue 3).run Try.prog w = .ok (.int .i64 0) w := fun w => Try.zeroValue3 w
      cases hg : getKv (byP l k) d.path with
      | none =>
        have HG := Lib.hid hg; clear hg
        go_wp2_with (first
          | (refine wpList_lookup_no rfl (.tmp 17) (.tmp 19) _ rfl (K := kS) (cv := cvI) und_map (b := w.heap.size) (kv := byP l k) (HM.out.alloc _) d.path (hz _) rfl rfl HG.out ?_)
          | (refine wpList_mapUpdate_kv rfl (.tmp 25) (.tmp 27) (.tmp 28) _ rfl (K := kS) (cv := cvI) und_map (b := w.heap.size) (kv := byP l k) (HM.out.alloc _) d.path (k : Int) rfl rfl rfl ?_
             intro w2 hm2 ho2))
        go_roundw
        case rel =>
          refine ⟨k + 1, by omega, by go_num, ?_, ?_⟩
          · rw [HST.out, if_neg (by rw [getKv_none HG.out]; decide)]; exact hm2
          · exact (HB.out.alloc (by omega) _).grown ho2.grown (by simp; omega) (fun j hj => by injection hj with hj; omega)
        case measure => simp [intOf]; omega
      | some v =>
        have HG := Lib.hid hg; clear hg
        go_wp2_with (first
          | (refine wpList_lookup_yes rfl (.tmp 17) (.tmp 19) _ rfl (K := kS) (cv := cvI) und_map (b := w.heap.size) (kv := byP l k) (HM.out.alloc _) d.path (hz _) rfl rfl HG.out ?_))
        go_roundw
        case rel =>
          refine ⟨k + 1, by omega, by go_num, ?_, HB.out.alloc (by omega) _⟩
          rw [HST.out, if_pos (hasKv_of_get HG.out)]; exact HM.out.alloc _
        case measure => simp [intOf]; omega
    · go_wp2
      go_ret
      have hkn : k = l.length := by rw [HL.out]; omega
      subst hkn
      exact ⟨_, rfl, hm, Nat.le_refl _, hbel⟩
end Go.Proofs.Ytdlkgpnfhmablaa
