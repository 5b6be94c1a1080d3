/- The table of levels, in memory: what it is. No condition. -/
import Derived.Test.YtnadldcdckjifaaDoorMap
import Derived.StillTailTactics
set_option linter.unusedSectionVars false
set_option linter.unusedVariables false
set_option linter.unusedSimpArgs false
namespace Go.Proofs.YtnadldcdckjifaaDoor
open Go.RowKit
/-- a region that draws: its first n operations read, the others come in one order; of the world behind the draw just F is known -/
theorem wp_region_tail_of {P : Program} {id : Nat} {Q : Exit → Act → World → Prop} {a : Act} {w : World} {l : List Oper} (F : World → Prop) (hF : F w.drew) (n : Nat) (hm : P.follows .mixedOrders = true) (hB : Region.lexTailB .any l.toArray n = true)
    (h : ∀ u, F u → wpStill P l.toArray u (fun a' => wpList P l.toArray Q (l.drop n) a' u) (l.take n) a) : (Code.region id l.toArray true).wp P Q a w :=
  wp_region_still_tail n hm hB (h w.drew hF)
theorem owns_slice {w : World} {base : Nat} {e : TypeId} {size : Nat} {v : Value} {n : Nat} {xs : List Value} (h : w.ownsRow base e size v n xs) : ∃ A m c, v = .slice A m c := by
  rcases h.2 with ⟨rfl, _⟩ | ⟨g, cap, cur, rfl, _⟩
  · exact ⟨_, _, _, rfl⟩
  · exact ⟨_, _, _, rfl⟩
theorem owns_ne_map {P : Program} {κ β : Type} [DecidableEq κ] {K : KeyKind P κ} {cv : β → Value} {w : World} {base : Nat} {e : TypeId} {size : Nat} {v : Value} {n : Nat} {xs : List Value} {b : Nat} {kv : List (κ × β)}
    (h : w.ownsRow base e size v n xs) (hm : IsMap K cv w b kv) : some b ≠ v.ownBlock := by
  rcases h.2 with ⟨rfl, _⟩ | ⟨g, cap, cur, rfl, _, hh, _⟩
  · simp [Value.ownBlock]
  · intro he
    have e2 : b = g := by simpa [Value.ownBlock] using he
    subst e2
    obtain ⟨es, c, hb, _⟩ := hm
    rw [hh] at hb
    cases hb
/-- of what was there only blocks of M have turned -/
structure Chg (M : Nat → Prop) (w w' : World) : Prop where
  os : w'.os = w.os
  tape : w'.tape = w.tape
  output : w'.output = w.output
  size : w.heap.size ≤ w'.heap.size
  block : ∀ n, n < w.heap.size → ¬ M n → w'.heap[n]? = w.heap[n]?
theorem Chg.of_below {M : Nat → Prop} {w w' : World} (h : Below w.heap.size w w') : Chg M w w' := ⟨h.os, h.tape, h.output, h.size, fun n hn _ => h.block n hn⟩
theorem Chg.of_only {M : Nat → Prop} {b : Nat} {w w' : World} (h : Only b w w') (hb : M b) : Chg M w w' := ⟨h.os, h.tape, h.output, Nat.le_of_eq h.size.symm, fun n _ hn => h.block n (fun e => hn (e ▸ hb))⟩
theorem Chg.trans {M : Nat → Prop} {a b c : World} (h : Chg M a b) (k : Chg M b c) : Chg M a c :=
  ⟨k.os.trans h.os, k.tape.trans h.tape, k.output.trans h.output, Nat.le_trans h.size k.size, fun n hn hM => (k.block n (Nat.lt_of_lt_of_le hn h.size) hM).trans (h.block n hn hM)⟩
theorem Chg.mono {M M' : Nat → Prop} {w w' : World} (h : Chg M w w') (hM : ∀ n, M n → M' n) : Chg M' w w' := ⟨h.os, h.tape, h.output, h.size, fun n hn hn' => h.block n hn (fun e => hn' (hM n e))⟩
theorem Chg.keeps {M M' : Nat → Prop} {w w' : World} (h : Chg M w w') (hM : ∀ n, M' n → n < w.heap.size ∧ ¬ M n) : Keeps M' w w' := fun n hn => h.block n (hM n hn).1 (hM n hn).2
theorem Chg.below {M : Nat → Prop} {B : Nat} {w w' : World} (h : Chg M w w') (hB : B ≤ w.heap.size) (hM : ∀ n, M n → B ≤ n) : Below B w w' := ⟨h.os, h.tape, h.output, h.size, fun n hn => h.block n (by omega) (fun e => by have := hM n e; omega)⟩

/-- block p is a table: its slice of maps lies in block r; rows: what each map holds; M: all its blocks are of these -/
def LvAt {P : Program} {κ β : Type} [DecidableEq κ] (K : KeyKind P κ) (cv : β → Value) (ts tm : TypeId) (w : World) (M : Nat → Prop) (p : Nat) (rows : List (List (κ × β))) : Prop :=
  ∃ (r cap : Nat) (cur : Array Value) (refs : List Nat), Blk w p ts #[.slice (some ⟨r, 0, none⟩) refs.length cap] ∧ Blk w r tm cur ∧ (∀ i (hi : i < refs.length), cur[i]? = some (.map (some refs[i]))) ∧
    refs.length = rows.length ∧ (∀ i (hi : i < refs.length) (hi' : i < rows.length), IsMap K cv w refs[i] rows[i]) ∧ refs.Nodup ∧ M p ∧ M r ∧ (∀ b ∈ refs, M b) ∧ refs.length ≤ cap ∧ cap ≤ maxLen
section
variable {P : Program} {κ β : Type} [DecidableEq κ] {cv : β → Value} {K : KeyKind P κ} {ts tm : TypeId} {w w' : World} {M M' : Nat → Prop} {p : Nat} {rows : List (List (κ × β))}
theorem LvAt.keep (h : LvAt K cv ts tm w M p rows) (hk : Keeps M w w') : LvAt K cv ts tm w' M p rows := by
  obtain ⟨r, cap, cur, refs, bp, br, hcur, hlen, hmaps, hnd, hp, hr, hM, hc⟩ := h
  exact ⟨r, cap, cur, refs, bp.keeps hk hp, br.keeps hk hr, hcur, hlen, fun i hi hi' => (hmaps i hi hi').keeps hk (hM _ (List.getElem_mem hi)), hnd, hp, hr, hM, hc⟩
/-- one of the maps has turned, and new blocks have come -/
theorem LvAt.set_ {r cap : Nat} {cur : Array Value} {refs : List Nat} {l : Nat} {kv : List (κ × β)} {w₁ : World}
    (bp : Blk w p ts #[.slice (some ⟨r, 0, none⟩) refs.length cap]) (br : Blk w r tm cur) (hcur : ∀ i (hi : i < refs.length), cur[i]? = some (.map (some refs[i]))) (hlen : refs.length = rows.length)
    (hmaps : ∀ i (hi : i < refs.length) (hi' : i < rows.length), IsMap K cv w refs[i] rows[i]) (hnd : refs.Nodup) (hp : M p) (hr : M r) (hM : ∀ b ∈ refs, M b) (hc : refs.length ≤ cap) (hc2 : cap ≤ maxLen)
    (hl : l < refs.length) (hb : Below w.heap.size w w₁) (hw : Only refs[l] w₁ w') (hkv : IsMap K cv w' refs[l] kv) : LvAt K cv ts tm w' M p (rows.set l kv) := by
  have hm0 := hmaps l hl (by omega)
  have e1 := hm0.ne_blk bp
  have e2 := hm0.ne_blk br
  refine ⟨r, cap, cur, refs, (bp.below hb bp.lt).grown hw.grown (by simpa using fun e => e1 e.symm), (br.below hb br.lt).grown hw.grown (by simpa using fun e => e2 e.symm), hcur, by simp [hlen], fun i hi hi' => ?_, hnd, hp, hr, hM, hc, hc2⟩
  by_cases hil : i = l
  · subst hil
    simpa using hkv
  · rw [List.getElem_set_ne (by omega)]
    have hm := hmaps i hi (by simpa using hi')
    refine (hm.of_block (hb.block _ hm.lt)).of_block (hw.block _ fun e => ?_)
    rcases Nat.lt_or_gt_of_ne hil with h' | h'
    · exact absurd e (List.pairwise_iff_getElem.1 hnd i l hi hl h')
    · exact absurd e.symm (List.pairwise_iff_getElem.1 hnd l i hl hi h')
theorem LvAt.lt (h : LvAt K cv ts tm w M p rows) : p < w.heap.size := by
  obtain ⟨r, cap, cur, refs, bp, _⟩ := h
  exact bp.lt
end
/-- what the highest level that knows the key says -/
def topKv {κ β : Type} [DecidableEq κ] : List (List (κ × β)) → κ → Option β
  | [], _ => none
  | kv :: rest, k => (topKv rest k).or (getKv kv k)
section
variable {κ β : Type} [DecidableEq κ]
theorem topKv_drop (rows : List (List (κ × β))) (k : κ) (m : Nat) (hm : m < rows.length) : topKv (rows.drop m) k = (topKv (rows.drop (m + 1)) k).or (getKv rows[m] k) := by
  rw [List.drop_eq_getElem_cons hm]
  rfl
theorem topKv_up (rows : List (List (κ × β))) (k : κ) (m : Nat) (c : β) (h : topKv (rows.drop m) k = some c) : topKv rows k = some c := by
  induction m with
  | zero => simpa using h
  | succ m ih =>
    by_cases hm : m < rows.length
    · exact ih (by rw [topKv_drop rows k m hm, h]; rfl)
    · rw [List.drop_eq_nil_of_le (by omega)] at h
      cases h
end
end Go.Proofs.YtnadldcdckjifaaDoor
