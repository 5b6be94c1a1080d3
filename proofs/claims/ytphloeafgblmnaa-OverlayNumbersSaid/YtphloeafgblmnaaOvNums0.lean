/- For OverlayNumbers: contracts whatever the level; a script in a block of its own whose keys are turned one by one. No condition. -/
import Derived.Test.YtphloeafgblmnaaLvLaw
import Derived.Test.YtphloeafgblmnaaLevelsI
set_option linter.unusedSectionVars false
set_option linter.unusedVariables false
set_option linter.unusedSimpArgs false
namespace Go.Proofs.Ytphloeafgblmnaa.overlayNumbers
open Go.RowKit
attribute [local go_sem] cell?_over frozen?_over lt_over le_over lt2 lt3 lt4 lt5
theorem _root_.Go.Proofs.Ytphloeafgblmnaa.Blk.chg {w w' : World} {M : Nat → Prop} {g : Nat} {t : TypeId} {cs : Array Value} (h : Blk w g t cs) (hc : Chg M w w') (hg : ¬ M g) : Blk w' g t cs := (hc.block g h.lt hg).trans h
theorem _root_.Go.Proofs.Ytphloeafgblmnaa.Blk.cells4 {w : World} {g : Nat} {t : TypeId} {a b c d : Value} (h : Blk w g t #[a, b, c, d]) :
    w.cell? ⟨g, 0, none⟩ = some a ∧ w.cell? ⟨g, 1, none⟩ = some b ∧ w.cell? ⟨g, 2, none⟩ = some c ∧ w.cell? ⟨g, 3, none⟩ = some d := ⟨h.cell 0, h.cell 1, h.cell 2, h.cell 3⟩
def upd {α : Type} (rows : List (List α)) (level : Int) (f : List α → List α) : List (List α) := if h : 0 ≤ level ∧ level < rows.length then rows.set level.toNat (f (rows[level.toNat]'(by omega))) else rows
theorem upd_in {α : Type} (rows : List (List α)) (m : Nat) (hm : m < rows.length) (f : List α → List α) : upd rows m f = rows.set m (f rows[m]) := by
  unfold upd
  rw [dif_pos ⟨by omega, by omega⟩]
  rfl
theorem upd_out {α : Type} (rows : List (List α)) (level : Int) (h : level < 0 ∨ (rows.length : Int) ≤ level) (f : List α → List α) : upd rows level f = rows := by
  unfold upd
  rw [dif_neg (by omega)]
theorem upd_length {α : Type} (rows : List (List α)) (level : Int) (f : List α → List α) : (upd rows level f).length = rows.length := by
  unfold upd
  split <;> simp
theorem level_cases (level : Int) (n : Nat) : (level < 0 ∨ (n : Int) ≤ level) ∨ ∃ m : Nat, level = m ∧ m < n := by
  by_cases h : level < 0 ∨ (n : Int) ≤ level
  · exact .inl h
  · exact .inr ⟨level.toNat, by omega, by omega⟩
abbrev Rows_ := List (List (Int × (Int × Bool)))
section
variable {M : Nat → Prop} {p : Nat} {rows : Rows_}
theorem low {w w' : World} (h : lvI.At w M p rows) (hM : ∀ n, M n → n < w.heap.size) (hb : Below w.heap.size w w') : lvI.At w' M p rows := h.keep fun n hn => hb.block n (hM n hn)
theorem set_any (w : World) (hM : ∀ n, M n → n < w.heap.size) (level k x : Int) (h : lvI.At w M p rows) :
    Calls Try.prog 27 #[.pointer (some ⟨p, 0, none⟩), .int .i64 level, .int .i64 k, .int .i64 x] w fun e w' => ∃ c, e = .returned (.int .i64 c) ∧ Chg M w w' ∧ lvI.At w' M p (upd rows level fun kv => putKv kv k (x, false)) := by
  rcases level_cases level rows.length with hl | ⟨m, rfl, hm⟩
  · refine (lvI.set_no w level k x h hl).mono ?_
    rintro e w' ⟨rfl, hd⟩
    rw [upd_out rows level hl]
    obtain ⟨δ, hw⟩ := hd
    have hb := below_of hw
    exact ⟨_, rfl, Chg.of_below hb, low h hM hb⟩
  · refine (lvI.set_yes w m k x h hm).mono ?_
    rintro e w' ⟨rfl, hc, ha⟩
    rw [upd_in rows m hm]
    exact ⟨_, rfl, hc, ha⟩
theorem hide_any (w : World) (hM : ∀ n, M n → n < w.heap.size) (level k : Int) (h : lvI.At w M p rows) :
    Calls Try.prog 29 #[.pointer (some ⟨p, 0, none⟩), .int .i64 level, .int .i64 k] w fun e w' => ∃ c, e = .returned (.int .i64 c) ∧ Chg M w w' ∧ lvI.At w' M p (upd rows level fun kv => putKv kv k (0, true)) := by
  rcases level_cases level rows.length with hl | ⟨m, rfl, hm⟩
  · refine (lvI.hide_no w level k h hl).mono ?_
    rintro e w' ⟨rfl, hd⟩
    rw [upd_out rows level hl]
    obtain ⟨δ, hw⟩ := hd
    have hb := below_of hw
    exact ⟨_, rfl, Chg.of_below hb, low h hM hb⟩
  · refine (lvI.hide_yes w m k h hm).mono ?_
    rintro e w' ⟨rfl, hc, ha⟩
    rw [upd_in rows m hm]
    exact ⟨_, rfl, hc, ha⟩
theorem clear_any (w : World) (hM : ∀ n, M n → n < w.heap.size) (level : Int) (h : lvI.At w M p rows) :
    Calls Try.prog 30 #[.pointer (some ⟨p, 0, none⟩), .int .i64 level] w fun e w' => ∃ c, e = .returned (.int .i64 c) ∧ Chg M w w' ∧ lvI.At w' M p (upd rows level fun _ => []) := by
  rcases level_cases level rows.length with hl | ⟨m, rfl, hm⟩
  · refine (lvI.clear_no w level h hl).mono ?_
    rintro e w' ⟨rfl, rfl⟩
    rw [upd_out rows level hl]
    exact ⟨_, rfl, Chg.of_below (Below.refl _ _), h⟩
  · refine (lvI.clear_yes w m h hm).mono ?_
    rintro e w' ⟨rfl, hc, ha⟩
    rw [upd_in rows m hm]
    exact ⟨_, rfl, hc, ha⟩
def lenAt (rows : Rows_) (level : Int) : Nat := if h : 0 ≤ level ∧ level < rows.length then (rows[level.toNat]'(by omega)).length else 0
theorem len_any (w : World) (level : Int) (h : lvI.At w M p rows) :
    Calls Try.prog 31 #[.pointer (some ⟨p, 0, none⟩), .int .i64 level] w fun e w' => e = .returned (.int .i64 (lenAt rows level)) ∧ w = w' := by
  rcases level_cases level rows.length with hl | ⟨m, rfl, hm⟩
  · have e : lenAt rows level = 0 := by unfold lenAt; rw [dif_neg (by omega)]
    rw [e]
    exact lvI.len_no w level h hl
  · have e : lenAt rows m = rows[m].length := by unfold lenAt; rw [dif_pos ⟨by omega, by omega⟩]; rfl
    rw [e]
    exact lvI.len_yes w m h hm
noncomputable def cntAt (l : List OpD) (i N : Nat) (level : Int) : Nat := if 0 ≤ level ∧ level < N then cntS l i level i else 0
theorem refLen_any {A : Option Addr} {n c : Nat} {l : List OpD} (w : World) (h : Row Shape.OpD w (Old w) A n l) (hn : n ≤ 1000000) (i : Nat) (hi : i ≤ n) (N : Nat) (hN : N ≤ 8) (level : Int) :
    Calls Try.prog 25 #[.slice A n c, .int .i64 i, .int .i64 N, .int .i64 level] w fun e w' => e = .returned (.int .i64 (cntAt l i N level)) ∧ ∃ δ, w' = over w δ := by
  rcases level_cases level N with hl | ⟨m, rfl, hm⟩
  · have e : cntAt l i N level = 0 := by unfold cntAt; rw [if_neg (by omega)]
    rw [e]
    refine (refLen_no w A n c i N level hl).mono ?_
    rintro e w' ⟨rfl, rfl⟩
    exact ⟨rfl, exists_over (Below.refl _ _)⟩
  · have e : cntAt l i N m = cntS l i m i := by unfold cntAt; rw [if_pos ⟨by omega, by omega⟩]
    rw [e]
    exact refLen w h hn i hi N hN m (by omega) (by omega)
end
/-! ### The code -/
def nine : ByteArray := ⟨#[107, 107, 107, 107, 107, 107, 107, 107, 107]⟩
def kk (n : Nat) : ByteArray := nine.extract 0 n
theorem kk_size : ∀ n, n ≤ 9 → (kk n).size = n := by
  intro n hn
  have : ∀ m : Fin 10, (kk m.1).size = m.1 := by decide +kernel
  exact this ⟨n, by omega⟩
def code : LvCode Int Int := ⟨fun n => kk n.toNat, fun n => 0 ≤ n ∧ n ≤ 8, fun a b ha hb h => by
  have h1 := congrArg ByteArray.size h
  rw [kk_size _ (by omega), kk_size _ (by omega)] at h1
  omega, id, 0, rfl⟩
def conv (o : OpD) : OpD := { o with key := kk (o.key.size % 9) }
def script (raw : List OpD) (k : Nat) : List OpD := (raw.take k).map conv ++ raw.drop k
def isPut (o : OpD) : Bool := o.what == 1 || o.what == 2
def kept (raw : List OpD) (k : Nat) : List OpD := ((raw.take k).map conv).filter isPut
/-! ### What a script says hangs on its beginning -/
theorem lastS_same {l l' : List OpD} (level : Int) (key : ByteArray) (i : Nat) (h : ∀ j, j < i → l[j]? = l'[j]?) : lastS l level key i = lastS l' level key i := by
  induction i with
  | zero => rfl
  | succ i ih => rw [lastS, lastS, h i (Nat.lt_succ_self i), ih fun j hj => h j (by omega)]
theorem getS_same {l l' : List OpD} (i : Nat) (key : ByteArray) (h : ∀ j, j < i → l[j]? = l'[j]?) (m : Nat) : getS l i key m = getS l' i key m := by
  induction m with
  | zero => rfl
  | succ m ih => rw [getS, getS, ih, lastS_same m key i h]
theorem opAt_same {l l' : List OpD} {level : Int} {key : ByteArray} {k : Nat} (h : l[k]? = l'[k]?) : opAt l level key k ↔ opAt l' level key k := by unfold opAt; rw [h]
theorem aliveS_same {l l' : List OpD} (i : Nat) (level : Int) (h : ∀ j, j < i → l[j]? = l'[j]?) (j : Nat) (hj : j < i) : aliveS l i level j ↔ aliveS l' i level j := by
  unfold aliveS
  constructor
  · rintro ⟨key, h1, h2, h3⟩
    exact ⟨key, (opAt_same (h j hj)).1 h1, fun k hk h' => h2 k hk ((opAt_same (h k (by omega))).2 h'), by rw [← lastS_same level key i h]; exact h3⟩
  · rintro ⟨key, h1, h2, h3⟩
    exact ⟨key, (opAt_same (h j hj)).2 h1, fun k hk h' => h2 k hk ((opAt_same (h k (by omega))).1 h'), by rw [lastS_same level key i h]; exact h3⟩
theorem cntS_same {l l' : List OpD} (i : Nat) (level : Int) (h : ∀ j, j < i → l[j]? = l'[j]?) (j : Nat) (hj : j ≤ i) : cntS l i level j = cntS l' i level j := by
  induction j with
  | zero => rfl
  | succ j ih =>
    rw [cntS, cntS, ih (by omega)]
    have he := aliveS_same i level h j (by omega)
    by_cases ha : aliveS l i level j
    · rw [if_pos ha, if_pos (he.1 ha)]
    · rw [if_neg ha, if_neg (fun h => ha (he.2 h))]
theorem LvIs.same {l l' : List OpD} {i : Nat} {level : Int} {kv : List (Int × (Int × Bool))} (h : LvIs code l i level kv) (e : ∀ j, j < i → l[j]? = l'[j]?) : LvIs code l' i level kv :=
  ⟨fun k hk => by rw [h.get k hk, lastS_same level _ i e], h.dom⟩
theorem TabIs.same {l l' : List OpD} {i : Nat} {rows : Rows_} (h : TabIs code l i rows) (e : ∀ j, j < i → l[j]? = l'[j]?) : TabIs code l' i rows := fun m hm => LvIs.same (h m hm) e
theorem TabIs.upd_put {l : List OpD} {i : Nat} {rows : Rows_} (h : TabIs code l i rows) (hi : i < l.length) (k : Int) (hk : code.D k) (hkey : l[i].key = code.f k) (c : Int × Bool)
    (hw : (l[i].what = 1 ∧ c = (l[i].val, false)) ∨ (l[i].what = 2 ∧ c = (0, true))) : TabIs code l (i + 1) (upd rows l[i].level fun kv => putKv kv k c) := by
  rcases level_cases l[i].level rows.length with hl | ⟨m, hl, hm⟩
  · rw [upd_out rows _ hl]; exact Go.Proofs.Ytphloeafgblmnaa.TabIs.other h hi (.inl hl)
  · rw [hl, upd_in rows m hm]; exact Go.Proofs.Ytphloeafgblmnaa.TabIs.put_ h hi m hm hl k hk hkey c hw
theorem TabIs.upd_clear {l : List OpD} {i : Nat} {rows : Rows_} (h : TabIs code l i rows) (hi : i < l.length) (hw : l[i].what = 3) : TabIs code l (i + 1) (upd rows l[i].level fun _ => []) := by
  rcases level_cases l[i].level rows.length with hl | ⟨m, hl, hm⟩
  · rw [upd_out rows _ hl]; exact Go.Proofs.Ytphloeafgblmnaa.TabIs.other h hi (.inl hl)
  · rw [hl, upd_in rows m hm]; exact Go.Proofs.Ytphloeafgblmnaa.TabIs.clear_ h hi m hm hl hw
theorem conv_map (raw : List OpD) (k : Nat) (hk : k < raw.length) : (raw.map conv)[k]'(by simpa using hk) = conv raw[k] := by simp
theorem script_length (raw : List OpD) (k : Nat) (hk : k ≤ raw.length) : (script raw k).length = raw.length := by simp [script]; omega
theorem script_all (raw : List OpD) (k : Nat) (hk : raw.length ≤ k) : script raw k = raw.map conv := by simp [script, List.take_of_length_le hk, List.drop_of_length_le hk]
theorem script_low (raw : List OpD) (k j : Nat) (hj : j < k) : (script raw k)[j]? = (raw.map conv)[j]? := by
  unfold script
  by_cases h : j < raw.length
  · rw [List.getElem?_append_left (by simp; omega)]
    simp [hj]
  · rw [List.getElem?_eq_none (by simp; omega), List.getElem?_eq_none (by simp; omega)]
theorem script_at (raw : List OpD) (k : Nat) (hk : k < raw.length) : (script raw k)[k]? = some raw[k] := by
  unfold script
  rw [List.getElem?_append_right (by simp; omega)]
  have : k - ((raw.take k).map conv).length = 0 := by simp; omega
  rw [this]
  simp [hk]
theorem script_succ (raw : List OpD) (k : Nat) (hk : k < raw.length) : script raw (k + 1) = (script raw k).set k (conv raw[k]) := by
  unfold script
  rw [List.set_append_right _ _ (by simp; omega)]
  have : k - ((raw.take k).map conv).length = 0 := by simp; omega
  rw [this, List.take_succ_eq_append_getElem hk, List.map_append, List.drop_eq_getElem_cons hk]
  simp only [List.map_cons, List.map_nil, List.append_assoc, List.cons_append, List.nil_append, List.set_cons_zero]
theorem kept_succ (raw : List OpD) (k : Nat) (hk : k < raw.length) : kept raw (k + 1) = kept raw k ++ if isPut raw[k] then [conv raw[k]] else [] := by
  unfold kept
  rw [List.take_succ_eq_append_getElem hk, List.map_append, List.filter_append]
  congr 1
  simp only [List.map_cons, List.map_nil, List.filter_cons, List.filter_nil]
  rfl
/-- the second table: what its own steps left -/
theorem tabu_put {raw : List OpD} {k : Nat} {rows : Rows_} (hk : k < raw.length) (h : TabIs code (kept raw k) (kept raw k).length rows) (key : Int) (hD : code.D key) (hkey : (conv raw[k]).key = code.f key) (c : Int × Bool)
    (hw : (raw[k].what = 1 ∧ c = (raw[k].val, false)) ∨ (raw[k].what = 2 ∧ c = (0, true))) : TabIs code (kept raw (k + 1)) (kept raw (k + 1)).length (upd rows raw[k].level fun kv => putKv kv key c) := by
  have hp : isPut raw[k] = true := by rcases hw with ⟨h, _⟩ | ⟨h, _⟩ <;> simp [isPut, h]
  have e : kept raw (k + 1) = kept raw k ++ [conv raw[k]] := by rw [kept_succ raw k hk, if_pos hp]
  have h2 : TabIs code (kept raw (k + 1)) (kept raw k).length rows := TabIs.same h fun j hj => by rw [e, List.getElem?_append_left hj]
  have hl : (kept raw k).length < (kept raw (k + 1)).length := by rw [e]; simp
  have hat : (kept raw (k + 1))[(kept raw k).length] = conv raw[k] := by simp [e]
  have := TabIs.upd_put h2 hl key hD (by rw [hat]; exact hkey) c (by rw [hat]; exact hw)
  rw [hat] at this
  have hlen : (kept raw (k + 1)).length = (kept raw k).length + 1 := by rw [e]; simp
  rw [hlen]
  exact this
theorem tabu_same {raw : List OpD} {k : Nat} {rows : Rows_} (hk : k < raw.length) (h : TabIs code (kept raw k) (kept raw k).length rows) (hw : ¬ raw[k].what = 1) (hw2 : ¬ raw[k].what = 2) : TabIs code (kept raw (k + 1)) (kept raw (k + 1)).length rows := by
  have hp : isPut raw[k] = false := by simp [isPut, hw, hw2]
  have e : kept raw (k + 1) = kept raw k := by rw [kept_succ raw k hk, hp]; simp
  rw [e]; exact h
/-! ### The script in its block -/
def OpAt (w : World) (g off : Nat) (l : List OpD) : Prop := ∃ cur, Blk w g 56 cur ∧ ∀ i (hi : i < l.length), cur[off + i * 4]? = some (.int .i64 l[i].what) ∧ cur[off + i * 4 + 1]? = some (.int .i64 l[i].level) ∧ cur[off + i * 4 + 2]? = some (.string l[i].key) ∧ cur[off + i * 4 + 3]? = some (.int .i64 l[i].val) ∧
  I64 l[i].what ∧ I64 l[i].level ∧ l[i].key.size ≤ maxLen ∧ I64 l[i].val
theorem OpAt.lt {w : World} {g off : Nat} {l : List OpD} (h : OpAt w g off l) : g < w.heap.size := by obtain ⟨cur, hb, _⟩ := h; exact hb.lt
theorem OpAt.keep {w w' : World} {g off : Nat} {l : List OpD} (h : OpAt w g off l) (e : w'.heap[g]? = w.heap[g]?) : OpAt w' g off l := by obtain ⟨cur, hb, hc⟩ := h; exact ⟨cur, e.trans hb, hc⟩
theorem OpAt.row {w : World} {g off : Nat} {l : List OpD} (h : OpAt w g off l) : Row Shape.OpD w (Old w) (some ⟨g, off, none⟩) l.length l := by
  obtain ⟨cur, hb, hc⟩ := h
  refine ⟨rfl, fun _ => ⟨g, off, rfl, hb.lt, fun i hi => ?_⟩⟩
  obtain ⟨c0, c1, c2, c3, r0, r1, r2, r3⟩ := hc i hi
  refine ⟨[.int .i64 l[i].what, .int .i64 l[i].level, .string l[i].key, .int .i64 l[i].val], fun j hj => ?_, rfl, r0, r1, r2, r3⟩
  rw [hb.cell]
  match j, hj with
  | 0, _ => exact c0
  | 1, _ => exact c1
  | 2, _ => exact c2
  | 3, _ => exact c3
theorem OpAt.set_ {w : World} {g off : Nat} {l : List OpD} (h : OpAt w g off l) (k : Nat) (hk : k < l.length) (key : ByteArray) (hkey : key.size ≤ maxLen) :
    OpAt (w.setCell ⟨g, off + k * 4 + 2, none⟩ (.string key)) g off (l.set k { l[k] with key := key }) := by
  obtain ⟨cur, hb, hc⟩ := h
  refine ⟨_, hb.set_ _ _, fun i hi => ?_⟩
  have hi' : i < l.length := by simpa using hi
  obtain ⟨c0, c1, c2, c3, r0, r1, r2, r3⟩ := hc i hi'
  by_cases e : k = i
  · subst e
    simp only [List.getElem_set_self]
    have hlt : off + k * 4 + 2 < cur.size := by
      rcases Nat.lt_or_ge (off + k * 4 + 2) cur.size with h | h
      · exact h
      · rw [Array.getElem?_eq_none h] at c2; cases c2
    refine ⟨?_, ?_, ?_, ?_, r0, r1, hkey, r3⟩
    · rw [Array.getElem?_setIfInBounds_ne (by omega)]; exact c0
    · rw [Array.getElem?_setIfInBounds_ne (by omega)]; exact c1
    · rw [Array.getElem?_setIfInBounds_self_of_lt hlt]
    · rw [Array.getElem?_setIfInBounds_ne (by omega)]; exact c3
  · rw [List.getElem_set_ne e]
    refine ⟨?_, ?_, ?_, ?_, r0, r1, r2, r3⟩
    · rw [Array.getElem?_setIfInBounds_ne (by omega)]; exact c0
    · rw [Array.getElem?_setIfInBounds_ne (by omega)]; exact c1
    · rw [Array.getElem?_setIfInBounds_ne (by omega)]; exact c2
    · rw [Array.getElem?_setIfInBounds_ne (by omega)]; exact c3
theorem OpAt.cells {w : World} {g off : Nat} {l : List OpD} (h : OpAt w g off l) (i : Nat) (hi : i < l.length) : w.cell? ⟨g, off + i * 4, none⟩ = some (.int .i64 l[i].what) ∧ w.cell? ⟨g, off + i * 4 + 1, none⟩ = some (.int .i64 l[i].level) ∧
    w.cell? ⟨g, off + i * 4 + 2, none⟩ = some (.string l[i].key) ∧ w.cell? ⟨g, off + i * 4 + 3, none⟩ = some (.int .i64 l[i].val) ∧ (∀ j, w.frozen? ⟨g, j, none⟩ = false) := by
  obtain ⟨cur, hb, hc⟩ := h
  obtain ⟨c0, c1, c2, c3, _⟩ := hc i hi
  exact ⟨by rw [hb.cell]; exact c0, by rw [hb.cell]; exact c1, by rw [hb.cell]; exact c2, by rw [hb.cell]; exact c3, hb.frozen⟩
/-- a slice of the call's own, as a block -/
theorem OpAt.of_own {w : World} {base : Nat} {M : Nat → Prop} {v : Value} {l : List OpD} (h : Own Shape.OpD 56 w base M v l) (hne : v.ownBlock ≠ none) : ∃ g off cap, v = .slice (some ⟨g, off, none⟩) l.length cap ∧ base ≤ g ∧ OpAt w g off l ∧ l.length ≤ cap ∧ cap ≤ maxLen := by
  obtain ⟨xs, ⟨hlen, hown⟩, hcs, _⟩ := h
  rcases hown with ⟨rfl, h0⟩ | ⟨g, cap, cur, rfl, hb, hh, hn, hcm, hsz, htk⟩
  · exact absurd rfl hne
  · refine ⟨g, 0, cap, rfl, hb, ⟨cur, hh, fun i hi => ?_⟩, hn, hcm⟩
    obtain ⟨es, hes, hr⟩ := hcs.get i hi
    obtain ⟨rfl, r⟩ := hr
    have e4 : Shape.OpD.size = 4 := rfl
    have hc : ∀ j, j < 4 → cur[0 + i * 4 + j]? = [Value.int .i64 l[i].what, .int .i64 l[i].level, .string l[i].key, .int .i64 l[i].val][j]? := by
      intro j hj
      rw [← hes j hj, e4, ← htk, List.getElem?_take, if_pos (by rw [e4]; omega), Array.getElem?_toList]
      simp
    exact ⟨hc 0 (by omega), hc 1 (by omega), hc 2 (by omega), hc 3 (by omega), r⟩
/-! ### What the rounds find -/
structure Apart (w w4 : World) (M M' : Nat → Prop) (g : Nat) : Prop where
  m1 : ∀ n, M n → w.heap.size ≤ n ∧ n < w4.heap.size
  m2 : ∀ n, M' n → w.heap.size ≤ n ∧ n < w4.heap.size
  g1 : w.heap.size ≤ g
  g2 : g < w4.heap.size
  d12 : ∀ n, M n → ¬ M' n
  dg1 : ¬ M g
  dg2 : ¬ M' g
structure St (w4 : World) (M M' : Nat → Prop) (p q g off : Nat) (lo : List OpD) (rows rowsu : Rows_) (wr : World) : Prop where
  ch : Chg (fun n => M n ∨ M' n ∨ n = g) w4 wr
  t : lvI.At wr M p rows
  u : lvI.At wr M' q rowsu
  own : OpAt wr g off lo
section
variable {w w4 wr u : World} {M M' : Nat → Prop} {p q g off : Nat} {lo : List OpD} {rows rowsu : Rows_}
theorem St.lt1 (h : St w4 M M' p q g off lo rows rowsu wr) (ap : Apart w w4 M M' g) : ∀ n, M n → n < wr.heap.size := fun n hn => Nat.lt_of_lt_of_le (ap.m1 n hn).2 h.ch.size
theorem St.lt2 (h : St w4 M M' p q g off lo rows rowsu wr) (ap : Apart w w4 M M' g) : ∀ n, M' n → n < wr.heap.size := fun n hn => Nat.lt_of_lt_of_le (ap.m2 n hn).2 h.ch.size
theorem St.low (h : St w4 M M' p q g off lo rows rowsu wr) (ap : Apart w w4 M M' g) (hb : Below wr.heap.size wr u) : St w4 M M' p q g off lo rows rowsu u :=
  ⟨h.ch.trans (Chg.of_below hb), overlayNumbers.low h.t (h.lt1 ap) hb, overlayNumbers.low h.u (h.lt2 ap) hb, h.own.keep (hb.block _ h.own.lt)⟩
theorem St.turnT (h : St w4 M M' p q g off lo rows rowsu wr) (ap : Apart w w4 M M' g) (hc : Chg M wr u) {rows2 : Rows_} (ha : lvI.At u M p rows2) : St w4 M M' p q g off lo rows2 rowsu u :=
  ⟨h.ch.trans (hc.mono fun _ h => .inl h), ha, h.u.keep fun n hn => hc.block n (h.lt2 ap n hn) fun h => ap.d12 n h hn, h.own.keep (hc.block _ h.own.lt ap.dg1)⟩
theorem St.turnU (h : St w4 M M' p q g off lo rows rowsu wr) (ap : Apart w w4 M M' g) (hc : Chg M' wr u) {rows2 : Rows_} (ha : lvI.At u M' q rows2) : St w4 M M' p q g off lo rows rows2 u :=
  ⟨h.ch.trans (hc.mono fun _ h => .inr (.inl h)), h.t.keep fun n hn => hc.block n (h.lt1 ap n hn) fun h => ap.d12 n hn h, ha, h.own.keep (hc.block _ h.own.lt ap.dg2)⟩
theorem St.turnO (h : St w4 M M' p q g off lo rows rowsu wr) (ap : Apart w w4 M M' g) (k : Nat) (hk : k < lo.length) (key : ByteArray) (hkey : key.size ≤ maxLen) :
    St w4 M M' p q g off (lo.set k { lo[k] with key := key }) rows rowsu (wr.setCell ⟨g, off + k * 4 + 2, none⟩ (.string key)) := by
  have hc : Chg (fun n => n = g) wr (wr.setCell ⟨g, off + k * 4 + 2, none⟩ (.string key)) := by
    have hb := (Below.refl g wr).setCell (p := ⟨g, off + k * 4 + 2, none⟩) (Nat.le_refl _) (.string key)
    exact ⟨hb.os, hb.tape, hb.output, hb.size, fun n _ hn => Below.heap_setCell wr ⟨g, off + k * 4 + 2, none⟩ (.string key) n hn⟩
  exact ⟨h.ch.trans (hc.mono fun _ h => .inr (.inr h)), h.t.keep fun n hn => hc.block n (h.lt1 ap n hn) fun e => ap.dg1 (e ▸ hn), h.u.keep fun n hn => hc.block n (h.lt2 ap n hn) fun e => ap.dg2 (e ▸ hn), h.own.set_ k hk key hkey⟩
theorem St.below (h : St w4 M M' p q g off lo rows rowsu wr) (ap : Apart w w4 M M' g) (hb : Below w.heap.size w w4) : Below w.heap.size w wr :=
  hb.trans (h.ch.below hb.size fun n hn => by
    rcases hn with h | h | h
    · exact (ap.m1 n h).1
    · exact (ap.m2 n h).1
    · rw [h]; exact ap.g1)
end
theorem get_top {L : List OpD} {k N : Nat} {rows : Rows_} (h : TabIs code L k rows) (hN : rows.length = N) (z : Nat) (hz : z ≤ 8) :
    ((topKv rows (z : Int)).map (·.1)).getD 0 = (getS L k (kk z) N).1 ∧ ((topKv rows (z : Int)).map (!·.2)).getD false = (getS L k (kk z) N).2 := by
  have h1 := h.get_ (z : Int) ⟨by omega, by omega⟩ rows.length (Nat.le_refl _)
  rw [List.take_length, hN] at h1
  exact h1
theorem len_top {w : World} {M : Nat → Prop} {p : Nat} {L : List OpD} {k N : Nat} {rows : Rows_} (hat : lvI.At w M p rows) (h : TabIs code L k rows) (hN : rows.length = N) (hL : ∀ o ∈ L, ∃ z : Nat, z ≤ 8 ∧ o.key = kk z) (level : Int) :
    lenAt rows level = cntAt L k N level := by
  rcases level_cases level rows.length with hl | ⟨m, rfl, hm⟩
  · unfold lenAt cntAt
    rw [dif_neg (by omega), if_neg (by omega)]
  · have e : lenAt rows m = rows[m].length := by unfold lenAt; rw [dif_pos ⟨by omega, by omega⟩]; rfl
    have e2 : cntAt L k N m = cntS L k m k := by unfold cntAt; rw [if_pos ⟨by omega, by omega⟩]
    rw [e, e2]
    refine (h m hm).len ?_ fun key hk => ?_
    · obtain ⟨r, cap, cur, refs, _, _, _, hlen, hmaps, _⟩ := hat
      obtain ⟨_, _, _, _, hnd⟩ := hmaps m (by omega) hm
      exact hnd
    · obtain ⟨j, _, o, ho, _, hkey, _⟩ := lastS_op L m key k hk
      obtain ⟨z, hz, hz2⟩ := hL o (List.mem_of_getElem? ho)
      exact ⟨z, ⟨by omega, by omega⟩, by rw [← hkey, hz2]; rfl⟩
theorem conv_keys (raw : List OpD) : ∀ o ∈ raw.map conv, ∃ z : Nat, z ≤ 8 ∧ o.key = kk z := by
  intro o ho
  obtain ⟨a, _, rfl⟩ := List.mem_map.1 ho
  exact ⟨a.key.size % 9, by omega, rfl⟩
theorem cntAt_same {l l' : List OpD} (i N : Nat) (level : Int) (h : ∀ j, j < i → l[j]? = l'[j]?) : cntAt l i N level = cntAt l' i N level := by
  unfold cntAt
  split
  · exact cntS_same i level h i (Nat.le_refl _)
  · rfl
theorem OpAt.row_ {w : World} {g off n : Nat} {l : List OpD} (h : OpAt w g off l) (e : l.length = n) : Row Shape.OpD w (Old w) (some ⟨g, off, none⟩) n l := e ▸ h.row
theorem kept_keys (raw : List OpD) (k : Nat) : ∀ o ∈ kept raw k, ∃ z : Nat, z ≤ 8 ∧ o.key = kk z := by
  intro o ho
  obtain ⟨a, _, rfl⟩ := List.mem_map.1 (List.mem_filter.1 ho).1
  exact ⟨a.key.size % 9, by omega, rfl⟩
theorem kept_length (raw : List OpD) (k : Nat) : (kept raw k).length ≤ raw.length := by
  unfold kept
  refine Nat.le_trans (List.length_filter_le _ _) ?_
  rw [List.length_map, List.length_take]
  omega
end Go.Proofs.Ytphloeafgblmnaa.overlayNumbers
