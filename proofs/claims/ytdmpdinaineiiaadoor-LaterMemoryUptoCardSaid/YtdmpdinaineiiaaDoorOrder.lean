/- later.order: the deepest first, then by the parts. No condition but room. -/
import Derived.Test.YtdmpdinaineiiaaDoorOrdFn
import Derived.Sort.Grow
import Derived.Deep.RegionWith
namespace Go.Proofs.YtdmpdinaineiiaaDoor
open Go.RowKit
set_option linter.unusedVariables false
set_option linter.unusedSimpArgs false
attribute [local go_sem] cell?_over frozen?_over lt_over le_over
def orV (a b : Int) : Int := if a = 0 then b else a
theorem orInt (a b : Int) (g : Nat) (w : World) (hg : Blk w g 3 #[.int .i64 a, .int .i64 b]) :
    Calls Tryd.prog 48 #[.slice (some ⟨g, 0, none⟩) 2 2] w fun e w' => e = .returned (.int .i64 (orV a b)) ∧ w = w' := by
  have c0 : w.cell? ⟨g, 0, none⟩ = some (.int .i64 a) := hg.cell 0
  have c1 : w.cell? ⟨g, 1, none⟩ = some (.int .i64 b) := hg.cell 1
  have hlt := hg.lt
  clear hg
  go_enter Tryd.func48, Tryd.ntmps48
  go_wp2_with fail
  go_loop [8] (fun i => ∃ k : Nat, k ≤ 2 ∧ i = .int .i64 k ∧ (0 < k → a = 0) ∧ (1 < k → b = 0)) (fun i => 2 - (intOf i).toNat)
  case atStart => exact ⟨0, Nat.zero_le _, rfl, fun h => absurd h (by omega), fun h => absurd h (by omega)⟩
  case round =>
    obtain ⟨k, hk, rfl, h0, h1⟩ := hrel
    rcases (by omega : k = 0 ∨ k = 1 ∨ k = 2) with rfl | rfl | rfl
    · clear h0 h1
      by_cases hz : a = 0
      · subst hz
        go_wp2
        go_round
        case rel => exact ⟨1, by omega, by first | rfl | simp, by simp, by simp⟩
        case measure => simp [intOf]
      · have z1 : (a != 0) = true := by simpa using hz
        have z2 : (a == 0) = false := by simpa using hz
        have E := Lib.hid (if_neg hz : orV a b = a)
        clear hz
        go_wp2
        go_ret
        exact ⟨ret_int E.out.symm, rfl⟩
    · have ha := h0 (by omega)
      clear h0 h1
      subst ha
      by_cases hz : b = 0
      · subst hz
        go_wp2
        go_round
        case rel => exact ⟨2, by omega, by first | rfl | simp, by simp, by simp⟩
        case measure => simp [intOf]
      · have z1 : (b != 0) = true := by simpa using hz
        have z2 : (b == 0) = false := by simpa using hz
        clear hz
        go_wp2
        go_ret
        exact ⟨by simp [orV], rfl⟩
    · have ha := h0 (by omega)
      have hb := h1 (by omega)
      clear h0 h1
      subst ha hb
      go_wp2
      go_ret
      exact ⟨by simp [orV], rfl⟩
theorem or_ord (a b : List ByteArray) : orV (cmpI b.length a.length) (cmpL a b) = ordL a b := by
  unfold orV cmpI ordL
  by_cases h1 : a.length = b.length
  · rw [if_pos h1, h1]; simp
  · rw [if_neg h1]
    by_cases h2 : b.length < a.length
    · rw [if_pos h2, if_pos (by omega : (b.length : Int) < a.length)]; simp
    · rw [if_neg h2, if_neg (by omega : ¬ (b.length : Int) < a.length), if_pos (by omega : (a.length : Int) < b.length)]; simp
theorem drew_grow (w : World) (os : Array Obj) : (Sort.grow w os).drew = Sort.grow w.drew os := rfl
set_option maxHeartbeats 1000000 in
set_option maxRecDepth 100000 in
theorem orderI {A A' : Option Addr} {n c n' c' : Nat} {l l' : List ByteArray} (v v' : Int) (w : World) (h : Row Shape.str w (Old w) A n l) (h' : Row Shape.str w (Old w) A' n' l') (hn : n ≤ 140737488355328) (hn' : n' ≤ 140737488355328) :
    Calls Tryd.prog 37 #[.agg #[.slice A n c, .int .i64 v], .agg #[.slice A' n' c', .int .i64 v']] w fun e w' => e = .returned (.int .i64 (ordL l l')) ∧ ∃ q os, w' = Sort.grow (w.drewN q) os := by
  have e1 := h.1; have e2 := h'.1
  subst e1 e2
  have R := Lib.hid h; have R' := Lib.hid h'
  clear h h'
  have HO := Lib.hid (or_ord l l')
  go_enter Tryd.func37, Tryd.ntmps37
  go_wp2_with fail
  obtain ⟨u, hu⟩ : ∃ u, u = (w.alloc (.cells #[.slice A l.length c, .int .i64 v] 38)).alloc (.cells #[.slice A' l'.length c', .int .i64 v'] 38) := ⟨_, rfl⟩
  have B1 : Blk u w.heap.size 38 #[.slice A l.length c, .int .i64 v] := hu ▸ (Blk.new w _ _).alloc _
  have B2 : Blk u (w.heap.size + 1) 38 #[.slice A' l'.length c', .int .i64 v'] := by
    have := Blk.new (w.alloc (.cells #[.slice A l.length c, .int .i64 v] 38)) 38 #[.slice A' l'.length c', .int .i64 v']
    rw [← hu] at this; simpa using this
  have HB : Hid (Below w.heap.size w u) := Lib.hid (by rw [hu]; go_grown)
  have HUG := Lib.hid (show u = Sort.grow w (#[.cells #[.slice A l.length c, .int .i64 v] 38] ++ #[.cells #[.slice A' l'.length c', .int .i64 v'] 38]) by rw [hu, Sort.alloc_eq_grow, Sort.alloc_eq_grow, Sort.grow_grow])
  rw [← hu]
  clear hu
  have a0 : u.cell? ⟨w.heap.size, 0, none⟩ = some (.slice A l.length c) := B1.cell 0
  have b0 : u.cell? ⟨w.heap.size + 1, 0, none⟩ = some (.slice A' l'.length c') := B2.cell 0
  have lt1 := B1.lt; have lt2' := B2.lt
  clear B1 B2
  have CI : ∀ W, Calls Tryd.prog 49 #[.int .i64 (l'.length : Nat), .int .i64 (l.length : Nat)] W fun e w' => e = .returned (.int .i64 (cmpI l'.length l.length)) ∧ W = w' := fun W => cmp_int _ _ W
  have CT : ∀ W, Below w.heap.size w W → Calls Tryd.prog 50 #[.slice A l.length c, .slice A' l'.length c'] W fun e w' => e = .returned (.int .i64 (cmpL l l')) ∧ W = w' := fun W hb => cmpTexts W (R.out.below hb) (R'.out.below hb) hn hn'
  obtain ⟨x, hx⟩ : ∃ x, x = cmpI l'.length l.length := ⟨_, rfl⟩
  obtain ⟨y, hy⟩ : ∃ y, y = cmpL l l' := ⟨_, rfl⟩
  obtain ⟨r, hr⟩ : ∃ r, r = ordL l l' := ⟨_, rfl⟩
  rw [← hx] at CI HO
  rw [← hy] at CT HO
  rw [← hr] at HO
  have HR := Lib.hid hr
  have CO : Calls Tryd.prog 48 #[.slice (some ⟨u.heap.size, 0, none⟩) 2 2] (u.alloc (.cells #[.int .i64 x, .int .i64 y] 3)).drew fun e w' => e = .returned (.int .i64 r) ∧ (u.alloc (.cells #[.int .i64 x, .int .i64 y] 3)).drew = w' := by
    rw [← HO.out]; exact orInt x y u.heap.size _ (Blk.drew (Blk.new u _ _))
  have HCI := Lib.hid CI; have HCT := Lib.hid CT; have HCO := Lib.hid CO
  clear hx hy hr CI CT CO
  go_region_held3 (fun w' => w'.cell? ⟨w.heap.size, 0, none⟩ = some (.slice A l.length c) ∧ w'.cell? ⟨w.heap.size + 1, 0, none⟩ = some (.slice A' l'.length c')) (first | assumption | (refine ⟨?_, ?_⟩ <;> go_simp)) (first
    | (go_at_call 49; refine (HCI.out _).mono ?_; rintro e w' ⟨rfl, rfl⟩)
    | (go_at_call 50; refine (HCT.out _ (HB.out.drew)).mono ?_; rintro e w' ⟨rfl, rfl⟩)
    | (go_at_call 48; refine HCO.out.mono ?_; rintro e w' ⟨rfl, rfl⟩))
  all_goals
    go_wp2_with fail
    go_ret
    refine ⟨by rw [← HR.out]; first | rfl | simp, 1, (#[.cells #[.slice A l.length c, .int .i64 v] 38] ++ #[.cells #[.slice A' l'.length c', .int .i64 v'] 38]) ++ #[.cells #[.int .i64 x, .int .i64 y] 3], ?_⟩
    rw [HUG.out, Sort.alloc_eq_grow, Sort.grow_grow]
    rfl
end Go.Proofs.YtdmpdinaineiiaaDoor
