/- The table of levels (overlay.Levels[string,string]): what Set, Get and New do. No condition. -/
import Derived.Test.YtnadldcdckjifaaDoorMap
import Derived.Test.YtnadldcdckjifaaDoorLevels
import Derived.StillTailTactics
import Derived.Test.YtnadldcdckjifaaDoorProg
set_option linter.unusedSectionVars false
set_option linter.unusedVariables false
set_option linter.unusedSimpArgs false
namespace Go.Proofs.YtnadldcdckjifaaDoor.lvS
open Go.RowKit
attribute [local go_sem] cell?_over frozen?_over lt_over le_over lt2 lt3 lt4
theorem key_ty : Tryd.prog.underlying 9 = some .string := Tryd.underlying9
def K : KeyKind Tryd.prog ByteArray := strKind key_ty
theorem map_ty : Tryd.prog.underlying 90 = some (.map K.ty 93) := Tryd.underlying90
theorem cell_info : Whole Tryd.prog 93 2 := ⟨by kernel_rfl, by kernel_rfl⟩
theorem zero_cell (w : World) : (zeroValue 93).run Tryd.prog w = .ok (.agg #[.string ⟨#[]⟩, .bool false]) w := by kernel_rfl
def cv (c : ByteArray × Bool) : Value := .agg #[.string c.1, .bool c.2]
abbrev At (w : World) (M : Nat → Prop) (p : Nat) (rows : List (List (ByteArray × (ByteArray × Bool)))) : Prop := LvAt K cv 89 90 w M p rows

theorem put_no {M : Nat → Prop} {p : Nat} {rows : List (List (ByteArray × (ByteArray × Bool)))} (w : World) (level : Int) (k x : ByteArray) (b : Bool) (h : At w M p rows) (hl : level < 0 ∨ (rows.length : Int) ≤ level) :
    Calls Tryd.prog 76 #[.pointer (some ⟨p, 0, none⟩), .int .i64 level, .string k, .agg #[.string x, .bool b]] w fun e w' => e = .returned (.int .i64 11) ∧ ∃ δ, w' = over w δ := by
  obtain ⟨r, cap, cur, refs, bp, br, hcur, hlen, hmaps, hnd, hp, hr, hM, hcap, hcap2⟩ := h
  have kp := bp.cell 0
  simp only [List.getElem?_toArray, List.getElem?_cons_zero] at kp
  have hpl := bp.lt
  have hlen' : (refs.length : Int) = rows.length := by rw [hlen]
  by_cases h0 : level < 0
  · go_enter Tryd.func76, Tryd.ntmps76
    go_wp2_with fail
    go_ret
    exact ⟨rfl, exists_over (by go_grown)⟩
  · have h1 : (refs.length : Int) ≤ level := by omega
    clear hl hlen hlen' hmaps hcur
    go_enter Tryd.func76, Tryd.ntmps76
    go_wp2_with fail
    go_ret
    exact ⟨rfl, exists_over (by go_grown)⟩
set_option maxRecDepth 100000 in
theorem put_yes {M : Nat → Prop} {p : Nat} {rows : List (List (ByteArray × (ByteArray × Bool)))} (w : World) (level : Nat) (k x : ByteArray) (b : Bool) (h : At w M p rows) (hl : level < rows.length) :
    Calls Tryd.prog 76 #[.pointer (some ⟨p, 0, none⟩), .int .i64 level, .string k, .agg #[.string x, .bool b]] w fun e w' => e = .returned (.int .i64 0) ∧ Chg M w w' ∧ At w' M p (rows.set level (putKv rows[level] k (x, b))) := by
  obtain ⟨r, cap, cur, refs, bp, br, hcur, hlen, hmaps, hnd, hp, hr, hM, hcap, hcap2⟩ := h
  have kp := bp.cell 0
  simp only [List.getElem?_toArray, List.getElem?_cons_zero] at kp
  have hpl := bp.lt
  have hrl := br.lt
  have hlr : level < refs.length := by omega
  have kr : w.cell? ⟨r, level, none⟩ = some (.map (some refs[level])) := by rw [br.cell]; exact hcur level hlr
  have h1 : (level : Int) < refs.length := by omega
  have HC := Lib.hid hcur; have HM := Lib.hid hmaps; have HL := Lib.hid hlen; clear hcur hmaps hlen
  go_enter Tryd.func76, Tryd.ntmps76
  go_wp2_with fail
  refine wp_region_tail_of (fun u => ∃ bx, Blk u bx 93 #[.string x, .bool b] ∧ u = (w.alloc (.cells #[.string x, .bool b] 93)).drew ∧ bx = w.heap.size) ⟨_, Blk.new _ _ _, rfl, rfl⟩ 9 (by kernel_rfl) (by kernel_rfl) ?_
  rintro u ⟨bx, bbx, hu, hbx⟩
  have kp : u.cell? ⟨p, 0, none⟩ = some (.slice (some ⟨r, 0, none⟩) refs.length cap) := by rw [hu]; go_simp
  have kr : u.cell? ⟨r, level, none⟩ = some (.map (some refs[level])) := by rw [hu]; go_simp
  have kb := bbx.cell
  rw [← hbx]
  have hbel : Below w.heap.size w u := by rw [hu]; go_grown
  clear hu hbx
  simp only [List.take_succ_cons, List.take_zero, List.drop_succ_cons, List.drop_zero]
  repeat still_step
  refine wpStill_nil ?_
  have hmm := HM.out level hlr (by rw [← HL.out]; exact hlr)
  refine wpList_mapUpdate_kv rfl (.tmp 26) (.tmp 27) (.tmp 28) 90 rfl map_ty (hmm.of_block (hbel.block _ hmm.lt)) k (x, b) rfl rfl rfl ?_
  intro w1 hkv hon
  go_wp2
  go_ret
  refine ⟨rfl, (Chg.of_below hbel).trans (Chg.of_only hon (hM _ (List.getElem_mem hlr))), ?_⟩
  exact LvAt.set_ bp br HC.out HL.out HM.out hnd hp hr hM hcap hcap2 hlr hbel hon hkv
theorem set_no {M : Nat → Prop} {p : Nat} {rows : List (List (ByteArray × (ByteArray × Bool)))} (w : World) (level : Int) (k x : ByteArray) (h : At w M p rows) (hl : level < 0 ∨ (rows.length : Int) ≤ level) :
    Calls Tryd.prog 61 #[.pointer (some ⟨p, 0, none⟩), .int .i64 level, .string k, .string x] w fun e w' => e = .returned (.int .i64 11) ∧ ∃ δ, w' = over w δ := by
  go_enter Tryd.func61, Tryd.ntmps61
  go_wp2_with fail
  refine (put_no _ level k x false h hl).mono ?_
  rintro e w1 ⟨rfl, hd⟩
  go_wp2_with fail
  go_ret
  exact ⟨rfl, hd⟩
theorem set_yes {M : Nat → Prop} {p : Nat} {rows : List (List (ByteArray × (ByteArray × Bool)))} (w : World) (level : Nat) (k x : ByteArray) (h : At w M p rows) (hl : level < rows.length) :
    Calls Tryd.prog 61 #[.pointer (some ⟨p, 0, none⟩), .int .i64 level, .string k, .string x] w fun e w' => e = .returned (.int .i64 0) ∧ Chg M w w' ∧ At w' M p (rows.set level (putKv rows[level] k (x, false))) := by
  go_enter Tryd.func61, Tryd.ntmps61
  go_wp2_with fail
  refine (put_yes _ level k x false h hl).mono ?_
  rintro e w1 ⟨rfl, hd⟩
  go_wp2_with fail
  go_ret
  exact ⟨rfl, hd⟩
set_option maxRecDepth 100000 in
theorem get {M : Nat → Prop} {p : Nat} {rows : List (List (ByteArray × (ByteArray × Bool)))} (w : World) (k : ByteArray) (h : At w M p rows) (hlen8 : rows.length ≤ 8) :
    Calls Tryd.prog 40 #[.pointer (some ⟨p, 0, none⟩), .string k] w fun e w' => e = .returned (.tuple #[.string ((topKv rows k).map (·.1)|>.getD ⟨#[]⟩), .bool ((topKv rows k).map (!·.2)|>.getD false)]) ∧ ∃ δ, w' = over w δ := by
  obtain ⟨r, cap, cur, refs, bp, br, hcur, hlen, hmaps, hnd, hp, hr, hM, hcap, hcap2⟩ := h
  have kp := bp.cell 0
  simp only [List.getElem?_toArray, List.getElem?_cons_zero] at kp
  have HC := Lib.hid hcur; have HM := Lib.hid hmaps; have HL := Lib.hid hlen; clear hcur hmaps
  have hle : refs.length ≤ 8 := by omega
  clear hlen
  go_enter Tryd.func40, Tryd.ntmps40
  go_wp2_with fail
  go_loopw [6] (fun i wr => ∃ m : Nat, m ≤ refs.length ∧ i = .int .i64 ((m : Int) - 1) ∧ topKv (rows.drop m) k = none ∧ Below w.heap.size w wr) (fun i _ => (intOf i + 1).toNat)
  case atStart => exact ⟨refs.length, Nat.le_refl _, by go_num, by rw [List.drop_eq_nil_of_le (by rw [HL.out]; omega)]; rfl, Below.refl _ _⟩
  case round =>
    obtain ⟨m, hm, rfl, htop, hbel⟩ := hrel
    have HT := Lib.hid htop; clear htop
    cases m with
    | zero =>
      go_wp2
      go_ret2
      have e : topKv rows k = none := by simpa using HT.out
      rw [e]
      exact ⟨rfl, exists_over hbel⟩
    | succ m =>
      have hlm : m < refs.length := by omega
      have hlm' : m < rows.length := by rw [← HL.out]; exact hlm
      have kp1 : wr.cell? ⟨p, 0, none⟩ = some (.slice (some ⟨r, 0, none⟩) refs.length cap) := by rw [hbel.cell bp.lt]; exact kp
      have kr : wr.cell? ⟨r, m, none⟩ = some (.map (some refs[m])) := by rw [hbel.cell br.lt, br.cell]; exact HC.out m hlm
      have h1 : (m : Int) < refs.length := by omega
      have hmm := (HM.out m hlm hlm').of_block (hbel.block _ (HM.out m hlm hlm').lt)
      have hd := topKv_drop rows k m hlm'
      rw [HT.out] at hd
      have HD := Lib.hid hd; clear hd
      have e1 : ((m + 1 : Nat) : Int) - 1 = m := by omega
      rw [e1]
      clear e1 kp
      cases hg : getKv rows[m] k with
      | none =>
        have HG := Lib.hid hg; clear hg
        go_wp2_with (first
          | (refine wpList_lookup_kv rfl (.tmp 27) (.tmp 28) 90 rfl map_ty hmm k (zero_cell _) rfl rfl ?_
             rw [HG.out]
             simp only [Option.map_none, Option.getD_none, Option.isSome_none]))
        go_roundw
        case rel => exact ⟨m, by omega, by go_num, by rw [HD.out, HG.out]; rfl, hbel.alloc hbel.size _⟩
        case measure => simp [intOf]
      | some c =>
        obtain ⟨x, b⟩ := c
        have HG := Lib.hid hg; clear hg
        go_wp2_with (first
          | (refine wpList_lookup_kv rfl (.tmp 27) (.tmp 28) 90 rfl map_ty hmm k (zero_cell _) rfl rfl ?_
             rw [HG.out]
             simp only [Option.map_some, Option.getD_some, Option.isSome_some, cv]))
        go_quiet (fail)
        go_wp2
        go_ret2
        have e : topKv rows k = some (x, b) := topKv_up rows k m _ (by rw [HD.out, HG.out]; rfl)
        rw [e]
        refine ⟨rfl, exists_over ?_⟩
        exact below_drewN (hbel.alloc hbel.size _) _

theorem mapElem : (Tryd.prog.info? 90).map (fun i => (i.zero, i.size, i.bytes)) = some (some (.map none), 1, 8) := by kernel_rfl
set_option maxRecDepth 100000 in
theorem new (w : World) (n : Int) (hn : I64 n) :
    Calls Tryd.prog 37 #[.int .i64 n] w fun e w' => ∃ δ p, e = .returned (.pointer (some ⟨p, 0, none⟩)) ∧ w' = over w δ ∧ At w' (From w.heap.size w') p (List.replicate (min (max n 1) 8).toNat []) := by
  obtain ⟨i0, hi, hz0, hz1, hz2⟩ := info_parts mapElem
  have hmm := @run_makeMap Tryd.prog
  obtain ⟨N, hN⟩ : ∃ N : Nat, N = (min (max n 1) 8).toNat := ⟨_, rfl⟩
  rw [← hN]
  have f1 : N ≤ 8 := by omega
  have f2 : 1 ≤ N := by omega
  have f3 : (N : Int) ≤ 1 ∨ (N : Int) ≤ n := by omega
  have f4 : (8 : Int) ≤ N ∨ n ≤ N := by omega
  clear hN
  go_enter Tryd.func37, Tryd.ntmps37
  go_wp2_with fail
  all_goals
    go_loopw [9] (fun i wr => ∃ (refs : List Nat) (v : Value), refs.length ≤ N ∧ i = .int .i64 refs.length ∧ Below w.heap.size w wr ∧ Blk wr w.heap.size 89 #[v] ∧ wr.ownsRow (w.heap.size + 1) 90 1 v refs.length (refs.map fun b => .map (some b)) ∧
      (∀ b ∈ refs, IsMap K cv wr b [] ∧ w.heap.size < b) ∧ refs.Nodup) (fun i _ => (8 - intOf i).toNat)
    case atStart =>
      refine ⟨[], .slice none 0 0, by simp, by simp, by go_grown, Blk.new _ _ _, by simpa using World.ownsRow_nil _ _ _ _, by simp, List.nodup_nil⟩
    case round =>
      obtain ⟨refs, v, hle, rfl, hbel, hblk, hown, hrefs, hnd⟩ := hrel
      have kc := hblk.cell 0
      simp only [List.getElem?_toArray, List.getElem?_cons_zero] at kc
      have fc := hblk.frozen 0
      have hlt0 := hblk.lt
      have HO := Lib.hid hown; have HR := Lib.hid hrefs; have HND := Lib.hid hnd; have HB := Lib.hid hbel; have HK := Lib.hid hblk
      have hne : v.ownBlock ≠ some w.heap.size := by
        intro e; have := hown.lt _ e; omega
      have HNE := Lib.hid hne
      have hlto := Lib.hid hown.lt
      clear hown hrefs hnd hbel hblk hne
      by_cases hlt : refs.length < N
      · go_wp2_with (first
          | (at_builtin
             refine wpList_append_own_at _ rfl (.tmp 15) (.tmp 17) _ rfl (w.heap.size + 1) 90 i0 (.map none) 1 8 Tryd.underlying87 hi hz0 hz1 hz2 rfl (by decide) _ _ _ rfl ((HO.out.alloc _).alloc _) ⟨wr.heap.size + 1, 0, none⟩ 1 1 [.map (some wr.heap.size)] rfl rfl ?_ ?_ ?_ ?_ ?_ ?_
             · intro j u hu
               cases j with
               | zero => simp at hu; subst hu; simp [Addr.add]
               | succ j => simp at hu
             · intro u hu; simp at hu; subst hu; rfl
             · simp [maxLen]; omega
             · omega
             · simp; omega
             intro v' w1 hown1 hg1 hn1 hat1
             obtain ⟨A', m', c', rfl⟩ := owns_slice hown1
             have kc1 := ((HK.out.alloc (.map #[] 0)).alloc (.cells #[.map (some wr.heap.size)] 90)).grown hg1 HNE.out.symm
             have hb1 : Below w.heap.size w w1 := ((HB.out.alloc HB.out.size _).alloc (by have := HB.out.size; simp; omega) _).grown hg1 (by have := HB.out.size; simp; omega) (fun q hq => by have := hlto.out q hq; omega)
             have cc := kc1.cell 0
             simp only [List.getElem?_toArray, List.getElem?_cons_zero] at cc
             have cf := kc1.frozen 0))
        go_roundw
        case rel =>
          have hlt1 := hown1.lt
          have hlen1 : (refs ++ [wr.heap.size]).length = refs.length + 1 := by simp
          refine ⟨refs ++ [wr.heap.size], .slice A' m' c', by rw [hlen1]; exact hlt, by rw [hlen1]; rfl, hb1.setCell (Nat.le_refl _) _, kc1.set_ 0 _, ?_, ?_, ?_⟩
          · have := ownsRow_setCell_below hown1 (a := ⟨w.heap.size, 0, none⟩) (Nat.lt_succ_self _) (.slice A' m' c')
            simpa using this
          · intro b hb
            rw [List.mem_append] at hb
            have row1 : ∀ q, v.ownBlock = some q → q ≠ wr.heap.size := fun q hq => by have := hlto.out q hq; omega
            rcases hb with hb | hb
            · obtain ⟨h1, h2⟩ := HR.out b hb
              refine ⟨((((h1.alloc _).alloc _).grown hg1 (owns_ne_map HO.out h1)).far (by simp; omega) _), h2⟩
            · simp at hb
              subst hb
              refine ⟨((((IsMap.new K cv wr).alloc _).grown hg1 ?_).far (by simp; omega) _), hlt0⟩
              intro e
              exact row1 _ e.symm rfl
          · rw [List.nodup_append]
            refine ⟨HND.out, by simp, fun a ha b hb => ?_⟩
            simp at hb
            subst hb
            have := (HR.out a ha).1.lt
            omega
        case measure => simp [intOf]; omega
      · have e : refs.length = N := by omega
        have E := Lib.hid e; clear e
        go_wp2
        go_ret
        obtain ⟨rfl, hn0⟩ | ⟨g, cap, cur, hv, hbg, hh, hnc, hcm, hcs, htk⟩ := HO.out.2
        · have := E.out; omega
        · subst hv
          refine ⟨_, _, rfl, over_of_below HB.out, g, cap, cur, refs, HK.out, hh, ?_, by rw [E.out, List.length_replicate], ?_, HND.out, ⟨Nat.le_refl _, hlt0⟩, ⟨by omega, (hlto.out g rfl).2⟩, ?_, hnc, hcm⟩
          · intro i hi
            have h1 := congrArg (fun l => l[i]?) htk
            have hi2 : i < refs.length * 1 := by omega
            simp only [List.getElem?_take, hi2, if_true, List.getElem?_map, List.getElem?_eq_getElem hi, Option.map_some, Array.getElem?_toList] at h1
            exact h1
          · intro i hi hi'
            rw [List.getElem_replicate]
            exact (HR.out _ (List.getElem_mem hi)).1
          · intro b hb
            have h1 := HR.out b hb
            exact ⟨by omega, h1.1.lt⟩
end Go.Proofs.YtnadldcdckjifaaDoor.lvS
