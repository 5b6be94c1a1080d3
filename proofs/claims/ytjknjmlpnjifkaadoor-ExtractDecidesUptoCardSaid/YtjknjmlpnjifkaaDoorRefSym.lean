/- ref10.Sym: whether the text of a symbolic link leads out. No condition but room. -/
import Derived.Test.YtjknjmlpnjifkaaDoorSym
import Derived.Test.YtjknjmlpnjifkaaDoorRefPieces
namespace Go.Proofs.YtjknjmlpnjifkaaDoor
open Go.RowKit
set_option linter.unusedVariables false
set_option linter.unusedSimpArgs false
attribute [local go_sem] cell?_over frozen?_over lt_over le_over
set_option maxHeartbeats 4000000 in
set_option maxRecDepth 100000 in
theorem refSym {A : Option Addr} {n c : Nat} {l : List ByteArray} (s : ByteArray) (pol mn : Int) (w : World) (h : Row Shape.str w (Old w) A n l) (hn : n ≤ 200000000) (hs : s.size ≤ 100000000) :
    Calls Tryd.prog 27 #[.slice A n c, .string s, .int .i64 pol, .int .i64 mn] w (SymEnd n s.data.toList pol mn w) := by
  have hsl : s.data.toList.length = s.size := Lib.size_eq s |>.symm
  obtain ⟨E, hE⟩ : ∃ E, E = symE n s.data.toList pol mn := ⟨_, rfl⟩
  unfold SymEnd
  rw [← hE]
  unfold symE at hE
  by_cases hp : pol ≠ 0 ∧ pol ≠ 1
  · rw [if_pos hp] at hE
    have p0 : (pol != 0) = true := by rw [bne_iff_ne]; exact hp.1
    have p1 : (pol != 1) = true := by rw [bne_iff_ne]; exact hp.2
    subst hE
    clear hp h
    go_enter Tryd.func27, Tryd.ntmps27
    go_wp2_with fail
    go_ret2
    exact ⟨Below.refl _ _, _, rfl⟩
  rw [if_neg hp] at hE
  have hp2 : pol = 0 ∨ pol = 1 := by omega
  clear hp
  by_cases h0 : s.data.toList = []
  · rw [if_pos h0] at hE
    have := bytes_ext h0
    subst this
    subst hE
    clear h
    rcases hp2 with rfl | rfl <;> (
      go_enter Tryd.func27, Tryd.ntmps27
      go_wp2_with fail
      go_ret2
      exact ⟨Below.refl _ _, _, rfl⟩)
  rw [if_neg h0] at hE
  have t0 := empty_lit h0
  have hpos : 0 < s.size := by
    rw [← hsl]; exact List.length_pos_iff.2 h0
  by_cases h1 : mn < s.size
  · rw [hsl, if_pos h1] at hE
    have t1 : decide ((s.size : Int) > mn) = true := by simpa using h1
    subst hE
    clear h0 hsl h
    rcases hp2 with rfl | rfl <;> (
      go_enter Tryd.func27, Tryd.ntmps27
      go_wp2_with fail
      go_ret2
      exact ⟨Below.refl _ _, _, rfl⟩)
  rw [hsl, if_neg h1] at hE
  have t1 : decide ((s.size : Int) > mn) = false := by simpa using h1
  have HE := Lib.hid hE; have HSL := Lib.hid hsl; have HROW := Lib.hid h
  clear hE h0 h1 hsl h
  rcases hp2 with rfl | rfl
  · go_enter Tryd.func27, Tryd.ntmps27
    go_wp2_with fail
    go_loopw [10] (fun it wr => ∃ k : Nat, it = .int .i64 k ∧ k ≤ s.size ∧ (∀ i (hi : i < k) (hl : i < s.size), s[i] ≠ 0) ∧ wr = w) (fun it _ => s.size - (intOf it).toNat)
    case atStart => exact ⟨0, rfl, Nat.zero_le _, fun i hi => absurd hi (Nat.not_lt_zero _), rfl⟩
    case round =>
      obtain ⟨k, rfl, hk, hall, hw⟩ := hrel
      have AL := Lib.hid hall
      clear hall
      subst hw
      by_cases hlt : k < s.size
      · by_cases hz : s[k] = 0
        · have tz : ((s[k].toNat : Int) == 0) = true := by rw [hz]; rfl
          have hE : E = 91 := by
            rw [HE.out, if_pos]
            have := Lib.data_getElem? s k hlt
            rw [hz] at this
            exact List.mem_of_getElem? this
          subst hE
          clear hz
          go_wp2_with fail
          go_ret2
          exact ⟨Below.refl _ _, _, rfl⟩
        · have tz : ((s[k].toNat : Int) == 0) = false := by
            rw [beq_eq_false_iff_ne]
            intro e
            exact hz (UInt8.toNat_inj.1 (by have : (0 : UInt8).toNat = 0 := rfl; omega))
          have ALN : Hid (∀ i (hi : i < k + 1) (hl : i < s.size), s[i] ≠ 0) := Lib.hid fun i hi hl => by
            by_cases hik : i = k
            · subst hik; exact hz
            · exact AL.out i (by omega) hl
          clear hz
          go_wp2_with fail
          go_roundw
          case rel => exact ⟨k + 1, by go_num, by omega, ALN.out, by trivial⟩
          case measure => simp [intOf]; omega
      · have h2 : ¬ (0 : UInt8) ∈ s.data.toList := by
          intro h
          obtain ⟨i, hi, he⟩ := List.getElem_of_mem h
          have hi' : i < s.size := by have := HSL.out; omega
          exact AL.out i (by omega) hi' (by
            have h1 := Lib.data_getElem? s i hi'
            rw [List.getElem?_eq_getElem hi] at h1
            exact (Option.some.inj h1).symm.trans he)
        have hE := HE.out
        rw [if_neg h2] at hE
        clear HE h2 AL
        first | rw [if_pos rfl] at hE | rw [if_pos trivial] at hE
        subst hE
        go_wp2_with fail
        go_ret2
        exact ⟨Below.refl _ _, _, rfl⟩
  · go_enter Tryd.func27, Tryd.ntmps27
    go_wp2_with fail
    go_loopw [10] (fun it wr => ∃ k : Nat, it = .int .i64 k ∧ k ≤ s.size ∧ (∀ i (hi : i < k) (hl : i < s.size), s[i] ≠ 0) ∧ wr = w) (fun it _ => s.size - (intOf it).toNat)
    case atStart => exact ⟨0, rfl, Nat.zero_le _, fun i hi => absurd hi (Nat.not_lt_zero _), rfl⟩
    case round =>
      obtain ⟨k, rfl, hk, hall, hw⟩ := hrel
      have AL := Lib.hid hall
      clear hall
      subst hw
      by_cases hlt : k < s.size
      · by_cases hz : s[k] = 0
        · have tz : ((s[k].toNat : Int) == 0) = true := by rw [hz]; rfl
          have hE : E = 91 := by
            rw [HE.out, if_pos]
            have := Lib.data_getElem? s k hlt
            rw [hz] at this
            exact List.mem_of_getElem? this
          subst hE
          clear hz
          go_wp2_with fail
          go_ret2
          exact ⟨Below.refl _ _, _, rfl⟩
        · have tz : ((s[k].toNat : Int) == 0) = false := by
            rw [beq_eq_false_iff_ne]
            intro e
            exact hz (UInt8.toNat_inj.1 (by have : (0 : UInt8).toNat = 0 := rfl; omega))
          have ALN : Hid (∀ i (hi : i < k + 1) (hl : i < s.size), s[i] ≠ 0) := Lib.hid fun i hi hl => by
            by_cases hik : i = k
            · subst hik; exact hz
            · exact AL.out i (by omega) hl
          clear hz
          go_wp2_with fail
          go_roundw
          case rel => exact ⟨k + 1, by go_num, by omega, ALN.out, by trivial⟩
          case measure => simp [intOf]; omega
      · have h2 : ¬ (0 : UInt8) ∈ s.data.toList := by
          intro h
          obtain ⟨i, hi, he⟩ := List.getElem_of_mem h
          have hi' : i < s.size := by have := HSL.out; omega
          exact AL.out i (by omega) hi' (by
            have h1 := Lib.data_getElem? s i hi'
            rw [List.getElem?_eq_getElem hi] at h1
            exact (Option.some.inj h1).symm.trans he)
        have hE := HE.out
        rw [if_neg h2] at hE
        clear HE h2 AL
        rw [if_neg (by decide), head_eq hpos] at hE
        by_cases h3 : s[0]'hpos = 47
        · rw [if_pos (by rw [h3])] at hE
          have t3 : (((s[0]'hpos).toNat : Int) == 47) = true := by rw [h3]; rfl
          subst hE
          clear h3
          go_wp2_with fail
          go_ret2
          exact ⟨Below.refl _ _, _, rfl⟩
        rw [if_neg (by intro h; injection h with h; exact h3 h)] at hE
        have t3 : (((s[0]'hpos).toNat : Int) == 47) = false := by
          rw [beq_eq_false_iff_ne]
          intro h
          exact h3 (UInt8.toNat_inj.1 (by have : (47 : UInt8).toNat = 47 := rfl; omega))
        obtain ⟨P, hP⟩ : ∃ P, P = splitW 47 s.data.toList := ⟨_, rfl⟩
        have WS : Hid (P.length ≤ 100000001) := Lib.hid (by
          rw [hP, splitW_length]
          have := List.count_le_length (a := (47 : UInt8)) (l := s.data.toList)
          have := HSL.out
          omega)
        have HPI := Lib.hid (fun w => refPieces s w (by omega))
        rw [← hP] at HPI hE
        have HE := Lib.hid hE
        have hln := HROW.out.1
        have hsr := (Row.src (HROW.out.keep (Keeps.old_alloc wr (.cells #[] 9)))).flat (M' := fun _ => False) flat_str
        clear hE h3 hP
        go_wp2_with (first
          | (at_builtin
             go_loud (refine wpList_append_list (v := .slice (some ⟨wr.heap.size, 0, none⟩) 0 0) rfl (.tmp 42) (.tmp 43) _ rfl elem_strS rfl (Own.made Shape.str _ wr _ (Nat.le_refl _)) rfl hsr (fun _ h => h.elim) ?_ ?_ ?_ ?_)
             · first | (simp; done) | (simp; omega)
             · first | (simp [maxLen]; done) | (simp [maxLen]; omega)
             · simp
             intro v' w1 hown hg hat))
        have O1 : Hid (Own Shape.str 9 w1 wr.heap.size (fun _ => False) v' l) := Lib.hid (by simpa using hown)
        have HB := Lib.hid (((Below.refl _ _).alloc (Nat.le_refl _) _).grown hg (by simp) (by simp [Value.ownBlock]) : Below wr.heap.size wr w1)
        clear hown hg hat hsr
        refine (HPI.out _).mono ?_
        rintro e w2 ⟨v2, ws, rfl, hown2, hws, hb2⟩
        obtain ⟨A2, n2, c2, rfl, _, _, hrow2⟩ := hown2.rd_old
        have hws2 : ws = textsL P := by rw [← hws, texts_back]
        subst hws2
        obtain rfl : P.length = n2 := by have := hrow2.1; simpa using this
        have ROW0 : Hid (Row Shape.str w2 (fun b => w1.heap.size ≤ b ∧ b < w2.heap.size) A2 P.length (textsL P)) := Lib.hid (by
          obtain ⟨A3, n3, c3, e3, _, _, h3⟩ := hown2.rd_new (w := w1) (Nat.le_refl _) (fun _ h => h.elim)
          injection e3 with e4 e5 e6
          subst e4 e5
          exact h3)
        have O2 : Hid (Own Shape.str 9 w2 wr.heap.size (fun _ => False) v' l) := Lib.hid (own_behind O1.out hb2)
        have NB : Hid (∀ g, v'.ownBlock = some g → g < w1.heap.size ∨ w2.heap.size ≤ g) := Lib.hid (fun g h => .inl (O1.out.lt g h).2)
        have HB1 : Hid (Below wr.heap.size wr w2) := Lib.hid (below_old HB.out hb2)
        have GS := hb2.size
        clear hown2 hws hrow2 hb2 O1 HB HPI
        go_wp2_with fail
        go_loopw [11, 13] (fun v it wq => ∃ (k : Nat) (lst : List ByteArray), it = .int .i64 k ∧ k ≤ P.length ∧ Own Shape.str 9 wq wr.heap.size (fun _ => False) v lst ∧ lst.length ≤ n + k ∧ E = climb lst.length (P.drop k) ∧ Below wr.heap.size wr wq ∧ Row Shape.str wq (fun b => w1.heap.size ≤ b ∧ b < w2.heap.size) A2 P.length (textsL P) ∧ (∀ g, v.ownBlock = some g → g < w1.heap.size ∨ w2.heap.size ≤ g) ∧ w2.heap.size ≤ wq.heap.size) (fun _ it _ => P.length - (intOf it).toNat)
        case atStart => exact ⟨0, l, rfl, Nat.zero_le _, O2.out, by omega, by rw [hln]; exact HE.out, HB1.out, ROW0.out, NB.out, Nat.le_refl _⟩
        case round =>
          obtain ⟨k, lst, rfl, hk, hown, hll, hE, hbel, hrow, hnb, hgs⟩ := hrel
          have O := Lib.hid hown; have HBK := Lib.hid hbel; have ROW := Lib.hid hrow; have NBK := Lib.hid hnb; have HEK := Lib.hid hE
          have hPn : P.length ≤ 100000001 := WS.out
          clear hown hbel hrow hnb hE O2 HB1 ROW0 NB HE
          by_cases hlt : k < P.length
          · obtain ⟨b, off, hl, hA, hbl, hcell, hsz⟩ := str_cell ROW.out hlt
            subst hA
            have hcl := climb_drop hlt lst.length
            obtain ⟨p, hp⟩ : ∃ p, p = P[k] := ⟨_, rfl⟩
            rw [show (textsL P)[k] = ⟨p.toArray⟩ by rw [hp]; simp] at hcell hsz
            rw [← hp] at hcl
            obtain ⟨x, hx⟩ : ∃ x, x = (⟨p.toArray⟩ : ByteArray) := ⟨_, rfl⟩
            rw [← hx] at hcell hsz
            have hpd : x.data.toList = p := by rw [hx]
            have HX := Lib.hid hx
            clear hx hbl hp
            by_cases hkp : keepP p = false
            · rw [if_pos hkp] at hcl
              have HCLB := Lib.hid (HEK.out.trans hcl)
              clear hcl hsz
              unfold keepP at hkp
              simp only [Bool.not_eq_false', Bool.or_eq_true, beq_iff_eq] at hkp
              rcases hkp with rfl | rfl <;> (
                have hxl := bytes_ext hpd
                subst hxl
                clear hpd
                go_wp2_with fail
                go_roundw
                case rel => exact ⟨k + 1, lst, by go_num, by omega, O.out, by omega, HCLB.out, HBK.out, ROW.out, NBK.out, hgs⟩
                case measure => simp [intOf]; omega)
            · rw [if_neg hkp] at hcl
              have hne : p ≠ [] ∧ p ≠ [46] := by
                unfold keepP at hkp
                simp at hkp
                exact hkp
              have t0' := empty_lit (s := x) (by rw [hpd]; exact hne.1)
              have t1' := list_lit (s := x) (l := [46]) (by rw [hpd]; exact hne.2)
              clear hkp hne
              by_cases hdd : p = [46, 46]
              · rw [if_pos hdd] at hcl
                have t2' : (x.toList == [46, 46]) = true := by rw [Lib.toList_data, hpd, hdd]; rfl
                have t2b : (x.toList != [46, 46]) = false := by rw [bne, t2']; rfl
                have HCLB := Lib.hid (HEK.out.trans hcl)
                clear hcl hsz hpd hdd
                rcases O.out.form with ⟨hv, hl0⟩ | ⟨g, cap, hv, hg1, hg2, hcap, hcm⟩
                · subst hv hl0
                  have hE : E = 101 := HCLB.out
                  subst hE
                  go_wp2_with fail
                  go_ret2
                  exact ⟨HBK.out, _, rfl⟩
                · subst hv
                  by_cases hz : lst.length = 0
                  · have hE : E = 101 := by rw [HCLB.out, if_pos hz]
                    subst hE
                    have t5 : ((lst.length : Int) == 0) = true := by rw [hz]; rfl
                    go_wp2_with fail
                    go_ret2
                    exact ⟨HBK.out, _, rfl⟩
                  · have hE : E = climb (lst.length - 1) (P.drop (k + 1)) := by rw [HCLB.out, if_neg hz]
                    have HE2 := Lib.hid hE
                    have t5 : ((lst.length : Int) == 0) = false := by rw [beq_eq_false_iff_ne]; omega
                    have OT := Lib.hid (Own.take_ O.out (k := lst.length - 1) (by omega))
                    have NB2 : Hid (∀ g', (Value.slice (some ⟨g, 0, none⟩) (lst.length - 1) cap).ownBlock = some g' → g' < w1.heap.size ∨ w2.heap.size ≤ g') := Lib.hid NBK.out
                    have tn : ((lst.length : Int) - 1).toNat = lst.length - 1 := by omega
                    have tl : (lst.take (lst.length - 1)).length = lst.length - 1 := by rw [List.length_take]; omega
                    have TL := Lib.hid tl
                    clear hE tl
                    go_wp2_with fail
                    go_roundw
                    case rel => exact ⟨k + 1, lst.take (lst.length - 1), by go_num, by omega, OT.out, by rw [TL.out]; omega, by rw [TL.out]; exact HE2.out, HBK.out, ROW.out, NB2.out, hgs⟩
                    case measure => simp [intOf]; omega
              · rw [if_neg hdd] at hcl
                have t2' := list_lit (s := x) (l := [46, 46]) (by rw [hpd]; exact hdd)
                have t2b : (x.toList != [46, 46]) = true := by rw [bne, t2']; rfl
                have HCLB := Lib.hid (HEK.out.trans hcl)
                clear hcl hpd hdd
                go_wp2_with (at_builtin; go_loud (refine wpList_append_one (v := u11) flat_str rfl (.tmp 70) (.tmp 75) _ rfl elem_strS rfl O.out (es := [.string x]) (b := x) rfl ⟨rfl, hsz⟩ (by omega) (by unfold maxLen; omega) HBK.out.size ?_))
                intro v' w3 hown2 hg2 hsz2 hat2
                have O2 := Lib.hid hown2
                have HB3 := Lib.hid (HBK.out.grown hg2 HBK.out.size (fun n hn => (O.out.lt n hn).1))
                have ROW3 := Lib.hid (ROW.out.keep (fun b hb => hg2.block _ (by have := hb.2; omega) (fun e => by have h1 := NBK.out b e.symm; have := hb.1; have := hb.2; omega)))
                have NB3 : Hid (∀ g', v'.ownBlock = some g' → g' < w1.heap.size ∨ w2.heap.size ≤ g') := Lib.hid (fun g' h => by
                  rcases hat2 with e | e
                  · exact NBK.out g' (e.symm.trans h)
                  · rw [e] at h; injection h with h; omega)
                have hgs3 : w2.heap.size ≤ w3.heap.size := by omega
                clear hown2 hg2 hsz2 hat2
                go_wp2_with fail
                go_roundw
                case rel => exact ⟨k + 1, lst ++ [x], by go_num, by omega, O2.out, by simp; omega, by rw [List.length_append]; exact HCLB.out, HB3.out, ROW3.out, NB3.out, hgs3⟩
                case measure => simp [intOf]; omega
          · have hkn : k = P.length := by omega
            have hE : E = 0 := by rw [HEK.out, List.drop_eq_nil_of_le (by omega)]; rfl
            subst hE
            subst hkn
            go_wp2_with fail
            go_ret2
            exact ⟨HBK.out, _, rfl⟩
end Go.Proofs.YtjknjmlpnjifkaaDoor
