/- The reference's line: the text of a line that prints. No condition but room. -/
import Derived.Test.YtdlkgpnfhmablaaDoorLineOk
namespace Go.Proofs.YtdlkgpnfhmablaaDoor
open Go.RowKit
set_option linter.unusedVariables false
set_option linter.unusedSimpArgs false
attribute [local go_sem] cell?_over frozen?_over lt_over le_over

theorem refPerm' (kind mode : Int) (w : World) (hk : permOk kind mode = true) :
    Calls Tryd.prog 27 #[.int .i64 kind, .int .i64 mode] w fun e w' => e = .returned (.tuple #[.string ⟨(permText kind mode).toArray⟩, .int .i64 0]) ∧ Below w.heap.size w w' := refPerm kind mode w hk
theorem refEscape' (s : ByteArray) (w : World) (hs : s.size ≤ 100000000000) :
    Calls Tryd.prog 30 #[.string s] w fun e w' => e = .returned (.string ⟨(esc s.data.toList).toArray⟩) ∧ Below w.heap.size w w' :=
  (refEscape s w hs).mono fun e w' ⟨he, δ, hw⟩ => ⟨he, below_of hw⟩
theorem refEscapeO (s : ByteArray) (w : World) (hs : s.size ≤ 100000000000) :
    Calls Tryd.prog 30 #[.string s] w fun e w' => e = .returned (.string ⟨(esc s.data.toList).toArray⟩) ∧ ∃ δ, w' = over w δ := refEscape s w hs
theorem refShowO (v : Int) (hv : I64 v) (w : World) :
    Calls Tryd.prog 29 #[.int .i64 v] w fun e w' => e = .returned (.string ⟨(Lib.itoa v).toArray⟩) ∧ ∃ δ, w' = over w δ := (refShow v hv w).mono fun e w' ⟨he, h⟩ => ⟨he, exists_over h⟩
def lineHead (d : LineD) : List UInt8 := permText d.kind d.mode ++ [32] ++ Lib.itoa d.uid ++ [32] ++ Lib.itoa d.gid ++ [32] ++ stText d.mtime.sec d.mtime.nano ++ [32] ++ esc d.path.data.toList
set_option maxHeartbeats 600000 in
set_option maxRecDepth 100000 in
theorem refLine (d : LineD) {cs : List Value} (w : World) (h : LineD.rd w (Old w) cs d) (hs : SmallD d) (hb : rOk d = true) :
    Calls Tryd.prog 15 #[.agg cs.toArray] w fun e w' => e = .returned (strV (lineBody d ++ [10])) ∧ Below w.heap.size w w' := by
  have HR := Lib.hid h
  obtain ⟨q1, q2, q3, q4⟩ := ok_parts hb
  obtain ⟨A, n, c, rfl, s0, i1, i2, i3, i4, i5, i6, hnc, hcm, hrow, s8, s9⟩ := h
  obtain ⟨z1, z2, z3, z4⟩ := hs
  have HQ1 := Lib.hid q1; have HQ2 := Lib.hid q2
  clear q1 q2 q4 hb q3
  have hpl : (permText d.kind d.mode).length = 10 := rfl
  have st60 := stText_len i5 HQ2.out
  have a1 := Lib.itoa_length_le _ i3.1 i3.2
  have a2 := Lib.itoa_length_le _ i4.1 i4.2
  have a4 := esc_size z1
  have a5 := esc_size z2
  have a6 := esc_size z3
  go_enter Tryd.func15, Tryd.ntmps15
  go_wp2_with fail
  refine (refPerm' _ _ _ HQ1.out).mono ?_
  rintro e u ⟨rfl, hb1⟩
  obtain ⟨b1, hbw1, hsz1⟩ := blks1 hb1
  have k1 := b1.cell
  have HB1 := Lib.hid b1; have HW1 := Lib.hid hbw1
  clear hb1 b1 hbw1
  go_wp2_with fail
  refine (refStShow _ _ _ i5 i6 HQ2.out).mono ?_
  rintro e u3 ⟨rfl, hb2⟩
  have HB3 := Lib.hid (HB1.out.below hb2 HB1.out.lt)
  have HW3 := Lib.hid (HW1.out.trans (hb2.mono (by omega)))
  clear hb2 k1
  have hS3 : w.heap.size + 1 ≤ u3.heap.size := HB3.out.lt
  go_wp2_with fail
  refine wp_region_over_of (fun u => Blk u w.heap.size 34 (lineCs d A n c) ∧ Below w.heap.size w u) ⟨HB3.out, HW3.out⟩ (by kernel_rfl) (by kernel_rfl) ?_
  rintro v ⟨KB, KW⟩
  obtain ⟨k0, k3, k4⟩ := line_cells KB
  have hlt := KB.lt
  have KB' := Lib.hid KB; have KW' := Lib.hid KW
  clear KB KW
  repeat (go_big_quiet_step (first
    | (go_at_call 29; exact calls_over (refShowO _ (by assumption) _))
    | (go_at_call 30; exact calls_over (refEscapeO _ _ (by omega)))))
  refine wpQuiet_nil ?_
  rintro _ ⟨δ', rfl⟩
  have K3 := Lib.hid (KB'.out.over_ δ')
  have W3 := Lib.hid (KW'.out.trans ((below_over v δ').mono KW'.out.size))
  clear k0 k3 k4
  generalize over v δ' = v3 at *
  have k4 : ∀ i, v3.cell? ⟨w.heap.size, i, none⟩ = (#[.string d.path, .int .i64 d.kind, .int .i64 d.mode, .int .i64 d.uid, .int .i64 d.gid, .int .i64 d.mtime.sec, .int .i64 d.mtime.nano, .slice A n c, .string d.target, .string d.peer] : Array Value)[i]? := K3.out.cell
  have hl := hrow.1
  by_cases hp : d.peer.toList.isEmpty = true
  · by_cases hd : n = 0
    · have hd' : d.data.length = 0 := by omega
      have hd0 : decide ((n : Int) > 0) = false := by simp; omega
      by_cases hk : d.kind = 3
      · have hk0 : (d.kind == 3) = true := by simpa using hk
        have HT : Hid (lineBody d = lineHead d ++ [32, 45, 62, 32] ++ esc d.target.data.toList) := Lib.hid (by unfold lineBody lineHead tailMark tailField; simp [hp, hd', hk])
        clear hk hd'
        go_wp2_with (first | (go_at_call 30; refine (refEscape' d.target _ (by omega)).mono ?_; rintro e v5 ⟨rfl, hb5⟩))
        go_ret
        refine ⟨congrArg (fun b => Ending.returned (Value.string b)) ?_, W3.out.trans (hb5.mono W3.out.size)⟩
        rw [HT.out]
        apply ByteArray.ext
        simp [lineHead, ByteArray.data_append]
      · have hk0 : (d.kind == 3) = false := by simpa using hk
        have HT : Hid (lineBody d = lineHead d) := Lib.hid (by unfold lineBody lineHead tailMark tailField; simp [hp, hd', hk])
        clear hk hd'
        go_wp2_with fail
        go_ret
        refine ⟨congrArg (fun b => Ending.returned (Value.string b)) ?_, W3.out⟩
        rw [HT.out]
        apply ByteArray.ext
        simp [lineHead, ByteArray.data_append]
    · have hd' : ¬ d.data.length = 0 := by omega
      have hd0 : decide ((n : Int) > 0) = true := by simp; omega
      have HT : Hid (lineBody d = lineHead d ++ [32, 58, 32] ++ esc d.data) := Lib.hid (by unfold lineBody lineHead tailMark tailField; simp [hp, hd'])
      have hcv := run_str_of (P := Tryd.prog) 32 9 Tryd.underlying32 Tryd.underlying5 Tryd.underlying9 ((show SliceRd Shape.byte w (Old w) (.slice A n c) d.data from ⟨A, n, c, rfl, hnc, hcm, hrow⟩).keep (Keeps.old W3.out))
      unfold strV at hcv
      have a7 := esc_size (s := ⟨d.data.toArray⟩) (n := 1048576) (by simpa [ByteArray.size] using z4)
      have a8 : (esc d.data).length ≤ 4 * 1048576 := a7
      have HE : Hid (∀ w, Calls Tryd.prog 30 #[.string ⟨d.data.toArray⟩] w fun e w' => e = .returned (.string ⟨(esc d.data).toArray⟩) ∧ Below w.heap.size w w') := Lib.hid fun w => refEscape' ⟨d.data.toArray⟩ w (by simp [ByteArray.size]; omega)
      clear hd' a7
      go_wp2_with (first | (go_at_call 30; refine (HE.out _).mono ?_; rintro e v5 ⟨rfl, hb5⟩))
      go_ret
      refine ⟨congrArg (fun b => Ending.returned (Value.string b)) ?_, W3.out.trans (hb5.mono W3.out.size)⟩
      rw [HT.out]
      apply ByteArray.ext
      simp [lineHead, ByteArray.data_append]
  · have hp0 : d.peer.toList.isEmpty = false := by simpa using hp
    have HT : Hid (lineBody d = lineHead d ++ [32, 61, 32] ++ esc d.peer.data.toList) := Lib.hid (by unfold lineBody lineHead tailMark tailField; simp [hp])
    clear hp
    go_wp2_with (first | (go_at_call 30; refine (refEscape' d.peer _ (by omega)).mono ?_; rintro e v5 ⟨rfl, hb5⟩))
    go_ret
    refine ⟨congrArg (fun b => Ending.returned (Value.string b)) ?_, W3.out.trans (hb5.mono W3.out.size)⟩
    rw [HT.out]
    apply ByteArray.ext
    simp [lineHead, ByteArray.data_append]
end Go.Proofs.YtdlkgpnfhmablaaDoor
