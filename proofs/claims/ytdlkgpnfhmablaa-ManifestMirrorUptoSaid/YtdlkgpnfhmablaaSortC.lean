/- The sort of changes by path. No condition but room. -/
import Derived.Test.YtdlkgpnfhmablaaLaySort
import Derived.Test.YtdlkgpnfhmablaaDiffLaw
import Derived.Test.YtdlkgpnfhmablaaRefDiff0
import Derived.Shelf.SlSortCmp.WholeK
namespace Go.Proofs.Ytdlkgpnfhmablaa
open Go.RowKit Go.Sort
set_option linter.unusedVariables false
set_option linter.unusedSimpArgs false
attribute [local go_sem] cell?_over frozen?_over lt_over le_over

theorem isNaN_str (x : ByteArray) (w : World) : Calls Try.prog 32 #[.string x] w fun e w' => e = .returned (.bool false) ∧ w = w' := by
  go_enter Try.func32, Try.ntmps32
  go_wp2
  go_ret
  exact ⟨by simp, rfl⟩
def cmpS (a b : ByteArray) : Int := if pl a b then -1 else if pl b a then 1 else 0
theorem cmp_str (x y : ByteArray) (w : World) : Calls Try.prog 23 #[.string x, .string y] w fun e w' => e = .returned (.int .i64 (cmpS x y)) ∧ w = w' := by
  cases h1 : pl x y with
  | true =>
    have k1 : Op.bytesLess x.toList y.toList = true := h1
    have E := Lib.hid (show -1 = cmpS x y by simp [cmpS, h1]); clear h1
    go_enter Try.func23, Try.ntmps23
    go_wp2_with (first | (go_at_call 32; refine (isNaN_str _ _).mono ?_; rintro e w' ⟨rfl, rfl⟩))
    go_ret
    exact ⟨ret_int E.out, rfl⟩
  | false =>
    have k1 : Op.bytesLess x.toList y.toList = false := h1
    cases h2 : pl y x with
    | true =>
      have k2 : Op.bytesLess y.toList x.toList = true := h2
      have kne : (x.toList == y.toList) = false := str_ne (by rintro rfl; rw [pl_irrefl] at h2; cases h2)
      have E := Lib.hid (show 1 = cmpS x y by simp [cmpS, h1, h2]); clear h1 h2
      go_enter Try.func23, Try.ntmps23
      go_wp2_with (first | (go_at_call 32; refine (isNaN_str _ _).mono ?_; rintro e w' ⟨rfl, rfl⟩))
      go_ret
      exact ⟨ret_int E.out, rfl⟩
    | false =>
      have hxy := pl_tri h1 h2
      have kne : (x.toList == y.toList) = true := str_eq hxy
      have E := Lib.hid (show 0 = cmpS x y by simp [cmpS, h1, h2]); clear h1 h2 hxy
      go_enter Try.func23, Try.ntmps23
      go_wp2_with (first | (go_at_call 32; refine (isNaN_str _ _).mono ?_; rintro e w' ⟨rfl, rfl⟩))
      go_ret
      exact ⟨ret_int E.out, rfl⟩
def encC (x : ChangeD) : List Value := [.string x.path, .int .i64 x.what]
def cfC (x y : ChangeD) : Int := cmpS x.path y.path
theorem ltC (x y : ChangeD) : ltOf cfC x y = pl x.path y.path := by
  unfold ltOf cfC cmpS
  cases h1 : pl x.path y.path
  · cases h2 : pl y.path x.path <;> simp
  · simp
theorem swoC : SWO (ltOf cfC) where
  irrefl x := by rw [ltC]; exact pl_irrefl _
  trans x y z h1 h2 := by rw [ltC] at *; exact pl_trans h1 h2
  ntrans x y z h1 h2 := by
    rw [ltC] at *
    cases h : pl x.path z.path with
    | false => rfl
    | true =>
      cases hzy : pl z.path y.path with
      | true => rw [pl_trans h hzy] at h1; cases h1
      | false => have := pl_tri h2 hzy; rw [this] at h1; rw [h1] at h; cases h
set_option maxHeartbeats 1000000 in
theorem closureC (x y : ChangeD) (W : World) : Calls Try.prog 22 #[.agg #[.string x.path, .int .i64 x.what], .agg #[.string y.path, .int .i64 y.what]] W fun e w' => e = .returned (.int .i64 (cfC x y)) ∧ ∃ q os', w' = grow (W.drewN q) os' := by
  have hcon := fun W' => cmp_str x.path y.path W'
  unfold cfC
  generalize cmpS x.path y.path = r at hcon ⊢
  go_enter Try.func22, Try.ntmps22
  go_wp2_with (go_at_call 23; refine (hcon _).mono ?_; rintro e w' ⟨rfl, rfl⟩)
  go_ret
  exact ⟨rfl, 0, _, by rw [alloc_eq_grow, alloc_eq_grow, grow_grow]; rfl⟩
theorem cmpLaysC (blk off size : Nat) (w : World) : CmpLays Try.prog 22 #[] encC 2 cfC blk off size w :=
  fun _ _ _ _ x y => closureC x y _
theorem sort_calls (blk off cap : Nat) (d : Array ChangeD) (w : World) (hH : HoldsK encC 2 w blk off d) (hblk : blk < w.heap.size) (hsz : d.size < 4611686018427387904) :
    Calls Try.prog 21 #[.slice (some ⟨blk, off, none⟩) d.size cap, .func (.func 22) #[] #[]] w fun e w' => e = .returned (.tuple #[]) ∧ ∃ d' n os, PermIn 0 d.size d d' ∧ SortedIn (ltOf cfC) 0 d.size d' ∧ w' = sortWorldK encC 2 w blk off n d' os := by
  have eg : ∀ args w, (callFunc 22 args).run Try.prog w = .ok (.enter 22 args) w := enters_of Try.func22 (by kernel_rfl) rfl
  have hcon := AnyQ.slices_SortFunc Try.sortCh 2 Try.isAgg36 Try.sizeOf36 encC (fun _ => rfl) (fun x v hv => by simp [encC] at hv; rcases hv with rfl | rfl <;> rfl) cfC swoC 22 #[] blk off cap d w eg (cmpLaysC blk off d.size w) hH hblk hsz
  exact hcon
end Go.Proofs.Ytdlkgpnfhmablaa
