/-
  No cell of these rows narrows 'for every input' (looked for: loops, veiled, ifaces, maps, wideKeys, modest, calm, conditions, laid).
  DERIVED. THE GIVEN ROWS OF THIS SEAT. 4 by the template 'for every input the law returns true; each argument reads behind the call as it read before'; 0 by the template 'total and deterministic' (their statements: YtdlkgpnfhmablaaTotals.lean).
  GIVEN WITH THE SEED: the statements are not yours to turn. If you find one false, say at which input.
  Laid BY PROGRAM, IN A SANDBOX (cutbox-rows.mjs): the forced cells as the released guide's own fill.sh prints them over the translation 35905fde14c8acaf… (all of the seat's roots in one cut). By AI agents, Wed Nov 11 2026. No macro, syntax, notation, axiom, sorry.
-/
import Derived.Test.YtdlkgpnfhmablaaChecked
import GoSem.Claim
import GoSem.ClaimJoined
import GoSem.ClaimMapViews
import Derived.JoinedTies
import Derived.KernelRfl
namespace Go.Proofs.Ytdlkgpnfhmablaa
/- THE CELL 'sum', in the pinned program and in every row, IS THE sha256 OF THE DUMP (.gsa) THAT YtdlkgpnfhmablaaProg.lean LOADS. Nothing in Lean hashes anything: it is a label: what it is worth is what the hold of that sum in a sandbox is worth. -/
noncomputable def Try.pinned : Pinned := { name := "ytdlkgpnfhmablaa", sum := "35905fde14c8acafb5de5e9207843eedd89138fcec74411ba6b4115a1aea5b34", checked := Try.checked }
namespace Rows
def none {H : Type} : Left H := { results := [], args := [] }

/-- 'valiselaw15.ManifestEscapes': WHATEVER THE INPUT: true; the input reads as it did. -/
def manifestEscapesSpec : ChangeSpec := { name := "manifestEscapes", fn := fun _ => fun
  | [d] => { results := [.lit (.bool true)], args := [d] }
  | _ => none }
def manifestEscapesRow : OpenClaim := { program := "ytdlkgpnfhmablaa", sum := "35905fde14c8acafb5de5e9207843eedd89138fcec74411ba6b4115a1aea5b34", func := "valise/valiselaw15.ManifestEscapes", spec := "manifestEscapes", inPlace := ["internal/abi.NoEscape"], apart := false }
def ManifestEscapesSaid : Prop := manifestEscapesRow.holds Try.pinned (OpenSpec.ofChange manifestEscapesSpec)

/-- ITS FALSE NEIGHBOUR: 'it returns false'. Refute it at one input. -/
def manifestEscapesWrong : ChangeSpec := { name := "manifestEscapes", fn := fun _ => fun
  | [d] => { results := [.lit (.bool false)], args := [d] }
  | _ => none }
def ManifestEscapesWrongFalsely : Prop := manifestEscapesRow.holds Try.pinned (OpenSpec.ofChange manifestEscapesWrong)

/-- 'valiselaw15.ManifestPlain': WHATEVER THE INPUT: true; the input reads as it did. -/
def manifestPlainSpec : ChangeSpec := { name := "manifestPlain", fn := fun _ => fun
  | [d] => { results := [.lit (.bool true)], args := [d] }
  | _ => none }
def manifestPlainRow : OpenClaim := { program := "ytdlkgpnfhmablaa", sum := "35905fde14c8acafb5de5e9207843eedd89138fcec74411ba6b4115a1aea5b34", func := "valise/valiselaw15.ManifestPlain", spec := "manifestPlain", inPlace := ["internal/abi.NoEscape"], apart := false }
def ManifestPlainSaid : Prop := manifestPlainRow.holds Try.pinned (OpenSpec.ofChange manifestPlainSpec)

/-- ITS FALSE NEIGHBOUR: 'it returns false'. Refute it at one input. -/
def manifestPlainWrong : ChangeSpec := { name := "manifestPlain", fn := fun _ => fun
  | [d] => { results := [.lit (.bool false)], args := [d] }
  | _ => none }
def ManifestPlainWrongFalsely : Prop := manifestPlainRow.holds Try.pinned (OpenSpec.ofChange manifestPlainWrong)

/-- 'valiselaw15.ManifestDiffs': WHATEVER THE INPUT: true; the input reads as it did. -/
def manifestDiffsSpec : ChangeSpec := { name := "manifestDiffs", fn := fun _ => fun
  | [d1, d2] => { results := [.lit (.bool true)], args := [d1, d2] }
  | _ => none }
def manifestDiffsRow : OpenClaim := { program := "ytdlkgpnfhmablaa", sum := "35905fde14c8acafb5de5e9207843eedd89138fcec74411ba6b4115a1aea5b34", func := "valise/valiselaw15.ManifestDiffs", spec := "manifestDiffs", unfollowed := true, recurses := true, apart := false }
def ManifestDiffsSaid : Prop := manifestDiffsRow.holds Try.pinned (OpenSpec.ofChange manifestDiffsSpec)

/-- ITS FALSE NEIGHBOUR: 'it returns false'. Refute it at one input. -/
def manifestDiffsWrong : ChangeSpec := { name := "manifestDiffs", fn := fun _ => fun
  | [d1, d2] => { results := [.lit (.bool false)], args := [d1, d2] }
  | _ => none }
def ManifestDiffsWrongFalsely : Prop := manifestDiffsRow.holds Try.pinned (OpenSpec.ofChange manifestDiffsWrong)

/-- 'valiselaw15.ManifestMirror': WHATEVER THE INPUT: true; the input reads as it did. -/
def manifestMirrorSpec : ChangeSpec := { name := "manifestMirror", fn := fun _ => fun
  | [d1, d2] => { results := [.lit (.bool true)], args := [d1, d2] }
  | _ => none }
def manifestMirrorRow : OpenClaim := { program := "ytdlkgpnfhmablaa", sum := "35905fde14c8acafb5de5e9207843eedd89138fcec74411ba6b4115a1aea5b34", func := "valise/valiselaw15.ManifestMirror", spec := "manifestMirror", unfollowed := true, recurses := true, apart := false }
def ManifestMirrorSaid : Prop := manifestMirrorRow.holds Try.pinned (OpenSpec.ofChange manifestMirrorSpec)

/-- ITS FALSE NEIGHBOUR: 'it returns false'. Refute it at one input. -/
def manifestMirrorWrong : ChangeSpec := { name := "manifestMirror", fn := fun _ => fun
  | [d1, d2] => { results := [.lit (.bool false)], args := [d1, d2] }
  | _ => none }
def ManifestMirrorWrongFalsely : Prop := manifestMirrorRow.holds Try.pinned (OpenSpec.ofChange manifestMirrorWrong)

/- THE SECOND FORM. 'bulk': how many values and letters a reading holds, each counted each time it is reached (what is shared counts as often as it is met; a slice's spare places count too). A statement '..UptoSaid' is the law's where the arguments, and the package variables that the reading takes, are together of bulk at most 1048576: NARROWER than '..Said'. Prove '..Said' where nothing that the law and all that it calls make is longer than what came in: it says more and counts as full. Else prove '..UptoSaid'. A law counts once. -/
mutual
def uptoBulk {H : Type} : DataW H → Nat
  | .lit (.string bytes) => bytes.length + 1
  | .lit _ => 1
  | .nil => 1
  | .ptr d => uptoBulk d + 1
  | .slice elems spare => uptoBulkAll elems + uptoBulkAll spare + 1
  | .agg parts => uptoBulkAll parts + 1
  | .iface _ d => uptoBulk d + 1
  | .map entries => uptoBulkEntries entries + 1
  | .held _ => 1
def uptoBulkAll {H : Type} : List (DataW H) → Nat
  | [] => 0
  | d :: r => uptoBulk d + uptoBulkAll r
def uptoBulkEntries {H : Type} : List (Lit × DataW H) → Nat
  | [] => 0
  | x :: r => uptoBulkEntry x + uptoBulkEntries r
def uptoBulkEntry {H : Type} : Lit × DataW H → Nat
  | (.string bytes, d) => bytes.length + uptoBulk d + 1
  | (_, d) => uptoBulk d + 1
 end
def uptoSmall : (H : Type) → List (DataW H) → Bool := fun _ ds => decide (uptoBulkAll ds ≤ 1048576)
def OpenSpec.upto (s : _root_.Go.ChangeSpec) : _root_.Go.OpenSpec := { _root_.Go.OpenSpec.ofChange s with cond := some uptoSmall }

/-- 'valiselaw15.ManifestEscapes', WHERE WHAT IT READS IS OF BULK AT MOST 1048576: true; the input reads as it did. -/
def manifestEscapesUptoRow : OpenClaim := { program := "ytdlkgpnfhmablaa", sum := "35905fde14c8acafb5de5e9207843eedd89138fcec74411ba6b4115a1aea5b34", func := "valise/valiselaw15.ManifestEscapes", spec := "manifestEscapes", inPlace := ["internal/abi.NoEscape"], apart := false, narrowed := true }
def ManifestEscapesUptoSaid : Prop := manifestEscapesUptoRow.holds Try.pinned (OpenSpec.upto manifestEscapesSpec)

/-- 'valiselaw15.ManifestPlain', WHERE WHAT IT READS IS OF BULK AT MOST 1048576: true; the input reads as it did. -/
def manifestPlainUptoRow : OpenClaim := { program := "ytdlkgpnfhmablaa", sum := "35905fde14c8acafb5de5e9207843eedd89138fcec74411ba6b4115a1aea5b34", func := "valise/valiselaw15.ManifestPlain", spec := "manifestPlain", inPlace := ["internal/abi.NoEscape"], apart := false, narrowed := true }
def ManifestPlainUptoSaid : Prop := manifestPlainUptoRow.holds Try.pinned (OpenSpec.upto manifestPlainSpec)

/-- 'valiselaw15.ManifestDiffs', WHERE WHAT IT READS IS OF BULK AT MOST 1048576: true; the input reads as it did. -/
def manifestDiffsUptoRow : OpenClaim := { program := "ytdlkgpnfhmablaa", sum := "35905fde14c8acafb5de5e9207843eedd89138fcec74411ba6b4115a1aea5b34", func := "valise/valiselaw15.ManifestDiffs", spec := "manifestDiffs", unfollowed := true, recurses := true, apart := false, narrowed := true }
def ManifestDiffsUptoSaid : Prop := manifestDiffsUptoRow.holds Try.pinned (OpenSpec.upto manifestDiffsSpec)

/-- 'valiselaw15.ManifestMirror', WHERE WHAT IT READS IS OF BULK AT MOST 1048576: true; the input reads as it did. -/
def manifestMirrorUptoRow : OpenClaim := { program := "ytdlkgpnfhmablaa", sum := "35905fde14c8acafb5de5e9207843eedd89138fcec74411ba6b4115a1aea5b34", func := "valise/valiselaw15.ManifestMirror", spec := "manifestMirror", unfollowed := true, recurses := true, apart := false, narrowed := true }
def ManifestMirrorUptoSaid : Prop := manifestMirrorUptoRow.holds Try.pinned (OpenSpec.upto manifestMirrorSpec)

end Rows
end Go.Proofs.Ytdlkgpnfhmablaa
