/-
  No cell of these rows narrows 'for every input' (looked for: loops, veiled, ifaces, maps, wideKeys, modest, calm, conditions, laid).
  DERIVED. THE GIVEN ROWS OF THIS SEAT. 5 by the template 'for every input the law returns true; each argument reads behind the call as it read before'; 0 by the template 'total and deterministic' (their statements: YtphloeafgblmnaaTotals.lean).
  GIVEN WITH THE SEED: the statements are not yours to turn. If you find one false, say at which input.
  Laid BY PROGRAM, IN A SANDBOX (cutbox-rows.mjs): the forced cells as the released guide's own fill.sh prints them over the translation f89b7fe8d5bd07d4… (all of the seat's roots in one cut). By AI agents, Wed Nov 11 2026. No macro, syntax, notation, axiom, sorry.
-/
import Derived.Test.YtphloeafgblmnaaChecked
import GoSem.Claim
import GoSem.ClaimJoined
import GoSem.ClaimMapViews
import Derived.JoinedTies
import Derived.KernelRfl
namespace Go.Proofs.Ytphloeafgblmnaa
/- THE CELL 'sum', in the pinned program and in every row, IS THE sha256 OF THE DUMP (.gsa) THAT YtphloeafgblmnaaProg.lean LOADS. Nothing in Lean hashes anything: it is a label: what it is worth is what the hold of that sum in a sandbox is worth. -/
noncomputable def Try.pinned : Pinned := { name := "ytphloeafgblmnaa", sum := "f89b7fe8d5bd07d4773cce01475828e8b268edf9a73526d16b262aa903ad1e3c", checked := Try.checked }
namespace Rows
def none {H : Type} : Left H := { results := [], args := [] }

/-- 'valiselaw26.AuditCounts': WHATEVER THE INPUT: true; the input reads as it did. -/
def auditCountsSpec : ChangeSpec := { name := "auditCounts", fn := fun _ => fun
  | [d] => { results := [.lit (.bool true)], args := [d] }
  | _ => none }
def auditCountsRow : OpenClaim := { program := "ytphloeafgblmnaa", sum := "f89b7fe8d5bd07d4773cce01475828e8b268edf9a73526d16b262aa903ad1e3c", func := "valise/valiselaw26.AuditCounts", spec := "auditCounts", apart := false }
def AuditCountsSaid : Prop := auditCountsRow.holds Try.pinned (OpenSpec.ofChange auditCountsSpec)

/-- ITS FALSE NEIGHBOUR: 'it returns false'. Refute it at one input. -/
def auditCountsWrong : ChangeSpec := { name := "auditCounts", fn := fun _ => fun
  | [d] => { results := [.lit (.bool false)], args := [d] }
  | _ => none }
def AuditCountsWrongFalsely : Prop := auditCountsRow.holds Try.pinned (OpenSpec.ofChange auditCountsWrong)

/-- 'valiselaw02.StampCompares': WHATEVER THE INPUT: true; the input reads as it did. -/
def stampComparesSpec : ChangeSpec := { name := "stampCompares", fn := fun _ => fun
  | [d1, d2] => { results := [.lit (.bool true)], args := [d1, d2] }
  | _ => none }
def stampComparesRow : OpenClaim := { program := "ytphloeafgblmnaa", sum := "f89b7fe8d5bd07d4773cce01475828e8b268edf9a73526d16b262aa903ad1e3c", func := "valise/valiselaw02.StampCompares", spec := "stampCompares", apart := false }
def StampComparesSaid : Prop := stampComparesRow.holds Try.pinned (OpenSpec.ofChange stampComparesSpec)

/-- ITS FALSE NEIGHBOUR: 'it returns false'. Refute it at one input. -/
def stampComparesWrong : ChangeSpec := { name := "stampCompares", fn := fun _ => fun
  | [d1, d2] => { results := [.lit (.bool false)], args := [d1, d2] }
  | _ => none }
def StampComparesWrongFalsely : Prop := stampComparesRow.holds Try.pinned (OpenSpec.ofChange stampComparesWrong)

/-- 'valiselaw02.StampOrders': WHATEVER THE INPUT: true; the input reads as it did. -/
def stampOrdersSpec : ChangeSpec := { name := "stampOrders", fn := fun _ => fun
  | [d1, d2, d3] => { results := [.lit (.bool true)], args := [d1, d2, d3] }
  | _ => none }
def stampOrdersRow : OpenClaim := { program := "ytphloeafgblmnaa", sum := "f89b7fe8d5bd07d4773cce01475828e8b268edf9a73526d16b262aa903ad1e3c", func := "valise/valiselaw02.StampOrders", spec := "stampOrders", apart := false }
def StampOrdersSaid : Prop := stampOrdersRow.holds Try.pinned (OpenSpec.ofChange stampOrdersSpec)

/-- ITS FALSE NEIGHBOUR: 'it returns false'. Refute it at one input. -/
def stampOrdersWrong : ChangeSpec := { name := "stampOrders", fn := fun _ => fun
  | [d1, d2, d3] => { results := [.lit (.bool false)], args := [d1, d2, d3] }
  | _ => none }
def StampOrdersWrongFalsely : Prop := stampOrdersRow.holds Try.pinned (OpenSpec.ofChange stampOrdersWrong)

/-- 'valiselaw06.OverlayTexts': WHATEVER THE INPUT: true; the input reads as it did. -/
def overlayTextsSpec : ChangeSpec := { name := "overlayTexts", fn := fun _ => fun
  | [d1, d2] => { results := [.lit (.bool true)], args := [d1, d2] }
  | _ => none }
def overlayTextsRow : OpenClaim := { program := "ytphloeafgblmnaa", sum := "f89b7fe8d5bd07d4773cce01475828e8b268edf9a73526d16b262aa903ad1e3c", func := "valise/valiselaw06.OverlayTexts", spec := "overlayTexts", apart := false }
def OverlayTextsSaid : Prop := overlayTextsRow.holds Try.pinned (OpenSpec.ofChange overlayTextsSpec)

/-- ITS FALSE NEIGHBOUR: 'it returns false'. Refute it at one input. -/
def overlayTextsWrong : ChangeSpec := { name := "overlayTexts", fn := fun _ => fun
  | [d1, d2] => { results := [.lit (.bool false)], args := [d1, d2] }
  | _ => none }
def OverlayTextsWrongFalsely : Prop := overlayTextsRow.holds Try.pinned (OpenSpec.ofChange overlayTextsWrong)

/-- 'valiselaw06.OverlayNumbers': WHATEVER THE INPUT: true; the input reads as it did. -/
def overlayNumbersSpec : ChangeSpec := { name := "overlayNumbers", fn := fun _ => fun
  | [d1, d2, d3] => { results := [.lit (.bool true)], args := [d1, d2, d3] }
  | _ => none }
def overlayNumbersRow : OpenClaim := { program := "ytphloeafgblmnaa", sum := "f89b7fe8d5bd07d4773cce01475828e8b268edf9a73526d16b262aa903ad1e3c", func := "valise/valiselaw06.OverlayNumbers", spec := "overlayNumbers", apart := false }
def OverlayNumbersSaid : Prop := overlayNumbersRow.holds Try.pinned (OpenSpec.ofChange overlayNumbersSpec)

/-- ITS FALSE NEIGHBOUR: 'it returns false'. Refute it at one input. -/
def overlayNumbersWrong : ChangeSpec := { name := "overlayNumbers", fn := fun _ => fun
  | [d1, d2, d3] => { results := [.lit (.bool false)], args := [d1, d2, d3] }
  | _ => none }
def OverlayNumbersWrongFalsely : Prop := overlayNumbersRow.holds Try.pinned (OpenSpec.ofChange overlayNumbersWrong)

/- THE SECOND FORM. 'bulk': how many values and letters a reading holds, each counted each time it is reached (what is shared counts as often as it is met; a slice's spare places count too). A statement '..UptoSaid' is the law's where the arguments, and the package variables that the reading takes, are together of bulk at most 1048576: NARROWER than '..Said'. Prove '..Said' where nothing that the law and all that it calls make is longer than what came in: it says more and counts as full. Else prove '..UptoSaid'. A law counts once. -/
mutual
def uptoBulk {H : Type} : DataW H → Nat
  | .lit (.string bytes) => bytes.length + 1
  | .lit _ => 1
  | .nil => 1
  | .ptr d => uptoBulk d + 1
  | .slice elems spare => uptoBulkAll elems + uptoBulkAll spare + 1
  | .agg parts => uptoBulkAll parts + 1
  | .iface _ d => uptoBulk d + 1
  | .map entries => uptoBulkEntries entries + 1
  | .held _ => 1
def uptoBulkAll {H : Type} : List (DataW H) → Nat
  | [] => 0
  | d :: r => uptoBulk d + uptoBulkAll r
def uptoBulkEntries {H : Type} : List (Lit × DataW H) → Nat
  | [] => 0
  | x :: r => uptoBulkEntry x + uptoBulkEntries r
def uptoBulkEntry {H : Type} : Lit × DataW H → Nat
  | (.string bytes, d) => bytes.length + uptoBulk d + 1
  | (_, d) => uptoBulk d + 1
 end
def uptoSmall : (H : Type) → List (DataW H) → Bool := fun _ ds => decide (uptoBulkAll ds ≤ 1048576)
def OpenSpec.upto (s : _root_.Go.ChangeSpec) : _root_.Go.OpenSpec := { _root_.Go.OpenSpec.ofChange s with cond := some uptoSmall }

/-- 'valiselaw26.AuditCounts', WHERE WHAT IT READS IS OF BULK AT MOST 1048576: true; the input reads as it did. -/
def auditCountsUptoRow : OpenClaim := { program := "ytphloeafgblmnaa", sum := "f89b7fe8d5bd07d4773cce01475828e8b268edf9a73526d16b262aa903ad1e3c", func := "valise/valiselaw26.AuditCounts", spec := "auditCounts", apart := false, narrowed := true }
def AuditCountsUptoSaid : Prop := auditCountsUptoRow.holds Try.pinned (OpenSpec.upto auditCountsSpec)

/-- 'valiselaw02.StampCompares', WHERE WHAT IT READS IS OF BULK AT MOST 1048576: true; the input reads as it did. -/
def stampComparesUptoRow : OpenClaim := { program := "ytphloeafgblmnaa", sum := "f89b7fe8d5bd07d4773cce01475828e8b268edf9a73526d16b262aa903ad1e3c", func := "valise/valiselaw02.StampCompares", spec := "stampCompares", apart := false, narrowed := true }
def StampComparesUptoSaid : Prop := stampComparesUptoRow.holds Try.pinned (OpenSpec.upto stampComparesSpec)

/-- 'valiselaw02.StampOrders', WHERE WHAT IT READS IS OF BULK AT MOST 1048576: true; the input reads as it did. -/
def stampOrdersUptoRow : OpenClaim := { program := "ytphloeafgblmnaa", sum := "f89b7fe8d5bd07d4773cce01475828e8b268edf9a73526d16b262aa903ad1e3c", func := "valise/valiselaw02.StampOrders", spec := "stampOrders", apart := false, narrowed := true }
def StampOrdersUptoSaid : Prop := stampOrdersUptoRow.holds Try.pinned (OpenSpec.upto stampOrdersSpec)

/-- 'valiselaw06.OverlayTexts', WHERE WHAT IT READS IS OF BULK AT MOST 1048576: true; the input reads as it did. -/
def overlayTextsUptoRow : OpenClaim := { program := "ytphloeafgblmnaa", sum := "f89b7fe8d5bd07d4773cce01475828e8b268edf9a73526d16b262aa903ad1e3c", func := "valise/valiselaw06.OverlayTexts", spec := "overlayTexts", apart := false, narrowed := true }
def OverlayTextsUptoSaid : Prop := overlayTextsUptoRow.holds Try.pinned (OpenSpec.upto overlayTextsSpec)

/-- 'valiselaw06.OverlayNumbers', WHERE WHAT IT READS IS OF BULK AT MOST 1048576: true; the input reads as it did. -/
def overlayNumbersUptoRow : OpenClaim := { program := "ytphloeafgblmnaa", sum := "f89b7fe8d5bd07d4773cce01475828e8b268edf9a73526d16b262aa903ad1e3c", func := "valise/valiselaw06.OverlayNumbers", spec := "overlayNumbers", apart := false, narrowed := true }
def OverlayNumbersUptoSaid : Prop := overlayNumbersUptoRow.holds Try.pinned (OpenSpec.upto overlayNumbersSpec)

end Rows
end Go.Proofs.Ytphloeafgblmnaa
