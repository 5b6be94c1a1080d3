/-
  DERIVED. GIVEN WITH THE SEED: THE CARDS: each row of YtkpblhikndennaaGreatDoorRows.lean that lists a variable, with what it lists TIED to the program's text (the seventh form; the later family's looks); each row that meets fmt, with fmt's text TOLD by the authors' own Lean function (tested against real Go, not proved from fmt's source: count such statements apart). THE CARD IS WHAT COUNTS. Prove the row's statement (the work); the ties are given (YtkpblhikndennaaGreatDoorTie.lean); close each card by the builder's one call (the guide's Derived/Test/ToyasCard.lean, 'card_holds'). Laid BY PROGRAM, IN A SANDBOX (cutbox-door.mjs). By AI agents, Wed Nov 11 2026. No macro, syntax, notation, axiom, sorry.
-/
import Derived.Test.YtkpblhikndennaaGreatDoorRows
import GoSem.ClaimSeven
namespace Go.Proofs.YtkpblhikndennaaGreatDoor
namespace Rows

/-- THE TIED CARD OF 'valiselaw15.ManifestReads'. -/
def manifestReadsCard : Claim7 := { stood := { row := manifestReadsRow, standIns := [], harness := (true, "8026edbe444bbeb6f80bbd97872f6f46cbebbf98b7240cb43486f54c817ece2a"), looks := true }, kinds := [], alts := [], laidByText := true, laidKinds := [.data, .data, .data, .data, .sentinel, .sentinel, .pinned], laidTests := true, laidLooks := .later }
def ManifestReadsCardSaid : Prop := Claim7.holds Tryz.pinned (.plain (OpenSpec.ofChange manifestReadsSpec)) manifestReadsCard

/-- THE TIED CARD OF 'valiselaw15.ManifestRound'. -/
def manifestRoundCard : Claim7 := { stood := { row := manifestRoundRow, standIns := [], harness := (true, "8026edbe444bbeb6f80bbd97872f6f46cbebbf98b7240cb43486f54c817ece2a"), looks := true }, kinds := [], alts := [], laidByText := true, laidKinds := [.data, .data, .data, .data, .sentinel, .sentinel, .pinned], laidTests := true, laidLooks := .later }
def ManifestRoundCardSaid : Prop := Claim7.holds Tryz.pinned (.plain (OpenSpec.ofChange manifestRoundSpec)) manifestRoundCard

/-- THE TIED CARD OF 'valiselaw15.ManifestTrees'. -/
def manifestTreesCard : Claim7 := { stood := { row := manifestTreesRow, standIns := [], harness := (true, "8026edbe444bbeb6f80bbd97872f6f46cbebbf98b7240cb43486f54c817ece2a"), looks := true }, kinds := [], alts := [], laidByText := true, laidKinds := [.data, .data, .data, .data, .sentinel, .sentinel, .pinned], laidTests := true, laidLooks := .later }
def ManifestTreesCardSaid : Prop := Claim7.holds Tryz.pinned (.plain (OpenSpec.ofChange manifestTreesSpec)) manifestTreesCard

/-- THE TIED CARD OF 'valiselaw15.ManifestMemory'. -/
def manifestMemoryCard : Claim7 := { stood := { row := manifestMemoryRow, standIns := [], harness := (true, "8026edbe444bbeb6f80bbd97872f6f46cbebbf98b7240cb43486f54c817ece2a"), looks := true }, kinds := [], alts := [], laidByText := true, laidKinds := [.data, .data, .data, .data, .sentinel, .sentinel, .pinned], laidTests := true, laidLooks := .later }
def ManifestMemoryCardSaid : Prop := Claim7.holds Tryz.pinned (.plain (OpenSpec.ofChange manifestMemorySpec)) manifestMemoryCard

/-- THE SECOND FORM's CARD OF 'valiselaw15.ManifestReads'. -/
def manifestReadsUptoCard : Claim7 := { stood := { row := manifestReadsUptoRow, standIns := [], harness := (true, "8026edbe444bbeb6f80bbd97872f6f46cbebbf98b7240cb43486f54c817ece2a"), looks := true }, kinds := [], alts := [], laidByText := true, laidKinds := [.data, .data, .data, .data, .sentinel, .sentinel, .pinned], laidTests := true, laidLooks := .later }
def ManifestReadsUptoCardSaid : Prop := Claim7.holds Tryz.pinned (.plain (OpenSpec.upto manifestReadsSpec)) manifestReadsUptoCard

/-- THE SECOND FORM's CARD OF 'valiselaw15.ManifestRound'. -/
def manifestRoundUptoCard : Claim7 := { stood := { row := manifestRoundUptoRow, standIns := [], harness := (true, "8026edbe444bbeb6f80bbd97872f6f46cbebbf98b7240cb43486f54c817ece2a"), looks := true }, kinds := [], alts := [], laidByText := true, laidKinds := [.data, .data, .data, .data, .sentinel, .sentinel, .pinned], laidTests := true, laidLooks := .later }
def ManifestRoundUptoCardSaid : Prop := Claim7.holds Tryz.pinned (.plain (OpenSpec.upto manifestRoundSpec)) manifestRoundUptoCard

/-- THE SECOND FORM's CARD OF 'valiselaw15.ManifestTrees'. -/
def manifestTreesUptoCard : Claim7 := { stood := { row := manifestTreesUptoRow, standIns := [], harness := (true, "8026edbe444bbeb6f80bbd97872f6f46cbebbf98b7240cb43486f54c817ece2a"), looks := true }, kinds := [], alts := [], laidByText := true, laidKinds := [.data, .data, .data, .data, .sentinel, .sentinel, .pinned], laidTests := true, laidLooks := .later }
def ManifestTreesUptoCardSaid : Prop := Claim7.holds Tryz.pinned (.plain (OpenSpec.upto manifestTreesSpec)) manifestTreesUptoCard

/-- THE SECOND FORM's CARD OF 'valiselaw15.ManifestMemory'. -/
def manifestMemoryUptoCard : Claim7 := { stood := { row := manifestMemoryUptoRow, standIns := [], harness := (true, "8026edbe444bbeb6f80bbd97872f6f46cbebbf98b7240cb43486f54c817ece2a"), looks := true }, kinds := [], alts := [], laidByText := true, laidKinds := [.data, .data, .data, .data, .sentinel, .sentinel, .pinned], laidTests := true, laidLooks := .later }
def ManifestMemoryUptoCardSaid : Prop := Claim7.holds Tryz.pinned (.plain (OpenSpec.upto manifestMemorySpec)) manifestMemoryUptoCard
end Rows
end Go.Proofs.YtkpblhikndennaaGreatDoor
