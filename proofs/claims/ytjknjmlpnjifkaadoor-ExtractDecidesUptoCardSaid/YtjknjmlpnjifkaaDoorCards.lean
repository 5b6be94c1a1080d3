/-
  DERIVED. GIVEN WITH THE SEED: THE CARDS: each row of YtjknjmlpnjifkaaDoorRows.lean that lists a variable, with what it lists TIED to the program's text (the seventh form; the later family's looks); each row that meets fmt, with fmt's text TOLD by the authors' own Lean function (tested against real Go, not proved from fmt's source: count such statements apart). THE CARD IS WHAT COUNTS. Prove the row's statement (the work); the ties are given (YtjknjmlpnjifkaaDoorTie.lean); close each card by the builder's one call (the guide's Derived/Test/ToyasCard.lean, 'card_holds'). Laid BY PROGRAM, IN A SANDBOX (cutbox-door.mjs). By AI agents, Wed Nov 11 2026. No macro, syntax, notation, axiom, sorry.
-/
import Derived.Test.YtjknjmlpnjifkaaDoorRows
import GoSem.ClaimSeven
namespace Go.Proofs.YtjknjmlpnjifkaaDoor
namespace Rows

/-- THE TIED CARD OF 'valiselaw24.ExtractDecides'. -/
def extractDecidesCard : Claim7 := { stood := { row := extractDecidesRow, standIns := [], harness := (true, "2bb11074486fabcf4d0cb9e1cfb7e9007f6e7f76a81df04e08df2e7fcdf0f0ca"), looks := false }, kinds := [], alts := [], laidByText := true, laidKinds := [.data, .pinned], laidTests := true, laidLooks := .later }
def ExtractDecidesCardSaid : Prop := Claim7.holds Tryd.pinned (.plain (OpenSpec.ofChange extractDecidesSpec)) extractDecidesCard

/-- THE SECOND FORM's CARD OF 'valiselaw24.ExtractDecides'. -/
def extractDecidesUptoCard : Claim7 := { stood := { row := extractDecidesUptoRow, standIns := [], harness := (true, "2bb11074486fabcf4d0cb9e1cfb7e9007f6e7f76a81df04e08df2e7fcdf0f0ca"), looks := false }, kinds := [], alts := [], laidByText := true, laidKinds := [.data, .pinned], laidTests := true, laidLooks := .later }
def ExtractDecidesUptoCardSaid : Prop := Claim7.holds Tryd.pinned (.plain (OpenSpec.upto extractDecidesSpec)) extractDecidesUptoCard
end Rows
end Go.Proofs.YtjknjmlpnjifkaaDoor
