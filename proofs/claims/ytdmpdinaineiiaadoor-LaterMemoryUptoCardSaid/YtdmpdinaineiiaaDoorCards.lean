/-
  DERIVED. GIVEN WITH THE SEED: THE CARDS: each row of YtdmpdinaineiiaaDoorRows.lean that lists a variable, with what it lists TIED to the program's text (the seventh form; the later family's looks); each row that meets fmt, with fmt's text TOLD by the authors' own Lean function (tested against real Go, not proved from fmt's source: count such statements apart). THE CARD IS WHAT COUNTS. Prove the row's statement (the work); the ties are given (YtdmpdinaineiiaaDoorTie.lean); close each card by the builder's one call (the guide's Derived/Test/ToyasCard.lean, 'card_holds'). Laid BY PROGRAM, IN A SANDBOX (cutbox-door.mjs). By AI agents, Wed Nov 11 2026. No macro, syntax, notation, axiom, sorry.
-/
import Derived.Test.YtdmpdinaineiiaaDoorRows
import GoSem.ClaimSeven
namespace Go.Proofs.YtdmpdinaineiiaaDoor
namespace Rows

/-- THE TIED CARD OF 'valiselaw21.LaterMemory'. -/
def laterMemoryCard : Claim7 := { stood := { row := laterMemoryRow, standIns := [], harness := (true, "f0ac661c700879ad8d7e56669275a95f4b53ca07325d1dfc428fc689bce21914"), looks := false }, kinds := [], alts := [], laidByText := true, laidKinds := [.data, .data, .data], laidTests := true, laidLooks := .later }
def LaterMemoryCardSaid : Prop := Claim7.holds Tryd.pinned (.plain (OpenSpec.ofChange laterMemorySpec)) laterMemoryCard

/-- THE TIED CARD OF 'valiselaw21.LaterNumbers'. -/
def laterNumbersCard : Claim7 := { stood := { row := laterNumbersRow, standIns := [], harness := (true, "f0ac661c700879ad8d7e56669275a95f4b53ca07325d1dfc428fc689bce21914"), looks := false }, kinds := [], alts := [], laidByText := true, laidKinds := [.data, .data, .data], laidTests := true, laidLooks := .later }
def LaterNumbersCardSaid : Prop := Claim7.holds Tryd.pinned (.plain (OpenSpec.ofChange laterNumbersSpec)) laterNumbersCard

/-- THE TIED CARD OF 'valiselaw21.LaterTexts'. -/
def laterTextsCard : Claim7 := { stood := { row := laterTextsRow, standIns := [], harness := (true, "f0ac661c700879ad8d7e56669275a95f4b53ca07325d1dfc428fc689bce21914"), looks := false }, kinds := [], alts := [], laidByText := true, laidKinds := [.data, .data, .data], laidTests := true, laidLooks := .later }
def LaterTextsCardSaid : Prop := Claim7.holds Tryd.pinned (.plain (OpenSpec.ofChange laterTextsSpec)) laterTextsCard

/-- THE TIED CARD OF 'valiselaw21.LaterOrder'. -/
def laterOrderCard : Claim7 := { stood := { row := laterOrderRow, standIns := [], harness := (true, "f0ac661c700879ad8d7e56669275a95f4b53ca07325d1dfc428fc689bce21914"), looks := false }, kinds := [], alts := [], laidByText := true, laidKinds := [.data, .data, .data], laidTests := true, laidLooks := .later }
def LaterOrderCardSaid : Prop := Claim7.holds Tryd.pinned (.plain (OpenSpec.ofChange laterOrderSpec)) laterOrderCard

/-- THE SECOND FORM's CARD OF 'valiselaw21.LaterMemory'. -/
def laterMemoryUptoCard : Claim7 := { stood := { row := laterMemoryUptoRow, standIns := [], harness := (true, "f0ac661c700879ad8d7e56669275a95f4b53ca07325d1dfc428fc689bce21914"), looks := false }, kinds := [], alts := [], laidByText := true, laidKinds := [.data, .data, .data], laidTests := true, laidLooks := .later }
def LaterMemoryUptoCardSaid : Prop := Claim7.holds Tryd.pinned (.plain (OpenSpec.upto laterMemorySpec)) laterMemoryUptoCard

/-- THE SECOND FORM's CARD OF 'valiselaw21.LaterNumbers'. -/
def laterNumbersUptoCard : Claim7 := { stood := { row := laterNumbersUptoRow, standIns := [], harness := (true, "f0ac661c700879ad8d7e56669275a95f4b53ca07325d1dfc428fc689bce21914"), looks := false }, kinds := [], alts := [], laidByText := true, laidKinds := [.data, .data, .data], laidTests := true, laidLooks := .later }
def LaterNumbersUptoCardSaid : Prop := Claim7.holds Tryd.pinned (.plain (OpenSpec.upto laterNumbersSpec)) laterNumbersUptoCard

/-- THE SECOND FORM's CARD OF 'valiselaw21.LaterTexts'. -/
def laterTextsUptoCard : Claim7 := { stood := { row := laterTextsUptoRow, standIns := [], harness := (true, "f0ac661c700879ad8d7e56669275a95f4b53ca07325d1dfc428fc689bce21914"), looks := false }, kinds := [], alts := [], laidByText := true, laidKinds := [.data, .data, .data], laidTests := true, laidLooks := .later }
def LaterTextsUptoCardSaid : Prop := Claim7.holds Tryd.pinned (.plain (OpenSpec.upto laterTextsSpec)) laterTextsUptoCard

/-- THE SECOND FORM's CARD OF 'valiselaw21.LaterOrder'. -/
def laterOrderUptoCard : Claim7 := { stood := { row := laterOrderUptoRow, standIns := [], harness := (true, "f0ac661c700879ad8d7e56669275a95f4b53ca07325d1dfc428fc689bce21914"), looks := false }, kinds := [], alts := [], laidByText := true, laidKinds := [.data, .data, .data], laidTests := true, laidLooks := .later }
def LaterOrderUptoCardSaid : Prop := Claim7.holds Tryd.pinned (.plain (OpenSpec.upto laterOrderSpec)) laterOrderUptoCard
end Rows
end Go.Proofs.YtdmpdinaineiiaaDoor
