/-
  DERIVED. GIVEN WITH THE SEED: THE CARDS: each row of YtfhfcipelgogjaaGreatDoorRows.lean that lists a variable, with what it lists TIED to the program's text (the seventh form; the later family's looks); each row that meets fmt, with fmt's text TOLD by the authors' own Lean function (tested against real Go, not proved from fmt's source: count such statements apart). THE CARD IS WHAT COUNTS. Prove the row's statement (the work); the ties are given (YtfhfcipelgogjaaGreatDoorTie.lean); close each card by the builder's one call (the guide's Derived/Test/ToyasCard.lean, 'card_holds'). Laid BY PROGRAM, IN A SANDBOX (cutbox-door.mjs). By AI agents, Wed Nov 11 2026. No macro, syntax, notation, axiom, sorry.
-/
import Derived.Test.YtfhfcipelgogjaaGreatDoorRows
import GoSem.ClaimSeven
namespace Go.Proofs.YtfhfcipelgogjaaGreatDoor
namespace Rows

/-- THE TIED CARD OF 'valiselaw15.ManifestTrees'. -/
def manifestTreesCard : Claim7 := { stood := { row := manifestTreesRow, standIns := [], harness := (true, "bc25fdfb5cad82b9897208c3b7e8b711dfdfe06575b20d20bcaa5e3884532a61"), looks := true }, kinds := [], alts := [], laidByText := true, laidKinds := [.data, .data, .data, .data, .sentinel, .sentinel, .pinned], laidTests := true, laidLooks := .later }
def ManifestTreesCardSaid : Prop := Claim7.holds Tryz.pinned (.plain (OpenSpec.ofChange manifestTreesSpec)) manifestTreesCard

/-- THE TIED CARD OF 'valiselaw25.ForecastTrees'. -/
def forecastTreesCard : Claim7 := { stood := { row := forecastTreesRow, standIns := [], harness := (true, "bc25fdfb5cad82b9897208c3b7e8b711dfdfe06575b20d20bcaa5e3884532a61"), looks := true }, kinds := [], alts := [], laidByText := true, laidKinds := [.data, .pinned], laidTests := true, laidLooks := .later }
def ForecastTreesCardSaid : Prop := Claim7.holds Tryz.pinned (.plain (OpenSpec.ofChange forecastTreesSpec)) forecastTreesCard

/-- THE TIED CARD OF 'valiselaw25.ForecastPlants'. -/
def forecastPlantsCard : Claim7 := { stood := { row := forecastPlantsRow, standIns := [], harness := (true, "bc25fdfb5cad82b9897208c3b7e8b711dfdfe06575b20d20bcaa5e3884532a61"), looks := true }, kinds := [], alts := [], laidByText := true, laidKinds := [.data, .pinned], laidTests := true, laidLooks := .later }
def ForecastPlantsCardSaid : Prop := Claim7.holds Tryz.pinned (.plain (OpenSpec.ofChange forecastPlantsSpec)) forecastPlantsCard

/-- THE TIED CARD OF 'valiselaw25.ForecastNone'. -/
def forecastNoneCard : Claim7 := { stood := { row := forecastNoneRow, standIns := [], harness := (true, "bc25fdfb5cad82b9897208c3b7e8b711dfdfe06575b20d20bcaa5e3884532a61"), looks := true }, kinds := [], alts := [], laidByText := true, laidKinds := [.data, .pinned], laidTests := true, laidLooks := .later }
def ForecastNoneCardSaid : Prop := Claim7.holds Tryz.pinned (.plain (OpenSpec.ofChange forecastNoneSpec)) forecastNoneCard

/-- THE TIED CARD OF 'valiselaw25.ForecastNever'. -/
def forecastNeverCard : Claim7 := { stood := { row := forecastNeverRow, standIns := [], harness := (true, "bc25fdfb5cad82b9897208c3b7e8b711dfdfe06575b20d20bcaa5e3884532a61"), looks := true }, kinds := [], alts := [], laidByText := true, laidKinds := [.data, .pinned], laidTests := true, laidLooks := .later }
def ForecastNeverCardSaid : Prop := Claim7.holds Tryz.pinned (.plain (OpenSpec.ofChange forecastNeverSpec)) forecastNeverCard

/-- THE TIED CARD OF 'valiselaw25.ForecastMemory'. -/
def forecastMemoryCard : Claim7 := { stood := { row := forecastMemoryRow, standIns := [], harness := (true, "bc25fdfb5cad82b9897208c3b7e8b711dfdfe06575b20d20bcaa5e3884532a61"), looks := true }, kinds := [], alts := [], laidByText := true, laidKinds := [.data, .pinned], laidTests := true, laidLooks := .later }
def ForecastMemoryCardSaid : Prop := Claim7.holds Tryz.pinned (.plain (OpenSpec.ofChange forecastMemorySpec)) forecastMemoryCard

/-- THE SECOND FORM's CARD OF 'valiselaw15.ManifestTrees'. -/
def manifestTreesUptoCard : Claim7 := { stood := { row := manifestTreesUptoRow, standIns := [], harness := (true, "bc25fdfb5cad82b9897208c3b7e8b711dfdfe06575b20d20bcaa5e3884532a61"), looks := true }, kinds := [], alts := [], laidByText := true, laidKinds := [.data, .data, .data, .data, .sentinel, .sentinel, .pinned], laidTests := true, laidLooks := .later }
def ManifestTreesUptoCardSaid : Prop := Claim7.holds Tryz.pinned (.plain (OpenSpec.upto manifestTreesSpec)) manifestTreesUptoCard

/-- THE SECOND FORM's CARD OF 'valiselaw25.ForecastTrees'. -/
def forecastTreesUptoCard : Claim7 := { stood := { row := forecastTreesUptoRow, standIns := [], harness := (true, "bc25fdfb5cad82b9897208c3b7e8b711dfdfe06575b20d20bcaa5e3884532a61"), looks := true }, kinds := [], alts := [], laidByText := true, laidKinds := [.data, .pinned], laidTests := true, laidLooks := .later }
def ForecastTreesUptoCardSaid : Prop := Claim7.holds Tryz.pinned (.plain (OpenSpec.upto forecastTreesSpec)) forecastTreesUptoCard

/-- THE SECOND FORM's CARD OF 'valiselaw25.ForecastPlants'. -/
def forecastPlantsUptoCard : Claim7 := { stood := { row := forecastPlantsUptoRow, standIns := [], harness := (true, "bc25fdfb5cad82b9897208c3b7e8b711dfdfe06575b20d20bcaa5e3884532a61"), looks := true }, kinds := [], alts := [], laidByText := true, laidKinds := [.data, .pinned], laidTests := true, laidLooks := .later }
def ForecastPlantsUptoCardSaid : Prop := Claim7.holds Tryz.pinned (.plain (OpenSpec.upto forecastPlantsSpec)) forecastPlantsUptoCard

/-- THE SECOND FORM's CARD OF 'valiselaw25.ForecastNone'. -/
def forecastNoneUptoCard : Claim7 := { stood := { row := forecastNoneUptoRow, standIns := [], harness := (true, "bc25fdfb5cad82b9897208c3b7e8b711dfdfe06575b20d20bcaa5e3884532a61"), looks := true }, kinds := [], alts := [], laidByText := true, laidKinds := [.data, .pinned], laidTests := true, laidLooks := .later }
def ForecastNoneUptoCardSaid : Prop := Claim7.holds Tryz.pinned (.plain (OpenSpec.upto forecastNoneSpec)) forecastNoneUptoCard

/-- THE SECOND FORM's CARD OF 'valiselaw25.ForecastNever'. -/
def forecastNeverUptoCard : Claim7 := { stood := { row := forecastNeverUptoRow, standIns := [], harness := (true, "bc25fdfb5cad82b9897208c3b7e8b711dfdfe06575b20d20bcaa5e3884532a61"), looks := true }, kinds := [], alts := [], laidByText := true, laidKinds := [.data, .pinned], laidTests := true, laidLooks := .later }
def ForecastNeverUptoCardSaid : Prop := Claim7.holds Tryz.pinned (.plain (OpenSpec.upto forecastNeverSpec)) forecastNeverUptoCard

/-- THE SECOND FORM's CARD OF 'valiselaw25.ForecastMemory'. -/
def forecastMemoryUptoCard : Claim7 := { stood := { row := forecastMemoryUptoRow, standIns := [], harness := (true, "bc25fdfb5cad82b9897208c3b7e8b711dfdfe06575b20d20bcaa5e3884532a61"), looks := true }, kinds := [], alts := [], laidByText := true, laidKinds := [.data, .pinned], laidTests := true, laidLooks := .later }
def ForecastMemoryUptoCardSaid : Prop := Claim7.holds Tryz.pinned (.plain (OpenSpec.upto forecastMemorySpec)) forecastMemoryUptoCard
end Rows
end Go.Proofs.YtfhfcipelgogjaaGreatDoor
