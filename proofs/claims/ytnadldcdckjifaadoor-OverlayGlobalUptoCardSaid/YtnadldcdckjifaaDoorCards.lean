/-
  DERIVED. GIVEN WITH THE SEED: THE CARDS: each row of YtnadldcdckjifaaDoorRows.lean that lists a variable, with what it lists TIED to the program's text (the seventh form; the later family's looks); each row that meets fmt, with fmt's text TOLD by the authors' own Lean function (tested against real Go, not proved from fmt's source: count such statements apart). THE CARD IS WHAT COUNTS. Prove the row's statement (the work); the ties are given (YtnadldcdckjifaaDoorTie.lean); close each card by the builder's one call (the guide's Derived/Test/ToyasCard.lean, 'card_holds'). Laid BY PROGRAM, IN A SANDBOX (cutbox-door.mjs). By AI agents, Wed Nov 11 2026. No macro, syntax, notation, axiom, sorry.
-/
import Derived.Test.YtnadldcdckjifaaDoorRows
import GoSem.ClaimSeven
namespace Go.Proofs.YtnadldcdckjifaaDoor
namespace Rows

/-- THE TIED CARD OF 'valiselaw02.StampParses'. -/
def stampParsesCard : Claim7 := { stood := { row := stampParsesRow, standIns := [], harness := (true, "0e129b42ba0824f703cd2220e04579464f32e5db291296f3e186709396cb2a1b"), looks := true }, kinds := [], alts := [], laidByText := true, laidKinds := [.data, .data, .data, .data, .sentinel, .sentinel, .pinned], laidTests := true, laidLooks := .later }
def StampParsesCardSaid : Prop := Claim7.holds Tryd.pinned (.plain (OpenSpec.ofChange stampParsesSpec)) stampParsesCard

/-- THE TIED CARD OF 'valiselaw02.StampNoughts'. -/
def stampNoughtsCard : Claim7 := { stood := { row := stampNoughtsRow, standIns := [], harness := (true, "0e129b42ba0824f703cd2220e04579464f32e5db291296f3e186709396cb2a1b"), looks := true }, kinds := [], alts := [], laidByText := true, laidKinds := [.data, .data, .data, .data, .sentinel, .sentinel, .pinned], laidTests := true, laidLooks := .later }
def StampNoughtsCardSaid : Prop := Claim7.holds Tryd.pinned (.plain (OpenSpec.ofChange stampNoughtsSpec)) stampNoughtsCard

/-- THE TIED CARD OF 'valiselaw02.StampShows'. -/
def stampShowsCard : Claim7 := { stood := { row := stampShowsRow, standIns := [], harness := (true, "0e129b42ba0824f703cd2220e04579464f32e5db291296f3e186709396cb2a1b"), looks := true }, kinds := [], alts := [], laidByText := true, laidKinds := [.data, .data, .data, .data, .sentinel, .sentinel, .pinned], laidTests := true, laidLooks := .later }
def StampShowsCardSaid : Prop := Claim7.holds Tryd.pinned (.plain (OpenSpec.ofChange stampShowsSpec)) stampShowsCard

/-- THE TIED CARD OF 'valiselaw02.StampRound'. -/
def stampRoundCard : Claim7 := { stood := { row := stampRoundRow, standIns := [], harness := (true, "0e129b42ba0824f703cd2220e04579464f32e5db291296f3e186709396cb2a1b"), looks := true }, kinds := [], alts := [], laidByText := true, laidKinds := [.data, .data, .data, .data, .sentinel, .sentinel, .pinned], laidTests := true, laidLooks := .later }
def StampRoundCardSaid : Prop := Claim7.holds Tryd.pinned (.plain (OpenSpec.ofChange stampRoundSpec)) stampRoundCard

/-- THE TIED CARD OF 'valiselaw06.OverlayApplies'. -/
def overlayAppliesCard : Claim7 := { stood := { row := overlayAppliesRow, standIns := [], harness := (true, "0e129b42ba0824f703cd2220e04579464f32e5db291296f3e186709396cb2a1b"), looks := true }, kinds := [], alts := [], laidByText := true, laidKinds := [.data, .data, .data, .data, .sentinel, .sentinel, .pinned], laidTests := true, laidLooks := .later }
def OverlayAppliesCardSaid : Prop := Claim7.holds Tryd.pinned (.plain (OpenSpec.ofChange overlayAppliesSpec)) overlayAppliesCard

/-- THE TIED CARD OF 'valiselaw06.OverlayPlain'. -/
def overlayPlainCard : Claim7 := { stood := { row := overlayPlainRow, standIns := [], harness := (true, "0e129b42ba0824f703cd2220e04579464f32e5db291296f3e186709396cb2a1b"), looks := true }, kinds := [], alts := [], laidByText := true, laidKinds := [.data, .data, .data, .data, .sentinel, .sentinel, .pinned], laidTests := true, laidLooks := .later }
def OverlayPlainCardSaid : Prop := Claim7.holds Tryd.pinned (.plain (OpenSpec.ofChange overlayPlainSpec)) overlayPlainCard

/-- THE TIED CARD OF 'valiselaw06.OverlayLocal'. -/
def overlayLocalCard : Claim7 := { stood := { row := overlayLocalRow, standIns := [], harness := (true, "0e129b42ba0824f703cd2220e04579464f32e5db291296f3e186709396cb2a1b"), looks := true }, kinds := [], alts := [], laidByText := true, laidKinds := [.data, .data, .data, .data, .sentinel, .sentinel, .pinned], laidTests := true, laidLooks := .later }
def OverlayLocalCardSaid : Prop := Claim7.holds Tryd.pinned (.plain (OpenSpec.ofChange overlayLocalSpec)) overlayLocalCard

/-- THE TIED CARD OF 'valiselaw06.OverlayGlobal'. -/
def overlayGlobalCard : Claim7 := { stood := { row := overlayGlobalRow, standIns := [], harness := (true, "0e129b42ba0824f703cd2220e04579464f32e5db291296f3e186709396cb2a1b"), looks := true }, kinds := [], alts := [], laidByText := true, laidKinds := [.data, .data, .data, .data, .sentinel, .sentinel, .pinned], laidTests := true, laidLooks := .later }
def OverlayGlobalCardSaid : Prop := Claim7.holds Tryd.pinned (.plain (OpenSpec.ofChange overlayGlobalSpec)) overlayGlobalCard

/-- THE SECOND FORM's CARD OF 'valiselaw02.StampParses'. -/
def stampParsesUptoCard : Claim7 := { stood := { row := stampParsesUptoRow, standIns := [], harness := (true, "0e129b42ba0824f703cd2220e04579464f32e5db291296f3e186709396cb2a1b"), looks := true }, kinds := [], alts := [], laidByText := true, laidKinds := [.data, .data, .data, .data, .sentinel, .sentinel, .pinned], laidTests := true, laidLooks := .later }
def StampParsesUptoCardSaid : Prop := Claim7.holds Tryd.pinned (.plain (OpenSpec.upto stampParsesSpec)) stampParsesUptoCard

/-- THE SECOND FORM's CARD OF 'valiselaw02.StampNoughts'. -/
def stampNoughtsUptoCard : Claim7 := { stood := { row := stampNoughtsUptoRow, standIns := [], harness := (true, "0e129b42ba0824f703cd2220e04579464f32e5db291296f3e186709396cb2a1b"), looks := true }, kinds := [], alts := [], laidByText := true, laidKinds := [.data, .data, .data, .data, .sentinel, .sentinel, .pinned], laidTests := true, laidLooks := .later }
def StampNoughtsUptoCardSaid : Prop := Claim7.holds Tryd.pinned (.plain (OpenSpec.upto stampNoughtsSpec)) stampNoughtsUptoCard

/-- THE SECOND FORM's CARD OF 'valiselaw02.StampShows'. -/
def stampShowsUptoCard : Claim7 := { stood := { row := stampShowsUptoRow, standIns := [], harness := (true, "0e129b42ba0824f703cd2220e04579464f32e5db291296f3e186709396cb2a1b"), looks := true }, kinds := [], alts := [], laidByText := true, laidKinds := [.data, .data, .data, .data, .sentinel, .sentinel, .pinned], laidTests := true, laidLooks := .later }
def StampShowsUptoCardSaid : Prop := Claim7.holds Tryd.pinned (.plain (OpenSpec.upto stampShowsSpec)) stampShowsUptoCard

/-- THE SECOND FORM's CARD OF 'valiselaw02.StampRound'. -/
def stampRoundUptoCard : Claim7 := { stood := { row := stampRoundUptoRow, standIns := [], harness := (true, "0e129b42ba0824f703cd2220e04579464f32e5db291296f3e186709396cb2a1b"), looks := true }, kinds := [], alts := [], laidByText := true, laidKinds := [.data, .data, .data, .data, .sentinel, .sentinel, .pinned], laidTests := true, laidLooks := .later }
def StampRoundUptoCardSaid : Prop := Claim7.holds Tryd.pinned (.plain (OpenSpec.upto stampRoundSpec)) stampRoundUptoCard

/-- THE SECOND FORM's CARD OF 'valiselaw06.OverlayApplies'. -/
def overlayAppliesUptoCard : Claim7 := { stood := { row := overlayAppliesUptoRow, standIns := [], harness := (true, "0e129b42ba0824f703cd2220e04579464f32e5db291296f3e186709396cb2a1b"), looks := true }, kinds := [], alts := [], laidByText := true, laidKinds := [.data, .data, .data, .data, .sentinel, .sentinel, .pinned], laidTests := true, laidLooks := .later }
def OverlayAppliesUptoCardSaid : Prop := Claim7.holds Tryd.pinned (.plain (OpenSpec.upto overlayAppliesSpec)) overlayAppliesUptoCard

/-- THE SECOND FORM's CARD OF 'valiselaw06.OverlayPlain'. -/
def overlayPlainUptoCard : Claim7 := { stood := { row := overlayPlainUptoRow, standIns := [], harness := (true, "0e129b42ba0824f703cd2220e04579464f32e5db291296f3e186709396cb2a1b"), looks := true }, kinds := [], alts := [], laidByText := true, laidKinds := [.data, .data, .data, .data, .sentinel, .sentinel, .pinned], laidTests := true, laidLooks := .later }
def OverlayPlainUptoCardSaid : Prop := Claim7.holds Tryd.pinned (.plain (OpenSpec.upto overlayPlainSpec)) overlayPlainUptoCard

/-- THE SECOND FORM's CARD OF 'valiselaw06.OverlayLocal'. -/
def overlayLocalUptoCard : Claim7 := { stood := { row := overlayLocalUptoRow, standIns := [], harness := (true, "0e129b42ba0824f703cd2220e04579464f32e5db291296f3e186709396cb2a1b"), looks := true }, kinds := [], alts := [], laidByText := true, laidKinds := [.data, .data, .data, .data, .sentinel, .sentinel, .pinned], laidTests := true, laidLooks := .later }
def OverlayLocalUptoCardSaid : Prop := Claim7.holds Tryd.pinned (.plain (OpenSpec.upto overlayLocalSpec)) overlayLocalUptoCard

/-- THE SECOND FORM's CARD OF 'valiselaw06.OverlayGlobal'. -/
def overlayGlobalUptoCard : Claim7 := { stood := { row := overlayGlobalUptoRow, standIns := [], harness := (true, "0e129b42ba0824f703cd2220e04579464f32e5db291296f3e186709396cb2a1b"), looks := true }, kinds := [], alts := [], laidByText := true, laidKinds := [.data, .data, .data, .data, .sentinel, .sentinel, .pinned], laidTests := true, laidLooks := .later }
def OverlayGlobalUptoCardSaid : Prop := Claim7.holds Tryd.pinned (.plain (OpenSpec.upto overlayGlobalSpec)) overlayGlobalUptoCard
end Rows
end Go.Proofs.YtnadldcdckjifaaDoor
