/-
  DERIVED. GIVEN WITH THE SEED: THE CARDS: each row of YtjppkekmddjcfaaGreatDoorRows.lean that lists a variable, with what it lists TIED to the program's text (the seventh form; the later family's looks); each row that meets fmt, with fmt's text TOLD by the authors' own Lean function (tested against real Go, not proved from fmt's source: count such statements apart). THE CARD IS WHAT COUNTS. Prove the row's statement (the work); the ties are given (YtjppkekmddjcfaaGreatDoorTie.lean); close each card by the builder's one call (the guide's Derived/Test/ToyasCard.lean, 'card_holds'). Laid BY PROGRAM, IN A SANDBOX (cutbox-door.mjs). By AI agents, Wed Nov 11 2026. No macro, syntax, notation, axiom, sorry.
-/
import Derived.Test.YtjppkekmddjcfaaGreatDoorRows
import GoSem.ClaimSeven
namespace Go.Proofs.YtjppkekmddjcfaaGreatDoor
namespace Rows

/-- THE TIED CARD OF 'cayleylaw10.RewriteBasics'. -/
def rewriteBasicsCard : Claim7 := { stood := { row := rewriteBasicsRow, standIns := [], harness := (true, "e7279296c241335906e228d1741e90a546b233f14584b932e8f3fe8d076b5346"), looks := true }, kinds := [], alts := [], laidByText := true, laidKinds := [.data, .data, .data, .data], laidTests := true, laidLooks := .later }
def RewriteBasicsCardSaid : Prop := Claim7.holds Tryz.pinned (.plain (OpenSpec.ofChange rewriteBasicsSpec)) rewriteBasicsCard

/-- THE TIED CARD OF 'cayleylaw10.RewriteReduces'. -/
def rewriteReducesCard : Claim7 := { stood := { row := rewriteReducesRow, standIns := [], harness := (true, "e7279296c241335906e228d1741e90a546b233f14584b932e8f3fe8d076b5346"), looks := true }, kinds := [], alts := [], laidByText := true, laidKinds := [.data, .data, .data, .data], laidTests := true, laidLooks := .later }
def RewriteReducesCardSaid : Prop := Claim7.holds Tryz.pinned (.plain (OpenSpec.ofChange rewriteReducesSpec)) rewriteReducesCard

/-- THE TIED CARD OF 'cayleylaw10.RewriteConfluent'. -/
def rewriteConfluentCard : Claim7 := { stood := { row := rewriteConfluentRow, standIns := [], harness := (true, "e7279296c241335906e228d1741e90a546b233f14584b932e8f3fe8d076b5346"), looks := true }, kinds := [], alts := [], laidByText := true, laidKinds := [.data, .data, .data, .data], laidTests := true, laidLooks := .later }
def RewriteConfluentCardSaid : Prop := Claim7.holds Tryz.pinned (.plain (OpenSpec.ofChange rewriteConfluentSpec)) rewriteConfluentCard

/-- THE TIED CARD OF 'cayleylaw10.RewriteMoves'. -/
def rewriteMovesCard : Claim7 := { stood := { row := rewriteMovesRow, standIns := [], harness := (true, "e7279296c241335906e228d1741e90a546b233f14584b932e8f3fe8d076b5346"), looks := true }, kinds := [], alts := [], laidByText := true, laidKinds := [.data, .data, .data, .data], laidTests := true, laidLooks := .later }
def RewriteMovesCardSaid : Prop := Claim7.holds Tryz.pinned (.plain (OpenSpec.ofChange rewriteMovesSpec)) rewriteMovesCard

/-- THE TIED CARD OF 'cayleylaw10.RewriteAcceptor'. -/
def rewriteAcceptorCard : Claim7 := { stood := { row := rewriteAcceptorRow, standIns := [], harness := (true, "e7279296c241335906e228d1741e90a546b233f14584b932e8f3fe8d076b5346"), looks := true }, kinds := [], alts := [], laidByText := true, laidKinds := [.data, .data, .data, .data], laidTests := true, laidLooks := .later }
def RewriteAcceptorCardSaid : Prop := Claim7.holds Tryz.pinned (.plain (OpenSpec.ofChange rewriteAcceptorSpec)) rewriteAcceptorCard

/-- THE TIED CARD OF 'cayleylaw10.RewriteMinimal'. -/
def rewriteMinimalCard : Claim7 := { stood := { row := rewriteMinimalRow, standIns := [], harness := (true, "e7279296c241335906e228d1741e90a546b233f14584b932e8f3fe8d076b5346"), looks := true }, kinds := [], alts := [], laidByText := true, laidKinds := [.data, .data, .data, .data], laidTests := true, laidLooks := .later }
def RewriteMinimalCardSaid : Prop := Claim7.holds Tryz.pinned (.plain (OpenSpec.ofChange rewriteMinimalSpec)) rewriteMinimalCard

/-- THE TIED CARD OF 'cayleylaw10.RewriteStays'. -/
def rewriteStaysCard : Claim7 := { stood := { row := rewriteStaysRow, standIns := [], harness := (true, "e7279296c241335906e228d1741e90a546b233f14584b932e8f3fe8d076b5346"), looks := true }, kinds := [], alts := [], laidByText := true, laidKinds := [.data, .data, .data, .data], laidTests := true, laidLooks := .later }
def RewriteStaysCardSaid : Prop := Claim7.holds Tryz.pinned (.plain (OpenSpec.ofChange rewriteStaysSpec)) rewriteStaysCard

/-- THE SECOND FORM's CARD OF 'cayleylaw10.RewriteBasics'. -/
def rewriteBasicsUptoCard : Claim7 := { stood := { row := rewriteBasicsUptoRow, standIns := [], harness := (true, "e7279296c241335906e228d1741e90a546b233f14584b932e8f3fe8d076b5346"), looks := true }, kinds := [], alts := [], laidByText := true, laidKinds := [.data, .data, .data, .data], laidTests := true, laidLooks := .later }
def RewriteBasicsUptoCardSaid : Prop := Claim7.holds Tryz.pinned (.plain (OpenSpec.upto rewriteBasicsSpec)) rewriteBasicsUptoCard

/-- THE SECOND FORM's CARD OF 'cayleylaw10.RewriteReduces'. -/
def rewriteReducesUptoCard : Claim7 := { stood := { row := rewriteReducesUptoRow, standIns := [], harness := (true, "e7279296c241335906e228d1741e90a546b233f14584b932e8f3fe8d076b5346"), looks := true }, kinds := [], alts := [], laidByText := true, laidKinds := [.data, .data, .data, .data], laidTests := true, laidLooks := .later }
def RewriteReducesUptoCardSaid : Prop := Claim7.holds Tryz.pinned (.plain (OpenSpec.upto rewriteReducesSpec)) rewriteReducesUptoCard

/-- THE SECOND FORM's CARD OF 'cayleylaw10.RewriteConfluent'. -/
def rewriteConfluentUptoCard : Claim7 := { stood := { row := rewriteConfluentUptoRow, standIns := [], harness := (true, "e7279296c241335906e228d1741e90a546b233f14584b932e8f3fe8d076b5346"), looks := true }, kinds := [], alts := [], laidByText := true, laidKinds := [.data, .data, .data, .data], laidTests := true, laidLooks := .later }
def RewriteConfluentUptoCardSaid : Prop := Claim7.holds Tryz.pinned (.plain (OpenSpec.upto rewriteConfluentSpec)) rewriteConfluentUptoCard

/-- THE SECOND FORM's CARD OF 'cayleylaw10.RewriteMoves'. -/
def rewriteMovesUptoCard : Claim7 := { stood := { row := rewriteMovesUptoRow, standIns := [], harness := (true, "e7279296c241335906e228d1741e90a546b233f14584b932e8f3fe8d076b5346"), looks := true }, kinds := [], alts := [], laidByText := true, laidKinds := [.data, .data, .data, .data], laidTests := true, laidLooks := .later }
def RewriteMovesUptoCardSaid : Prop := Claim7.holds Tryz.pinned (.plain (OpenSpec.upto rewriteMovesSpec)) rewriteMovesUptoCard

/-- THE SECOND FORM's CARD OF 'cayleylaw10.RewriteAcceptor'. -/
def rewriteAcceptorUptoCard : Claim7 := { stood := { row := rewriteAcceptorUptoRow, standIns := [], harness := (true, "e7279296c241335906e228d1741e90a546b233f14584b932e8f3fe8d076b5346"), looks := true }, kinds := [], alts := [], laidByText := true, laidKinds := [.data, .data, .data, .data], laidTests := true, laidLooks := .later }
def RewriteAcceptorUptoCardSaid : Prop := Claim7.holds Tryz.pinned (.plain (OpenSpec.upto rewriteAcceptorSpec)) rewriteAcceptorUptoCard

/-- THE SECOND FORM's CARD OF 'cayleylaw10.RewriteMinimal'. -/
def rewriteMinimalUptoCard : Claim7 := { stood := { row := rewriteMinimalUptoRow, standIns := [], harness := (true, "e7279296c241335906e228d1741e90a546b233f14584b932e8f3fe8d076b5346"), looks := true }, kinds := [], alts := [], laidByText := true, laidKinds := [.data, .data, .data, .data], laidTests := true, laidLooks := .later }
def RewriteMinimalUptoCardSaid : Prop := Claim7.holds Tryz.pinned (.plain (OpenSpec.upto rewriteMinimalSpec)) rewriteMinimalUptoCard

/-- THE SECOND FORM's CARD OF 'cayleylaw10.RewriteStays'. -/
def rewriteStaysUptoCard : Claim7 := { stood := { row := rewriteStaysUptoRow, standIns := [], harness := (true, "e7279296c241335906e228d1741e90a546b233f14584b932e8f3fe8d076b5346"), looks := true }, kinds := [], alts := [], laidByText := true, laidKinds := [.data, .data, .data, .data], laidTests := true, laidLooks := .later }
def RewriteStaysUptoCardSaid : Prop := Claim7.holds Tryz.pinned (.plain (OpenSpec.upto rewriteStaysSpec)) rewriteStaysUptoCard
end Rows
end Go.Proofs.YtjppkekmddjcfaaGreatDoor
