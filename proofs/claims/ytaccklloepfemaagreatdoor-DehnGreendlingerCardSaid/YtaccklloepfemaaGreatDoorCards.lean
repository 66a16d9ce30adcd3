/-
  DERIVED. GIVEN WITH THE SEED: THE CARDS: each row of YtaccklloepfemaaGreatDoorRows.lean that lists a variable, with what it lists TIED to the program's text (the seventh form; the later family's looks); each row that meets fmt, with fmt's text TOLD by the authors' own Lean function (tested against real Go, not proved from fmt's source: count such statements apart). THE CARD IS WHAT COUNTS. Prove the row's statement (the work); the ties are given (YtaccklloepfemaaGreatDoorTie.lean); close each card by the builder's one call (the guide's Derived/Test/ToyasCard.lean, 'card_holds'). Laid BY PROGRAM, IN A SANDBOX (cutbox-door.mjs). By AI agents, Wed Nov 11 2026. No macro, syntax, notation, axiom, sorry.
-/
import Derived.Test.YtaccklloepfemaaGreatDoorRows
import GoSem.ClaimSeven
namespace Go.Proofs.YtaccklloepfemaaGreatDoor
namespace Rows

/-- THE TIED CARD OF 'cayleylaw23.DehnShortens'. -/
def dehnShortensCard : Claim7 := { stood := { row := dehnShortensRow, standIns := [], harness := (true, "9d2d740fd49024af7923ad0bb2033dc47e177e4763f201557d18eb52b08dfae9"), looks := false }, kinds := [], alts := [], laidByText := true, laidKinds := [.data], laidTests := true, laidLooks := .later }
def DehnShortensCardSaid : Prop := Claim7.holds Tryz.pinned (.plain (OpenSpec.ofChange dehnShortensSpec)) dehnShortensCard

/-- THE TIED CARD OF 'cayleylaw23.DehnDecides'. -/
def dehnDecidesCard : Claim7 := { stood := { row := dehnDecidesRow, standIns := [], harness := (true, "9d2d740fd49024af7923ad0bb2033dc47e177e4763f201557d18eb52b08dfae9"), looks := false }, kinds := [], alts := [], laidByText := true, laidKinds := [.data], laidTests := true, laidLooks := .later }
def DehnDecidesCardSaid : Prop := Claim7.holds Tryz.pinned (.plain (OpenSpec.ofChange dehnDecidesSpec)) dehnDecidesCard

/-- THE TIED CARD OF 'cayleylaw23.DehnArea'. -/
def dehnAreaCard : Claim7 := { stood := { row := dehnAreaRow, standIns := [], harness := (true, "9d2d740fd49024af7923ad0bb2033dc47e177e4763f201557d18eb52b08dfae9"), looks := false }, kinds := [], alts := [], laidByText := true, laidKinds := [.data], laidTests := true, laidLooks := .later }
def DehnAreaCardSaid : Prop := Claim7.holds Tryz.pinned (.plain (OpenSpec.ofChange dehnAreaSpec)) dehnAreaCard

/-- THE TIED CARD OF 'cayleylaw23.DehnGreendlinger'. -/
def dehnGreendlingerCard : Claim7 := { stood := { row := dehnGreendlingerRow, standIns := [], harness := (true, "9d2d740fd49024af7923ad0bb2033dc47e177e4763f201557d18eb52b08dfae9"), looks := false }, kinds := [], alts := [], laidByText := true, laidKinds := [.data], laidTests := true, laidLooks := .later }
def DehnGreendlingerCardSaid : Prop := Claim7.holds Tryz.pinned (.plain (OpenSpec.ofChange dehnGreendlingerSpec)) dehnGreendlingerCard

/-- THE SECOND FORM's CARD OF 'cayleylaw23.DehnShortens'. -/
def dehnShortensUptoCard : Claim7 := { stood := { row := dehnShortensUptoRow, standIns := [], harness := (true, "9d2d740fd49024af7923ad0bb2033dc47e177e4763f201557d18eb52b08dfae9"), looks := false }, kinds := [], alts := [], laidByText := true, laidKinds := [.data], laidTests := true, laidLooks := .later }
def DehnShortensUptoCardSaid : Prop := Claim7.holds Tryz.pinned (.plain (OpenSpec.upto dehnShortensSpec)) dehnShortensUptoCard

/-- THE SECOND FORM's CARD OF 'cayleylaw23.DehnDecides'. -/
def dehnDecidesUptoCard : Claim7 := { stood := { row := dehnDecidesUptoRow, standIns := [], harness := (true, "9d2d740fd49024af7923ad0bb2033dc47e177e4763f201557d18eb52b08dfae9"), looks := false }, kinds := [], alts := [], laidByText := true, laidKinds := [.data], laidTests := true, laidLooks := .later }
def DehnDecidesUptoCardSaid : Prop := Claim7.holds Tryz.pinned (.plain (OpenSpec.upto dehnDecidesSpec)) dehnDecidesUptoCard

/-- THE SECOND FORM's CARD OF 'cayleylaw23.DehnArea'. -/
def dehnAreaUptoCard : Claim7 := { stood := { row := dehnAreaUptoRow, standIns := [], harness := (true, "9d2d740fd49024af7923ad0bb2033dc47e177e4763f201557d18eb52b08dfae9"), looks := false }, kinds := [], alts := [], laidByText := true, laidKinds := [.data], laidTests := true, laidLooks := .later }
def DehnAreaUptoCardSaid : Prop := Claim7.holds Tryz.pinned (.plain (OpenSpec.upto dehnAreaSpec)) dehnAreaUptoCard

/-- THE SECOND FORM's CARD OF 'cayleylaw23.DehnGreendlinger'. -/
def dehnGreendlingerUptoCard : Claim7 := { stood := { row := dehnGreendlingerUptoRow, standIns := [], harness := (true, "9d2d740fd49024af7923ad0bb2033dc47e177e4763f201557d18eb52b08dfae9"), looks := false }, kinds := [], alts := [], laidByText := true, laidKinds := [.data], laidTests := true, laidLooks := .later }
def DehnGreendlingerUptoCardSaid : Prop := Claim7.holds Tryz.pinned (.plain (OpenSpec.upto dehnGreendlingerSpec)) dehnGreendlingerUptoCard
end Rows
end Go.Proofs.YtaccklloepfemaaGreatDoor
