/-
  DERIVED. GIVEN WITH THE SEED: THE CARDS: each row of YtaccklloepfemaaDoorRows.lean that lists a variable, with what it lists TIED to the program's text (the seventh form; the later family's looks); each row that meets fmt, with fmt's text TOLD by the authors' own Lean function (tested against real Go, not proved from fmt's source: count such statements apart). THE CARD IS WHAT COUNTS. Prove the row's statement (the work); the ties are given (YtaccklloepfemaaDoorTie.lean); close each card by the builder's one call (the guide's Derived/Test/ToyasCard.lean, 'card_holds'). Laid BY PROGRAM, IN A SANDBOX (cutbox-door.mjs). By AI agents, Wed Nov 11 2026. No macro, syntax, notation, axiom, sorry.
-/
import Derived.Test.YtaccklloepfemaaDoorRows
import GoSem.ClaimSeven
namespace Go.Proofs.YtaccklloepfemaaDoor
namespace Rows

/-- THE TIED CARD OF 'cayleylaw23.DehnGroup'. -/
def dehnGroupCard : Claim7 := { stood := { row := dehnGroupRow, standIns := [], harness := (true, "b7895f2716e5a42bf78152b055b5a2d37da7576524281f453cb038140d2d82ab"), looks := false }, kinds := [], alts := [], laidByText := true, laidKinds := [.data], laidTests := true, laidLooks := .later }
def DehnGroupCardSaid : Prop := Claim7.holds Tryd.pinned (.plain (OpenSpec.ofChange dehnGroupSpec)) dehnGroupCard

/-- THE TIED CARD OF 'cayleylaw23.DehnSame'. -/
def dehnSameCard : Claim7 := { stood := { row := dehnSameRow, standIns := [], harness := (true, "b7895f2716e5a42bf78152b055b5a2d37da7576524281f453cb038140d2d82ab"), looks := false }, kinds := [], alts := [], laidByText := true, laidKinds := [.data], laidTests := true, laidLooks := .later }
def DehnSameCardSaid : Prop := Claim7.holds Tryd.pinned (.plain (OpenSpec.ofChange dehnSameSpec)) dehnSameCard

/-- THE TIED CARD OF 'cayleylaw23.DehnStays'. -/
def dehnStaysCard : Claim7 := { stood := { row := dehnStaysRow, standIns := [], harness := (true, "b7895f2716e5a42bf78152b055b5a2d37da7576524281f453cb038140d2d82ab"), looks := false }, kinds := [], alts := [], laidByText := true, laidKinds := [.data], laidTests := true, laidLooks := .later }
def DehnStaysCardSaid : Prop := Claim7.holds Tryd.pinned (.plain (OpenSpec.ofChange dehnStaysSpec)) dehnStaysCard

/-- THE SECOND FORM's CARD OF 'cayleylaw23.DehnGroup'. -/
def dehnGroupUptoCard : Claim7 := { stood := { row := dehnGroupUptoRow, standIns := [], harness := (true, "b7895f2716e5a42bf78152b055b5a2d37da7576524281f453cb038140d2d82ab"), looks := false }, kinds := [], alts := [], laidByText := true, laidKinds := [.data], laidTests := true, laidLooks := .later }
def DehnGroupUptoCardSaid : Prop := Claim7.holds Tryd.pinned (.plain (OpenSpec.upto dehnGroupSpec)) dehnGroupUptoCard

/-- THE SECOND FORM's CARD OF 'cayleylaw23.DehnSame'. -/
def dehnSameUptoCard : Claim7 := { stood := { row := dehnSameUptoRow, standIns := [], harness := (true, "b7895f2716e5a42bf78152b055b5a2d37da7576524281f453cb038140d2d82ab"), looks := false }, kinds := [], alts := [], laidByText := true, laidKinds := [.data], laidTests := true, laidLooks := .later }
def DehnSameUptoCardSaid : Prop := Claim7.holds Tryd.pinned (.plain (OpenSpec.upto dehnSameSpec)) dehnSameUptoCard

/-- THE SECOND FORM's CARD OF 'cayleylaw23.DehnStays'. -/
def dehnStaysUptoCard : Claim7 := { stood := { row := dehnStaysUptoRow, standIns := [], harness := (true, "b7895f2716e5a42bf78152b055b5a2d37da7576524281f453cb038140d2d82ab"), looks := false }, kinds := [], alts := [], laidByText := true, laidKinds := [.data], laidTests := true, laidLooks := .later }
def DehnStaysUptoCardSaid : Prop := Claim7.holds Tryd.pinned (.plain (OpenSpec.upto dehnStaysSpec)) dehnStaysUptoCard
end Rows
end Go.Proofs.YtaccklloepfemaaDoor
