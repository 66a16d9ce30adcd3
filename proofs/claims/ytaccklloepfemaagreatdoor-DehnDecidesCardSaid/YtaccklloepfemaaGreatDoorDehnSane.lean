/- The values at the examples that the law asks for first. -/
import Derived.Test.YtaccklloepfemaaGreatDoorDehnLaw4
namespace Go.Proofs.YtaccklloepfemaaGreatDoor
set_option linter.unusedVariables false
set_option linter.unusedSimpArgs false
open Go Go.RowKit V
def sf : List (List UInt8) := [[97, 98, 65, 66, 99, 100, 67, 68]]
theorem sane_1 : rS 4 sf [97, 98, 65, 66, 99] = ([100, 99, 68], 1, 0) := by decide +kernel
theorem sane_2 : rTrivial 4 sf [97, 98, 65, 66, 99, 100, 67, 68] = (true, 0) ∧ (rS 4 sf [97, 98, 65, 66, 99, 100, 67, 68]).2.1 = 1 := by decide +kernel
theorem sane_3 : rTrivial 4 sf [97, 98] = (false, 0) := by decide +kernel
theorem sane_4 : rStuck 4 sf [97, 98, 65, 66] = (true, 0) := by decide +kernel
theorem sane_5 : rCyclic 4 sf [98, 97, 98, 65, 66, 99, 100, 67, 68, 66] = ([], 1, 0) := by decide +kernel
theorem sane_6 : (rS 1 [[97, 97, 97, 97, 97]] [97, 97, 97]).1 = [65, 65] ∧ (rS 1 [[97, 97, 97, 97, 97]] [97, 97, 97]).2.2 = 0 := by decide +kernel
theorem sane_7 : rVerified 4 sf = 0 := by decide +kernel
theorem sane_8 : rVerified 1 [[97, 97, 97, 97, 97]] = 0 := by decide +kernel
theorem sane_9 : rVerified 2 [[97, 98, 65, 66]] = 230 := by decide +kernel
end Go.Proofs.YtaccklloepfemaaGreatDoor
