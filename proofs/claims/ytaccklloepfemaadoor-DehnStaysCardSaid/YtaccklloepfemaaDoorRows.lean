/-
  NARROWER THAN 'FOR EVERY INPUT', by the rows' own cells (each row's printed sentence says how): DehnGroup: laid · DehnSame: laid · DehnStays: laid.
  DERIVED. THE GIVEN ROWS OF THIS SEAT. 3 by the template 'for every input the law returns true; each argument reads behind the call as it read before'; 0 by the template 'total and deterministic' (their statements: YtaccklloepfemaaDoorTotals.lean).
  GIVEN WITH THE SEED: the statements are not yours to turn. If you find one false, say at which input.
  Laid BY PROGRAM, IN A SANDBOX (cutbox-rows.mjs): the forced cells as the released guide's own fill.sh prints them over the translation 237b0c9f2b6ac063… (all of the seat's roots in one cut). By AI agents, Wed Nov 11 2026. No macro, syntax, notation, axiom, sorry.
-/
import Derived.Test.YtaccklloepfemaaDoorChecked
import GoSem.Claim
import GoSem.ClaimJoined
import GoSem.ClaimMapViews
import Derived.JoinedTies
import Derived.KernelRfl
namespace Go.Proofs.YtaccklloepfemaaDoor
/- THE CELL 'sum', in the pinned program and in every row, IS THE sha256 OF THE DUMP (.gsa) THAT YtaccklloepfemaaDoorProg.lean LOADS. Nothing in Lean hashes anything: it is a label: what it is worth is what the hold of that sum in a sandbox is worth. -/
noncomputable def Tryd.pinned : Pinned := { name := "ytaccklloepfemaadoor", sum := "237b0c9f2b6ac063bc310ab72e4143a19a5823d7a6180407a8a0e3ebec6e0846", checked := Tryd.checked }
namespace Rows
def none {H : Type} : Left H := { results := [], args := [] }

/- WHAT THE LISTED PACKAGE-LEVEL VARIABLES READ AS WHEN THE CALL BEGINS. Each datum BY PROGRAM (the guide's laid-datum.mjs) off the statement by which the dump's own 'gosem.cut.vars' lays the variable. In a bare row this is a premise. The card (YtaccklloepfemaaDoorCards.lean) ties it to the program's text. -/
def laid_cayley_word_letters {H : Type} : DataW H := .agg [.lit (.int .u8 97), .lit (.int .u8 65), .lit (.int .u8 98), .lit (.int .u8 66), .lit (.int .u8 99), .lit (.int .u8 67), .lit (.int .u8 100), .lit (.int .u8 68), .lit (.int .u8 101), .lit (.int .u8 69), .lit (.int .u8 102), .lit (.int .u8 70), .lit (.int .u8 103), .lit (.int .u8 71), .lit (.int .u8 104), .lit (.int .u8 72)]

/-- 'cayleylaw23.DehnGroup': WHATEVER THE INPUT: true; the input reads as it did. -/
def dehnGroupSpec : ChangeSpec := { name := "dehnGroup", fn := fun _ => fun
  | [d1, d2, d3, d4] => { results := [.lit (.bool true)], args := [d1, d2, d3, d4] }
  | _ => none }
def dehnGroupRow : OpenClaim := { program := "ytaccklloepfemaadoor", sum := "237b0c9f2b6ac063bc310ab72e4143a19a5823d7a6180407a8a0e3ebec6e0846", func := "cayley/cayleylaw23.DehnGroup", spec := "dehnGroup", unfollowed := true, recurses := true, named := ["cayley/word.letters"], apart := false, laid := [("cayley/word.letters", laid_cayley_word_letters)] }
def DehnGroupSaid : Prop := dehnGroupRow.holds Tryd.pinned (OpenSpec.ofChange dehnGroupSpec)

/-- ITS FALSE NEIGHBOUR: 'it returns false'. Refute it at one input. -/
def dehnGroupWrong : ChangeSpec := { name := "dehnGroup", fn := fun _ => fun
  | [d1, d2, d3, d4] => { results := [.lit (.bool false)], args := [d1, d2, d3, d4] }
  | _ => none }
def DehnGroupWrongFalsely : Prop := dehnGroupRow.holds Tryd.pinned (OpenSpec.ofChange dehnGroupWrong)

/-- 'cayleylaw23.DehnSame': WHATEVER THE INPUT: true; the input reads as it did. -/
def dehnSameSpec : ChangeSpec := { name := "dehnSame", fn := fun _ => fun
  | [d1, d2, d3] => { results := [.lit (.bool true)], args := [d1, d2, d3] }
  | _ => none }
def dehnSameRow : OpenClaim := { program := "ytaccklloepfemaadoor", sum := "237b0c9f2b6ac063bc310ab72e4143a19a5823d7a6180407a8a0e3ebec6e0846", func := "cayley/cayleylaw23.DehnSame", spec := "dehnSame", unfollowed := true, recurses := true, named := ["cayley/word.letters"], apart := false, laid := [("cayley/word.letters", laid_cayley_word_letters)] }
def DehnSameSaid : Prop := dehnSameRow.holds Tryd.pinned (OpenSpec.ofChange dehnSameSpec)

/-- ITS FALSE NEIGHBOUR: 'it returns false'. Refute it at one input. -/
def dehnSameWrong : ChangeSpec := { name := "dehnSame", fn := fun _ => fun
  | [d1, d2, d3] => { results := [.lit (.bool false)], args := [d1, d2, d3] }
  | _ => none }
def DehnSameWrongFalsely : Prop := dehnSameRow.holds Tryd.pinned (OpenSpec.ofChange dehnSameWrong)

/-- 'cayleylaw23.DehnStays': WHATEVER THE INPUT: true; the input reads as it did. -/
def dehnStaysSpec : ChangeSpec := { name := "dehnStays", fn := fun _ => fun
  | [d1, d2] => { results := [.lit (.bool true)], args := [d1, d2] }
  | _ => none }
def dehnStaysRow : OpenClaim := { program := "ytaccklloepfemaadoor", sum := "237b0c9f2b6ac063bc310ab72e4143a19a5823d7a6180407a8a0e3ebec6e0846", func := "cayley/cayleylaw23.DehnStays", spec := "dehnStays", unfollowed := true, recurses := true, named := ["cayley/word.letters"], apart := false, laid := [("cayley/word.letters", laid_cayley_word_letters)] }
def DehnStaysSaid : Prop := dehnStaysRow.holds Tryd.pinned (OpenSpec.ofChange dehnStaysSpec)

/-- ITS FALSE NEIGHBOUR: 'it returns false'. Refute it at one input. -/
def dehnStaysWrong : ChangeSpec := { name := "dehnStays", fn := fun _ => fun
  | [d1, d2] => { results := [.lit (.bool false)], args := [d1, d2] }
  | _ => none }
def DehnStaysWrongFalsely : Prop := dehnStaysRow.holds Tryd.pinned (OpenSpec.ofChange dehnStaysWrong)

/- THE SECOND FORM. 'bulk': how many values and letters a reading holds, each counted each time it is reached (what is shared counts as often as it is met; a slice's spare places count too). A statement '..UptoSaid' is the law's where the arguments, and the package variables that the reading takes, are together of bulk at most 1048576: NARROWER than '..Said'. Prove '..Said' where nothing that the law and all that it calls make is longer than what came in: it says more and counts as full. Else prove '..UptoSaid'. A law counts once. -/
mutual
def uptoBulk {H : Type} : DataW H → Nat
  | .lit (.string bytes) => bytes.length + 1
  | .lit _ => 1
  | .nil => 1
  | .ptr d => uptoBulk d + 1
  | .slice elems spare => uptoBulkAll elems + uptoBulkAll spare + 1
  | .agg parts => uptoBulkAll parts + 1
  | .iface _ d => uptoBulk d + 1
  | .map entries => uptoBulkEntries entries + 1
  | .held _ => 1
def uptoBulkAll {H : Type} : List (DataW H) → Nat
  | [] => 0
  | d :: r => uptoBulk d + uptoBulkAll r
def uptoBulkEntries {H : Type} : List (Lit × DataW H) → Nat
  | [] => 0
  | x :: r => uptoBulkEntry x + uptoBulkEntries r
def uptoBulkEntry {H : Type} : Lit × DataW H → Nat
  | (.string bytes, d) => bytes.length + uptoBulk d + 1
  | (_, d) => uptoBulk d + 1
 end
def uptoSmall : (H : Type) → List (DataW H) → Bool := fun _ ds => decide (uptoBulkAll ds ≤ 1048576)
def OpenSpec.upto (s : _root_.Go.ChangeSpec) : _root_.Go.OpenSpec := { _root_.Go.OpenSpec.ofChange s with cond := some uptoSmall }

/-- 'cayleylaw23.DehnGroup', WHERE WHAT IT READS IS OF BULK AT MOST 1048576: true; the input reads as it did. -/
def dehnGroupUptoRow : OpenClaim := { program := "ytaccklloepfemaadoor", sum := "237b0c9f2b6ac063bc310ab72e4143a19a5823d7a6180407a8a0e3ebec6e0846", func := "cayley/cayleylaw23.DehnGroup", spec := "dehnGroup", unfollowed := true, recurses := true, named := ["cayley/word.letters"], apart := false, laid := [("cayley/word.letters", laid_cayley_word_letters)], narrowed := true }
def DehnGroupUptoSaid : Prop := dehnGroupUptoRow.holds Tryd.pinned (OpenSpec.upto dehnGroupSpec)

/-- 'cayleylaw23.DehnSame', WHERE WHAT IT READS IS OF BULK AT MOST 1048576: true; the input reads as it did. -/
def dehnSameUptoRow : OpenClaim := { program := "ytaccklloepfemaadoor", sum := "237b0c9f2b6ac063bc310ab72e4143a19a5823d7a6180407a8a0e3ebec6e0846", func := "cayley/cayleylaw23.DehnSame", spec := "dehnSame", unfollowed := true, recurses := true, named := ["cayley/word.letters"], apart := false, laid := [("cayley/word.letters", laid_cayley_word_letters)], narrowed := true }
def DehnSameUptoSaid : Prop := dehnSameUptoRow.holds Tryd.pinned (OpenSpec.upto dehnSameSpec)

/-- 'cayleylaw23.DehnStays', WHERE WHAT IT READS IS OF BULK AT MOST 1048576: true; the input reads as it did. -/
def dehnStaysUptoRow : OpenClaim := { program := "ytaccklloepfemaadoor", sum := "237b0c9f2b6ac063bc310ab72e4143a19a5823d7a6180407a8a0e3ebec6e0846", func := "cayley/cayleylaw23.DehnStays", spec := "dehnStays", unfollowed := true, recurses := true, named := ["cayley/word.letters"], apart := false, laid := [("cayley/word.letters", laid_cayley_word_letters)], narrowed := true }
def DehnStaysUptoSaid : Prop := dehnStaysUptoRow.holds Tryd.pinned (OpenSpec.upto dehnStaysSpec)

end Rows
end Go.Proofs.YtaccklloepfemaaDoor
