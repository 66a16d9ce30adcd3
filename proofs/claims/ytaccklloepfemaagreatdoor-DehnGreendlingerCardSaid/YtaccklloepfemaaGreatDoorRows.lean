/-
  NARROWER THAN 'FOR EVERY INPUT', by the rows' own cells (each row's printed sentence says how): DehnShortens: laid · DehnDecides: laid · DehnArea: laid · DehnGreendlinger: laid.
  DERIVED. THE GIVEN ROWS OF THIS SEAT. 4 by the template 'for every input the law returns true; each argument reads behind the call as it read before'; 0 by the template 'total and deterministic' (their statements: YtaccklloepfemaaGreatDoorTotals.lean).
  GIVEN WITH THE SEED: the statements are not yours to turn. If you find one false, say at which input.
  Laid BY PROGRAM, IN A SANDBOX (cutbox-rows.mjs): the forced cells as the released guide's own fill.sh prints them over the translation 4fbc59082b18262d… (all of the seat's roots in one cut). By AI agents, Wed Nov 11 2026. No macro, syntax, notation, axiom, sorry.
-/
import Derived.Test.YtaccklloepfemaaGreatDoorChecked
import GoSem.Claim
import GoSem.ClaimJoined
import GoSem.ClaimMapViews
import Derived.JoinedTies
import Derived.KernelRfl
namespace Go.Proofs.YtaccklloepfemaaGreatDoor
/- THE CELL 'sum', in the pinned program and in every row, IS THE sha256 OF THE DUMP (.gsa) THAT YtaccklloepfemaaGreatDoorProg.lean LOADS. Nothing in Lean hashes anything: it is a label: what it is worth is what the hold of that sum in a sandbox is worth. -/
noncomputable def Tryz.pinned : Pinned := { name := "ytaccklloepfemaagreatdoor", sum := "4fbc59082b18262da1bda9aa70058ca9df71e42c1d54dd6392c302675646bdf9", checked := Tryz.checked }
namespace Rows
def none {H : Type} : Left H := { results := [], args := [] }

/- WHAT THE LISTED PACKAGE-LEVEL VARIABLES READ AS WHEN THE CALL BEGINS. Each datum BY PROGRAM (the guide's laid-datum.mjs) off the statement by which the dump's own 'gosem.cut.vars' lays the variable. In a bare row this is a premise. The card (YtaccklloepfemaaGreatDoorCards.lean) ties it to the program's text. -/
def laid_cayley_word_letters {H : Type} : DataW H := .agg [.lit (.int .u8 97), .lit (.int .u8 65), .lit (.int .u8 98), .lit (.int .u8 66), .lit (.int .u8 99), .lit (.int .u8 67), .lit (.int .u8 100), .lit (.int .u8 68), .lit (.int .u8 101), .lit (.int .u8 69), .lit (.int .u8 102), .lit (.int .u8 70), .lit (.int .u8 103), .lit (.int .u8 71), .lit (.int .u8 104), .lit (.int .u8 72)]

/-- 'cayleylaw23.DehnShortens': WHATEVER THE INPUT: true; the input reads as it did. -/
def dehnShortensSpec : ChangeSpec := { name := "dehnShortens", fn := fun _ => fun
  | [d1, d2] => { results := [.lit (.bool true)], args := [d1, d2] }
  | _ => none }
def dehnShortensRow : OpenClaim := { program := "ytaccklloepfemaagreatdoor", sum := "4fbc59082b18262da1bda9aa70058ca9df71e42c1d54dd6392c302675646bdf9", func := "cayley/cayleylaw23.DehnShortens", spec := "dehnShortens", unfollowed := true, recurses := true, named := ["cayley/word.letters"], apart := false, laid := [("cayley/word.letters", laid_cayley_word_letters)] }
def DehnShortensSaid : Prop := dehnShortensRow.holds Tryz.pinned (OpenSpec.ofChange dehnShortensSpec)

/-- ITS FALSE NEIGHBOUR: 'it returns false'. Refute it at one input. -/
def dehnShortensWrong : ChangeSpec := { name := "dehnShortens", fn := fun _ => fun
  | [d1, d2] => { results := [.lit (.bool false)], args := [d1, d2] }
  | _ => none }
def DehnShortensWrongFalsely : Prop := dehnShortensRow.holds Tryz.pinned (OpenSpec.ofChange dehnShortensWrong)

/-- 'cayleylaw23.DehnDecides': WHATEVER THE INPUT: true; the input reads as it did. -/
def dehnDecidesSpec : ChangeSpec := { name := "dehnDecides", fn := fun _ => fun
  | [d1, d2] => { results := [.lit (.bool true)], args := [d1, d2] }
  | _ => none }
def dehnDecidesRow : OpenClaim := { program := "ytaccklloepfemaagreatdoor", sum := "4fbc59082b18262da1bda9aa70058ca9df71e42c1d54dd6392c302675646bdf9", func := "cayley/cayleylaw23.DehnDecides", spec := "dehnDecides", unfollowed := true, recurses := true, named := ["cayley/word.letters"], apart := false, laid := [("cayley/word.letters", laid_cayley_word_letters)] }
def DehnDecidesSaid : Prop := dehnDecidesRow.holds Tryz.pinned (OpenSpec.ofChange dehnDecidesSpec)

/-- ITS FALSE NEIGHBOUR: 'it returns false'. Refute it at one input. -/
def dehnDecidesWrong : ChangeSpec := { name := "dehnDecides", fn := fun _ => fun
  | [d1, d2] => { results := [.lit (.bool false)], args := [d1, d2] }
  | _ => none }
def DehnDecidesWrongFalsely : Prop := dehnDecidesRow.holds Tryz.pinned (OpenSpec.ofChange dehnDecidesWrong)

/-- 'cayleylaw23.DehnArea': WHATEVER THE INPUT: true; the input reads as it did. -/
def dehnAreaSpec : ChangeSpec := { name := "dehnArea", fn := fun _ => fun
  | [d1, d2] => { results := [.lit (.bool true)], args := [d1, d2] }
  | _ => none }
def dehnAreaRow : OpenClaim := { program := "ytaccklloepfemaagreatdoor", sum := "4fbc59082b18262da1bda9aa70058ca9df71e42c1d54dd6392c302675646bdf9", func := "cayley/cayleylaw23.DehnArea", spec := "dehnArea", unfollowed := true, recurses := true, named := ["cayley/word.letters"], apart := false, laid := [("cayley/word.letters", laid_cayley_word_letters)] }
def DehnAreaSaid : Prop := dehnAreaRow.holds Tryz.pinned (OpenSpec.ofChange dehnAreaSpec)

/-- ITS FALSE NEIGHBOUR: 'it returns false'. Refute it at one input. -/
def dehnAreaWrong : ChangeSpec := { name := "dehnArea", fn := fun _ => fun
  | [d1, d2] => { results := [.lit (.bool false)], args := [d1, d2] }
  | _ => none }
def DehnAreaWrongFalsely : Prop := dehnAreaRow.holds Tryz.pinned (OpenSpec.ofChange dehnAreaWrong)

/-- 'cayleylaw23.DehnGreendlinger': WHATEVER THE INPUT: true; the input reads as it did. -/
def dehnGreendlingerSpec : ChangeSpec := { name := "dehnGreendlinger", fn := fun _ => fun
  | [d1, d2, d3] => { results := [.lit (.bool true)], args := [d1, d2, d3] }
  | _ => none }
def dehnGreendlingerRow : OpenClaim := { program := "ytaccklloepfemaagreatdoor", sum := "4fbc59082b18262da1bda9aa70058ca9df71e42c1d54dd6392c302675646bdf9", func := "cayley/cayleylaw23.DehnGreendlinger", spec := "dehnGreendlinger", unfollowed := true, recurses := true, named := ["cayley/word.letters"], apart := false, laid := [("cayley/word.letters", laid_cayley_word_letters)] }
def DehnGreendlingerSaid : Prop := dehnGreendlingerRow.holds Tryz.pinned (OpenSpec.ofChange dehnGreendlingerSpec)

/-- ITS FALSE NEIGHBOUR: 'it returns false'. Refute it at one input. -/
def dehnGreendlingerWrong : ChangeSpec := { name := "dehnGreendlinger", fn := fun _ => fun
  | [d1, d2, d3] => { results := [.lit (.bool false)], args := [d1, d2, d3] }
  | _ => none }
def DehnGreendlingerWrongFalsely : Prop := dehnGreendlingerRow.holds Tryz.pinned (OpenSpec.ofChange dehnGreendlingerWrong)

/- THE SECOND FORM. 'bulk': how many values and letters a reading holds, each counted each time it is reached (what is shared counts as often as it is met; a slice's spare places count too). A statement '..UptoSaid' is the law's where the arguments, and the package variables that the reading takes, are together of bulk at most 1048576: NARROWER than '..Said'. Prove '..Said' where nothing that the law and all that it calls make is longer than what came in: it says more and counts as full. Else prove '..UptoSaid'. A law counts once. -/
mutual
def uptoBulk {H : Type} : DataW H → Nat
  | .lit (.string bytes) => bytes.length + 1
  | .lit _ => 1
  | .nil => 1
  | .ptr d => uptoBulk d + 1
  | .slice elems spare => uptoBulkAll elems + uptoBulkAll spare + 1
  | .agg parts => uptoBulkAll parts + 1
  | .iface _ d => uptoBulk d + 1
  | .map entries => uptoBulkEntries entries + 1
  | .held _ => 1
def uptoBulkAll {H : Type} : List (DataW H) → Nat
  | [] => 0
  | d :: r => uptoBulk d + uptoBulkAll r
def uptoBulkEntries {H : Type} : List (Lit × DataW H) → Nat
  | [] => 0
  | x :: r => uptoBulkEntry x + uptoBulkEntries r
def uptoBulkEntry {H : Type} : Lit × DataW H → Nat
  | (.string bytes, d) => bytes.length + uptoBulk d + 1
  | (_, d) => uptoBulk d + 1
 end
def uptoSmall : (H : Type) → List (DataW H) → Bool := fun _ ds => decide (uptoBulkAll ds ≤ 1048576)
def OpenSpec.upto (s : _root_.Go.ChangeSpec) : _root_.Go.OpenSpec := { _root_.Go.OpenSpec.ofChange s with cond := some uptoSmall }

/-- 'cayleylaw23.DehnShortens', WHERE WHAT IT READS IS OF BULK AT MOST 1048576: true; the input reads as it did. -/
def dehnShortensUptoRow : OpenClaim := { program := "ytaccklloepfemaagreatdoor", sum := "4fbc59082b18262da1bda9aa70058ca9df71e42c1d54dd6392c302675646bdf9", func := "cayley/cayleylaw23.DehnShortens", spec := "dehnShortens", unfollowed := true, recurses := true, named := ["cayley/word.letters"], apart := false, laid := [("cayley/word.letters", laid_cayley_word_letters)], narrowed := true }
def DehnShortensUptoSaid : Prop := dehnShortensUptoRow.holds Tryz.pinned (OpenSpec.upto dehnShortensSpec)

/-- 'cayleylaw23.DehnDecides', WHERE WHAT IT READS IS OF BULK AT MOST 1048576: true; the input reads as it did. -/
def dehnDecidesUptoRow : OpenClaim := { program := "ytaccklloepfemaagreatdoor", sum := "4fbc59082b18262da1bda9aa70058ca9df71e42c1d54dd6392c302675646bdf9", func := "cayley/cayleylaw23.DehnDecides", spec := "dehnDecides", unfollowed := true, recurses := true, named := ["cayley/word.letters"], apart := false, laid := [("cayley/word.letters", laid_cayley_word_letters)], narrowed := true }
def DehnDecidesUptoSaid : Prop := dehnDecidesUptoRow.holds Tryz.pinned (OpenSpec.upto dehnDecidesSpec)

/-- 'cayleylaw23.DehnArea', WHERE WHAT IT READS IS OF BULK AT MOST 1048576: true; the input reads as it did. -/
def dehnAreaUptoRow : OpenClaim := { program := "ytaccklloepfemaagreatdoor", sum := "4fbc59082b18262da1bda9aa70058ca9df71e42c1d54dd6392c302675646bdf9", func := "cayley/cayleylaw23.DehnArea", spec := "dehnArea", unfollowed := true, recurses := true, named := ["cayley/word.letters"], apart := false, laid := [("cayley/word.letters", laid_cayley_word_letters)], narrowed := true }
def DehnAreaUptoSaid : Prop := dehnAreaUptoRow.holds Tryz.pinned (OpenSpec.upto dehnAreaSpec)

/-- 'cayleylaw23.DehnGreendlinger', WHERE WHAT IT READS IS OF BULK AT MOST 1048576: true; the input reads as it did. -/
def dehnGreendlingerUptoRow : OpenClaim := { program := "ytaccklloepfemaagreatdoor", sum := "4fbc59082b18262da1bda9aa70058ca9df71e42c1d54dd6392c302675646bdf9", func := "cayley/cayleylaw23.DehnGreendlinger", spec := "dehnGreendlinger", unfollowed := true, recurses := true, named := ["cayley/word.letters"], apart := false, laid := [("cayley/word.letters", laid_cayley_word_letters)], narrowed := true }
def DehnGreendlingerUptoSaid : Prop := dehnGreendlingerUptoRow.holds Tryz.pinned (OpenSpec.upto dehnGreendlingerSpec)

end Rows
end Go.Proofs.YtaccklloepfemaaGreatDoor
