/-
  NARROWER THAN 'FOR EVERY INPUT', by the rows' own cells (each row's printed sentence says how): RewriteBasics: laid · RewriteReduces: laid · RewriteConfluent: laid · RewriteMoves: laid · RewriteAcceptor: laid · RewriteMinimal: laid · RewriteStays: laid.
  DERIVED. THE GIVEN ROWS OF THIS SEAT. 7 by the template 'for every input the law returns true; each argument reads behind the call as it read before'; 0 by the template 'total and deterministic' (their statements: YtjppkekmddjcfaaGreatDoorTotals.lean).
  GIVEN WITH THE SEED: the statements are not yours to turn. If you find one false, say at which input.
  Laid BY PROGRAM, IN A SANDBOX (cutbox-rows.mjs): the forced cells as the released guide's own fill.sh prints them over the translation fd4f39005d4db9bd… (all of the seat's roots in one cut). By AI agents, Wed Nov 11 2026. No macro, syntax, notation, axiom, sorry.
-/
import Derived.Test.YtjppkekmddjcfaaGreatDoorChecked
import GoSem.Claim
import GoSem.ClaimJoined
import GoSem.ClaimMapViews
import Derived.JoinedTies
import Derived.KernelRfl
namespace Go.Proofs.YtjppkekmddjcfaaGreatDoor
/- THE CELL 'sum', in the pinned program and in every row, IS THE sha256 OF THE DUMP (.gsa) THAT YtjppkekmddjcfaaGreatDoorProg.lean LOADS. Nothing in Lean hashes anything: it is a label: what it is worth is what the hold of that sum in a sandbox is worth. -/
noncomputable def Tryz.pinned : Pinned := { name := "ytjppkekmddjcfaagreatdoor", sum := "fd4f39005d4db9bd1f3819ce315103e51e630967d81eff323bdcc19194ca280f", checked := Tryz.checked }
namespace Rows
def none {H : Type} : Left H := { results := [], args := [] }

/- WHAT THE LISTED PACKAGE-LEVEL VARIABLES READ AS WHEN THE CALL BEGINS. Each datum BY PROGRAM (the guide's laid-datum.mjs) off the statement by which the dump's own 'gosem.cut.vars' lays the variable. In a bare row this is a premise. The card (YtjppkekmddjcfaaGreatDoorCards.lean) ties it to the program's text. -/
def laid_math_bits_deBruijn32tab {H : Type} : DataW H := .agg [.lit (.int .u8 0), .lit (.int .u8 1), .lit (.int .u8 28), .lit (.int .u8 2), .lit (.int .u8 29), .lit (.int .u8 14), .lit (.int .u8 24), .lit (.int .u8 3), .lit (.int .u8 30), .lit (.int .u8 22), .lit (.int .u8 20), .lit (.int .u8 15), .lit (.int .u8 25), .lit (.int .u8 17), .lit (.int .u8 4), .lit (.int .u8 8), .lit (.int .u8 31), .lit (.int .u8 27), .lit (.int .u8 13), .lit (.int .u8 23), .lit (.int .u8 21), .lit (.int .u8 19), .lit (.int .u8 16), .lit (.int .u8 7), .lit (.int .u8 26), .lit (.int .u8 12), .lit (.int .u8 18), .lit (.int .u8 6), .lit (.int .u8 11), .lit (.int .u8 5), .lit (.int .u8 10), .lit (.int .u8 9)]
def laid_math_bits_deBruijn64tab {H : Type} : DataW H := .agg [.lit (.int .u8 0), .lit (.int .u8 1), .lit (.int .u8 56), .lit (.int .u8 2), .lit (.int .u8 57), .lit (.int .u8 49), .lit (.int .u8 28), .lit (.int .u8 3), .lit (.int .u8 61), .lit (.int .u8 58), .lit (.int .u8 42), .lit (.int .u8 50), .lit (.int .u8 38), .lit (.int .u8 29), .lit (.int .u8 17), .lit (.int .u8 4), .lit (.int .u8 62), .lit (.int .u8 47), .lit (.int .u8 59), .lit (.int .u8 36), .lit (.int .u8 45), .lit (.int .u8 43), .lit (.int .u8 51), .lit (.int .u8 22), .lit (.int .u8 53), .lit (.int .u8 39), .lit (.int .u8 33), .lit (.int .u8 30), .lit (.int .u8 24), .lit (.int .u8 18), .lit (.int .u8 12), .lit (.int .u8 5), .lit (.int .u8 63), .lit (.int .u8 55), .lit (.int .u8 48), .lit (.int .u8 27), .lit (.int .u8 60), .lit (.int .u8 41), .lit (.int .u8 37), .lit (.int .u8 16), .lit (.int .u8 46), .lit (.int .u8 35), .lit (.int .u8 44), .lit (.int .u8 21), .lit (.int .u8 52), .lit (.int .u8 32), .lit (.int .u8 23), .lit (.int .u8 11), .lit (.int .u8 54), .lit (.int .u8 26), .lit (.int .u8 40), .lit (.int .u8 15), .lit (.int .u8 34), .lit (.int .u8 20), .lit (.int .u8 31), .lit (.int .u8 10), .lit (.int .u8 25), .lit (.int .u8 14), .lit (.int .u8 19), .lit (.int .u8 9), .lit (.int .u8 13), .lit (.int .u8 8), .lit (.int .u8 7), .lit (.int .u8 6)]
def laid_internal_strconv_uint64pow10 {H : Type} : DataW H := .agg [.lit (.int .u64 1), .lit (.int .u64 10), .lit (.int .u64 100), .lit (.int .u64 1000), .lit (.int .u64 10000), .lit (.int .u64 100000), .lit (.int .u64 1000000), .lit (.int .u64 10000000), .lit (.int .u64 100000000), .lit (.int .u64 1000000000), .lit (.int .u64 10000000000), .lit (.int .u64 100000000000), .lit (.int .u64 1000000000000), .lit (.int .u64 10000000000000), .lit (.int .u64 100000000000000), .lit (.int .u64 1000000000000000), .lit (.int .u64 10000000000000000), .lit (.int .u64 100000000000000000), .lit (.int .u64 1000000000000000000), .lit (.int .u64 10000000000000000000)]
def laid_cayley_word_letters {H : Type} : DataW H := .agg [.lit (.int .u8 97), .lit (.int .u8 65), .lit (.int .u8 98), .lit (.int .u8 66), .lit (.int .u8 99), .lit (.int .u8 67), .lit (.int .u8 100), .lit (.int .u8 68), .lit (.int .u8 101), .lit (.int .u8 69), .lit (.int .u8 102), .lit (.int .u8 70), .lit (.int .u8 103), .lit (.int .u8 71), .lit (.int .u8 104), .lit (.int .u8 72)]

/-- 'cayleylaw10.RewriteBasics': WHATEVER THE INPUT: true; the input reads as it did. -/
def rewriteBasicsSpec : ChangeSpec := { name := "rewriteBasics", fn := fun _ => fun
  | [d1, d2, d3] => { results := [.lit (.bool true)], args := [d1, d2, d3] }
  | _ => none }
def rewriteBasicsRow : OpenClaim := { program := "ytjppkekmddjcfaagreatdoor", sum := "fd4f39005d4db9bd1f3819ce315103e51e630967d81eff323bdcc19194ca280f", func := "cayley/cayleylaw10.RewriteBasics", spec := "rewriteBasics", inPlace := ["internal/bytealg.IndexByteString", "internal/bytealg.IndexString"], unfollowed := true, recurses := true, named := ["cayley/word.letters", "internal/bytealg.MaxLen", "internal/strconv.uint64pow10", "math/bits.deBruijn32tab", "math/bits.deBruijn64tab"], plainKeys := false, apart := false, laid := [("math/bits.deBruijn32tab", laid_math_bits_deBruijn32tab), ("math/bits.deBruijn64tab", laid_math_bits_deBruijn64tab), ("internal/strconv.uint64pow10", laid_internal_strconv_uint64pow10), ("cayley/word.letters", laid_cayley_word_letters)] }
def RewriteBasicsSaid : Prop := rewriteBasicsRow.holds Tryz.pinned (OpenSpec.ofChange rewriteBasicsSpec)

/-- ITS FALSE NEIGHBOUR: 'it returns false'. Refute it at one input. -/
def rewriteBasicsWrong : ChangeSpec := { name := "rewriteBasics", fn := fun _ => fun
  | [d1, d2, d3] => { results := [.lit (.bool false)], args := [d1, d2, d3] }
  | _ => none }
def RewriteBasicsWrongFalsely : Prop := rewriteBasicsRow.holds Tryz.pinned (OpenSpec.ofChange rewriteBasicsWrong)

/-- 'cayleylaw10.RewriteReduces': WHATEVER THE INPUT: true; the input reads as it did. -/
def rewriteReducesSpec : ChangeSpec := { name := "rewriteReduces", fn := fun _ => fun
  | [d1, d2] => { results := [.lit (.bool true)], args := [d1, d2] }
  | _ => none }
def rewriteReducesRow : OpenClaim := { program := "ytjppkekmddjcfaagreatdoor", sum := "fd4f39005d4db9bd1f3819ce315103e51e630967d81eff323bdcc19194ca280f", func := "cayley/cayleylaw10.RewriteReduces", spec := "rewriteReduces", inPlace := ["internal/bytealg.IndexByteString", "internal/bytealg.IndexString"], unfollowed := true, recurses := true, named := ["cayley/word.letters", "internal/bytealg.MaxLen", "internal/strconv.uint64pow10", "math/bits.deBruijn32tab", "math/bits.deBruijn64tab"], plainKeys := false, apart := false, laid := [("math/bits.deBruijn32tab", laid_math_bits_deBruijn32tab), ("math/bits.deBruijn64tab", laid_math_bits_deBruijn64tab), ("internal/strconv.uint64pow10", laid_internal_strconv_uint64pow10), ("cayley/word.letters", laid_cayley_word_letters)] }
def RewriteReducesSaid : Prop := rewriteReducesRow.holds Tryz.pinned (OpenSpec.ofChange rewriteReducesSpec)

/-- ITS FALSE NEIGHBOUR: 'it returns false'. Refute it at one input. -/
def rewriteReducesWrong : ChangeSpec := { name := "rewriteReduces", fn := fun _ => fun
  | [d1, d2] => { results := [.lit (.bool false)], args := [d1, d2] }
  | _ => none }
def RewriteReducesWrongFalsely : Prop := rewriteReducesRow.holds Tryz.pinned (OpenSpec.ofChange rewriteReducesWrong)

/-- 'cayleylaw10.RewriteConfluent': WHATEVER THE INPUT: true; the input reads as it did. -/
def rewriteConfluentSpec : ChangeSpec := { name := "rewriteConfluent", fn := fun _ => fun
  | [d1, d2, d3] => { results := [.lit (.bool true)], args := [d1, d2, d3] }
  | _ => none }
def rewriteConfluentRow : OpenClaim := { program := "ytjppkekmddjcfaagreatdoor", sum := "fd4f39005d4db9bd1f3819ce315103e51e630967d81eff323bdcc19194ca280f", func := "cayley/cayleylaw10.RewriteConfluent", spec := "rewriteConfluent", inPlace := ["internal/bytealg.IndexByteString", "internal/bytealg.IndexString"], unfollowed := true, recurses := true, named := ["cayley/word.letters", "internal/bytealg.MaxLen", "internal/strconv.uint64pow10", "math/bits.deBruijn32tab", "math/bits.deBruijn64tab"], plainKeys := false, apart := false, laid := [("math/bits.deBruijn32tab", laid_math_bits_deBruijn32tab), ("math/bits.deBruijn64tab", laid_math_bits_deBruijn64tab), ("internal/strconv.uint64pow10", laid_internal_strconv_uint64pow10), ("cayley/word.letters", laid_cayley_word_letters)] }
def RewriteConfluentSaid : Prop := rewriteConfluentRow.holds Tryz.pinned (OpenSpec.ofChange rewriteConfluentSpec)

/-- ITS FALSE NEIGHBOUR: 'it returns false'. Refute it at one input. -/
def rewriteConfluentWrong : ChangeSpec := { name := "rewriteConfluent", fn := fun _ => fun
  | [d1, d2, d3] => { results := [.lit (.bool false)], args := [d1, d2, d3] }
  | _ => none }
def RewriteConfluentWrongFalsely : Prop := rewriteConfluentRow.holds Tryz.pinned (OpenSpec.ofChange rewriteConfluentWrong)

/-- 'cayleylaw10.RewriteMoves': WHATEVER THE INPUT: true; the input reads as it did. -/
def rewriteMovesSpec : ChangeSpec := { name := "rewriteMoves", fn := fun _ => fun
  | [d1, d2, d3] => { results := [.lit (.bool true)], args := [d1, d2, d3] }
  | _ => none }
def rewriteMovesRow : OpenClaim := { program := "ytjppkekmddjcfaagreatdoor", sum := "fd4f39005d4db9bd1f3819ce315103e51e630967d81eff323bdcc19194ca280f", func := "cayley/cayleylaw10.RewriteMoves", spec := "rewriteMoves", inPlace := ["internal/bytealg.IndexByteString", "internal/bytealg.IndexString"], unfollowed := true, recurses := true, named := ["cayley/word.letters", "internal/bytealg.MaxLen", "internal/strconv.uint64pow10", "math/bits.deBruijn32tab", "math/bits.deBruijn64tab"], plainKeys := false, apart := false, laid := [("math/bits.deBruijn32tab", laid_math_bits_deBruijn32tab), ("math/bits.deBruijn64tab", laid_math_bits_deBruijn64tab), ("internal/strconv.uint64pow10", laid_internal_strconv_uint64pow10), ("cayley/word.letters", laid_cayley_word_letters)] }
def RewriteMovesSaid : Prop := rewriteMovesRow.holds Tryz.pinned (OpenSpec.ofChange rewriteMovesSpec)

/-- ITS FALSE NEIGHBOUR: 'it returns false'. Refute it at one input. -/
def rewriteMovesWrong : ChangeSpec := { name := "rewriteMoves", fn := fun _ => fun
  | [d1, d2, d3] => { results := [.lit (.bool false)], args := [d1, d2, d3] }
  | _ => none }
def RewriteMovesWrongFalsely : Prop := rewriteMovesRow.holds Tryz.pinned (OpenSpec.ofChange rewriteMovesWrong)

/-- 'cayleylaw10.RewriteAcceptor': WHATEVER THE INPUT: true; the input reads as it did. -/
def rewriteAcceptorSpec : ChangeSpec := { name := "rewriteAcceptor", fn := fun _ => fun
  | [d1, d2] => { results := [.lit (.bool true)], args := [d1, d2] }
  | _ => none }
def rewriteAcceptorRow : OpenClaim := { program := "ytjppkekmddjcfaagreatdoor", sum := "fd4f39005d4db9bd1f3819ce315103e51e630967d81eff323bdcc19194ca280f", func := "cayley/cayleylaw10.RewriteAcceptor", spec := "rewriteAcceptor", inPlace := ["internal/bytealg.IndexByteString", "internal/bytealg.IndexString"], unfollowed := true, recurses := true, named := ["cayley/word.letters", "internal/bytealg.MaxLen", "internal/strconv.uint64pow10", "math/bits.deBruijn32tab", "math/bits.deBruijn64tab"], plainKeys := false, apart := false, laid := [("math/bits.deBruijn32tab", laid_math_bits_deBruijn32tab), ("math/bits.deBruijn64tab", laid_math_bits_deBruijn64tab), ("internal/strconv.uint64pow10", laid_internal_strconv_uint64pow10), ("cayley/word.letters", laid_cayley_word_letters)] }
def RewriteAcceptorSaid : Prop := rewriteAcceptorRow.holds Tryz.pinned (OpenSpec.ofChange rewriteAcceptorSpec)

/-- ITS FALSE NEIGHBOUR: 'it returns false'. Refute it at one input. -/
def rewriteAcceptorWrong : ChangeSpec := { name := "rewriteAcceptor", fn := fun _ => fun
  | [d1, d2] => { results := [.lit (.bool false)], args := [d1, d2] }
  | _ => none }
def RewriteAcceptorWrongFalsely : Prop := rewriteAcceptorRow.holds Tryz.pinned (OpenSpec.ofChange rewriteAcceptorWrong)

/-- 'cayleylaw10.RewriteMinimal': WHATEVER THE INPUT: true; the input reads as it did. -/
def rewriteMinimalSpec : ChangeSpec := { name := "rewriteMinimal", fn := fun _ => fun
  | [d1, d2, d3] => { results := [.lit (.bool true)], args := [d1, d2, d3] }
  | _ => none }
def rewriteMinimalRow : OpenClaim := { program := "ytjppkekmddjcfaagreatdoor", sum := "fd4f39005d4db9bd1f3819ce315103e51e630967d81eff323bdcc19194ca280f", func := "cayley/cayleylaw10.RewriteMinimal", spec := "rewriteMinimal", inPlace := ["internal/bytealg.IndexByteString", "internal/bytealg.IndexString"], unfollowed := true, recurses := true, named := ["cayley/word.letters", "internal/bytealg.MaxLen", "internal/strconv.uint64pow10", "math/bits.deBruijn32tab", "math/bits.deBruijn64tab"], plainKeys := false, apart := false, laid := [("math/bits.deBruijn32tab", laid_math_bits_deBruijn32tab), ("math/bits.deBruijn64tab", laid_math_bits_deBruijn64tab), ("internal/strconv.uint64pow10", laid_internal_strconv_uint64pow10), ("cayley/word.letters", laid_cayley_word_letters)] }
def RewriteMinimalSaid : Prop := rewriteMinimalRow.holds Tryz.pinned (OpenSpec.ofChange rewriteMinimalSpec)

/-- ITS FALSE NEIGHBOUR: 'it returns false'. Refute it at one input. -/
def rewriteMinimalWrong : ChangeSpec := { name := "rewriteMinimal", fn := fun _ => fun
  | [d1, d2, d3] => { results := [.lit (.bool false)], args := [d1, d2, d3] }
  | _ => none }
def RewriteMinimalWrongFalsely : Prop := rewriteMinimalRow.holds Tryz.pinned (OpenSpec.ofChange rewriteMinimalWrong)

/-- 'cayleylaw10.RewriteStays': WHATEVER THE INPUT: true; the input reads as it did. -/
def rewriteStaysSpec : ChangeSpec := { name := "rewriteStays", fn := fun _ => fun
  | [d1, d2] => { results := [.lit (.bool true)], args := [d1, d2] }
  | _ => none }
def rewriteStaysRow : OpenClaim := { program := "ytjppkekmddjcfaagreatdoor", sum := "fd4f39005d4db9bd1f3819ce315103e51e630967d81eff323bdcc19194ca280f", func := "cayley/cayleylaw10.RewriteStays", spec := "rewriteStays", inPlace := ["internal/bytealg.IndexByteString", "internal/bytealg.IndexString"], unfollowed := true, recurses := true, named := ["cayley/word.letters", "internal/bytealg.MaxLen", "internal/strconv.uint64pow10", "math/bits.deBruijn32tab", "math/bits.deBruijn64tab"], plainKeys := false, apart := false, laid := [("math/bits.deBruijn32tab", laid_math_bits_deBruijn32tab), ("math/bits.deBruijn64tab", laid_math_bits_deBruijn64tab), ("internal/strconv.uint64pow10", laid_internal_strconv_uint64pow10), ("cayley/word.letters", laid_cayley_word_letters)] }
def RewriteStaysSaid : Prop := rewriteStaysRow.holds Tryz.pinned (OpenSpec.ofChange rewriteStaysSpec)

/-- ITS FALSE NEIGHBOUR: 'it returns false'. Refute it at one input. -/
def rewriteStaysWrong : ChangeSpec := { name := "rewriteStays", fn := fun _ => fun
  | [d1, d2] => { results := [.lit (.bool false)], args := [d1, d2] }
  | _ => none }
def RewriteStaysWrongFalsely : Prop := rewriteStaysRow.holds Tryz.pinned (OpenSpec.ofChange rewriteStaysWrong)

/- THE SECOND FORM. 'bulk': how many values and letters a reading holds, each counted each time it is reached (what is shared counts as often as it is met; a slice's spare places count too). A statement '..UptoSaid' is the law's where the arguments, and the package variables that the reading takes, are together of bulk at most 1048576: NARROWER than '..Said'. Prove '..Said' where nothing that the law and all that it calls make is longer than what came in: it says more and counts as full. Else prove '..UptoSaid'. A law counts once. -/
mutual
def uptoBulk {H : Type} : DataW H → Nat
  | .lit (.string bytes) => bytes.length + 1
  | .lit _ => 1
  | .nil => 1
  | .ptr d => uptoBulk d + 1
  | .slice elems spare => uptoBulkAll elems + uptoBulkAll spare + 1
  | .agg parts => uptoBulkAll parts + 1
  | .iface _ d => uptoBulk d + 1
  | .map entries => uptoBulkEntries entries + 1
  | .held _ => 1
def uptoBulkAll {H : Type} : List (DataW H) → Nat
  | [] => 0
  | d :: r => uptoBulk d + uptoBulkAll r
def uptoBulkEntries {H : Type} : List (Lit × DataW H) → Nat
  | [] => 0
  | x :: r => uptoBulkEntry x + uptoBulkEntries r
def uptoBulkEntry {H : Type} : Lit × DataW H → Nat
  | (.string bytes, d) => bytes.length + uptoBulk d + 1
  | (_, d) => uptoBulk d + 1
 end
def uptoSmall : (H : Type) → List (DataW H) → Bool := fun _ ds => decide (uptoBulkAll ds ≤ 1048576)
def OpenSpec.upto (s : _root_.Go.ChangeSpec) : _root_.Go.OpenSpec := { _root_.Go.OpenSpec.ofChange s with cond := some uptoSmall }

/-- 'cayleylaw10.RewriteBasics', WHERE WHAT IT READS IS OF BULK AT MOST 1048576: true; the input reads as it did. -/
def rewriteBasicsUptoRow : OpenClaim := { program := "ytjppkekmddjcfaagreatdoor", sum := "fd4f39005d4db9bd1f3819ce315103e51e630967d81eff323bdcc19194ca280f", func := "cayley/cayleylaw10.RewriteBasics", spec := "rewriteBasics", inPlace := ["internal/bytealg.IndexByteString", "internal/bytealg.IndexString"], unfollowed := true, recurses := true, named := ["cayley/word.letters", "internal/bytealg.MaxLen", "internal/strconv.uint64pow10", "math/bits.deBruijn32tab", "math/bits.deBruijn64tab"], plainKeys := false, apart := false, laid := [("math/bits.deBruijn32tab", laid_math_bits_deBruijn32tab), ("math/bits.deBruijn64tab", laid_math_bits_deBruijn64tab), ("internal/strconv.uint64pow10", laid_internal_strconv_uint64pow10), ("cayley/word.letters", laid_cayley_word_letters)], narrowed := true }
def RewriteBasicsUptoSaid : Prop := rewriteBasicsUptoRow.holds Tryz.pinned (OpenSpec.upto rewriteBasicsSpec)

/-- 'cayleylaw10.RewriteReduces', WHERE WHAT IT READS IS OF BULK AT MOST 1048576: true; the input reads as it did. -/
def rewriteReducesUptoRow : OpenClaim := { program := "ytjppkekmddjcfaagreatdoor", sum := "fd4f39005d4db9bd1f3819ce315103e51e630967d81eff323bdcc19194ca280f", func := "cayley/cayleylaw10.RewriteReduces", spec := "rewriteReduces", inPlace := ["internal/bytealg.IndexByteString", "internal/bytealg.IndexString"], unfollowed := true, recurses := true, named := ["cayley/word.letters", "internal/bytealg.MaxLen", "internal/strconv.uint64pow10", "math/bits.deBruijn32tab", "math/bits.deBruijn64tab"], plainKeys := false, apart := false, laid := [("math/bits.deBruijn32tab", laid_math_bits_deBruijn32tab), ("math/bits.deBruijn64tab", laid_math_bits_deBruijn64tab), ("internal/strconv.uint64pow10", laid_internal_strconv_uint64pow10), ("cayley/word.letters", laid_cayley_word_letters)], narrowed := true }
def RewriteReducesUptoSaid : Prop := rewriteReducesUptoRow.holds Tryz.pinned (OpenSpec.upto rewriteReducesSpec)

/-- 'cayleylaw10.RewriteConfluent', WHERE WHAT IT READS IS OF BULK AT MOST 1048576: true; the input reads as it did. -/
def rewriteConfluentUptoRow : OpenClaim := { program := "ytjppkekmddjcfaagreatdoor", sum := "fd4f39005d4db9bd1f3819ce315103e51e630967d81eff323bdcc19194ca280f", func := "cayley/cayleylaw10.RewriteConfluent", spec := "rewriteConfluent", inPlace := ["internal/bytealg.IndexByteString", "internal/bytealg.IndexString"], unfollowed := true, recurses := true, named := ["cayley/word.letters", "internal/bytealg.MaxLen", "internal/strconv.uint64pow10", "math/bits.deBruijn32tab", "math/bits.deBruijn64tab"], plainKeys := false, apart := false, laid := [("math/bits.deBruijn32tab", laid_math_bits_deBruijn32tab), ("math/bits.deBruijn64tab", laid_math_bits_deBruijn64tab), ("internal/strconv.uint64pow10", laid_internal_strconv_uint64pow10), ("cayley/word.letters", laid_cayley_word_letters)], narrowed := true }
def RewriteConfluentUptoSaid : Prop := rewriteConfluentUptoRow.holds Tryz.pinned (OpenSpec.upto rewriteConfluentSpec)

/-- 'cayleylaw10.RewriteMoves', WHERE WHAT IT READS IS OF BULK AT MOST 1048576: true; the input reads as it did. -/
def rewriteMovesUptoRow : OpenClaim := { program := "ytjppkekmddjcfaagreatdoor", sum := "fd4f39005d4db9bd1f3819ce315103e51e630967d81eff323bdcc19194ca280f", func := "cayley/cayleylaw10.RewriteMoves", spec := "rewriteMoves", inPlace := ["internal/bytealg.IndexByteString", "internal/bytealg.IndexString"], unfollowed := true, recurses := true, named := ["cayley/word.letters", "internal/bytealg.MaxLen", "internal/strconv.uint64pow10", "math/bits.deBruijn32tab", "math/bits.deBruijn64tab"], plainKeys := false, apart := false, laid := [("math/bits.deBruijn32tab", laid_math_bits_deBruijn32tab), ("math/bits.deBruijn64tab", laid_math_bits_deBruijn64tab), ("internal/strconv.uint64pow10", laid_internal_strconv_uint64pow10), ("cayley/word.letters", laid_cayley_word_letters)], narrowed := true }
def RewriteMovesUptoSaid : Prop := rewriteMovesUptoRow.holds Tryz.pinned (OpenSpec.upto rewriteMovesSpec)

/-- 'cayleylaw10.RewriteAcceptor', WHERE WHAT IT READS IS OF BULK AT MOST 1048576: true; the input reads as it did. -/
def rewriteAcceptorUptoRow : OpenClaim := { program := "ytjppkekmddjcfaagreatdoor", sum := "fd4f39005d4db9bd1f3819ce315103e51e630967d81eff323bdcc19194ca280f", func := "cayley/cayleylaw10.RewriteAcceptor", spec := "rewriteAcceptor", inPlace := ["internal/bytealg.IndexByteString", "internal/bytealg.IndexString"], unfollowed := true, recurses := true, named := ["cayley/word.letters", "internal/bytealg.MaxLen", "internal/strconv.uint64pow10", "math/bits.deBruijn32tab", "math/bits.deBruijn64tab"], plainKeys := false, apart := false, laid := [("math/bits.deBruijn32tab", laid_math_bits_deBruijn32tab), ("math/bits.deBruijn64tab", laid_math_bits_deBruijn64tab), ("internal/strconv.uint64pow10", laid_internal_strconv_uint64pow10), ("cayley/word.letters", laid_cayley_word_letters)], narrowed := true }
def RewriteAcceptorUptoSaid : Prop := rewriteAcceptorUptoRow.holds Tryz.pinned (OpenSpec.upto rewriteAcceptorSpec)

/-- 'cayleylaw10.RewriteMinimal', WHERE WHAT IT READS IS OF BULK AT MOST 1048576: true; the input reads as it did. -/
def rewriteMinimalUptoRow : OpenClaim := { program := "ytjppkekmddjcfaagreatdoor", sum := "fd4f39005d4db9bd1f3819ce315103e51e630967d81eff323bdcc19194ca280f", func := "cayley/cayleylaw10.RewriteMinimal", spec := "rewriteMinimal", inPlace := ["internal/bytealg.IndexByteString", "internal/bytealg.IndexString"], unfollowed := true, recurses := true, named := ["cayley/word.letters", "internal/bytealg.MaxLen", "internal/strconv.uint64pow10", "math/bits.deBruijn32tab", "math/bits.deBruijn64tab"], plainKeys := false, apart := false, laid := [("math/bits.deBruijn32tab", laid_math_bits_deBruijn32tab), ("math/bits.deBruijn64tab", laid_math_bits_deBruijn64tab), ("internal/strconv.uint64pow10", laid_internal_strconv_uint64pow10), ("cayley/word.letters", laid_cayley_word_letters)], narrowed := true }
def RewriteMinimalUptoSaid : Prop := rewriteMinimalUptoRow.holds Tryz.pinned (OpenSpec.upto rewriteMinimalSpec)

/-- 'cayleylaw10.RewriteStays', WHERE WHAT IT READS IS OF BULK AT MOST 1048576: true; the input reads as it did. -/
def rewriteStaysUptoRow : OpenClaim := { program := "ytjppkekmddjcfaagreatdoor", sum := "fd4f39005d4db9bd1f3819ce315103e51e630967d81eff323bdcc19194ca280f", func := "cayley/cayleylaw10.RewriteStays", spec := "rewriteStays", inPlace := ["internal/bytealg.IndexByteString", "internal/bytealg.IndexString"], unfollowed := true, recurses := true, named := ["cayley/word.letters", "internal/bytealg.MaxLen", "internal/strconv.uint64pow10", "math/bits.deBruijn32tab", "math/bits.deBruijn64tab"], plainKeys := false, apart := false, laid := [("math/bits.deBruijn32tab", laid_math_bits_deBruijn32tab), ("math/bits.deBruijn64tab", laid_math_bits_deBruijn64tab), ("internal/strconv.uint64pow10", laid_internal_strconv_uint64pow10), ("cayley/word.letters", laid_cayley_word_letters)], narrowed := true }
def RewriteStaysUptoSaid : Prop := rewriteStaysUptoRow.holds Tryz.pinned (OpenSpec.upto rewriteStaysSpec)

end Rows
end Go.Proofs.YtjppkekmddjcfaaGreatDoor
