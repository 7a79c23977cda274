/-
  NARROWER THAN 'FOR EVERY INPUT', by the rows' own cells (each row's printed sentence says how): DigitsPlain: laid · DigitsBases: laid · DigitsSums: laid · DigitsSmall: laid · DigitsLaws: laid.
  DERIVED. THE GIVEN ROWS OF THIS SEAT. 5 by the template 'for every input the law returns true; each argument reads behind the call as it read before'; 0 by the template 'total and deterministic' (their statements: YtdnmllklceaknaaDoorTotals.lean).
  GIVEN WITH THE SEED: the statements are not yours to turn. If you find one false, say at which input.
  Laid BY PROGRAM, IN A SANDBOX (cutbox-rows.mjs): the forced cells as the released guide's own fill.sh prints them over the translation cf287f16845d2a9b… (all of the seat's roots in one cut). By AI agents, Wed Nov 11 2026. No macro, syntax, notation, axiom, sorry.
-/
import Derived.Test.YtdnmllklceaknaaDoorChecked
import GoSem.PinnedTables
import GoSem.Claim
import GoSem.ClaimJoined
import GoSem.ClaimMapViews
import Derived.JoinedTies
import Derived.KernelRfl
namespace Go.Proofs.YtdnmllklceaknaaDoor
/- THE CELL 'sum', in the pinned program and in every row, IS THE sha256 OF THE DUMP (.gsa) THAT YtdnmllklceaknaaDoorProg.lean LOADS. Nothing in Lean hashes anything: it is a label: what it is worth is what the hold of that sum in a sandbox is worth. -/
noncomputable def Tryd.pinned : Pinned := { name := "ytdnmllklceaknaadoor", sum := "cf287f16845d2a9b250943365b420e1bdf2d5ce1d30d55ae8d98ae335a9e7daf", checked := Tryd.checked }
namespace Rows
def none {H : Type} : Left H := { results := [], args := [] }

/- WHAT THE LISTED PACKAGE-LEVEL VARIABLES READ AS WHEN THE CALL BEGINS. Each datum BY PROGRAM (the guide's laid-datum.mjs) off the statement by which the dump's own 'gosem.cut.vars' lays the variable. In a bare row this is a premise. The card (YtdnmllklceaknaaDoorCards.lean) ties it to the program's text. -/
def laid_unicode_utf8_acceptRanges {H : Type} : DataW H := .agg [.agg [.lit (.int .u8 128), .lit (.int .u8 191)], .agg [.lit (.int .u8 160), .lit (.int .u8 191)], .agg [.lit (.int .u8 128), .lit (.int .u8 159)], .agg [.lit (.int .u8 144), .lit (.int .u8 191)], .agg [.lit (.int .u8 128), .lit (.int .u8 143)], .agg [.lit (.int .u8 0), .lit (.int .u8 0)], .agg [.lit (.int .u8 0), .lit (.int .u8 0)], .agg [.lit (.int .u8 0), .lit (.int .u8 0)], .agg [.lit (.int .u8 0), .lit (.int .u8 0)], .agg [.lit (.int .u8 0), .lit (.int .u8 0)], .agg [.lit (.int .u8 0), .lit (.int .u8 0)], .agg [.lit (.int .u8 0), .lit (.int .u8 0)], .agg [.lit (.int .u8 0), .lit (.int .u8 0)], .agg [.lit (.int .u8 0), .lit (.int .u8 0)], .agg [.lit (.int .u8 0), .lit (.int .u8 0)], .agg [.lit (.int .u8 0), .lit (.int .u8 0)]]
/-- One of Go's own tables, pinned by name: the form's constant. -/
def laid_unicode_utf8_first : DataW Unit := Go.Pinned.utf8First

/-- 'marginalialaw4.DigitsPlain': WHATEVER THE INPUT: true; the input reads as it did. -/
def digitsPlainSpec : ChangeSpec := { name := "digitsPlain", fn := fun _ => fun
  | [d1, d2] => { results := [.lit (.bool true)], args := [d1, d2] }
  | _ => none }
def digitsPlainRow : OpenClaim := { program := "ytdnmllklceaknaadoor", sum := "cf287f16845d2a9b250943365b420e1bdf2d5ce1d30d55ae8d98ae335a9e7daf", func := "marginalia/marginalialaw4.DigitsPlain", spec := "digitsPlain", inPlace := ["internal/abi.NoEscape", "internal/bytealg.IndexByteString", "internal/bytealg.IndexString"], named := ["unicode/utf8.first", "unicode/utf8.acceptRanges", "internal/bytealg.MaxLen"], apart := false, laid := [("unicode/utf8.acceptRanges", laid_unicode_utf8_acceptRanges), ("unicode/utf8.first", laid_unicode_utf8_first)] }
def DigitsPlainSaid : Prop := digitsPlainRow.holds Tryd.pinned (OpenSpec.ofChange digitsPlainSpec)

/-- ITS FALSE NEIGHBOUR: 'it returns false'. Refute it at one input. -/
def digitsPlainWrong : ChangeSpec := { name := "digitsPlain", fn := fun _ => fun
  | [d1, d2] => { results := [.lit (.bool false)], args := [d1, d2] }
  | _ => none }
def DigitsPlainWrongFalsely : Prop := digitsPlainRow.holds Tryd.pinned (OpenSpec.ofChange digitsPlainWrong)

/-- 'marginalialaw4.DigitsBases': WHATEVER THE INPUT: true; the input reads as it did. -/
def digitsBasesSpec : ChangeSpec := { name := "digitsBases", fn := fun _ => fun
  | [d1, d2] => { results := [.lit (.bool true)], args := [d1, d2] }
  | _ => none }
def digitsBasesRow : OpenClaim := { program := "ytdnmllklceaknaadoor", sum := "cf287f16845d2a9b250943365b420e1bdf2d5ce1d30d55ae8d98ae335a9e7daf", func := "marginalia/marginalialaw4.DigitsBases", spec := "digitsBases", inPlace := ["internal/abi.NoEscape", "internal/bytealg.IndexByteString", "internal/bytealg.IndexString"], recurses := true, named := ["unicode/utf8.first", "unicode/utf8.acceptRanges", "internal/bytealg.MaxLen"], apart := false, laid := [("unicode/utf8.acceptRanges", laid_unicode_utf8_acceptRanges), ("unicode/utf8.first", laid_unicode_utf8_first)] }
def DigitsBasesSaid : Prop := digitsBasesRow.holds Tryd.pinned (OpenSpec.ofChange digitsBasesSpec)

/-- ITS FALSE NEIGHBOUR: 'it returns false'. Refute it at one input. -/
def digitsBasesWrong : ChangeSpec := { name := "digitsBases", fn := fun _ => fun
  | [d1, d2] => { results := [.lit (.bool false)], args := [d1, d2] }
  | _ => none }
def DigitsBasesWrongFalsely : Prop := digitsBasesRow.holds Tryd.pinned (OpenSpec.ofChange digitsBasesWrong)

/-- 'marginalialaw4.DigitsSums': WHATEVER THE INPUT: true; the input reads as it did. -/
def digitsSumsSpec : ChangeSpec := { name := "digitsSums", fn := fun _ => fun
  | [d1, d2, d3] => { results := [.lit (.bool true)], args := [d1, d2, d3] }
  | _ => none }
def digitsSumsRow : OpenClaim := { program := "ytdnmllklceaknaadoor", sum := "cf287f16845d2a9b250943365b420e1bdf2d5ce1d30d55ae8d98ae335a9e7daf", func := "marginalia/marginalialaw4.DigitsSums", spec := "digitsSums", inPlace := ["internal/abi.NoEscape", "internal/bytealg.IndexByteString", "internal/bytealg.IndexString"], named := ["unicode/utf8.first", "unicode/utf8.acceptRanges", "internal/bytealg.MaxLen"], apart := false, laid := [("unicode/utf8.acceptRanges", laid_unicode_utf8_acceptRanges), ("unicode/utf8.first", laid_unicode_utf8_first)] }
def DigitsSumsSaid : Prop := digitsSumsRow.holds Tryd.pinned (OpenSpec.ofChange digitsSumsSpec)

/-- ITS FALSE NEIGHBOUR: 'it returns false'. Refute it at one input. -/
def digitsSumsWrong : ChangeSpec := { name := "digitsSums", fn := fun _ => fun
  | [d1, d2, d3] => { results := [.lit (.bool false)], args := [d1, d2, d3] }
  | _ => none }
def DigitsSumsWrongFalsely : Prop := digitsSumsRow.holds Tryd.pinned (OpenSpec.ofChange digitsSumsWrong)

/-- 'marginalialaw4.DigitsSmall': WHATEVER THE INPUT: true; the input reads as it did. -/
def digitsSmallSpec : ChangeSpec := { name := "digitsSmall", fn := fun _ => fun
  | [d1, d2, d3] => { results := [.lit (.bool true)], args := [d1, d2, d3] }
  | _ => none }
def digitsSmallRow : OpenClaim := { program := "ytdnmllklceaknaadoor", sum := "cf287f16845d2a9b250943365b420e1bdf2d5ce1d30d55ae8d98ae335a9e7daf", func := "marginalia/marginalialaw4.DigitsSmall", spec := "digitsSmall", inPlace := ["internal/abi.NoEscape", "internal/bytealg.IndexByteString", "internal/bytealg.IndexString"], recurses := true, named := ["unicode/utf8.first", "unicode/utf8.acceptRanges", "internal/bytealg.MaxLen"], apart := false, laid := [("unicode/utf8.acceptRanges", laid_unicode_utf8_acceptRanges), ("unicode/utf8.first", laid_unicode_utf8_first)] }
def DigitsSmallSaid : Prop := digitsSmallRow.holds Tryd.pinned (OpenSpec.ofChange digitsSmallSpec)

/-- ITS FALSE NEIGHBOUR: 'it returns false'. Refute it at one input. -/
def digitsSmallWrong : ChangeSpec := { name := "digitsSmall", fn := fun _ => fun
  | [d1, d2, d3] => { results := [.lit (.bool false)], args := [d1, d2, d3] }
  | _ => none }
def DigitsSmallWrongFalsely : Prop := digitsSmallRow.holds Tryd.pinned (OpenSpec.ofChange digitsSmallWrong)

/-- 'marginalialaw4.DigitsLaws': WHATEVER THE INPUT: true; the input reads as it did. -/
def digitsLawsSpec : ChangeSpec := { name := "digitsLaws", fn := fun _ => fun
  | [d1, d2, d3, d4] => { results := [.lit (.bool true)], args := [d1, d2, d3, d4] }
  | _ => none }
def digitsLawsRow : OpenClaim := { program := "ytdnmllklceaknaadoor", sum := "cf287f16845d2a9b250943365b420e1bdf2d5ce1d30d55ae8d98ae335a9e7daf", func := "marginalia/marginalialaw4.DigitsLaws", spec := "digitsLaws", inPlace := ["internal/abi.NoEscape", "internal/bytealg.IndexByteString", "internal/bytealg.IndexString"], named := ["unicode/utf8.first", "unicode/utf8.acceptRanges", "internal/bytealg.MaxLen"], apart := false, laid := [("unicode/utf8.acceptRanges", laid_unicode_utf8_acceptRanges), ("unicode/utf8.first", laid_unicode_utf8_first)] }
def DigitsLawsSaid : Prop := digitsLawsRow.holds Tryd.pinned (OpenSpec.ofChange digitsLawsSpec)

/-- ITS FALSE NEIGHBOUR: 'it returns false'. Refute it at one input. -/
def digitsLawsWrong : ChangeSpec := { name := "digitsLaws", fn := fun _ => fun
  | [d1, d2, d3, d4] => { results := [.lit (.bool false)], args := [d1, d2, d3, d4] }
  | _ => none }
def DigitsLawsWrongFalsely : Prop := digitsLawsRow.holds Tryd.pinned (OpenSpec.ofChange digitsLawsWrong)

/- THE SECOND FORM. 'bulk': how many values and letters a reading holds, each counted each time it is reached (what is shared counts as often as it is met; a slice's spare places count too). A statement '..UptoSaid' is the law's where the arguments, and the package variables that the reading takes, are together of bulk at most 1048576: NARROWER than '..Said'. Prove '..Said' where nothing that the law and all that it calls make is longer than what came in: it says more and counts as full. Else prove '..UptoSaid'. A law counts once. -/
mutual
def uptoBulk {H : Type} : DataW H → Nat
  | .lit (.string bytes) => bytes.length + 1
  | .lit _ => 1
  | .nil => 1
  | .ptr d => uptoBulk d + 1
  | .slice elems spare => uptoBulkAll elems + uptoBulkAll spare + 1
  | .agg parts => uptoBulkAll parts + 1
  | .iface _ d => uptoBulk d + 1
  | .map entries => uptoBulkEntries entries + 1
  | .held _ => 1
def uptoBulkAll {H : Type} : List (DataW H) → Nat
  | [] => 0
  | d :: r => uptoBulk d + uptoBulkAll r
def uptoBulkEntries {H : Type} : List (Lit × DataW H) → Nat
  | [] => 0
  | x :: r => uptoBulkEntry x + uptoBulkEntries r
def uptoBulkEntry {H : Type} : Lit × DataW H → Nat
  | (.string bytes, d) => bytes.length + uptoBulk d + 1
  | (_, d) => uptoBulk d + 1
 end
def uptoSmall : (H : Type) → List (DataW H) → Bool := fun _ ds => decide (uptoBulkAll ds ≤ 1048576)
def OpenSpec.upto (s : _root_.Go.ChangeSpec) : _root_.Go.OpenSpec := { _root_.Go.OpenSpec.ofChange s with cond := some uptoSmall }

/-- 'marginalialaw4.DigitsPlain', WHERE WHAT IT READS IS OF BULK AT MOST 1048576: true; the input reads as it did. -/
def digitsPlainUptoRow : OpenClaim := { program := "ytdnmllklceaknaadoor", sum := "cf287f16845d2a9b250943365b420e1bdf2d5ce1d30d55ae8d98ae335a9e7daf", func := "marginalia/marginalialaw4.DigitsPlain", spec := "digitsPlain", inPlace := ["internal/abi.NoEscape", "internal/bytealg.IndexByteString", "internal/bytealg.IndexString"], named := ["unicode/utf8.first", "unicode/utf8.acceptRanges", "internal/bytealg.MaxLen"], apart := false, laid := [("unicode/utf8.acceptRanges", laid_unicode_utf8_acceptRanges), ("unicode/utf8.first", laid_unicode_utf8_first)], narrowed := true }
def DigitsPlainUptoSaid : Prop := digitsPlainUptoRow.holds Tryd.pinned (OpenSpec.upto digitsPlainSpec)

/-- 'marginalialaw4.DigitsBases', WHERE WHAT IT READS IS OF BULK AT MOST 1048576: true; the input reads as it did. -/
def digitsBasesUptoRow : OpenClaim := { program := "ytdnmllklceaknaadoor", sum := "cf287f16845d2a9b250943365b420e1bdf2d5ce1d30d55ae8d98ae335a9e7daf", func := "marginalia/marginalialaw4.DigitsBases", spec := "digitsBases", inPlace := ["internal/abi.NoEscape", "internal/bytealg.IndexByteString", "internal/bytealg.IndexString"], recurses := true, named := ["unicode/utf8.first", "unicode/utf8.acceptRanges", "internal/bytealg.MaxLen"], apart := false, laid := [("unicode/utf8.acceptRanges", laid_unicode_utf8_acceptRanges), ("unicode/utf8.first", laid_unicode_utf8_first)], narrowed := true }
def DigitsBasesUptoSaid : Prop := digitsBasesUptoRow.holds Tryd.pinned (OpenSpec.upto digitsBasesSpec)

/-- 'marginalialaw4.DigitsSums', WHERE WHAT IT READS IS OF BULK AT MOST 1048576: true; the input reads as it did. -/
def digitsSumsUptoRow : OpenClaim := { program := "ytdnmllklceaknaadoor", sum := "cf287f16845d2a9b250943365b420e1bdf2d5ce1d30d55ae8d98ae335a9e7daf", func := "marginalia/marginalialaw4.DigitsSums", spec := "digitsSums", inPlace := ["internal/abi.NoEscape", "internal/bytealg.IndexByteString", "internal/bytealg.IndexString"], named := ["unicode/utf8.first", "unicode/utf8.acceptRanges", "internal/bytealg.MaxLen"], apart := false, laid := [("unicode/utf8.acceptRanges", laid_unicode_utf8_acceptRanges), ("unicode/utf8.first", laid_unicode_utf8_first)], narrowed := true }
def DigitsSumsUptoSaid : Prop := digitsSumsUptoRow.holds Tryd.pinned (OpenSpec.upto digitsSumsSpec)

/-- 'marginalialaw4.DigitsSmall', WHERE WHAT IT READS IS OF BULK AT MOST 1048576: true; the input reads as it did. -/
def digitsSmallUptoRow : OpenClaim := { program := "ytdnmllklceaknaadoor", sum := "cf287f16845d2a9b250943365b420e1bdf2d5ce1d30d55ae8d98ae335a9e7daf", func := "marginalia/marginalialaw4.DigitsSmall", spec := "digitsSmall", inPlace := ["internal/abi.NoEscape", "internal/bytealg.IndexByteString", "internal/bytealg.IndexString"], recurses := true, named := ["unicode/utf8.first", "unicode/utf8.acceptRanges", "internal/bytealg.MaxLen"], apart := false, laid := [("unicode/utf8.acceptRanges", laid_unicode_utf8_acceptRanges), ("unicode/utf8.first", laid_unicode_utf8_first)], narrowed := true }
def DigitsSmallUptoSaid : Prop := digitsSmallUptoRow.holds Tryd.pinned (OpenSpec.upto digitsSmallSpec)

/-- 'marginalialaw4.DigitsLaws', WHERE WHAT IT READS IS OF BULK AT MOST 1048576: true; the input reads as it did. -/
def digitsLawsUptoRow : OpenClaim := { program := "ytdnmllklceaknaadoor", sum := "cf287f16845d2a9b250943365b420e1bdf2d5ce1d30d55ae8d98ae335a9e7daf", func := "marginalia/marginalialaw4.DigitsLaws", spec := "digitsLaws", inPlace := ["internal/abi.NoEscape", "internal/bytealg.IndexByteString", "internal/bytealg.IndexString"], named := ["unicode/utf8.first", "unicode/utf8.acceptRanges", "internal/bytealg.MaxLen"], apart := false, laid := [("unicode/utf8.acceptRanges", laid_unicode_utf8_acceptRanges), ("unicode/utf8.first", laid_unicode_utf8_first)], narrowed := true }
def DigitsLawsUptoSaid : Prop := digitsLawsUptoRow.holds Tryd.pinned (OpenSpec.upto digitsLawsSpec)

end Rows
end Go.Proofs.YtdnmllklceaknaaDoor
