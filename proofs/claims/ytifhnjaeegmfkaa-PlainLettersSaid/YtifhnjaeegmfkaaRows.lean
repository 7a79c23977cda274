/-
  No cell of these rows narrows 'for every input' (looked for: loops, veiled, ifaces, maps, wideKeys, modest, calm, conditions, laid).
  DERIVED. THE GIVEN ROWS OF THIS SEAT. 7 by the template 'for every input the law returns true; each argument reads behind the call as it read before'; 0 by the template 'total and deterministic' (their statements: YtifhnjaeegmfkaaTotals.lean).
  GIVEN WITH THE SEED: the statements are not yours to turn. If you find one false, say at which input.
  Laid BY PROGRAM, IN A SANDBOX (cutbox-rows.mjs): the forced cells as the released guide's own fill.sh prints them over the translation 8ad2b285965263ac… (all of the seat's roots in one cut). By AI agents, Wed Nov 11 2026. No macro, syntax, notation, axiom, sorry.
-/
import Derived.Test.YtifhnjaeegmfkaaChecked
import GoSem.Claim
import GoSem.ClaimJoined
import GoSem.ClaimMapViews
import Derived.JoinedTies
import Derived.KernelRfl
namespace Go.Proofs.Ytifhnjaeegmfkaa
/- THE CELL 'sum', in the pinned program and in every row, IS THE sha256 OF THE DUMP (.gsa) THAT YtifhnjaeegmfkaaProg.lean LOADS. Nothing in Lean hashes anything: it is a label: what it is worth is what the hold of that sum in a sandbox is worth. -/
noncomputable def Try.pinned : Pinned := { name := "ytifhnjaeegmfkaa", sum := "8ad2b285965263acdcc905698edd0c61dcbe05f903af9754c115ae1bd4f97140", checked := Try.checked }
namespace Rows
def none {H : Type} : Left H := { results := [], args := [] }

/-- 'marginalialaw2.CharsKinds': WHATEVER THE INPUT: true; the input reads as it did. -/
def charsKindsSpec : ChangeSpec := { name := "charsKinds", fn := fun _ => fun
  | [d] => { results := [.lit (.bool true)], args := [d] }
  | _ => none }
def charsKindsRow : OpenClaim := { program := "ytifhnjaeegmfkaa", sum := "8ad2b285965263acdcc905698edd0c61dcbe05f903af9754c115ae1bd4f97140", func := "marginalia/marginalialaw2.CharsKinds", spec := "charsKinds", apart := false }
def CharsKindsSaid : Prop := charsKindsRow.holds Try.pinned (OpenSpec.ofChange charsKindsSpec)

/-- ITS FALSE NEIGHBOUR: 'it returns false'. Refute it at one input. -/
def charsKindsWrong : ChangeSpec := { name := "charsKinds", fn := fun _ => fun
  | [d] => { results := [.lit (.bool false)], args := [d] }
  | _ => none }
def CharsKindsWrongFalsely : Prop := charsKindsRow.holds Try.pinned (OpenSpec.ofChange charsKindsWrong)

/-- 'marginalialaw2.CharsWithin': WHATEVER THE INPUT: true; the input reads as it did. -/
def charsWithinSpec : ChangeSpec := { name := "charsWithin", fn := fun _ => fun
  | [d] => { results := [.lit (.bool true)], args := [d] }
  | _ => none }
def charsWithinRow : OpenClaim := { program := "ytifhnjaeegmfkaa", sum := "8ad2b285965263acdcc905698edd0c61dcbe05f903af9754c115ae1bd4f97140", func := "marginalia/marginalialaw2.CharsWithin", spec := "charsWithin", apart := false }
def CharsWithinSaid : Prop := charsWithinRow.holds Try.pinned (OpenSpec.ofChange charsWithinSpec)

/-- ITS FALSE NEIGHBOUR: 'it returns false'. Refute it at one input. -/
def charsWithinWrong : ChangeSpec := { name := "charsWithin", fn := fun _ => fun
  | [d] => { results := [.lit (.bool false)], args := [d] }
  | _ => none }
def CharsWithinWrongFalsely : Prop := charsWithinRow.holds Try.pinned (OpenSpec.ofChange charsWithinWrong)

/-- 'marginalialaw9.PlainFlow': WHATEVER THE INPUT: true; the input reads as it did. -/
def plainFlowSpec : ChangeSpec := { name := "plainFlow", fn := fun _ => fun
  | [d] => { results := [.lit (.bool true)], args := [d] }
  | _ => none }
def plainFlowRow : OpenClaim := { program := "ytifhnjaeegmfkaa", sum := "8ad2b285965263acdcc905698edd0c61dcbe05f903af9754c115ae1bd4f97140", func := "marginalia/marginalialaw9.PlainFlow", spec := "plainFlow", unfollowed := true, recurses := true, apart := false }
def PlainFlowSaid : Prop := plainFlowRow.holds Try.pinned (OpenSpec.ofChange plainFlowSpec)

/-- ITS FALSE NEIGHBOUR: 'it returns false'. Refute it at one input. -/
def plainFlowWrong : ChangeSpec := { name := "plainFlow", fn := fun _ => fun
  | [d] => { results := [.lit (.bool false)], args := [d] }
  | _ => none }
def PlainFlowWrongFalsely : Prop := plainFlowRow.holds Try.pinned (OpenSpec.ofChange plainFlowWrong)

/-- 'marginalialaw9.PlainEnds': WHATEVER THE INPUT: true; the input reads as it did. -/
def plainEndsSpec : ChangeSpec := { name := "plainEnds", fn := fun _ => fun
  | [d1, d2] => { results := [.lit (.bool true)], args := [d1, d2] }
  | _ => none }
def plainEndsRow : OpenClaim := { program := "ytifhnjaeegmfkaa", sum := "8ad2b285965263acdcc905698edd0c61dcbe05f903af9754c115ae1bd4f97140", func := "marginalia/marginalialaw9.PlainEnds", spec := "plainEnds", unfollowed := true, recurses := true, apart := false }
def PlainEndsSaid : Prop := plainEndsRow.holds Try.pinned (OpenSpec.ofChange plainEndsSpec)

/-- ITS FALSE NEIGHBOUR: 'it returns false'. Refute it at one input. -/
def plainEndsWrong : ChangeSpec := { name := "plainEnds", fn := fun _ => fun
  | [d1, d2] => { results := [.lit (.bool false)], args := [d1, d2] }
  | _ => none }
def PlainEndsWrongFalsely : Prop := plainEndsRow.holds Try.pinned (OpenSpec.ofChange plainEndsWrong)

/-- 'marginalialaw9.PlainAgain': WHATEVER THE INPUT: true; the input reads as it did. -/
def plainAgainSpec : ChangeSpec := { name := "plainAgain", fn := fun _ => fun
  | [d1, d2] => { results := [.lit (.bool true)], args := [d1, d2] }
  | _ => none }
def plainAgainRow : OpenClaim := { program := "ytifhnjaeegmfkaa", sum := "8ad2b285965263acdcc905698edd0c61dcbe05f903af9754c115ae1bd4f97140", func := "marginalia/marginalialaw9.PlainAgain", spec := "plainAgain", unfollowed := true, recurses := true, apart := false }
def PlainAgainSaid : Prop := plainAgainRow.holds Try.pinned (OpenSpec.ofChange plainAgainSpec)

/-- ITS FALSE NEIGHBOUR: 'it returns false'. Refute it at one input. -/
def plainAgainWrong : ChangeSpec := { name := "plainAgain", fn := fun _ => fun
  | [d1, d2] => { results := [.lit (.bool false)], args := [d1, d2] }
  | _ => none }
def PlainAgainWrongFalsely : Prop := plainAgainRow.holds Try.pinned (OpenSpec.ofChange plainAgainWrong)

/-- 'marginalialaw9.PlainLetters': WHATEVER THE INPUT: true; the input reads as it did. -/
def plainLettersSpec : ChangeSpec := { name := "plainLetters", fn := fun _ => fun
  | [d1, d2, d3] => { results := [.lit (.bool true)], args := [d1, d2, d3] }
  | _ => none }
def plainLettersRow : OpenClaim := { program := "ytifhnjaeegmfkaa", sum := "8ad2b285965263acdcc905698edd0c61dcbe05f903af9754c115ae1bd4f97140", func := "marginalia/marginalialaw9.PlainLetters", spec := "plainLetters", unfollowed := true, recurses := true, apart := false }
def PlainLettersSaid : Prop := plainLettersRow.holds Try.pinned (OpenSpec.ofChange plainLettersSpec)

/-- ITS FALSE NEIGHBOUR: 'it returns false'. Refute it at one input. -/
def plainLettersWrong : ChangeSpec := { name := "plainLetters", fn := fun _ => fun
  | [d1, d2, d3] => { results := [.lit (.bool false)], args := [d1, d2, d3] }
  | _ => none }
def PlainLettersWrongFalsely : Prop := plainLettersRow.holds Try.pinned (OpenSpec.ofChange plainLettersWrong)

/-- 'marginaliatop.TopNames': WHATEVER THE INPUT: true; the input reads as it did. -/
def topNamesSpec : ChangeSpec := { name := "topNames", fn := fun _ => fun
  | [] => { results := [.lit (.bool true)], args := [] }
  | _ => none }
def topNamesRow : OpenClaim := { program := "ytifhnjaeegmfkaa", sum := "8ad2b285965263acdcc905698edd0c61dcbe05f903af9754c115ae1bd4f97140", func := "marginalia/marginaliatop.TopNames", spec := "topNames", apart := false }
def TopNamesSaid : Prop := topNamesRow.holds Try.pinned (OpenSpec.ofChange topNamesSpec)

/-- ITS FALSE NEIGHBOUR: 'it returns false'. Refute it at one input. -/
def topNamesWrong : ChangeSpec := { name := "topNames", fn := fun _ => fun
  | [] => { results := [.lit (.bool false)], args := [] }
  | _ => none }
def TopNamesWrongFalsely : Prop := topNamesRow.holds Try.pinned (OpenSpec.ofChange topNamesWrong)

/- THE SECOND FORM. 'bulk': how many values and letters a reading holds, each counted each time it is reached (what is shared counts as often as it is met; a slice's spare places count too). A statement '..UptoSaid' is the law's where the arguments, and the package variables that the reading takes, are together of bulk at most 1048576: NARROWER than '..Said'. Prove '..Said' where nothing that the law and all that it calls make is longer than what came in: it says more and counts as full. Else prove '..UptoSaid'. A law counts once. -/
mutual
def uptoBulk {H : Type} : DataW H → Nat
  | .lit (.string bytes) => bytes.length + 1
  | .lit _ => 1
  | .nil => 1
  | .ptr d => uptoBulk d + 1
  | .slice elems spare => uptoBulkAll elems + uptoBulkAll spare + 1
  | .agg parts => uptoBulkAll parts + 1
  | .iface _ d => uptoBulk d + 1
  | .map entries => uptoBulkEntries entries + 1
  | .held _ => 1
def uptoBulkAll {H : Type} : List (DataW H) → Nat
  | [] => 0
  | d :: r => uptoBulk d + uptoBulkAll r
def uptoBulkEntries {H : Type} : List (Lit × DataW H) → Nat
  | [] => 0
  | x :: r => uptoBulkEntry x + uptoBulkEntries r
def uptoBulkEntry {H : Type} : Lit × DataW H → Nat
  | (.string bytes, d) => bytes.length + uptoBulk d + 1
  | (_, d) => uptoBulk d + 1
 end
def uptoSmall : (H : Type) → List (DataW H) → Bool := fun _ ds => decide (uptoBulkAll ds ≤ 1048576)
def OpenSpec.upto (s : _root_.Go.ChangeSpec) : _root_.Go.OpenSpec := { _root_.Go.OpenSpec.ofChange s with cond := some uptoSmall }

/-- 'marginalialaw2.CharsKinds', WHERE WHAT IT READS IS OF BULK AT MOST 1048576: true; the input reads as it did. -/
def charsKindsUptoRow : OpenClaim := { program := "ytifhnjaeegmfkaa", sum := "8ad2b285965263acdcc905698edd0c61dcbe05f903af9754c115ae1bd4f97140", func := "marginalia/marginalialaw2.CharsKinds", spec := "charsKinds", apart := false, narrowed := true }
def CharsKindsUptoSaid : Prop := charsKindsUptoRow.holds Try.pinned (OpenSpec.upto charsKindsSpec)

/-- 'marginalialaw2.CharsWithin', WHERE WHAT IT READS IS OF BULK AT MOST 1048576: true; the input reads as it did. -/
def charsWithinUptoRow : OpenClaim := { program := "ytifhnjaeegmfkaa", sum := "8ad2b285965263acdcc905698edd0c61dcbe05f903af9754c115ae1bd4f97140", func := "marginalia/marginalialaw2.CharsWithin", spec := "charsWithin", apart := false, narrowed := true }
def CharsWithinUptoSaid : Prop := charsWithinUptoRow.holds Try.pinned (OpenSpec.upto charsWithinSpec)

/-- 'marginalialaw9.PlainFlow', WHERE WHAT IT READS IS OF BULK AT MOST 1048576: true; the input reads as it did. -/
def plainFlowUptoRow : OpenClaim := { program := "ytifhnjaeegmfkaa", sum := "8ad2b285965263acdcc905698edd0c61dcbe05f903af9754c115ae1bd4f97140", func := "marginalia/marginalialaw9.PlainFlow", spec := "plainFlow", unfollowed := true, recurses := true, apart := false, narrowed := true }
def PlainFlowUptoSaid : Prop := plainFlowUptoRow.holds Try.pinned (OpenSpec.upto plainFlowSpec)

/-- 'marginalialaw9.PlainEnds', WHERE WHAT IT READS IS OF BULK AT MOST 1048576: true; the input reads as it did. -/
def plainEndsUptoRow : OpenClaim := { program := "ytifhnjaeegmfkaa", sum := "8ad2b285965263acdcc905698edd0c61dcbe05f903af9754c115ae1bd4f97140", func := "marginalia/marginalialaw9.PlainEnds", spec := "plainEnds", unfollowed := true, recurses := true, apart := false, narrowed := true }
def PlainEndsUptoSaid : Prop := plainEndsUptoRow.holds Try.pinned (OpenSpec.upto plainEndsSpec)

/-- 'marginalialaw9.PlainAgain', WHERE WHAT IT READS IS OF BULK AT MOST 1048576: true; the input reads as it did. -/
def plainAgainUptoRow : OpenClaim := { program := "ytifhnjaeegmfkaa", sum := "8ad2b285965263acdcc905698edd0c61dcbe05f903af9754c115ae1bd4f97140", func := "marginalia/marginalialaw9.PlainAgain", spec := "plainAgain", unfollowed := true, recurses := true, apart := false, narrowed := true }
def PlainAgainUptoSaid : Prop := plainAgainUptoRow.holds Try.pinned (OpenSpec.upto plainAgainSpec)

/-- 'marginalialaw9.PlainLetters', WHERE WHAT IT READS IS OF BULK AT MOST 1048576: true; the input reads as it did. -/
def plainLettersUptoRow : OpenClaim := { program := "ytifhnjaeegmfkaa", sum := "8ad2b285965263acdcc905698edd0c61dcbe05f903af9754c115ae1bd4f97140", func := "marginalia/marginalialaw9.PlainLetters", spec := "plainLetters", unfollowed := true, recurses := true, apart := false, narrowed := true }
def PlainLettersUptoSaid : Prop := plainLettersUptoRow.holds Try.pinned (OpenSpec.upto plainLettersSpec)

/-- 'marginaliatop.TopNames', WHERE WHAT IT READS IS OF BULK AT MOST 1048576: true; the input reads as it did. -/
def topNamesUptoRow : OpenClaim := { program := "ytifhnjaeegmfkaa", sum := "8ad2b285965263acdcc905698edd0c61dcbe05f903af9754c115ae1bd4f97140", func := "marginalia/marginaliatop.TopNames", spec := "topNames", apart := false, narrowed := true }
def TopNamesUptoSaid : Prop := topNamesUptoRow.holds Try.pinned (OpenSpec.upto topNamesSpec)

end Rows
end Go.Proofs.Ytifhnjaeegmfkaa
