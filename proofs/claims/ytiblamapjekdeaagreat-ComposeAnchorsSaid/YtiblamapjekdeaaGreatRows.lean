/-
  No cell of these rows narrows 'for every input' (looked for: loops, veiled, ifaces, maps, wideKeys, modest, calm, conditions, laid).
  DERIVED. THE GIVEN ROWS OF THIS SEAT. 3 by the template 'for every input the law returns true; each argument reads behind the call as it read before'; 0 by the template 'total and deterministic' (their statements: YtiblamapjekdeaaGreatTotals.lean).
  GIVEN WITH THE SEED: the statements are not yours to turn. If you find one false, say at which input.
  Laid BY PROGRAM, IN A SANDBOX (cutbox-rows.mjs): the forced cells as the released guide's own fill.sh prints them over the translation 755be3bd87214810… (all of the seat's roots in one cut). By AI agents, Wed Nov 11 2026. No macro, syntax, notation, axiom, sorry.
-/
import Derived.Test.YtiblamapjekdeaaGreatChecked
import GoSem.Claim
import GoSem.ClaimJoined
import GoSem.ClaimMapViews
import Derived.JoinedTies
import Derived.KernelRfl
namespace Go.Proofs.YtiblamapjekdeaaGreat
/- THE CELL 'sum', in the pinned program and in every row, IS THE sha256 OF THE DUMP (.gsa) THAT YtiblamapjekdeaaGreatProg.lean LOADS. Nothing in Lean hashes anything: it is a label: what it is worth is what the hold of that sum in a sandbox is worth. -/
noncomputable def Tryz.pinned : Pinned := { name := "ytiblamapjekdeaagreat", sum := "755be3bd8721481090fdcf974913edc6e016baa2d37756bc2947dc080fdeef43", checked := Tryz.checked }
namespace Rows
def none {H : Type} : Left H := { results := [], args := [] }

/-- 'marginalialaw18.ComposeGraphs': WHATEVER THE INPUT: true; the input reads as it did. -/
def composeGraphsSpec : ChangeSpec := { name := "composeGraphs", fn := fun _ => fun
  | [d1, d2, d3] => { results := [.lit (.bool true)], args := [d1, d2, d3] }
  | _ => none }
def composeGraphsRow : OpenClaim := { program := "ytiblamapjekdeaagreat", sum := "755be3bd8721481090fdcf974913edc6e016baa2d37756bc2947dc080fdeef43", func := "marginalia/marginalialaw18.ComposeGraphs", spec := "composeGraphs", recurses := true, apart := false }
def ComposeGraphsSaid : Prop := composeGraphsRow.holds Tryz.pinned (OpenSpec.ofChange composeGraphsSpec)

/-- ITS FALSE NEIGHBOUR: 'it returns false'. Refute it at one input. -/
def composeGraphsWrong : ChangeSpec := { name := "composeGraphs", fn := fun _ => fun
  | [d1, d2, d3] => { results := [.lit (.bool false)], args := [d1, d2, d3] }
  | _ => none }
def ComposeGraphsWrongFalsely : Prop := composeGraphsRow.holds Tryz.pinned (OpenSpec.ofChange composeGraphsWrong)

/-- 'marginalialaw18.ComposeLimits': WHATEVER THE INPUT: true; the input reads as it did. -/
def composeLimitsSpec : ChangeSpec := { name := "composeLimits", fn := fun _ => fun
  | [d1, d2] => { results := [.lit (.bool true)], args := [d1, d2] }
  | _ => none }
def composeLimitsRow : OpenClaim := { program := "ytiblamapjekdeaagreat", sum := "755be3bd8721481090fdcf974913edc6e016baa2d37756bc2947dc080fdeef43", func := "marginalia/marginalialaw18.ComposeLimits", spec := "composeLimits", recurses := true, apart := false }
def ComposeLimitsSaid : Prop := composeLimitsRow.holds Tryz.pinned (OpenSpec.ofChange composeLimitsSpec)

/-- ITS FALSE NEIGHBOUR: 'it returns false'. Refute it at one input. -/
def composeLimitsWrong : ChangeSpec := { name := "composeLimits", fn := fun _ => fun
  | [d1, d2] => { results := [.lit (.bool false)], args := [d1, d2] }
  | _ => none }
def ComposeLimitsWrongFalsely : Prop := composeLimitsRow.holds Tryz.pinned (OpenSpec.ofChange composeLimitsWrong)

/-- 'marginalialaw18.ComposeAnchors': WHATEVER THE INPUT: true; the input reads as it did. -/
def composeAnchorsSpec : ChangeSpec := { name := "composeAnchors", fn := fun _ => fun
  | [d] => { results := [.lit (.bool true)], args := [d] }
  | _ => none }
def composeAnchorsRow : OpenClaim := { program := "ytiblamapjekdeaagreat", sum := "755be3bd8721481090fdcf974913edc6e016baa2d37756bc2947dc080fdeef43", func := "marginalia/marginalialaw18.ComposeAnchors", spec := "composeAnchors", recurses := true, apart := false }
def ComposeAnchorsSaid : Prop := composeAnchorsRow.holds Tryz.pinned (OpenSpec.ofChange composeAnchorsSpec)

/-- ITS FALSE NEIGHBOUR: 'it returns false'. Refute it at one input. -/
def composeAnchorsWrong : ChangeSpec := { name := "composeAnchors", fn := fun _ => fun
  | [d] => { results := [.lit (.bool false)], args := [d] }
  | _ => none }
def ComposeAnchorsWrongFalsely : Prop := composeAnchorsRow.holds Tryz.pinned (OpenSpec.ofChange composeAnchorsWrong)

/- THE SECOND FORM. 'bulk': how many values and letters a reading holds, each counted each time it is reached (what is shared counts as often as it is met; a slice's spare places count too). A statement '..UptoSaid' is the law's where the arguments, and the package variables that the reading takes, are together of bulk at most 1048576: NARROWER than '..Said'. Prove '..Said' where nothing that the law and all that it calls make is longer than what came in: it says more and counts as full. Else prove '..UptoSaid'. A law counts once. -/
mutual
def uptoBulk {H : Type} : DataW H → Nat
  | .lit (.string bytes) => bytes.length + 1
  | .lit _ => 1
  | .nil => 1
  | .ptr d => uptoBulk d + 1
  | .slice elems spare => uptoBulkAll elems + uptoBulkAll spare + 1
  | .agg parts => uptoBulkAll parts + 1
  | .iface _ d => uptoBulk d + 1
  | .map entries => uptoBulkEntries entries + 1
  | .held _ => 1
def uptoBulkAll {H : Type} : List (DataW H) → Nat
  | [] => 0
  | d :: r => uptoBulk d + uptoBulkAll r
def uptoBulkEntries {H : Type} : List (Lit × DataW H) → Nat
  | [] => 0
  | x :: r => uptoBulkEntry x + uptoBulkEntries r
def uptoBulkEntry {H : Type} : Lit × DataW H → Nat
  | (.string bytes, d) => bytes.length + uptoBulk d + 1
  | (_, d) => uptoBulk d + 1
 end
def uptoSmall : (H : Type) → List (DataW H) → Bool := fun _ ds => decide (uptoBulkAll ds ≤ 1048576)
def OpenSpec.upto (s : _root_.Go.ChangeSpec) : _root_.Go.OpenSpec := { _root_.Go.OpenSpec.ofChange s with cond := some uptoSmall }

/-- 'marginalialaw18.ComposeGraphs', WHERE WHAT IT READS IS OF BULK AT MOST 1048576: true; the input reads as it did. -/
def composeGraphsUptoRow : OpenClaim := { program := "ytiblamapjekdeaagreat", sum := "755be3bd8721481090fdcf974913edc6e016baa2d37756bc2947dc080fdeef43", func := "marginalia/marginalialaw18.ComposeGraphs", spec := "composeGraphs", recurses := true, apart := false, narrowed := true }
def ComposeGraphsUptoSaid : Prop := composeGraphsUptoRow.holds Tryz.pinned (OpenSpec.upto composeGraphsSpec)

/-- 'marginalialaw18.ComposeLimits', WHERE WHAT IT READS IS OF BULK AT MOST 1048576: true; the input reads as it did. -/
def composeLimitsUptoRow : OpenClaim := { program := "ytiblamapjekdeaagreat", sum := "755be3bd8721481090fdcf974913edc6e016baa2d37756bc2947dc080fdeef43", func := "marginalia/marginalialaw18.ComposeLimits", spec := "composeLimits", recurses := true, apart := false, narrowed := true }
def ComposeLimitsUptoSaid : Prop := composeLimitsUptoRow.holds Tryz.pinned (OpenSpec.upto composeLimitsSpec)

/-- 'marginalialaw18.ComposeAnchors', WHERE WHAT IT READS IS OF BULK AT MOST 1048576: true; the input reads as it did. -/
def composeAnchorsUptoRow : OpenClaim := { program := "ytiblamapjekdeaagreat", sum := "755be3bd8721481090fdcf974913edc6e016baa2d37756bc2947dc080fdeef43", func := "marginalia/marginalialaw18.ComposeAnchors", spec := "composeAnchors", recurses := true, apart := false, narrowed := true }
def ComposeAnchorsUptoSaid : Prop := composeAnchorsUptoRow.holds Tryz.pinned (OpenSpec.upto composeAnchorsSpec)

end Rows
end Go.Proofs.YtiblamapjekdeaaGreat
