/-
  No cell of these rows narrows 'for every input' (looked for: loops, veiled, ifaces, maps, wideKeys, modest, calm, conditions, laid).
  DERIVED. THE GIVEN ROWS OF THIS SEAT. 3 by the template 'for every input the law returns true; each argument reads behind the call as it read before'; 0 by the template 'total and deterministic' (their statements: YtmlghkkbkgfjmaaTotals.lean).
  GIVEN WITH THE SEED: the statements are not yours to turn. If you find one false, say at which input.
  Laid BY PROGRAM, IN A SANDBOX (cutbox-rows.mjs): the forced cells as the released guide's own fill.sh prints them over the translation 7d6d08c7336e8f2e… (all of the seat's roots in one cut). By AI agents, Wed Nov 11 2026. No macro, syntax, notation, axiom, sorry.
-/
import Derived.Test.YtmlghkkbkgfjmaaChecked
import GoSem.Claim
import GoSem.ClaimJoined
import GoSem.ClaimMapViews
import Derived.JoinedTies
import Derived.KernelRfl
namespace Go.Proofs.Ytmlghkkbkgfjmaa
/- THE CELL 'sum', in the pinned program and in every row, IS THE sha256 OF THE DUMP (.gsa) THAT YtmlghkkbkgfjmaaProg.lean LOADS. Nothing in Lean hashes anything: it is a label: what it is worth is what the hold of that sum in a sandbox is worth. -/
noncomputable def Try.pinned : Pinned := { name := "ytmlghkkbkgfjmaa", sum := "7d6d08c7336e8f2ee432d6a5d11333463ba92bd72f4e9a66208525d9659e0cc6", checked := Try.checked }
namespace Rows
def none {H : Type} : Left H := { results := [], args := [] }

/-- 'marginalialaw12.EventsWrap': WHATEVER THE INPUT: true; the input reads as it did. -/
def eventsWrapSpec : ChangeSpec := { name := "eventsWrap", fn := fun _ => fun
  | [d1, d2] => { results := [.lit (.bool true)], args := [d1, d2] }
  | _ => none }
def eventsWrapRow : OpenClaim := { program := "ytmlghkkbkgfjmaa", sum := "7d6d08c7336e8f2ee432d6a5d11333463ba92bd72f4e9a66208525d9659e0cc6", func := "marginalia/marginalialaw12.EventsWrap", spec := "eventsWrap", unfollowed := true, recurses := true, apart := false }
def EventsWrapSaid : Prop := eventsWrapRow.holds Try.pinned (OpenSpec.ofChange eventsWrapSpec)

/-- ITS FALSE NEIGHBOUR: 'it returns false'. Refute it at one input. -/
def eventsWrapWrong : ChangeSpec := { name := "eventsWrap", fn := fun _ => fun
  | [d1, d2] => { results := [.lit (.bool false)], args := [d1, d2] }
  | _ => none }
def EventsWrapWrongFalsely : Prop := eventsWrapRow.holds Try.pinned (OpenSpec.ofChange eventsWrapWrong)

/-- 'marginalialaw12.EventsTell': WHATEVER THE INPUT: true; the input reads as it did. -/
def eventsTellSpec : ChangeSpec := { name := "eventsTell", fn := fun _ => fun
  | [d1, d2] => { results := [.lit (.bool true)], args := [d1, d2] }
  | _ => none }
def eventsTellRow : OpenClaim := { program := "ytmlghkkbkgfjmaa", sum := "7d6d08c7336e8f2ee432d6a5d11333463ba92bd72f4e9a66208525d9659e0cc6", func := "marginalia/marginalialaw12.EventsTell", spec := "eventsTell", unfollowed := true, recurses := true, apart := false }
def EventsTellSaid : Prop := eventsTellRow.holds Try.pinned (OpenSpec.ofChange eventsTellSpec)

/-- ITS FALSE NEIGHBOUR: 'it returns false'. Refute it at one input. -/
def eventsTellWrong : ChangeSpec := { name := "eventsTell", fn := fun _ => fun
  | [d1, d2] => { results := [.lit (.bool false)], args := [d1, d2] }
  | _ => none }
def EventsTellWrongFalsely : Prop := eventsTellRow.holds Try.pinned (OpenSpec.ofChange eventsTellWrong)

/-- 'marginalialaw12.EventsParts': WHATEVER THE INPUT: true; the input reads as it did. -/
def eventsPartsSpec : ChangeSpec := { name := "eventsParts", fn := fun _ => fun
  | [d1, d2] => { results := [.lit (.bool true)], args := [d1, d2] }
  | _ => none }
def eventsPartsRow : OpenClaim := { program := "ytmlghkkbkgfjmaa", sum := "7d6d08c7336e8f2ee432d6a5d11333463ba92bd72f4e9a66208525d9659e0cc6", func := "marginalia/marginalialaw12.EventsParts", spec := "eventsParts", unfollowed := true, recurses := true, apart := false }
def EventsPartsSaid : Prop := eventsPartsRow.holds Try.pinned (OpenSpec.ofChange eventsPartsSpec)

/-- ITS FALSE NEIGHBOUR: 'it returns false'. Refute it at one input. -/
def eventsPartsWrong : ChangeSpec := { name := "eventsParts", fn := fun _ => fun
  | [d1, d2] => { results := [.lit (.bool false)], args := [d1, d2] }
  | _ => none }
def EventsPartsWrongFalsely : Prop := eventsPartsRow.holds Try.pinned (OpenSpec.ofChange eventsPartsWrong)

/- THE SECOND FORM. 'bulk': how many values and letters a reading holds, each counted each time it is reached (what is shared counts as often as it is met; a slice's spare places count too). A statement '..UptoSaid' is the law's where the arguments, and the package variables that the reading takes, are together of bulk at most 1048576: NARROWER than '..Said'. Prove '..Said' where nothing that the law and all that it calls make is longer than what came in: it says more and counts as full. Else prove '..UptoSaid'. A law counts once. -/
mutual
def uptoBulk {H : Type} : DataW H → Nat
  | .lit (.string bytes) => bytes.length + 1
  | .lit _ => 1
  | .nil => 1
  | .ptr d => uptoBulk d + 1
  | .slice elems spare => uptoBulkAll elems + uptoBulkAll spare + 1
  | .agg parts => uptoBulkAll parts + 1
  | .iface _ d => uptoBulk d + 1
  | .map entries => uptoBulkEntries entries + 1
  | .held _ => 1
def uptoBulkAll {H : Type} : List (DataW H) → Nat
  | [] => 0
  | d :: r => uptoBulk d + uptoBulkAll r
def uptoBulkEntries {H : Type} : List (Lit × DataW H) → Nat
  | [] => 0
  | x :: r => uptoBulkEntry x + uptoBulkEntries r
def uptoBulkEntry {H : Type} : Lit × DataW H → Nat
  | (.string bytes, d) => bytes.length + uptoBulk d + 1
  | (_, d) => uptoBulk d + 1
 end
def uptoSmall : (H : Type) → List (DataW H) → Bool := fun _ ds => decide (uptoBulkAll ds ≤ 1048576)
def OpenSpec.upto (s : _root_.Go.ChangeSpec) : _root_.Go.OpenSpec := { _root_.Go.OpenSpec.ofChange s with cond := some uptoSmall }

/-- 'marginalialaw12.EventsWrap', WHERE WHAT IT READS IS OF BULK AT MOST 1048576: true; the input reads as it did. -/
def eventsWrapUptoRow : OpenClaim := { program := "ytmlghkkbkgfjmaa", sum := "7d6d08c7336e8f2ee432d6a5d11333463ba92bd72f4e9a66208525d9659e0cc6", func := "marginalia/marginalialaw12.EventsWrap", spec := "eventsWrap", unfollowed := true, recurses := true, apart := false, narrowed := true }
def EventsWrapUptoSaid : Prop := eventsWrapUptoRow.holds Try.pinned (OpenSpec.upto eventsWrapSpec)

/-- 'marginalialaw12.EventsTell', WHERE WHAT IT READS IS OF BULK AT MOST 1048576: true; the input reads as it did. -/
def eventsTellUptoRow : OpenClaim := { program := "ytmlghkkbkgfjmaa", sum := "7d6d08c7336e8f2ee432d6a5d11333463ba92bd72f4e9a66208525d9659e0cc6", func := "marginalia/marginalialaw12.EventsTell", spec := "eventsTell", unfollowed := true, recurses := true, apart := false, narrowed := true }
def EventsTellUptoSaid : Prop := eventsTellUptoRow.holds Try.pinned (OpenSpec.upto eventsTellSpec)

/-- 'marginalialaw12.EventsParts', WHERE WHAT IT READS IS OF BULK AT MOST 1048576: true; the input reads as it did. -/
def eventsPartsUptoRow : OpenClaim := { program := "ytmlghkkbkgfjmaa", sum := "7d6d08c7336e8f2ee432d6a5d11333463ba92bd72f4e9a66208525d9659e0cc6", func := "marginalia/marginalialaw12.EventsParts", spec := "eventsParts", unfollowed := true, recurses := true, apart := false, narrowed := true }
def EventsPartsUptoSaid : Prop := eventsPartsUptoRow.holds Try.pinned (OpenSpec.upto eventsPartsSpec)

end Rows
end Go.Proofs.Ytmlghkkbkgfjmaa
