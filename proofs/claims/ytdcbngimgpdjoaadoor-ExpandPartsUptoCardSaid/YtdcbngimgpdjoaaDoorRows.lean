/-
  NARROWER THAN 'FOR EVERY INPUT', by the rows' own cells (each row's printed sentence says how): GraphTells: laid · GraphReach: laid · GraphRings: laid · GraphWrong: laid · IsoTells: laid · IsoForms: laid · IsoTurns: laid · IsoShares: laid · ExpandSizes: laid · ExpandTrees: laid · ExpandBombs: laid · ExpandParts: laid · ExpandRounds: laid.
  DERIVED. THE GIVEN ROWS OF THIS SEAT. 13 by the template 'for every input the law returns true; each argument reads behind the call as it read before'; 0 by the template 'total and deterministic' (their statements: YtdcbngimgpdjoaaDoorTotals.lean).
  GIVEN WITH THE SEED: the statements are not yours to turn. If you find one false, say at which input.
  Laid BY PROGRAM, IN A SANDBOX (cutbox-rows.mjs): the forced cells as the released guide's own fill.sh prints them over the translation 31614afc1e79f361… (all of the seat's roots in one cut). By AI agents, Wed Nov 11 2026. No macro, syntax, notation, axiom, sorry.
-/
import Derived.Test.YtdcbngimgpdjoaaDoorChecked
import GoSem.PinnedTables
import GoSem.Claim
import GoSem.ClaimJoined
import GoSem.ClaimMapViews
import Derived.JoinedTies
import Derived.KernelRfl
namespace Go.Proofs.YtdcbngimgpdjoaaDoor
/- THE CELL 'sum', in the pinned program and in every row, IS THE sha256 OF THE DUMP (.gsa) THAT YtdcbngimgpdjoaaDoorProg.lean LOADS. Nothing in Lean hashes anything: it is a label: what it is worth is what the hold of that sum in a sandbox is worth. -/
noncomputable def Tryd.pinned : Pinned := { name := "ytdcbngimgpdjoaadoor", sum := "31614afc1e79f361619835019eab1aa16ad4e86ff5db0d417771aea342580668", checked := Tryd.checked }
namespace Rows
def none {H : Type} : Left H := { results := [], args := [] }

/- WHAT THE LISTED PACKAGE-LEVEL VARIABLES READ AS WHEN THE CALL BEGINS. Each datum BY PROGRAM (the guide's laid-datum.mjs) off the statement by which the dump's own 'gosem.cut.vars' lays the variable. In a bare row this is a premise. The card (YtdcbngimgpdjoaaDoorCards.lean) ties it to the program's text. -/
def laid_unicode_utf8_acceptRanges {H : Type} : DataW H := .agg [.agg [.lit (.int .u8 128), .lit (.int .u8 191)], .agg [.lit (.int .u8 160), .lit (.int .u8 191)], .agg [.lit (.int .u8 128), .lit (.int .u8 159)], .agg [.lit (.int .u8 144), .lit (.int .u8 191)], .agg [.lit (.int .u8 128), .lit (.int .u8 143)], .agg [.lit (.int .u8 0), .lit (.int .u8 0)], .agg [.lit (.int .u8 0), .lit (.int .u8 0)], .agg [.lit (.int .u8 0), .lit (.int .u8 0)], .agg [.lit (.int .u8 0), .lit (.int .u8 0)], .agg [.lit (.int .u8 0), .lit (.int .u8 0)], .agg [.lit (.int .u8 0), .lit (.int .u8 0)], .agg [.lit (.int .u8 0), .lit (.int .u8 0)], .agg [.lit (.int .u8 0), .lit (.int .u8 0)], .agg [.lit (.int .u8 0), .lit (.int .u8 0)], .agg [.lit (.int .u8 0), .lit (.int .u8 0)], .agg [.lit (.int .u8 0), .lit (.int .u8 0)]]
/-- One of Go's own tables, pinned by name: the form's constant. -/
def laid_unicode_utf8_first : DataW Unit := Go.Pinned.utf8First

/-- 'marginalialaw17.GraphTells': WHATEVER THE INPUT: true; the input reads as it did. -/
def graphTellsSpec : ChangeSpec := { name := "graphTells", fn := fun _ => fun
  | [d1, d2] => { results := [.lit (.bool true)], args := [d1, d2] }
  | _ => none }
def graphTellsRow : OpenClaim := { program := "ytdcbngimgpdjoaadoor", sum := "31614afc1e79f361619835019eab1aa16ad4e86ff5db0d417771aea342580668", func := "marginalia/marginalialaw17.GraphTells", spec := "graphTells", unfollowed := true, recurses := true, named := ["unicode/utf8.first", "unicode/utf8.acceptRanges"], apart := false, laid := [("unicode/utf8.acceptRanges", laid_unicode_utf8_acceptRanges), ("unicode/utf8.first", laid_unicode_utf8_first)] }
def GraphTellsSaid : Prop := graphTellsRow.holds Tryd.pinned (OpenSpec.ofChange graphTellsSpec)

/-- ITS FALSE NEIGHBOUR: 'it returns false'. Refute it at one input. -/
def graphTellsWrong : ChangeSpec := { name := "graphTells", fn := fun _ => fun
  | [d1, d2] => { results := [.lit (.bool false)], args := [d1, d2] }
  | _ => none }
def GraphTellsWrongFalsely : Prop := graphTellsRow.holds Tryd.pinned (OpenSpec.ofChange graphTellsWrong)

/-- 'marginalialaw17.GraphReach': WHATEVER THE INPUT: true; the input reads as it did. -/
def graphReachSpec : ChangeSpec := { name := "graphReach", fn := fun _ => fun
  | [d1, d2, d3] => { results := [.lit (.bool true)], args := [d1, d2, d3] }
  | _ => none }
def graphReachRow : OpenClaim := { program := "ytdcbngimgpdjoaadoor", sum := "31614afc1e79f361619835019eab1aa16ad4e86ff5db0d417771aea342580668", func := "marginalia/marginalialaw17.GraphReach", spec := "graphReach", unfollowed := true, recurses := true, named := ["unicode/utf8.first", "unicode/utf8.acceptRanges"], apart := false, laid := [("unicode/utf8.acceptRanges", laid_unicode_utf8_acceptRanges), ("unicode/utf8.first", laid_unicode_utf8_first)] }
def GraphReachSaid : Prop := graphReachRow.holds Tryd.pinned (OpenSpec.ofChange graphReachSpec)

/-- ITS FALSE NEIGHBOUR: 'it returns false'. Refute it at one input. -/
def graphReachWrong : ChangeSpec := { name := "graphReach", fn := fun _ => fun
  | [d1, d2, d3] => { results := [.lit (.bool false)], args := [d1, d2, d3] }
  | _ => none }
def GraphReachWrongFalsely : Prop := graphReachRow.holds Tryd.pinned (OpenSpec.ofChange graphReachWrong)

/-- 'marginalialaw17.GraphRings': WHATEVER THE INPUT: true; the input reads as it did. -/
def graphRingsSpec : ChangeSpec := { name := "graphRings", fn := fun _ => fun
  | [d1, d2] => { results := [.lit (.bool true)], args := [d1, d2] }
  | _ => none }
def graphRingsRow : OpenClaim := { program := "ytdcbngimgpdjoaadoor", sum := "31614afc1e79f361619835019eab1aa16ad4e86ff5db0d417771aea342580668", func := "marginalia/marginalialaw17.GraphRings", spec := "graphRings", unfollowed := true, recurses := true, named := ["unicode/utf8.first", "unicode/utf8.acceptRanges"], apart := false, laid := [("unicode/utf8.acceptRanges", laid_unicode_utf8_acceptRanges), ("unicode/utf8.first", laid_unicode_utf8_first)] }
def GraphRingsSaid : Prop := graphRingsRow.holds Tryd.pinned (OpenSpec.ofChange graphRingsSpec)

/-- ITS FALSE NEIGHBOUR: 'it returns false'. Refute it at one input. -/
def graphRingsWrong : ChangeSpec := { name := "graphRings", fn := fun _ => fun
  | [d1, d2] => { results := [.lit (.bool false)], args := [d1, d2] }
  | _ => none }
def GraphRingsWrongFalsely : Prop := graphRingsRow.holds Tryd.pinned (OpenSpec.ofChange graphRingsWrong)

/-- 'marginalialaw17.GraphWrong': WHATEVER THE INPUT: true; the input reads as it did. -/
def graphWrongSpec : ChangeSpec := { name := "graphWrong", fn := fun _ => fun
  | [d] => { results := [.lit (.bool true)], args := [d] }
  | _ => none }
def graphWrongRow : OpenClaim := { program := "ytdcbngimgpdjoaadoor", sum := "31614afc1e79f361619835019eab1aa16ad4e86ff5db0d417771aea342580668", func := "marginalia/marginalialaw17.GraphWrong", spec := "graphWrong", unfollowed := true, recurses := true, named := ["unicode/utf8.first", "unicode/utf8.acceptRanges"], apart := false, laid := [("unicode/utf8.acceptRanges", laid_unicode_utf8_acceptRanges), ("unicode/utf8.first", laid_unicode_utf8_first)] }
def GraphWrongSaid : Prop := graphWrongRow.holds Tryd.pinned (OpenSpec.ofChange graphWrongSpec)

/-- ITS FALSE NEIGHBOUR: 'it returns false'. Refute it at one input. -/
def graphWrongWrong : ChangeSpec := { name := "graphWrong", fn := fun _ => fun
  | [d] => { results := [.lit (.bool false)], args := [d] }
  | _ => none }
def GraphWrongWrongFalsely : Prop := graphWrongRow.holds Tryd.pinned (OpenSpec.ofChange graphWrongWrong)

/-- 'marginalialaw22.IsoTells': WHATEVER THE INPUT: true; the input reads as it did. -/
def isoTellsSpec : ChangeSpec := { name := "isoTells", fn := fun _ => fun
  | [d1, d2] => { results := [.lit (.bool true)], args := [d1, d2] }
  | _ => none }
def isoTellsRow : OpenClaim := { program := "ytdcbngimgpdjoaadoor", sum := "31614afc1e79f361619835019eab1aa16ad4e86ff5db0d417771aea342580668", func := "marginalia/marginalialaw22.IsoTells", spec := "isoTells", unfollowed := true, recurses := true, named := ["unicode/utf8.first", "unicode/utf8.acceptRanges"], apart := false, laid := [("unicode/utf8.acceptRanges", laid_unicode_utf8_acceptRanges), ("unicode/utf8.first", laid_unicode_utf8_first)] }
def IsoTellsSaid : Prop := isoTellsRow.holds Tryd.pinned (OpenSpec.ofChange isoTellsSpec)

/-- ITS FALSE NEIGHBOUR: 'it returns false'. Refute it at one input. -/
def isoTellsWrong : ChangeSpec := { name := "isoTells", fn := fun _ => fun
  | [d1, d2] => { results := [.lit (.bool false)], args := [d1, d2] }
  | _ => none }
def IsoTellsWrongFalsely : Prop := isoTellsRow.holds Tryd.pinned (OpenSpec.ofChange isoTellsWrong)

/-- 'marginalialaw22.IsoForms': WHATEVER THE INPUT: true; the input reads as it did. -/
def isoFormsSpec : ChangeSpec := { name := "isoForms", fn := fun _ => fun
  | [d] => { results := [.lit (.bool true)], args := [d] }
  | _ => none }
def isoFormsRow : OpenClaim := { program := "ytdcbngimgpdjoaadoor", sum := "31614afc1e79f361619835019eab1aa16ad4e86ff5db0d417771aea342580668", func := "marginalia/marginalialaw22.IsoForms", spec := "isoForms", unfollowed := true, recurses := true, named := ["unicode/utf8.first", "unicode/utf8.acceptRanges"], apart := false, laid := [("unicode/utf8.acceptRanges", laid_unicode_utf8_acceptRanges), ("unicode/utf8.first", laid_unicode_utf8_first)] }
def IsoFormsSaid : Prop := isoFormsRow.holds Tryd.pinned (OpenSpec.ofChange isoFormsSpec)

/-- ITS FALSE NEIGHBOUR: 'it returns false'. Refute it at one input. -/
def isoFormsWrong : ChangeSpec := { name := "isoForms", fn := fun _ => fun
  | [d] => { results := [.lit (.bool false)], args := [d] }
  | _ => none }
def IsoFormsWrongFalsely : Prop := isoFormsRow.holds Tryd.pinned (OpenSpec.ofChange isoFormsWrong)

/-- 'marginalialaw22.IsoTurns': WHATEVER THE INPUT: true; the input reads as it did. -/
def isoTurnsSpec : ChangeSpec := { name := "isoTurns", fn := fun _ => fun
  | [d1, d2, d3] => { results := [.lit (.bool true)], args := [d1, d2, d3] }
  | _ => none }
def isoTurnsRow : OpenClaim := { program := "ytdcbngimgpdjoaadoor", sum := "31614afc1e79f361619835019eab1aa16ad4e86ff5db0d417771aea342580668", func := "marginalia/marginalialaw22.IsoTurns", spec := "isoTurns", unfollowed := true, recurses := true, named := ["unicode/utf8.first", "unicode/utf8.acceptRanges"], apart := false, laid := [("unicode/utf8.acceptRanges", laid_unicode_utf8_acceptRanges), ("unicode/utf8.first", laid_unicode_utf8_first)] }
def IsoTurnsSaid : Prop := isoTurnsRow.holds Tryd.pinned (OpenSpec.ofChange isoTurnsSpec)

/-- ITS FALSE NEIGHBOUR: 'it returns false'. Refute it at one input. -/
def isoTurnsWrong : ChangeSpec := { name := "isoTurns", fn := fun _ => fun
  | [d1, d2, d3] => { results := [.lit (.bool false)], args := [d1, d2, d3] }
  | _ => none }
def IsoTurnsWrongFalsely : Prop := isoTurnsRow.holds Tryd.pinned (OpenSpec.ofChange isoTurnsWrong)

/-- 'marginalialaw22.IsoShares': WHATEVER THE INPUT: true; the input reads as it did. -/
def isoSharesSpec : ChangeSpec := { name := "isoShares", fn := fun _ => fun
  | [d1, d2] => { results := [.lit (.bool true)], args := [d1, d2] }
  | _ => none }
def isoSharesRow : OpenClaim := { program := "ytdcbngimgpdjoaadoor", sum := "31614afc1e79f361619835019eab1aa16ad4e86ff5db0d417771aea342580668", func := "marginalia/marginalialaw22.IsoShares", spec := "isoShares", unfollowed := true, recurses := true, named := ["unicode/utf8.first", "unicode/utf8.acceptRanges"], apart := false, laid := [("unicode/utf8.acceptRanges", laid_unicode_utf8_acceptRanges), ("unicode/utf8.first", laid_unicode_utf8_first)] }
def IsoSharesSaid : Prop := isoSharesRow.holds Tryd.pinned (OpenSpec.ofChange isoSharesSpec)

/-- ITS FALSE NEIGHBOUR: 'it returns false'. Refute it at one input. -/
def isoSharesWrong : ChangeSpec := { name := "isoShares", fn := fun _ => fun
  | [d1, d2] => { results := [.lit (.bool false)], args := [d1, d2] }
  | _ => none }
def IsoSharesWrongFalsely : Prop := isoSharesRow.holds Tryd.pinned (OpenSpec.ofChange isoSharesWrong)

/-- 'marginalialaw23.ExpandSizes': WHATEVER THE INPUT: true; the input reads as it did. -/
def expandSizesSpec : ChangeSpec := { name := "expandSizes", fn := fun _ => fun
  | [d1, d2] => { results := [.lit (.bool true)], args := [d1, d2] }
  | _ => none }
def expandSizesRow : OpenClaim := { program := "ytdcbngimgpdjoaadoor", sum := "31614afc1e79f361619835019eab1aa16ad4e86ff5db0d417771aea342580668", func := "marginalia/marginalialaw23.ExpandSizes", spec := "expandSizes", unfollowed := true, recurses := true, named := ["unicode/utf8.first", "unicode/utf8.acceptRanges"], apart := false, laid := [("unicode/utf8.acceptRanges", laid_unicode_utf8_acceptRanges), ("unicode/utf8.first", laid_unicode_utf8_first)] }
def ExpandSizesSaid : Prop := expandSizesRow.holds Tryd.pinned (OpenSpec.ofChange expandSizesSpec)

/-- ITS FALSE NEIGHBOUR: 'it returns false'. Refute it at one input. -/
def expandSizesWrong : ChangeSpec := { name := "expandSizes", fn := fun _ => fun
  | [d1, d2] => { results := [.lit (.bool false)], args := [d1, d2] }
  | _ => none }
def ExpandSizesWrongFalsely : Prop := expandSizesRow.holds Tryd.pinned (OpenSpec.ofChange expandSizesWrong)

/-- 'marginalialaw23.ExpandTrees': WHATEVER THE INPUT: true; the input reads as it did. -/
def expandTreesSpec : ChangeSpec := { name := "expandTrees", fn := fun _ => fun
  | [d1, d2, d3] => { results := [.lit (.bool true)], args := [d1, d2, d3] }
  | _ => none }
def expandTreesRow : OpenClaim := { program := "ytdcbngimgpdjoaadoor", sum := "31614afc1e79f361619835019eab1aa16ad4e86ff5db0d417771aea342580668", func := "marginalia/marginalialaw23.ExpandTrees", spec := "expandTrees", unfollowed := true, recurses := true, named := ["unicode/utf8.first", "unicode/utf8.acceptRanges"], apart := false, laid := [("unicode/utf8.acceptRanges", laid_unicode_utf8_acceptRanges), ("unicode/utf8.first", laid_unicode_utf8_first)] }
def ExpandTreesSaid : Prop := expandTreesRow.holds Tryd.pinned (OpenSpec.ofChange expandTreesSpec)

/-- ITS FALSE NEIGHBOUR: 'it returns false'. Refute it at one input. -/
def expandTreesWrong : ChangeSpec := { name := "expandTrees", fn := fun _ => fun
  | [d1, d2, d3] => { results := [.lit (.bool false)], args := [d1, d2, d3] }
  | _ => none }
def ExpandTreesWrongFalsely : Prop := expandTreesRow.holds Tryd.pinned (OpenSpec.ofChange expandTreesWrong)

/-- 'marginalialaw23.ExpandBombs': WHATEVER THE INPUT: true; the input reads as it did. -/
def expandBombsSpec : ChangeSpec := { name := "expandBombs", fn := fun _ => fun
  | [d1, d2, d3] => { results := [.lit (.bool true)], args := [d1, d2, d3] }
  | _ => none }
def expandBombsRow : OpenClaim := { program := "ytdcbngimgpdjoaadoor", sum := "31614afc1e79f361619835019eab1aa16ad4e86ff5db0d417771aea342580668", func := "marginalia/marginalialaw23.ExpandBombs", spec := "expandBombs", unfollowed := true, recurses := true, named := ["unicode/utf8.first", "unicode/utf8.acceptRanges"], apart := false, laid := [("unicode/utf8.acceptRanges", laid_unicode_utf8_acceptRanges), ("unicode/utf8.first", laid_unicode_utf8_first)] }
def ExpandBombsSaid : Prop := expandBombsRow.holds Tryd.pinned (OpenSpec.ofChange expandBombsSpec)

/-- ITS FALSE NEIGHBOUR: 'it returns false'. Refute it at one input. -/
def expandBombsWrong : ChangeSpec := { name := "expandBombs", fn := fun _ => fun
  | [d1, d2, d3] => { results := [.lit (.bool false)], args := [d1, d2, d3] }
  | _ => none }
def ExpandBombsWrongFalsely : Prop := expandBombsRow.holds Tryd.pinned (OpenSpec.ofChange expandBombsWrong)

/-- 'marginalialaw23.ExpandParts': WHATEVER THE INPUT: true; the input reads as it did. -/
def expandPartsSpec : ChangeSpec := { name := "expandParts", fn := fun _ => fun
  | [d1, d2] => { results := [.lit (.bool true)], args := [d1, d2] }
  | _ => none }
def expandPartsRow : OpenClaim := { program := "ytdcbngimgpdjoaadoor", sum := "31614afc1e79f361619835019eab1aa16ad4e86ff5db0d417771aea342580668", func := "marginalia/marginalialaw23.ExpandParts", spec := "expandParts", unfollowed := true, recurses := true, named := ["unicode/utf8.first", "unicode/utf8.acceptRanges"], apart := false, laid := [("unicode/utf8.acceptRanges", laid_unicode_utf8_acceptRanges), ("unicode/utf8.first", laid_unicode_utf8_first)] }
def ExpandPartsSaid : Prop := expandPartsRow.holds Tryd.pinned (OpenSpec.ofChange expandPartsSpec)

/-- ITS FALSE NEIGHBOUR: 'it returns false'. Refute it at one input. -/
def expandPartsWrong : ChangeSpec := { name := "expandParts", fn := fun _ => fun
  | [d1, d2] => { results := [.lit (.bool false)], args := [d1, d2] }
  | _ => none }
def ExpandPartsWrongFalsely : Prop := expandPartsRow.holds Tryd.pinned (OpenSpec.ofChange expandPartsWrong)

/-- 'marginalialaw23.ExpandRounds': WHATEVER THE INPUT: true; the input reads as it did. -/
def expandRoundsSpec : ChangeSpec := { name := "expandRounds", fn := fun _ => fun
  | [d1, d2, d3, d4] => { results := [.lit (.bool true)], args := [d1, d2, d3, d4] }
  | _ => none }
def expandRoundsRow : OpenClaim := { program := "ytdcbngimgpdjoaadoor", sum := "31614afc1e79f361619835019eab1aa16ad4e86ff5db0d417771aea342580668", func := "marginalia/marginalialaw23.ExpandRounds", spec := "expandRounds", unfollowed := true, recurses := true, named := ["unicode/utf8.first", "unicode/utf8.acceptRanges"], apart := false, laid := [("unicode/utf8.acceptRanges", laid_unicode_utf8_acceptRanges), ("unicode/utf8.first", laid_unicode_utf8_first)] }
def ExpandRoundsSaid : Prop := expandRoundsRow.holds Tryd.pinned (OpenSpec.ofChange expandRoundsSpec)

/-- ITS FALSE NEIGHBOUR: 'it returns false'. Refute it at one input. -/
def expandRoundsWrong : ChangeSpec := { name := "expandRounds", fn := fun _ => fun
  | [d1, d2, d3, d4] => { results := [.lit (.bool false)], args := [d1, d2, d3, d4] }
  | _ => none }
def ExpandRoundsWrongFalsely : Prop := expandRoundsRow.holds Tryd.pinned (OpenSpec.ofChange expandRoundsWrong)

/- THE SECOND FORM. 'bulk': how many values and letters a reading holds, each counted each time it is reached (what is shared counts as often as it is met; a slice's spare places count too). A statement '..UptoSaid' is the law's where the arguments, and the package variables that the reading takes, are together of bulk at most 1048576: NARROWER than '..Said'. Prove '..Said' where nothing that the law and all that it calls make is longer than what came in: it says more and counts as full. Else prove '..UptoSaid'. A law counts once. -/
mutual
def uptoBulk {H : Type} : DataW H → Nat
  | .lit (.string bytes) => bytes.length + 1
  | .lit _ => 1
  | .nil => 1
  | .ptr d => uptoBulk d + 1
  | .slice elems spare => uptoBulkAll elems + uptoBulkAll spare + 1
  | .agg parts => uptoBulkAll parts + 1
  | .iface _ d => uptoBulk d + 1
  | .map entries => uptoBulkEntries entries + 1
  | .held _ => 1
def uptoBulkAll {H : Type} : List (DataW H) → Nat
  | [] => 0
  | d :: r => uptoBulk d + uptoBulkAll r
def uptoBulkEntries {H : Type} : List (Lit × DataW H) → Nat
  | [] => 0
  | x :: r => uptoBulkEntry x + uptoBulkEntries r
def uptoBulkEntry {H : Type} : Lit × DataW H → Nat
  | (.string bytes, d) => bytes.length + uptoBulk d + 1
  | (_, d) => uptoBulk d + 1
 end
def uptoSmall : (H : Type) → List (DataW H) → Bool := fun _ ds => decide (uptoBulkAll ds ≤ 1048576)
def OpenSpec.upto (s : _root_.Go.ChangeSpec) : _root_.Go.OpenSpec := { _root_.Go.OpenSpec.ofChange s with cond := some uptoSmall }

/-- 'marginalialaw17.GraphTells', WHERE WHAT IT READS IS OF BULK AT MOST 1048576: true; the input reads as it did. -/
def graphTellsUptoRow : OpenClaim := { program := "ytdcbngimgpdjoaadoor", sum := "31614afc1e79f361619835019eab1aa16ad4e86ff5db0d417771aea342580668", func := "marginalia/marginalialaw17.GraphTells", spec := "graphTells", unfollowed := true, recurses := true, named := ["unicode/utf8.first", "unicode/utf8.acceptRanges"], apart := false, laid := [("unicode/utf8.acceptRanges", laid_unicode_utf8_acceptRanges), ("unicode/utf8.first", laid_unicode_utf8_first)], narrowed := true }
def GraphTellsUptoSaid : Prop := graphTellsUptoRow.holds Tryd.pinned (OpenSpec.upto graphTellsSpec)

/-- 'marginalialaw17.GraphReach', WHERE WHAT IT READS IS OF BULK AT MOST 1048576: true; the input reads as it did. -/
def graphReachUptoRow : OpenClaim := { program := "ytdcbngimgpdjoaadoor", sum := "31614afc1e79f361619835019eab1aa16ad4e86ff5db0d417771aea342580668", func := "marginalia/marginalialaw17.GraphReach", spec := "graphReach", unfollowed := true, recurses := true, named := ["unicode/utf8.first", "unicode/utf8.acceptRanges"], apart := false, laid := [("unicode/utf8.acceptRanges", laid_unicode_utf8_acceptRanges), ("unicode/utf8.first", laid_unicode_utf8_first)], narrowed := true }
def GraphReachUptoSaid : Prop := graphReachUptoRow.holds Tryd.pinned (OpenSpec.upto graphReachSpec)

/-- 'marginalialaw17.GraphRings', WHERE WHAT IT READS IS OF BULK AT MOST 1048576: true; the input reads as it did. -/
def graphRingsUptoRow : OpenClaim := { program := "ytdcbngimgpdjoaadoor", sum := "31614afc1e79f361619835019eab1aa16ad4e86ff5db0d417771aea342580668", func := "marginalia/marginalialaw17.GraphRings", spec := "graphRings", unfollowed := true, recurses := true, named := ["unicode/utf8.first", "unicode/utf8.acceptRanges"], apart := false, laid := [("unicode/utf8.acceptRanges", laid_unicode_utf8_acceptRanges), ("unicode/utf8.first", laid_unicode_utf8_first)], narrowed := true }
def GraphRingsUptoSaid : Prop := graphRingsUptoRow.holds Tryd.pinned (OpenSpec.upto graphRingsSpec)

/-- 'marginalialaw17.GraphWrong', WHERE WHAT IT READS IS OF BULK AT MOST 1048576: true; the input reads as it did. -/
def graphWrongUptoRow : OpenClaim := { program := "ytdcbngimgpdjoaadoor", sum := "31614afc1e79f361619835019eab1aa16ad4e86ff5db0d417771aea342580668", func := "marginalia/marginalialaw17.GraphWrong", spec := "graphWrong", unfollowed := true, recurses := true, named := ["unicode/utf8.first", "unicode/utf8.acceptRanges"], apart := false, laid := [("unicode/utf8.acceptRanges", laid_unicode_utf8_acceptRanges), ("unicode/utf8.first", laid_unicode_utf8_first)], narrowed := true }
def GraphWrongUptoSaid : Prop := graphWrongUptoRow.holds Tryd.pinned (OpenSpec.upto graphWrongSpec)

/-- 'marginalialaw22.IsoTells', WHERE WHAT IT READS IS OF BULK AT MOST 1048576: true; the input reads as it did. -/
def isoTellsUptoRow : OpenClaim := { program := "ytdcbngimgpdjoaadoor", sum := "31614afc1e79f361619835019eab1aa16ad4e86ff5db0d417771aea342580668", func := "marginalia/marginalialaw22.IsoTells", spec := "isoTells", unfollowed := true, recurses := true, named := ["unicode/utf8.first", "unicode/utf8.acceptRanges"], apart := false, laid := [("unicode/utf8.acceptRanges", laid_unicode_utf8_acceptRanges), ("unicode/utf8.first", laid_unicode_utf8_first)], narrowed := true }
def IsoTellsUptoSaid : Prop := isoTellsUptoRow.holds Tryd.pinned (OpenSpec.upto isoTellsSpec)

/-- 'marginalialaw22.IsoForms', WHERE WHAT IT READS IS OF BULK AT MOST 1048576: true; the input reads as it did. -/
def isoFormsUptoRow : OpenClaim := { program := "ytdcbngimgpdjoaadoor", sum := "31614afc1e79f361619835019eab1aa16ad4e86ff5db0d417771aea342580668", func := "marginalia/marginalialaw22.IsoForms", spec := "isoForms", unfollowed := true, recurses := true, named := ["unicode/utf8.first", "unicode/utf8.acceptRanges"], apart := false, laid := [("unicode/utf8.acceptRanges", laid_unicode_utf8_acceptRanges), ("unicode/utf8.first", laid_unicode_utf8_first)], narrowed := true }
def IsoFormsUptoSaid : Prop := isoFormsUptoRow.holds Tryd.pinned (OpenSpec.upto isoFormsSpec)

/-- 'marginalialaw22.IsoTurns', WHERE WHAT IT READS IS OF BULK AT MOST 1048576: true; the input reads as it did. -/
def isoTurnsUptoRow : OpenClaim := { program := "ytdcbngimgpdjoaadoor", sum := "31614afc1e79f361619835019eab1aa16ad4e86ff5db0d417771aea342580668", func := "marginalia/marginalialaw22.IsoTurns", spec := "isoTurns", unfollowed := true, recurses := true, named := ["unicode/utf8.first", "unicode/utf8.acceptRanges"], apart := false, laid := [("unicode/utf8.acceptRanges", laid_unicode_utf8_acceptRanges), ("unicode/utf8.first", laid_unicode_utf8_first)], narrowed := true }
def IsoTurnsUptoSaid : Prop := isoTurnsUptoRow.holds Tryd.pinned (OpenSpec.upto isoTurnsSpec)

/-- 'marginalialaw22.IsoShares', WHERE WHAT IT READS IS OF BULK AT MOST 1048576: true; the input reads as it did. -/
def isoSharesUptoRow : OpenClaim := { program := "ytdcbngimgpdjoaadoor", sum := "31614afc1e79f361619835019eab1aa16ad4e86ff5db0d417771aea342580668", func := "marginalia/marginalialaw22.IsoShares", spec := "isoShares", unfollowed := true, recurses := true, named := ["unicode/utf8.first", "unicode/utf8.acceptRanges"], apart := false, laid := [("unicode/utf8.acceptRanges", laid_unicode_utf8_acceptRanges), ("unicode/utf8.first", laid_unicode_utf8_first)], narrowed := true }
def IsoSharesUptoSaid : Prop := isoSharesUptoRow.holds Tryd.pinned (OpenSpec.upto isoSharesSpec)

/-- 'marginalialaw23.ExpandSizes', WHERE WHAT IT READS IS OF BULK AT MOST 1048576: true; the input reads as it did. -/
def expandSizesUptoRow : OpenClaim := { program := "ytdcbngimgpdjoaadoor", sum := "31614afc1e79f361619835019eab1aa16ad4e86ff5db0d417771aea342580668", func := "marginalia/marginalialaw23.ExpandSizes", spec := "expandSizes", unfollowed := true, recurses := true, named := ["unicode/utf8.first", "unicode/utf8.acceptRanges"], apart := false, laid := [("unicode/utf8.acceptRanges", laid_unicode_utf8_acceptRanges), ("unicode/utf8.first", laid_unicode_utf8_first)], narrowed := true }
def ExpandSizesUptoSaid : Prop := expandSizesUptoRow.holds Tryd.pinned (OpenSpec.upto expandSizesSpec)

/-- 'marginalialaw23.ExpandTrees', WHERE WHAT IT READS IS OF BULK AT MOST 1048576: true; the input reads as it did. -/
def expandTreesUptoRow : OpenClaim := { program := "ytdcbngimgpdjoaadoor", sum := "31614afc1e79f361619835019eab1aa16ad4e86ff5db0d417771aea342580668", func := "marginalia/marginalialaw23.ExpandTrees", spec := "expandTrees", unfollowed := true, recurses := true, named := ["unicode/utf8.first", "unicode/utf8.acceptRanges"], apart := false, laid := [("unicode/utf8.acceptRanges", laid_unicode_utf8_acceptRanges), ("unicode/utf8.first", laid_unicode_utf8_first)], narrowed := true }
def ExpandTreesUptoSaid : Prop := expandTreesUptoRow.holds Tryd.pinned (OpenSpec.upto expandTreesSpec)

/-- 'marginalialaw23.ExpandBombs', WHERE WHAT IT READS IS OF BULK AT MOST 1048576: true; the input reads as it did. -/
def expandBombsUptoRow : OpenClaim := { program := "ytdcbngimgpdjoaadoor", sum := "31614afc1e79f361619835019eab1aa16ad4e86ff5db0d417771aea342580668", func := "marginalia/marginalialaw23.ExpandBombs", spec := "expandBombs", unfollowed := true, recurses := true, named := ["unicode/utf8.first", "unicode/utf8.acceptRanges"], apart := false, laid := [("unicode/utf8.acceptRanges", laid_unicode_utf8_acceptRanges), ("unicode/utf8.first", laid_unicode_utf8_first)], narrowed := true }
def ExpandBombsUptoSaid : Prop := expandBombsUptoRow.holds Tryd.pinned (OpenSpec.upto expandBombsSpec)

/-- 'marginalialaw23.ExpandParts', WHERE WHAT IT READS IS OF BULK AT MOST 1048576: true; the input reads as it did. -/
def expandPartsUptoRow : OpenClaim := { program := "ytdcbngimgpdjoaadoor", sum := "31614afc1e79f361619835019eab1aa16ad4e86ff5db0d417771aea342580668", func := "marginalia/marginalialaw23.ExpandParts", spec := "expandParts", unfollowed := true, recurses := true, named := ["unicode/utf8.first", "unicode/utf8.acceptRanges"], apart := false, laid := [("unicode/utf8.acceptRanges", laid_unicode_utf8_acceptRanges), ("unicode/utf8.first", laid_unicode_utf8_first)], narrowed := true }
def ExpandPartsUptoSaid : Prop := expandPartsUptoRow.holds Tryd.pinned (OpenSpec.upto expandPartsSpec)

/-- 'marginalialaw23.ExpandRounds', WHERE WHAT IT READS IS OF BULK AT MOST 1048576: true; the input reads as it did. -/
def expandRoundsUptoRow : OpenClaim := { program := "ytdcbngimgpdjoaadoor", sum := "31614afc1e79f361619835019eab1aa16ad4e86ff5db0d417771aea342580668", func := "marginalia/marginalialaw23.ExpandRounds", spec := "expandRounds", unfollowed := true, recurses := true, named := ["unicode/utf8.first", "unicode/utf8.acceptRanges"], apart := false, laid := [("unicode/utf8.acceptRanges", laid_unicode_utf8_acceptRanges), ("unicode/utf8.first", laid_unicode_utf8_first)], narrowed := true }
def ExpandRoundsUptoSaid : Prop := expandRoundsUptoRow.holds Tryd.pinned (OpenSpec.upto expandRoundsSpec)

end Rows
end Go.Proofs.YtdcbngimgpdjoaaDoor
