/-
  DERIVED. GIVEN WITH THE SEED: THE CARDS: each row of YtdcbngimgpdjoaaDoorRows.lean that lists a variable, with what it lists TIED to the program's text (the seventh form; the later family's looks); each row that meets fmt, with fmt's text TOLD by the authors' own Lean function (tested against real Go, not proved from fmt's source: count such statements apart). THE CARD IS WHAT COUNTS. Prove the row's statement (the work); the ties are given (YtdcbngimgpdjoaaDoorTie.lean); close each card by the builder's one call (the guide's Derived/Test/ToyasCard.lean, 'card_holds'). Laid BY PROGRAM, IN A SANDBOX (cutbox-door.mjs). By AI agents, Wed Nov 11 2026. No macro, syntax, notation, axiom, sorry.
-/
import Derived.Test.YtdcbngimgpdjoaaDoorRows
import GoSem.ClaimSeven
namespace Go.Proofs.YtdcbngimgpdjoaaDoor
namespace Rows

/-- THE TIED CARD OF 'marginalialaw17.GraphTells'. -/
def graphTellsCard : Claim7 := { stood := { row := graphTellsRow, standIns := [], harness := (true, "6f9f85f5eb1940186fa545757aa1ec22d993e728833201eb6d7600bd9719280a"), looks := false }, kinds := [], alts := [], laidByText := true, laidKinds := [.data, .pinned], laidTests := true, laidLooks := .later }
def GraphTellsCardSaid : Prop := Claim7.holds Tryd.pinned (.plain (OpenSpec.ofChange graphTellsSpec)) graphTellsCard

/-- THE TIED CARD OF 'marginalialaw17.GraphReach'. -/
def graphReachCard : Claim7 := { stood := { row := graphReachRow, standIns := [], harness := (true, "6f9f85f5eb1940186fa545757aa1ec22d993e728833201eb6d7600bd9719280a"), looks := false }, kinds := [], alts := [], laidByText := true, laidKinds := [.data, .pinned], laidTests := true, laidLooks := .later }
def GraphReachCardSaid : Prop := Claim7.holds Tryd.pinned (.plain (OpenSpec.ofChange graphReachSpec)) graphReachCard

/-- THE TIED CARD OF 'marginalialaw17.GraphRings'. -/
def graphRingsCard : Claim7 := { stood := { row := graphRingsRow, standIns := [], harness := (true, "6f9f85f5eb1940186fa545757aa1ec22d993e728833201eb6d7600bd9719280a"), looks := false }, kinds := [], alts := [], laidByText := true, laidKinds := [.data, .pinned], laidTests := true, laidLooks := .later }
def GraphRingsCardSaid : Prop := Claim7.holds Tryd.pinned (.plain (OpenSpec.ofChange graphRingsSpec)) graphRingsCard

/-- THE TIED CARD OF 'marginalialaw17.GraphWrong'. -/
def graphWrongCard : Claim7 := { stood := { row := graphWrongRow, standIns := [], harness := (true, "6f9f85f5eb1940186fa545757aa1ec22d993e728833201eb6d7600bd9719280a"), looks := false }, kinds := [], alts := [], laidByText := true, laidKinds := [.data, .pinned], laidTests := true, laidLooks := .later }
def GraphWrongCardSaid : Prop := Claim7.holds Tryd.pinned (.plain (OpenSpec.ofChange graphWrongSpec)) graphWrongCard

/-- THE TIED CARD OF 'marginalialaw22.IsoTells'. -/
def isoTellsCard : Claim7 := { stood := { row := isoTellsRow, standIns := [], harness := (true, "6f9f85f5eb1940186fa545757aa1ec22d993e728833201eb6d7600bd9719280a"), looks := false }, kinds := [], alts := [], laidByText := true, laidKinds := [.data, .pinned], laidTests := true, laidLooks := .later }
def IsoTellsCardSaid : Prop := Claim7.holds Tryd.pinned (.plain (OpenSpec.ofChange isoTellsSpec)) isoTellsCard

/-- THE TIED CARD OF 'marginalialaw22.IsoForms'. -/
def isoFormsCard : Claim7 := { stood := { row := isoFormsRow, standIns := [], harness := (true, "6f9f85f5eb1940186fa545757aa1ec22d993e728833201eb6d7600bd9719280a"), looks := false }, kinds := [], alts := [], laidByText := true, laidKinds := [.data, .pinned], laidTests := true, laidLooks := .later }
def IsoFormsCardSaid : Prop := Claim7.holds Tryd.pinned (.plain (OpenSpec.ofChange isoFormsSpec)) isoFormsCard

/-- THE TIED CARD OF 'marginalialaw22.IsoTurns'. -/
def isoTurnsCard : Claim7 := { stood := { row := isoTurnsRow, standIns := [], harness := (true, "6f9f85f5eb1940186fa545757aa1ec22d993e728833201eb6d7600bd9719280a"), looks := false }, kinds := [], alts := [], laidByText := true, laidKinds := [.data, .pinned], laidTests := true, laidLooks := .later }
def IsoTurnsCardSaid : Prop := Claim7.holds Tryd.pinned (.plain (OpenSpec.ofChange isoTurnsSpec)) isoTurnsCard

/-- THE TIED CARD OF 'marginalialaw22.IsoShares'. -/
def isoSharesCard : Claim7 := { stood := { row := isoSharesRow, standIns := [], harness := (true, "6f9f85f5eb1940186fa545757aa1ec22d993e728833201eb6d7600bd9719280a"), looks := false }, kinds := [], alts := [], laidByText := true, laidKinds := [.data, .pinned], laidTests := true, laidLooks := .later }
def IsoSharesCardSaid : Prop := Claim7.holds Tryd.pinned (.plain (OpenSpec.ofChange isoSharesSpec)) isoSharesCard

/-- THE TIED CARD OF 'marginalialaw23.ExpandSizes'. -/
def expandSizesCard : Claim7 := { stood := { row := expandSizesRow, standIns := [], harness := (true, "6f9f85f5eb1940186fa545757aa1ec22d993e728833201eb6d7600bd9719280a"), looks := false }, kinds := [], alts := [], laidByText := true, laidKinds := [.data, .pinned], laidTests := true, laidLooks := .later }
def ExpandSizesCardSaid : Prop := Claim7.holds Tryd.pinned (.plain (OpenSpec.ofChange expandSizesSpec)) expandSizesCard

/-- THE TIED CARD OF 'marginalialaw23.ExpandTrees'. -/
def expandTreesCard : Claim7 := { stood := { row := expandTreesRow, standIns := [], harness := (true, "6f9f85f5eb1940186fa545757aa1ec22d993e728833201eb6d7600bd9719280a"), looks := false }, kinds := [], alts := [], laidByText := true, laidKinds := [.data, .pinned], laidTests := true, laidLooks := .later }
def ExpandTreesCardSaid : Prop := Claim7.holds Tryd.pinned (.plain (OpenSpec.ofChange expandTreesSpec)) expandTreesCard

/-- THE TIED CARD OF 'marginalialaw23.ExpandBombs'. -/
def expandBombsCard : Claim7 := { stood := { row := expandBombsRow, standIns := [], harness := (true, "6f9f85f5eb1940186fa545757aa1ec22d993e728833201eb6d7600bd9719280a"), looks := false }, kinds := [], alts := [], laidByText := true, laidKinds := [.data, .pinned], laidTests := true, laidLooks := .later }
def ExpandBombsCardSaid : Prop := Claim7.holds Tryd.pinned (.plain (OpenSpec.ofChange expandBombsSpec)) expandBombsCard

/-- THE TIED CARD OF 'marginalialaw23.ExpandParts'. -/
def expandPartsCard : Claim7 := { stood := { row := expandPartsRow, standIns := [], harness := (true, "6f9f85f5eb1940186fa545757aa1ec22d993e728833201eb6d7600bd9719280a"), looks := false }, kinds := [], alts := [], laidByText := true, laidKinds := [.data, .pinned], laidTests := true, laidLooks := .later }
def ExpandPartsCardSaid : Prop := Claim7.holds Tryd.pinned (.plain (OpenSpec.ofChange expandPartsSpec)) expandPartsCard

/-- THE TIED CARD OF 'marginalialaw23.ExpandRounds'. -/
def expandRoundsCard : Claim7 := { stood := { row := expandRoundsRow, standIns := [], harness := (true, "6f9f85f5eb1940186fa545757aa1ec22d993e728833201eb6d7600bd9719280a"), looks := false }, kinds := [], alts := [], laidByText := true, laidKinds := [.data, .pinned], laidTests := true, laidLooks := .later }
def ExpandRoundsCardSaid : Prop := Claim7.holds Tryd.pinned (.plain (OpenSpec.ofChange expandRoundsSpec)) expandRoundsCard

/-- THE SECOND FORM's CARD OF 'marginalialaw17.GraphTells'. -/
def graphTellsUptoCard : Claim7 := { stood := { row := graphTellsUptoRow, standIns := [], harness := (true, "6f9f85f5eb1940186fa545757aa1ec22d993e728833201eb6d7600bd9719280a"), looks := false }, kinds := [], alts := [], laidByText := true, laidKinds := [.data, .pinned], laidTests := true, laidLooks := .later }
def GraphTellsUptoCardSaid : Prop := Claim7.holds Tryd.pinned (.plain (OpenSpec.upto graphTellsSpec)) graphTellsUptoCard

/-- THE SECOND FORM's CARD OF 'marginalialaw17.GraphReach'. -/
def graphReachUptoCard : Claim7 := { stood := { row := graphReachUptoRow, standIns := [], harness := (true, "6f9f85f5eb1940186fa545757aa1ec22d993e728833201eb6d7600bd9719280a"), looks := false }, kinds := [], alts := [], laidByText := true, laidKinds := [.data, .pinned], laidTests := true, laidLooks := .later }
def GraphReachUptoCardSaid : Prop := Claim7.holds Tryd.pinned (.plain (OpenSpec.upto graphReachSpec)) graphReachUptoCard

/-- THE SECOND FORM's CARD OF 'marginalialaw17.GraphRings'. -/
def graphRingsUptoCard : Claim7 := { stood := { row := graphRingsUptoRow, standIns := [], harness := (true, "6f9f85f5eb1940186fa545757aa1ec22d993e728833201eb6d7600bd9719280a"), looks := false }, kinds := [], alts := [], laidByText := true, laidKinds := [.data, .pinned], laidTests := true, laidLooks := .later }
def GraphRingsUptoCardSaid : Prop := Claim7.holds Tryd.pinned (.plain (OpenSpec.upto graphRingsSpec)) graphRingsUptoCard

/-- THE SECOND FORM's CARD OF 'marginalialaw17.GraphWrong'. -/
def graphWrongUptoCard : Claim7 := { stood := { row := graphWrongUptoRow, standIns := [], harness := (true, "6f9f85f5eb1940186fa545757aa1ec22d993e728833201eb6d7600bd9719280a"), looks := false }, kinds := [], alts := [], laidByText := true, laidKinds := [.data, .pinned], laidTests := true, laidLooks := .later }
def GraphWrongUptoCardSaid : Prop := Claim7.holds Tryd.pinned (.plain (OpenSpec.upto graphWrongSpec)) graphWrongUptoCard

/-- THE SECOND FORM's CARD OF 'marginalialaw22.IsoTells'. -/
def isoTellsUptoCard : Claim7 := { stood := { row := isoTellsUptoRow, standIns := [], harness := (true, "6f9f85f5eb1940186fa545757aa1ec22d993e728833201eb6d7600bd9719280a"), looks := false }, kinds := [], alts := [], laidByText := true, laidKinds := [.data, .pinned], laidTests := true, laidLooks := .later }
def IsoTellsUptoCardSaid : Prop := Claim7.holds Tryd.pinned (.plain (OpenSpec.upto isoTellsSpec)) isoTellsUptoCard

/-- THE SECOND FORM's CARD OF 'marginalialaw22.IsoForms'. -/
def isoFormsUptoCard : Claim7 := { stood := { row := isoFormsUptoRow, standIns := [], harness := (true, "6f9f85f5eb1940186fa545757aa1ec22d993e728833201eb6d7600bd9719280a"), looks := false }, kinds := [], alts := [], laidByText := true, laidKinds := [.data, .pinned], laidTests := true, laidLooks := .later }
def IsoFormsUptoCardSaid : Prop := Claim7.holds Tryd.pinned (.plain (OpenSpec.upto isoFormsSpec)) isoFormsUptoCard

/-- THE SECOND FORM's CARD OF 'marginalialaw22.IsoTurns'. -/
def isoTurnsUptoCard : Claim7 := { stood := { row := isoTurnsUptoRow, standIns := [], harness := (true, "6f9f85f5eb1940186fa545757aa1ec22d993e728833201eb6d7600bd9719280a"), looks := false }, kinds := [], alts := [], laidByText := true, laidKinds := [.data, .pinned], laidTests := true, laidLooks := .later }
def IsoTurnsUptoCardSaid : Prop := Claim7.holds Tryd.pinned (.plain (OpenSpec.upto isoTurnsSpec)) isoTurnsUptoCard

/-- THE SECOND FORM's CARD OF 'marginalialaw22.IsoShares'. -/
def isoSharesUptoCard : Claim7 := { stood := { row := isoSharesUptoRow, standIns := [], harness := (true, "6f9f85f5eb1940186fa545757aa1ec22d993e728833201eb6d7600bd9719280a"), looks := false }, kinds := [], alts := [], laidByText := true, laidKinds := [.data, .pinned], laidTests := true, laidLooks := .later }
def IsoSharesUptoCardSaid : Prop := Claim7.holds Tryd.pinned (.plain (OpenSpec.upto isoSharesSpec)) isoSharesUptoCard

/-- THE SECOND FORM's CARD OF 'marginalialaw23.ExpandSizes'. -/
def expandSizesUptoCard : Claim7 := { stood := { row := expandSizesUptoRow, standIns := [], harness := (true, "6f9f85f5eb1940186fa545757aa1ec22d993e728833201eb6d7600bd9719280a"), looks := false }, kinds := [], alts := [], laidByText := true, laidKinds := [.data, .pinned], laidTests := true, laidLooks := .later }
def ExpandSizesUptoCardSaid : Prop := Claim7.holds Tryd.pinned (.plain (OpenSpec.upto expandSizesSpec)) expandSizesUptoCard

/-- THE SECOND FORM's CARD OF 'marginalialaw23.ExpandTrees'. -/
def expandTreesUptoCard : Claim7 := { stood := { row := expandTreesUptoRow, standIns := [], harness := (true, "6f9f85f5eb1940186fa545757aa1ec22d993e728833201eb6d7600bd9719280a"), looks := false }, kinds := [], alts := [], laidByText := true, laidKinds := [.data, .pinned], laidTests := true, laidLooks := .later }
def ExpandTreesUptoCardSaid : Prop := Claim7.holds Tryd.pinned (.plain (OpenSpec.upto expandTreesSpec)) expandTreesUptoCard

/-- THE SECOND FORM's CARD OF 'marginalialaw23.ExpandBombs'. -/
def expandBombsUptoCard : Claim7 := { stood := { row := expandBombsUptoRow, standIns := [], harness := (true, "6f9f85f5eb1940186fa545757aa1ec22d993e728833201eb6d7600bd9719280a"), looks := false }, kinds := [], alts := [], laidByText := true, laidKinds := [.data, .pinned], laidTests := true, laidLooks := .later }
def ExpandBombsUptoCardSaid : Prop := Claim7.holds Tryd.pinned (.plain (OpenSpec.upto expandBombsSpec)) expandBombsUptoCard

/-- THE SECOND FORM's CARD OF 'marginalialaw23.ExpandParts'. -/
def expandPartsUptoCard : Claim7 := { stood := { row := expandPartsUptoRow, standIns := [], harness := (true, "6f9f85f5eb1940186fa545757aa1ec22d993e728833201eb6d7600bd9719280a"), looks := false }, kinds := [], alts := [], laidByText := true, laidKinds := [.data, .pinned], laidTests := true, laidLooks := .later }
def ExpandPartsUptoCardSaid : Prop := Claim7.holds Tryd.pinned (.plain (OpenSpec.upto expandPartsSpec)) expandPartsUptoCard

/-- THE SECOND FORM's CARD OF 'marginalialaw23.ExpandRounds'. -/
def expandRoundsUptoCard : Claim7 := { stood := { row := expandRoundsUptoRow, standIns := [], harness := (true, "6f9f85f5eb1940186fa545757aa1ec22d993e728833201eb6d7600bd9719280a"), looks := false }, kinds := [], alts := [], laidByText := true, laidKinds := [.data, .pinned], laidTests := true, laidLooks := .later }
def ExpandRoundsUptoCardSaid : Prop := Claim7.holds Tryd.pinned (.plain (OpenSpec.upto expandRoundsSpec)) expandRoundsUptoCard
end Rows
end Go.Proofs.YtdcbngimgpdjoaaDoor
