/-
  DERIVED. GIVEN WITH THE SEED: THE CARDS: each row of YtnofdlpifpjlbaaDoorRows.lean that lists a variable, with what it lists TIED to the program's text (the seventh form; the later family's looks); each row that meets fmt, with fmt's text TOLD by the authors' own Lean function (tested against real Go, not proved from fmt's source: count such statements apart). THE CARD IS WHAT COUNTS. Prove the row's statement (the work); the ties are given (YtnofdlpifpjlbaaDoorTie.lean); close each card by the builder's one call (the guide's Derived/Test/ToyasCard.lean, 'card_holds'). Laid BY PROGRAM, IN A SANDBOX (cutbox-door.mjs). By AI agents, Wed Nov 11 2026. No macro, syntax, notation, axiom, sorry.
-/
import Derived.Test.YtnofdlpifpjlbaaDoorRows
import GoSem.ClaimSeven
namespace Go.Proofs.YtnofdlpifpjlbaaDoor
namespace Rows

/-- THE TIED CARD OF 'marginalialaw24.LegalLess'. -/
def legalLessCard : Claim7 := { stood := { row := legalLessRow, standIns := [], harness := (true, "4712160da52b5a3f6d4d2f2de578d7eaaa89b5a6ea4aa9cae77c45c1be37b4ae"), looks := false }, kinds := [], alts := [], laidByText := true, laidKinds := [.data, .pinned], laidTests := true, laidLooks := .later }
def LegalLessCardSaid : Prop := Claim7.holds Tryd.pinned (.plain (OpenSpec.ofChange legalLessSpec)) legalLessCard

/-- THE TIED CARD OF 'marginalialaw24.LegalChomps'. -/
def legalChompsCard : Claim7 := { stood := { row := legalChompsRow, standIns := [], harness := (true, "4712160da52b5a3f6d4d2f2de578d7eaaa89b5a6ea4aa9cae77c45c1be37b4ae"), looks := false }, kinds := [], alts := [], laidByText := true, laidKinds := [.data, .pinned], laidTests := true, laidLooks := .later }
def LegalChompsCardSaid : Prop := Claim7.holds Tryd.pinned (.plain (OpenSpec.ofChange legalChompsSpec)) legalChompsCard

/-- THE TIED CARD OF 'marginalialaw24.LegalTells'. -/
def legalTellsCard : Claim7 := { stood := { row := legalTellsRow, standIns := [], harness := (true, "4712160da52b5a3f6d4d2f2de578d7eaaa89b5a6ea4aa9cae77c45c1be37b4ae"), looks := false }, kinds := [], alts := [], laidByText := true, laidKinds := [.data, .pinned], laidTests := true, laidLooks := .later }
def LegalTellsCardSaid : Prop := Claim7.holds Tryd.pinned (.plain (OpenSpec.ofChange legalTellsSpec)) legalTellsCard

/-- THE SECOND FORM's CARD OF 'marginalialaw24.LegalLess'. -/
def legalLessUptoCard : Claim7 := { stood := { row := legalLessUptoRow, standIns := [], harness := (true, "4712160da52b5a3f6d4d2f2de578d7eaaa89b5a6ea4aa9cae77c45c1be37b4ae"), looks := false }, kinds := [], alts := [], laidByText := true, laidKinds := [.data, .pinned], laidTests := true, laidLooks := .later }
def LegalLessUptoCardSaid : Prop := Claim7.holds Tryd.pinned (.plain (OpenSpec.upto legalLessSpec)) legalLessUptoCard

/-- THE SECOND FORM's CARD OF 'marginalialaw24.LegalChomps'. -/
def legalChompsUptoCard : Claim7 := { stood := { row := legalChompsUptoRow, standIns := [], harness := (true, "4712160da52b5a3f6d4d2f2de578d7eaaa89b5a6ea4aa9cae77c45c1be37b4ae"), looks := false }, kinds := [], alts := [], laidByText := true, laidKinds := [.data, .pinned], laidTests := true, laidLooks := .later }
def LegalChompsUptoCardSaid : Prop := Claim7.holds Tryd.pinned (.plain (OpenSpec.upto legalChompsSpec)) legalChompsUptoCard

/-- THE SECOND FORM's CARD OF 'marginalialaw24.LegalTells'. -/
def legalTellsUptoCard : Claim7 := { stood := { row := legalTellsUptoRow, standIns := [], harness := (true, "4712160da52b5a3f6d4d2f2de578d7eaaa89b5a6ea4aa9cae77c45c1be37b4ae"), looks := false }, kinds := [], alts := [], laidByText := true, laidKinds := [.data, .pinned], laidTests := true, laidLooks := .later }
def LegalTellsUptoCardSaid : Prop := Claim7.holds Tryd.pinned (.plain (OpenSpec.upto legalTellsSpec)) legalTellsUptoCard
end Rows
end Go.Proofs.YtnofdlpifpjlbaaDoor
