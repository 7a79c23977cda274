/-
  DERIVED. GIVEN WITH THE SEED: THE CARDS: each row of YtdnmllklceaknaaDoorRows.lean that lists a variable, with what it lists TIED to the program's text (the seventh form; the later family's looks); each row that meets fmt, with fmt's text TOLD by the authors' own Lean function (tested against real Go, not proved from fmt's source: count such statements apart). THE CARD IS WHAT COUNTS. Prove the row's statement (the work); the ties are given (YtdnmllklceaknaaDoorTie.lean); close each card by the builder's one call (the guide's Derived/Test/ToyasCard.lean, 'card_holds'). Laid BY PROGRAM, IN A SANDBOX (cutbox-door.mjs). By AI agents, Wed Nov 11 2026. No macro, syntax, notation, axiom, sorry.
-/
import Derived.Test.YtdnmllklceaknaaDoorRows
import GoSem.ClaimSeven
namespace Go.Proofs.YtdnmllklceaknaaDoor
namespace Rows

/-- THE TIED CARD OF 'marginalialaw4.DigitsPlain'. -/
def digitsPlainCard : Claim7 := { stood := { row := digitsPlainRow, standIns := [], harness := (true, "3c8ffa03fdc1072a4ee1a1660c82b9e307f3ce5e23392a38c8bb5404d1f9ad63"), looks := false }, kinds := [], alts := [], laidByText := true, laidKinds := [.data, .pinned], laidTests := true, laidLooks := .later }
def DigitsPlainCardSaid : Prop := Claim7.holds Tryd.pinned (.plain (OpenSpec.ofChange digitsPlainSpec)) digitsPlainCard

/-- THE TIED CARD OF 'marginalialaw4.DigitsBases'. -/
def digitsBasesCard : Claim7 := { stood := { row := digitsBasesRow, standIns := [], harness := (true, "3c8ffa03fdc1072a4ee1a1660c82b9e307f3ce5e23392a38c8bb5404d1f9ad63"), looks := false }, kinds := [], alts := [], laidByText := true, laidKinds := [.data, .pinned], laidTests := true, laidLooks := .later }
def DigitsBasesCardSaid : Prop := Claim7.holds Tryd.pinned (.plain (OpenSpec.ofChange digitsBasesSpec)) digitsBasesCard

/-- THE TIED CARD OF 'marginalialaw4.DigitsSums'. -/
def digitsSumsCard : Claim7 := { stood := { row := digitsSumsRow, standIns := [], harness := (true, "3c8ffa03fdc1072a4ee1a1660c82b9e307f3ce5e23392a38c8bb5404d1f9ad63"), looks := false }, kinds := [], alts := [], laidByText := true, laidKinds := [.data, .pinned], laidTests := true, laidLooks := .later }
def DigitsSumsCardSaid : Prop := Claim7.holds Tryd.pinned (.plain (OpenSpec.ofChange digitsSumsSpec)) digitsSumsCard

/-- THE TIED CARD OF 'marginalialaw4.DigitsSmall'. -/
def digitsSmallCard : Claim7 := { stood := { row := digitsSmallRow, standIns := [], harness := (true, "3c8ffa03fdc1072a4ee1a1660c82b9e307f3ce5e23392a38c8bb5404d1f9ad63"), looks := false }, kinds := [], alts := [], laidByText := true, laidKinds := [.data, .pinned], laidTests := true, laidLooks := .later }
def DigitsSmallCardSaid : Prop := Claim7.holds Tryd.pinned (.plain (OpenSpec.ofChange digitsSmallSpec)) digitsSmallCard

/-- THE TIED CARD OF 'marginalialaw4.DigitsLaws'. -/
def digitsLawsCard : Claim7 := { stood := { row := digitsLawsRow, standIns := [], harness := (true, "3c8ffa03fdc1072a4ee1a1660c82b9e307f3ce5e23392a38c8bb5404d1f9ad63"), looks := false }, kinds := [], alts := [], laidByText := true, laidKinds := [.data, .pinned], laidTests := true, laidLooks := .later }
def DigitsLawsCardSaid : Prop := Claim7.holds Tryd.pinned (.plain (OpenSpec.ofChange digitsLawsSpec)) digitsLawsCard

/-- THE SECOND FORM's CARD OF 'marginalialaw4.DigitsPlain'. -/
def digitsPlainUptoCard : Claim7 := { stood := { row := digitsPlainUptoRow, standIns := [], harness := (true, "3c8ffa03fdc1072a4ee1a1660c82b9e307f3ce5e23392a38c8bb5404d1f9ad63"), looks := false }, kinds := [], alts := [], laidByText := true, laidKinds := [.data, .pinned], laidTests := true, laidLooks := .later }
def DigitsPlainUptoCardSaid : Prop := Claim7.holds Tryd.pinned (.plain (OpenSpec.upto digitsPlainSpec)) digitsPlainUptoCard

/-- THE SECOND FORM's CARD OF 'marginalialaw4.DigitsBases'. -/
def digitsBasesUptoCard : Claim7 := { stood := { row := digitsBasesUptoRow, standIns := [], harness := (true, "3c8ffa03fdc1072a4ee1a1660c82b9e307f3ce5e23392a38c8bb5404d1f9ad63"), looks := false }, kinds := [], alts := [], laidByText := true, laidKinds := [.data, .pinned], laidTests := true, laidLooks := .later }
def DigitsBasesUptoCardSaid : Prop := Claim7.holds Tryd.pinned (.plain (OpenSpec.upto digitsBasesSpec)) digitsBasesUptoCard

/-- THE SECOND FORM's CARD OF 'marginalialaw4.DigitsSums'. -/
def digitsSumsUptoCard : Claim7 := { stood := { row := digitsSumsUptoRow, standIns := [], harness := (true, "3c8ffa03fdc1072a4ee1a1660c82b9e307f3ce5e23392a38c8bb5404d1f9ad63"), looks := false }, kinds := [], alts := [], laidByText := true, laidKinds := [.data, .pinned], laidTests := true, laidLooks := .later }
def DigitsSumsUptoCardSaid : Prop := Claim7.holds Tryd.pinned (.plain (OpenSpec.upto digitsSumsSpec)) digitsSumsUptoCard

/-- THE SECOND FORM's CARD OF 'marginalialaw4.DigitsSmall'. -/
def digitsSmallUptoCard : Claim7 := { stood := { row := digitsSmallUptoRow, standIns := [], harness := (true, "3c8ffa03fdc1072a4ee1a1660c82b9e307f3ce5e23392a38c8bb5404d1f9ad63"), looks := false }, kinds := [], alts := [], laidByText := true, laidKinds := [.data, .pinned], laidTests := true, laidLooks := .later }
def DigitsSmallUptoCardSaid : Prop := Claim7.holds Tryd.pinned (.plain (OpenSpec.upto digitsSmallSpec)) digitsSmallUptoCard

/-- THE SECOND FORM's CARD OF 'marginalialaw4.DigitsLaws'. -/
def digitsLawsUptoCard : Claim7 := { stood := { row := digitsLawsUptoRow, standIns := [], harness := (true, "3c8ffa03fdc1072a4ee1a1660c82b9e307f3ce5e23392a38c8bb5404d1f9ad63"), looks := false }, kinds := [], alts := [], laidByText := true, laidKinds := [.data, .pinned], laidTests := true, laidLooks := .later }
def DigitsLawsUptoCardSaid : Prop := Claim7.holds Tryd.pinned (.plain (OpenSpec.upto digitsLawsSpec)) digitsLawsUptoCard
end Rows
end Go.Proofs.YtdnmllklceaknaaDoor
