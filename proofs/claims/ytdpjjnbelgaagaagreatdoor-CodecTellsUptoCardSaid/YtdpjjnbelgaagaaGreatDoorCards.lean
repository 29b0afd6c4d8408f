/-
  DERIVED. GIVEN WITH THE SEED: THE CARDS: each row of YtdpjjnbelgaagaaGreatDoorRows.lean that lists a variable, with what it lists TIED to the program's text (the seventh form; the later family's looks); each row that meets fmt, with fmt's text TOLD by the authors' own Lean function (tested against real Go, not proved from fmt's source: count such statements apart). THE CARD IS WHAT COUNTS. Prove the row's statement (the work); the ties are given (YtdpjjnbelgaagaaGreatDoorTie.lean); close each card by the builder's one call (the guide's Derived/Test/ToyasCard.lean, 'card_holds'). Laid BY PROGRAM, IN A SANDBOX (cutbox-door.mjs). By AI agents, Wed Nov 11 2026. No macro, syntax, notation, axiom, sorry.
-/
import Derived.Test.YtdpjjnbelgaagaaGreatDoorRows
import GoSem.ClaimSeven
namespace Go.Proofs.YtdpjjnbelgaagaaGreatDoor
namespace Rows

/-- THE TIED CARD OF 'chandlerylaw11.CodecNames'. -/
def codecNamesCard : Claim7 := { stood := { row := codecNamesRow, standIns := [], harness := (true, "971ba55ac82902214846bd5bd86662645b24d8f8fc4d8fca0ef934442a086e7c"), looks := true }, kinds := [], alts := [], laidByText := true, laidKinds := [.mapped, .data], laidTests := true, laidLooks := .later }
def CodecNamesCardSaid : Prop := Claim7.holds Tryz.pinned (.plain (OpenSpec.ofChange codecNamesSpec)) codecNamesCard

/-- THE TIED CARD OF 'chandlerylaw11.CodecBack'. -/
def codecBackCard : Claim7 := { stood := { row := codecBackRow, standIns := [], harness := (true, "971ba55ac82902214846bd5bd86662645b24d8f8fc4d8fca0ef934442a086e7c"), looks := true }, kinds := [], alts := [], laidByText := true, laidKinds := [.mapped, .data], laidTests := true, laidLooks := .later }
def CodecBackCardSaid : Prop := Claim7.holds Tryz.pinned (.plain (OpenSpec.ofChange codecBackSpec)) codecBackCard

/-- THE TIED CARD OF 'chandlerylaw11.CodecBegun'. -/
def codecBegunCard : Claim7 := { stood := { row := codecBegunRow, standIns := [], harness := (true, "971ba55ac82902214846bd5bd86662645b24d8f8fc4d8fca0ef934442a086e7c"), looks := true }, kinds := [], alts := [], laidByText := true, laidKinds := [.mapped, .data], laidTests := true, laidLooks := .later }
def CodecBegunCardSaid : Prop := Claim7.holds Tryz.pinned (.plain (OpenSpec.ofChange codecBegunSpec)) codecBegunCard

/-- THE TIED CARD OF 'chandlerylaw11.CodecTells'. -/
def codecTellsCard : Claim7 := { stood := { row := codecTellsRow, standIns := [], harness := (true, "971ba55ac82902214846bd5bd86662645b24d8f8fc4d8fca0ef934442a086e7c"), looks := true }, kinds := [], alts := [], laidByText := true, laidKinds := [.mapped, .data], laidTests := true, laidLooks := .later }
def CodecTellsCardSaid : Prop := Claim7.holds Tryz.pinned (.plain (OpenSpec.ofChange codecTellsSpec)) codecTellsCard

/-- THE TIED CARD OF 'chandlerylaw11.CodecUnlike'. -/
def codecUnlikeCard : Claim7 := { stood := { row := codecUnlikeRow, standIns := [], harness := (true, "971ba55ac82902214846bd5bd86662645b24d8f8fc4d8fca0ef934442a086e7c"), looks := true }, kinds := [], alts := [], laidByText := true, laidKinds := [.mapped, .data], laidTests := true, laidLooks := .later }
def CodecUnlikeCardSaid : Prop := Claim7.holds Tryz.pinned (.plain (OpenSpec.ofChange codecUnlikeSpec)) codecUnlikeCard

/-- THE SECOND FORM's CARD OF 'chandlerylaw11.CodecNames'. -/
def codecNamesUptoCard : Claim7 := { stood := { row := codecNamesUptoRow, standIns := [], harness := (true, "971ba55ac82902214846bd5bd86662645b24d8f8fc4d8fca0ef934442a086e7c"), looks := true }, kinds := [], alts := [], laidByText := true, laidKinds := [.mapped, .data], laidTests := true, laidLooks := .later }
def CodecNamesUptoCardSaid : Prop := Claim7.holds Tryz.pinned (.plain (OpenSpec.upto codecNamesSpec)) codecNamesUptoCard

/-- THE SECOND FORM's CARD OF 'chandlerylaw11.CodecBack'. -/
def codecBackUptoCard : Claim7 := { stood := { row := codecBackUptoRow, standIns := [], harness := (true, "971ba55ac82902214846bd5bd86662645b24d8f8fc4d8fca0ef934442a086e7c"), looks := true }, kinds := [], alts := [], laidByText := true, laidKinds := [.mapped, .data], laidTests := true, laidLooks := .later }
def CodecBackUptoCardSaid : Prop := Claim7.holds Tryz.pinned (.plain (OpenSpec.upto codecBackSpec)) codecBackUptoCard

/-- THE SECOND FORM's CARD OF 'chandlerylaw11.CodecBegun'. -/
def codecBegunUptoCard : Claim7 := { stood := { row := codecBegunUptoRow, standIns := [], harness := (true, "971ba55ac82902214846bd5bd86662645b24d8f8fc4d8fca0ef934442a086e7c"), looks := true }, kinds := [], alts := [], laidByText := true, laidKinds := [.mapped, .data], laidTests := true, laidLooks := .later }
def CodecBegunUptoCardSaid : Prop := Claim7.holds Tryz.pinned (.plain (OpenSpec.upto codecBegunSpec)) codecBegunUptoCard

/-- THE SECOND FORM's CARD OF 'chandlerylaw11.CodecTells'. -/
def codecTellsUptoCard : Claim7 := { stood := { row := codecTellsUptoRow, standIns := [], harness := (true, "971ba55ac82902214846bd5bd86662645b24d8f8fc4d8fca0ef934442a086e7c"), looks := true }, kinds := [], alts := [], laidByText := true, laidKinds := [.mapped, .data], laidTests := true, laidLooks := .later }
def CodecTellsUptoCardSaid : Prop := Claim7.holds Tryz.pinned (.plain (OpenSpec.upto codecTellsSpec)) codecTellsUptoCard

/-- THE SECOND FORM's CARD OF 'chandlerylaw11.CodecUnlike'. -/
def codecUnlikeUptoCard : Claim7 := { stood := { row := codecUnlikeUptoRow, standIns := [], harness := (true, "971ba55ac82902214846bd5bd86662645b24d8f8fc4d8fca0ef934442a086e7c"), looks := true }, kinds := [], alts := [], laidByText := true, laidKinds := [.mapped, .data], laidTests := true, laidLooks := .later }
def CodecUnlikeUptoCardSaid : Prop := Claim7.holds Tryz.pinned (.plain (OpenSpec.upto codecUnlikeSpec)) codecUnlikeUptoCard
end Rows
end Go.Proofs.YtdpjjnbelgaagaaGreatDoor
