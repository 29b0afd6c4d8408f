/-
  DERIVED. GIVEN WITH THE SEED: THE CARDS: each row of YtadogjnoklabdaaDoorRows.lean that lists a variable, with what it lists TIED to the program's text (the seventh form; the later family's looks); each row that meets fmt, with fmt's text TOLD by the authors' own Lean function (tested against real Go, not proved from fmt's source: count such statements apart). THE CARD IS WHAT COUNTS. Prove the row's statement (the work); the ties are given (YtadogjnoklabdaaDoorTie.lean); close each card by the builder's one call (the guide's Derived/Test/ToyasCard.lean, 'card_holds'). Laid BY PROGRAM, IN A SANDBOX (cutbox-door.mjs). By AI agents, Wed Nov 11 2026. No macro, syntax, notation, axiom, sorry.
-/
import Derived.Test.YtadogjnoklabdaaDoorRows
import GoSem.ClaimSeven
namespace Go.Proofs.YtadogjnoklabdaaDoor
namespace Rows

/-- THE TIED CARD OF 'chandlerylaw09.ShapePlaces'. -/
def shapePlacesCard : Claim7 := { stood := { row := shapePlacesRow, standIns := [], harness := (true, "563f1fddd1bfc97780e7a7a308e490ea8bab073debccaf5b70e102731eac6e71"), looks := false }, kinds := [], alts := [], laidByText := true, laidKinds := [.mapped, .data], laidTests := true, laidLooks := .later }
def ShapePlacesCardSaid : Prop := Claim7.holds Tryd.pinned (.plain (OpenSpec.ofChange shapePlacesSpec)) shapePlacesCard

/-- THE TIED CARD OF 'chandlerylaw09.ShapeJoined'. -/
def shapeJoinedCard : Claim7 := { stood := { row := shapeJoinedRow, standIns := [], harness := (true, "563f1fddd1bfc97780e7a7a308e490ea8bab073debccaf5b70e102731eac6e71"), looks := false }, kinds := [], alts := [], laidByText := true, laidKinds := [.mapped, .data], laidTests := true, laidLooks := .later }
def ShapeJoinedCardSaid : Prop := Claim7.holds Tryd.pinned (.plain (OpenSpec.ofChange shapeJoinedSpec)) shapeJoinedCard

/-- THE TIED CARD OF 'chandlerylaw09.ShapeCounted'. -/
def shapeCountedCard : Claim7 := { stood := { row := shapeCountedRow, standIns := [], harness := (true, "563f1fddd1bfc97780e7a7a308e490ea8bab073debccaf5b70e102731eac6e71"), looks := false }, kinds := [], alts := [], laidByText := true, laidKinds := [.mapped, .data], laidTests := true, laidLooks := .later }
def ShapeCountedCardSaid : Prop := Claim7.holds Tryd.pinned (.plain (OpenSpec.ofChange shapeCountedSpec)) shapeCountedCard

/-- THE TIED CARD OF 'chandlerylaw09.ShapeAlike'. -/
def shapeAlikeCard : Claim7 := { stood := { row := shapeAlikeRow, standIns := [], harness := (true, "563f1fddd1bfc97780e7a7a308e490ea8bab073debccaf5b70e102731eac6e71"), looks := false }, kinds := [], alts := [], laidByText := true, laidKinds := [.mapped, .data], laidTests := true, laidLooks := .later }
def ShapeAlikeCardSaid : Prop := Claim7.holds Tryd.pinned (.plain (OpenSpec.ofChange shapeAlikeSpec)) shapeAlikeCard

/-- THE TIED CARD OF 'chandlerylaw09.ShapeNames'. -/
def shapeNamesCard : Claim7 := { stood := { row := shapeNamesRow, standIns := [], harness := (true, "563f1fddd1bfc97780e7a7a308e490ea8bab073debccaf5b70e102731eac6e71"), looks := false }, kinds := [], alts := [], laidByText := true, laidKinds := [.mapped, .data], laidTests := true, laidLooks := .later }
def ShapeNamesCardSaid : Prop := Claim7.holds Tryd.pinned (.plain (OpenSpec.ofChange shapeNamesSpec)) shapeNamesCard

/-- THE TIED CARD OF 'chandlerylaw09.ShapeTells'. -/
def shapeTellsCard : Claim7 := { stood := { row := shapeTellsRow, standIns := [], harness := (true, "563f1fddd1bfc97780e7a7a308e490ea8bab073debccaf5b70e102731eac6e71"), looks := false }, kinds := [], alts := [], laidByText := true, laidKinds := [.mapped, .data], laidTests := true, laidLooks := .later }
def ShapeTellsCardSaid : Prop := Claim7.holds Tryd.pinned (.plain (OpenSpec.ofChange shapeTellsSpec)) shapeTellsCard

/-- THE SECOND FORM's CARD OF 'chandlerylaw09.ShapePlaces'. -/
def shapePlacesUptoCard : Claim7 := { stood := { row := shapePlacesUptoRow, standIns := [], harness := (true, "563f1fddd1bfc97780e7a7a308e490ea8bab073debccaf5b70e102731eac6e71"), looks := false }, kinds := [], alts := [], laidByText := true, laidKinds := [.mapped, .data], laidTests := true, laidLooks := .later }
def ShapePlacesUptoCardSaid : Prop := Claim7.holds Tryd.pinned (.plain (OpenSpec.upto shapePlacesSpec)) shapePlacesUptoCard

/-- THE SECOND FORM's CARD OF 'chandlerylaw09.ShapeJoined'. -/
def shapeJoinedUptoCard : Claim7 := { stood := { row := shapeJoinedUptoRow, standIns := [], harness := (true, "563f1fddd1bfc97780e7a7a308e490ea8bab073debccaf5b70e102731eac6e71"), looks := false }, kinds := [], alts := [], laidByText := true, laidKinds := [.mapped, .data], laidTests := true, laidLooks := .later }
def ShapeJoinedUptoCardSaid : Prop := Claim7.holds Tryd.pinned (.plain (OpenSpec.upto shapeJoinedSpec)) shapeJoinedUptoCard

/-- THE SECOND FORM's CARD OF 'chandlerylaw09.ShapeCounted'. -/
def shapeCountedUptoCard : Claim7 := { stood := { row := shapeCountedUptoRow, standIns := [], harness := (true, "563f1fddd1bfc97780e7a7a308e490ea8bab073debccaf5b70e102731eac6e71"), looks := false }, kinds := [], alts := [], laidByText := true, laidKinds := [.mapped, .data], laidTests := true, laidLooks := .later }
def ShapeCountedUptoCardSaid : Prop := Claim7.holds Tryd.pinned (.plain (OpenSpec.upto shapeCountedSpec)) shapeCountedUptoCard

/-- THE SECOND FORM's CARD OF 'chandlerylaw09.ShapeAlike'. -/
def shapeAlikeUptoCard : Claim7 := { stood := { row := shapeAlikeUptoRow, standIns := [], harness := (true, "563f1fddd1bfc97780e7a7a308e490ea8bab073debccaf5b70e102731eac6e71"), looks := false }, kinds := [], alts := [], laidByText := true, laidKinds := [.mapped, .data], laidTests := true, laidLooks := .later }
def ShapeAlikeUptoCardSaid : Prop := Claim7.holds Tryd.pinned (.plain (OpenSpec.upto shapeAlikeSpec)) shapeAlikeUptoCard

/-- THE SECOND FORM's CARD OF 'chandlerylaw09.ShapeNames'. -/
def shapeNamesUptoCard : Claim7 := { stood := { row := shapeNamesUptoRow, standIns := [], harness := (true, "563f1fddd1bfc97780e7a7a308e490ea8bab073debccaf5b70e102731eac6e71"), looks := false }, kinds := [], alts := [], laidByText := true, laidKinds := [.mapped, .data], laidTests := true, laidLooks := .later }
def ShapeNamesUptoCardSaid : Prop := Claim7.holds Tryd.pinned (.plain (OpenSpec.upto shapeNamesSpec)) shapeNamesUptoCard

/-- THE SECOND FORM's CARD OF 'chandlerylaw09.ShapeTells'. -/
def shapeTellsUptoCard : Claim7 := { stood := { row := shapeTellsUptoRow, standIns := [], harness := (true, "563f1fddd1bfc97780e7a7a308e490ea8bab073debccaf5b70e102731eac6e71"), looks := false }, kinds := [], alts := [], laidByText := true, laidKinds := [.mapped, .data], laidTests := true, laidLooks := .later }
def ShapeTellsUptoCardSaid : Prop := Claim7.holds Tryd.pinned (.plain (OpenSpec.upto shapeTellsSpec)) shapeTellsUptoCard
end Rows
end Go.Proofs.YtadogjnoklabdaaDoor
