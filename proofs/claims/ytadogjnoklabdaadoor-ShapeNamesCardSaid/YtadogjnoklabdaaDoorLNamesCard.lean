/- ShapeNames: the tied card. -/
import Derived.Test.YtadogjnoklabdaaDoorLNames
import Derived.Test.YtadogjnoklabdaaDoorCards
import Derived.Test.YtadogjnoklabdaaDoorTie
import Derived.SevenTiedAt
namespace Go.Proofs.YtadogjnoklabdaaDoor
set_option maxRecDepth 100000
theorem shapeNames_card : Rows.ShapeNamesCardSaid :=
  Claim7.holds_tied_plain_at .later [] [.mapped, .data] true (true, "563f1fddd1bfc97780e7a7a308e490ea8bab073debccaf5b70e102731eac6e71") false
    shapeNames.law_holds (fun _ h => by cases h) (by kernel_rfl) (fun _ h => by cases h) shapeNames_row_tie rfl ⟨rfl, rfl⟩ (by kernel_rfl) rfl
    (fun f fn hf hfn => by
      obtain rfl : f = 7 := Option.some.inj ((show Tryd.prog.funcNamed "chandlery/chandlerylaw09.ShapeNames" = some 7 by kernel_rfl).symm.trans hf) |>.symm
      obtain rfl : fn = Tryd.f7 := (Option.some.inj (Tryd.func7.symm.trans hfn)).symm
      exact ⟨by kernel_rfl, fun j t ht => by
        rw [Tryd.params7] at ht
        simp at ht⟩)
    (by kernel_rfl)
end Go.Proofs.YtadogjnoklabdaaDoor
