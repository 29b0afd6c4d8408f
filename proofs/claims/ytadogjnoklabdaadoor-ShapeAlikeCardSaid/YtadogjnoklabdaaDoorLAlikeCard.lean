/- ShapeAlike: the tied card. -/
import Derived.Test.YtadogjnoklabdaaDoorLAlike
import Derived.Test.YtadogjnoklabdaaDoorCards
import Derived.Test.YtadogjnoklabdaaDoorTie
import Derived.SevenTiedAt
namespace Go.Proofs.YtadogjnoklabdaaDoor
set_option maxRecDepth 100000
theorem shapeAlike_card : Rows.ShapeAlikeCardSaid :=
  Claim7.holds_tied_plain_at .later [] [.mapped, .data] true (true, "563f1fddd1bfc97780e7a7a308e490ea8bab073debccaf5b70e102731eac6e71") false
    shapeAlike.law_holds (fun _ h => by cases h) (by kernel_rfl) (fun _ h => by cases h) shapeAlike_row_tie rfl ⟨rfl, rfl⟩ (by kernel_rfl) rfl
    (fun f fn hf hfn => by
      obtain rfl : f = 6 := Option.some.inj ((show Tryd.prog.funcNamed "chandlery/chandlerylaw09.ShapeAlike" = some 6 by kernel_rfl).symm.trans hf) |>.symm
      obtain rfl : fn = Tryd.f6 := (Option.some.inj (Tryd.func6.symm.trans hfn)).symm
      exact ⟨by kernel_rfl, fun j t ht => by
        rw [Tryd.params6] at ht
        have hm : t ∈ [28, 28, 5] := by simpa using Array.mem_of_getElem? ht
        have hall : ([28, 28, 5].all fun u => !Tryd.prog.wantsStandIn u) = true := by kernel_rfl
        exact (show Tryd.prog.wantsStandIn t = false by simpa using List.all_eq_true.1 hall t hm)⟩)
    (by kernel_rfl)
end Go.Proofs.YtadogjnoklabdaaDoor
