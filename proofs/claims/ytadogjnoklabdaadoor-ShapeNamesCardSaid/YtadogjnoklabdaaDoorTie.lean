/-
  DERIVED. GIVEN WITH THE SEED: THE PROGRAM's TIES (one call each: nine closed facts by the kernel) AND EACH ROW's TIE, after the 31st guide's Derived/Test/Toyas{Tie, Card}.lean. No idea stands in it: it is a product of the set-up. Laid BY PROGRAM, IN A SANDBOX (cutbox-door.mjs). By AI agents, Wed Nov 11 2026. No macro, syntax, notation, axiom, sorry.
-/
import Derived.Test.YtadogjnoklabdaaDoorRows
import Derived.LaidByTextLater
import Derived.SevenTiedAt
import Derived.LaidSub
import Derived.LaidOnce
namespace Go.Proofs.YtadogjnoklabdaaDoor
open Go
set_option maxRecDepth 100000
theorem seatTie1 : Tryd.prog.laidByTextLater [("chandlery/span.ops", Rows.laid_chandlery_span_ops), ("chandlery/dep.words", Rows.laid_chandlery_dep_words)] [.mapped, .data] true :=
  Program.laidByTextLater_by_one 49 8 8 (by kernel_rfl) (by kernel_rfl) (by kernel_rfl) (by kernel_rfl) (by kernel_rfl) (by kernel_rfl) (fun _ _ => by kernel_rfl)
theorem noOwnUnsafe : Tryd.pinned.checked.prog.headLifts.contains "ownunsafe" = false := by kernel_rfl
theorem tie : Tryd.prog.laidByTextLater [("chandlery/span.ops", Rows.laid_chandlery_span_ops), ("chandlery/dep.words", Rows.laid_chandlery_dep_words)] [.mapped, .data] true :=
  Program.laidByTextLater.sub seatTie1 ["chandlery/span.ops", "chandlery/dep.words"] (by kernel_rfl) (by kernel_rfl)
theorem shapePlaces_row_tie : Rows.shapePlacesRow.laidByTextAt .later Tryd.pinned [.mapped, .data] true :=
  OpenClaim.laidByTextAt_later rfl rfl tie noOwnUnsafe
theorem shapeJoined_row_tie : Rows.shapeJoinedRow.laidByTextAt .later Tryd.pinned [.mapped, .data] true :=
  OpenClaim.laidByTextAt_later rfl rfl tie noOwnUnsafe
theorem shapeCounted_row_tie : Rows.shapeCountedRow.laidByTextAt .later Tryd.pinned [.mapped, .data] true :=
  OpenClaim.laidByTextAt_later rfl rfl tie noOwnUnsafe
theorem shapeAlike_row_tie : Rows.shapeAlikeRow.laidByTextAt .later Tryd.pinned [.mapped, .data] true :=
  OpenClaim.laidByTextAt_later rfl rfl tie noOwnUnsafe
theorem shapeNames_row_tie : Rows.shapeNamesRow.laidByTextAt .later Tryd.pinned [.mapped, .data] true :=
  OpenClaim.laidByTextAt_later rfl rfl tie noOwnUnsafe
theorem shapeTells_row_tie : Rows.shapeTellsRow.laidByTextAt .later Tryd.pinned [.mapped, .data] true :=
  OpenClaim.laidByTextAt_later rfl rfl tie noOwnUnsafe
theorem shapePlacesUpto_row_tie : Rows.shapePlacesUptoRow.laidByTextAt .later Tryd.pinned [.mapped, .data] true :=
  OpenClaim.laidByTextAt_later rfl rfl tie noOwnUnsafe
theorem shapeJoinedUpto_row_tie : Rows.shapeJoinedUptoRow.laidByTextAt .later Tryd.pinned [.mapped, .data] true :=
  OpenClaim.laidByTextAt_later rfl rfl tie noOwnUnsafe
theorem shapeCountedUpto_row_tie : Rows.shapeCountedUptoRow.laidByTextAt .later Tryd.pinned [.mapped, .data] true :=
  OpenClaim.laidByTextAt_later rfl rfl tie noOwnUnsafe
theorem shapeAlikeUpto_row_tie : Rows.shapeAlikeUptoRow.laidByTextAt .later Tryd.pinned [.mapped, .data] true :=
  OpenClaim.laidByTextAt_later rfl rfl tie noOwnUnsafe
theorem shapeNamesUpto_row_tie : Rows.shapeNamesUptoRow.laidByTextAt .later Tryd.pinned [.mapped, .data] true :=
  OpenClaim.laidByTextAt_later rfl rfl tie noOwnUnsafe
theorem shapeTellsUpto_row_tie : Rows.shapeTellsUptoRow.laidByTextAt .later Tryd.pinned [.mapped, .data] true :=
  OpenClaim.laidByTextAt_later rfl rfl tie noOwnUnsafe
end Go.Proofs.YtadogjnoklabdaaDoor
