/- Contracts of package trail: slices.Clone, Copy. -/
import Derived.Test.YthfmlmodpcikcaaT8
import Derived.Deep.RegionHeld3
namespace Go.Proofs.Ythfmlmodpcikcaa
open Go.ChangeShapes Go.WideShapes Go.ChangeAt Go.RowKit
set_option maxRecDepth 100000

theorem kn_one (l : List Kn) : ∀ u ∈ knC l, u.oneCell' = true := by
  intro u hu
  obtain ⟨k, _, h⟩ := List.mem_flatMap.1 hu
  simp only [Kn.cells, List.mem_cons, List.not_mem_nil, or_false] at h
  rcases h with rfl | rfl | rfl <;> rfl


end Go.Proofs.Ythfmlmodpcikcaa
