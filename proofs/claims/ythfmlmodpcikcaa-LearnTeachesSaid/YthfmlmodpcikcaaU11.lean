/- The law's examples: works. -/
import Derived.Test.YthfmlmodpcikcaaU10
namespace Go.Proofs.Ythfmlmodpcikcaa
open Go.ChangeShapes Go.WideShapes Go.ChangeAt Go.RowKit Go.Maps
set_option maxRecDepth 100000

theorem works_any (w : World) : Calls Try.prog 7 #[] w fun e w' => e = .returned (.bool true) ∧ Below w.heap.size w w' := by
  have hall : Below w.heap.size w w := Below.refl _ _
  have tk0 : True := trivial
  go_enter Try.func7, Try.ntmps7
  go_wp2_with (first
    | (have _t := tk0; go_at_call 9; have hB := below_allocs [oS [⟨1, (-1)⟩, ⟨2, 0⟩, ⟨3, 1⟩]] w; refine (made_eq 3 [⟨1, (-1)⟩, ⟨2, 0⟩, ⟨3, 1⟩] 3 (by kernel_rfl) _ _ _ _ _ (steps_allocs w [oS [⟨1, (-1)⟩, ⟨2, 0⟩, ⟨3, 1⟩]] 0 [⟨1, (-1)⟩, ⟨2, 0⟩, ⟨3, 1⟩] rfl (by kernel_rfl)) (by omega) (by decide)).mono ?_; rintro e w1 ⟨gt, rfl, ht, hb⟩; replace hall := bel_trans (bel_trans hall hB) hb; clear hB hb _t tk0; have tk1 : True := trivial)
    | (have _t := tk1; go_at_call 9; have hB := below_allocs [oS [⟨1, 0⟩]] w1; replace ht := ht.below hB; refine (made_eq 1 [⟨1, 0⟩] 1 (by kernel_rfl) _ _ _ _ _ (steps_allocs w1 [oS [⟨1, 0⟩]] 0 [⟨1, 0⟩] rfl (by kernel_rfl)) (by omega) (by decide)).mono ?_; rintro e w2 ⟨gu, rfl, hu, hb⟩; replace ht := ht.below hb; replace hall := bel_trans (bel_trans hall hB) hb; clear hB hb _t tk1; have tk2 : True := trivial)
    | (have _t := tk2; go_at_call 10; have hB := below_allocs [oI [(-1), 2], oI [(-2), 3], oI [(-2), (-3)], oC w2 [(0, 2), (1, 2), (2, 2)], oI [(-2)], oI [2, 1]] w2; replace ht := ht.below hB; replace hu := hu.below hB; have c1 := cls_allocs w2 [oI [(-1), 2], oI [(-2), 3], oI [(-2), (-3)], oC w2 [(0, 2), (1, 2), (2, 2)], oI [(-2)], oI [2, 1]] 3 30 [(0, [(-1), 2]), (1, [(-2), 3]), (2, [(-2), (-3)])] rfl ⟨rfl, rfl, rfl, trivial⟩; refine (teaches_eq [[(-1), 2], [(-2), 3], [(-2), (-3)]] _ _ 2 ht 0 rfl (madeE_good [⟨1, (-1)⟩, ⟨2, 0⟩, ⟨3, 1⟩] trivial) (by omega) c1 (by decide) (by decide) [(-2)] 0 [2, 1] (by kernel_rfl) _ _ _ _ (ints_allocs w2 [oI [(-1), 2], oI [(-2), 3], oI [(-2), (-3)], oC w2 [(0, 2), (1, 2), (2, 2)], oI [(-2)], oI [2, 1]] 4 [(-2)] rfl) (ints_allocs w2 [oI [(-1), 2], oI [(-2), 3], oI [(-2), (-3)], oC w2 [(0, 2), (1, 2), (2, 2)], oI [(-2)], oI [2, 1]] 5 [2, 1] rfl) (by decide) (by decide)).mono ?_; rintro e w3 ⟨rfl, hb⟩; replace ht := ht.below hb; replace hu := hu.below hb; replace c1 := c1.below hb; replace hall := bel_trans (bel_trans hall hB) hb; clear hB hb _t tk2; have tk3 : True := trivial)
    | (have _t := tk3; go_at_call 10; have hB := below_allocs [oI [1], oI [(-1)], oC w3 [(0, 1), (1, 1)], oI [1, 0]] w3; replace ht := ht.below hB; replace hu := hu.below hB; replace c1 := c1.below hB; have c2 := cls_allocs w3 [oI [1], oI [(-1)], oC w3 [(0, 1), (1, 1)], oI [1, 0]] 2 30 [(0, [1]), (1, [(-1)])] rfl ⟨rfl, rfl, trivial⟩; refine (teaches_eq [[1], [(-1)]] _ _ 1 hu 0 rfl (madeE_good [⟨1, 0⟩] trivial) (by omega) c2 (by decide) (by decide) [] (-1) [1, 0] (by kernel_rfl) _ _ _ _ (fun h => absurd h (by simp)) (ints_allocs w3 [oI [1], oI [(-1)], oC w3 [(0, 1), (1, 1)], oI [1, 0]] 3 [1, 0] rfl) (by decide) (by decide)).mono ?_; rintro e w4 ⟨rfl, hb⟩; replace ht := ht.below hb; replace hu := hu.below hb; replace c1 := c1.below hb; replace c2 := c2.below hb; replace hall := bel_trans (bel_trans hall hB) hb; clear hB hb _t tk3; have tk4 : True := trivial))
  go_ret
  exact ⟨rfl, hall⟩

end Go.Proofs.Ythfmlmodpcikcaa
