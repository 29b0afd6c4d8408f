/- The walk of ArchTells. No conditions. -/
import Derived.Test.YtahemhdmlfejlaaA7
namespace Go.Proofs.Ytahemhdmlfejlaa
open Go.ChangeShapes Go.WideShapes Go.ChangeAt Go.RowKit

theorem bel_trans {a b c : World} (h : Below a.heap.size a b) (k : Below b.heap.size b c) : Below a.heap.size a c := h.trans (k.mono h.size)

theorem tells_walk (a b : Int) (s : ByteArray) (w : World) (hs : s.size ≤ maxLen) : Calls Try.prog 5 #[.int .u8 a, .int .u8 b, .string s] w fun e w' => e = .returned (.bool true) ∧ Below w.heap.size w w' := by
  unfold maxLen at hs
  by_cases h : 1000 < s.size
  · go_enter Try.func5, Try.ntmps5
    go_wp2_with fail
    go_ret
    exact ⟨rfl, Below.refl _ _⟩
  · go_enter Try.func5, Try.ntmps5
    go_wp2_with (first | (go_at_call 10; refine (parse_any _ _).mono ?_; rintro e w1 ⟨rfl, hg1⟩) | (go_at_call 15; refine (refParse_any _ _).mono ?_; rintro e w' ⟨rfl, rfl⟩) | (go_at_call 11; refine (name_any _ _).mono ?_; rintro e w2 ⟨rfl, hg2⟩) | (go_at_call 16; refine (refName_any _ _).mono ?_; rintro e w' ⟨rfl, rfl⟩) | (go_at_call 12; refine (machine_any _ _).mono ?_; rintro e w' ⟨rfl, rfl⟩) | (go_at_call 17; refine (refMachine_any _ _).mono ?_; rintro e w' ⟨rfl, rfl⟩) | (go_at_call 13; refine (fits_any _ _ _).mono ?_; rintro e w3 ⟨rfl, hg3⟩) | (go_at_call 18; refine (refFits_any _ _ _).mono ?_; rintro e w' ⟨rfl, rfl⟩) | (go_at_call 14; refine (score_any _ _ _).mono ?_; rintro e w4 ⟨rfl, hg4⟩) | (go_at_call 19; refine (refScore_any _ _ _).mono ?_; rintro e w' ⟨rfl, rfl⟩) | (go_at_call 8; refine (apart_any _ _ _).mono ?_; rintro e w' ⟨rfl, rfl⟩) | (go_at_call 20; refine (refApart_any _ _ _).mono ?_; rintro e w' ⟨rfl, rfl⟩) | (go_at_call 9; refine (follows_any _ _ _).mono ?_; rintro e w' ⟨rfl, rfl⟩) | (go_at_call 21; refine (refFollows_any _ _ _).mono ?_; rintro e w' ⟨rfl, rfl⟩))
    go_ret
    exact ⟨rfl, bel_trans (bel_trans (bel_trans hg1 hg2) hg3) hg4⟩

end Go.Proofs.Ytahemhdmlfejlaa
