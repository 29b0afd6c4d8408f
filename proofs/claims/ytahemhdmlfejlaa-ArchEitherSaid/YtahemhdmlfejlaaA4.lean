/- ArchEither's walk. No conditions. -/
import Derived.Test.YtahemhdmlfejlaaA3
namespace Go.Proofs.Ytahemhdmlfejlaa
open Go.ChangeShapes Go.WideShapes Go.ChangeAt Go.RowKit

theorem either_ways (a b : Int) :
    (1 ≤ a ∧ a ≤ 4 ∧ 1 ≤ b ∧ b ≤ 4 ∧ apartB a b = true ∧ apartB b a = true ∧ followsB a b = false ∧ followsB b a = false) ∨
    (1 ≤ a ∧ a ≤ 4 ∧ 1 ≤ b ∧ b ≤ 4 ∧ apartB a b = false ∧ apartB b a = false ∧ followsB a b = true ∧ followsB b a = true) ∨
    ((a < 1 ∨ (1 ≤ a ∧ 4 < a) ∨ (1 ≤ a ∧ a ≤ 4 ∧ b < 1) ∨ (1 ≤ a ∧ a ≤ 4 ∧ 1 ≤ b ∧ 4 < b)) ∧ apartB a b = false ∧ apartB b a = false ∧ followsB a b = false ∧ followsB b a = false) := by
  simp only [apartB, followsB, machB, isB]
  by_cases h1 : 1 ≤ a <;> by_cases h2 : a ≤ 4 <;> by_cases h3 : 1 ≤ b <;> by_cases h4 : b ≤ 4 <;> simp [h1, h2, h3, h4] <;> try omega

theorem either_walk (a b : Int) (w : World) : Calls Try.prog 3 #[.int .u8 a, .int .u8 b] w fun e w' => e = .returned (.bool true) ∧ Below w.heap.size w w' := by
  rcases either_ways a b with ⟨h1, h2, h3, h4, p1, p2, f1, f2⟩ | ⟨h1, h2, h3, h4, p1, p2, f1, f2⟩ | ⟨h1 | ⟨h1, h2⟩ | ⟨h1, h2, h3⟩ | ⟨h1, h2, h3, h4⟩, p1, p2, f1, f2⟩
  · have P1 := apart_is a b _ p1
    have P2 := apart_is b a _ p2
    have F1 := follows_is a b _ f1
    have F2 := follows_is b a _ f2
    clear p1 p2 f1 f2
    go_enter Try.func3, Try.ntmps3
    go_wp2_with (first | (go_at_call 7; refine (works_any _).mono ?_; rintro e w1 ⟨rfl, hg1⟩) | (go_at_call 8; with_reducible refine (P1 _).mono ?_; rintro e w' ⟨rfl, rfl⟩) | (go_at_call 8; with_reducible refine (P2 _).mono ?_; rintro e w' ⟨rfl, rfl⟩) | (go_at_call 9; with_reducible refine (F1 _).mono ?_; rintro e w' ⟨rfl, rfl⟩) | (go_at_call 9; with_reducible refine (F2 _).mono ?_; rintro e w' ⟨rfl, rfl⟩))
    go_ret
    first | exact ⟨rfl, hg1⟩ | exact ⟨by simp; omega, hg1⟩
  · have P1 := apart_is a b _ p1
    have P2 := apart_is b a _ p2
    have F1 := follows_is a b _ f1
    have F2 := follows_is b a _ f2
    clear p1 p2 f1 f2
    go_enter Try.func3, Try.ntmps3
    go_wp2_with (first | (go_at_call 7; refine (works_any _).mono ?_; rintro e w1 ⟨rfl, hg1⟩) | (go_at_call 8; with_reducible refine (P1 _).mono ?_; rintro e w' ⟨rfl, rfl⟩) | (go_at_call 8; with_reducible refine (P2 _).mono ?_; rintro e w' ⟨rfl, rfl⟩) | (go_at_call 9; with_reducible refine (F1 _).mono ?_; rintro e w' ⟨rfl, rfl⟩) | (go_at_call 9; with_reducible refine (F2 _).mono ?_; rintro e w' ⟨rfl, rfl⟩))
    go_ret
    first | exact ⟨rfl, hg1⟩ | exact ⟨by simp; omega, hg1⟩
  · have P1 := apart_is a b _ p1
    have P2 := apart_is b a _ p2
    have F1 := follows_is a b _ f1
    have F2 := follows_is b a _ f2
    clear p1 p2 f1 f2
    go_enter Try.func3, Try.ntmps3
    go_wp2_with (first | (go_at_call 7; refine (works_any _).mono ?_; rintro e w1 ⟨rfl, hg1⟩) | (go_at_call 8; with_reducible refine (P1 _).mono ?_; rintro e w' ⟨rfl, rfl⟩) | (go_at_call 8; with_reducible refine (P2 _).mono ?_; rintro e w' ⟨rfl, rfl⟩) | (go_at_call 9; with_reducible refine (F1 _).mono ?_; rintro e w' ⟨rfl, rfl⟩) | (go_at_call 9; with_reducible refine (F2 _).mono ?_; rintro e w' ⟨rfl, rfl⟩))
    go_ret
    first | exact ⟨rfl, hg1⟩ | exact ⟨by simp; omega, hg1⟩
  · have P1 := apart_is a b _ p1
    have P2 := apart_is b a _ p2
    have F1 := follows_is a b _ f1
    have F2 := follows_is b a _ f2
    clear p1 p2 f1 f2
    go_enter Try.func3, Try.ntmps3
    go_wp2_with (first | (go_at_call 7; refine (works_any _).mono ?_; rintro e w1 ⟨rfl, hg1⟩) | (go_at_call 8; with_reducible refine (P1 _).mono ?_; rintro e w' ⟨rfl, rfl⟩) | (go_at_call 8; with_reducible refine (P2 _).mono ?_; rintro e w' ⟨rfl, rfl⟩) | (go_at_call 9; with_reducible refine (F1 _).mono ?_; rintro e w' ⟨rfl, rfl⟩) | (go_at_call 9; with_reducible refine (F2 _).mono ?_; rintro e w' ⟨rfl, rfl⟩))
    go_ret
    first | exact ⟨rfl, hg1⟩ | exact ⟨by simp; omega, hg1⟩
  · have P1 := apart_is a b _ p1
    have P2 := apart_is b a _ p2
    have F1 := follows_is a b _ f1
    have F2 := follows_is b a _ f2
    clear p1 p2 f1 f2
    go_enter Try.func3, Try.ntmps3
    go_wp2_with (first | (go_at_call 7; refine (works_any _).mono ?_; rintro e w1 ⟨rfl, hg1⟩) | (go_at_call 8; with_reducible refine (P1 _).mono ?_; rintro e w' ⟨rfl, rfl⟩) | (go_at_call 8; with_reducible refine (P2 _).mono ?_; rintro e w' ⟨rfl, rfl⟩) | (go_at_call 9; with_reducible refine (F1 _).mono ?_; rintro e w' ⟨rfl, rfl⟩) | (go_at_call 9; with_reducible refine (F2 _).mono ?_; rintro e w' ⟨rfl, rfl⟩))
    go_ret
    first | exact ⟨rfl, hg1⟩ | exact ⟨by simp; omega, hg1⟩
  · have P1 := apart_is a b _ p1
    have P2 := apart_is b a _ p2
    have F1 := follows_is a b _ f1
    have F2 := follows_is b a _ f2
    clear p1 p2 f1 f2
    go_enter Try.func3, Try.ntmps3
    go_wp2_with (first | (go_at_call 7; refine (works_any _).mono ?_; rintro e w1 ⟨rfl, hg1⟩) | (go_at_call 8; with_reducible refine (P1 _).mono ?_; rintro e w' ⟨rfl, rfl⟩) | (go_at_call 8; with_reducible refine (P2 _).mono ?_; rintro e w' ⟨rfl, rfl⟩) | (go_at_call 9; with_reducible refine (F1 _).mono ?_; rintro e w' ⟨rfl, rfl⟩) | (go_at_call 9; with_reducible refine (F2 _).mono ?_; rintro e w' ⟨rfl, rfl⟩))
    go_ret
    first | exact ⟨rfl, hg1⟩ | exact ⟨by simp; omega, hg1⟩

end Go.Proofs.Ytahemhdmlfejlaa
