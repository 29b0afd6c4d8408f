/- The walk of MusEnough. Conditions: as each theorem names them. -/
import Derived.Test.YthinopiobihmaaaGw
namespace Go.Proofs.Ythinopiobihmaaa
open Go.ChangeShapes Go.WideShapes Go.ChangeAt Go.RowKit Go.Maps Go.Deep
set_option maxRecDepth 100000

theorem enough_walk (n vars : Int) (w : World) : Calls Try.prog 6 #[.int .i64 n, .int .i64 vars] w fun e w' => e = .returned (.bool true) ∧ Below w.heap.size w w' := by
  by_cases hbig : 1048576 < n ∨ 1099511627776 < vars
  · have hcase : decide (1048576 < n) = true ∨ (decide (1048576 < n) = false ∧ decide (1099511627776 < vars) = true) := by
      simp only [decide_eq_true_eq, decide_eq_false_iff_not]
      omega
    clear hbig
    rcases hcase with h1 | ⟨h1, h2⟩
    all_goals
      go_enter Try.func6, Try.ntmps6
      go_wp2_with (first
        | (go_at_call 10; (with_reducible refine (awake_any _).mono ?_); rintro e w1 ⟨rfl, hb1⟩)
        | fail)
      go_ret
      exact ⟨rfl, hb1⟩
  · have h1 : decide (1048576 < n) = false := by simp only [decide_eq_false_iff_not]; omega
    have h2 : decide (1099511627776 < vars) = false := by simp only [decide_eq_false_iff_not]; omega
    have HE1 := Lib.hid (menough_any n vars (by omega) (by omega) w)
    have HE2 := Lib.hid (rmenough_any n vars (by omega) (by omega) w)
    generalize enoughM n.toNat vars.toNat = E at *
    clear hbig
    go_enter Try.func6, Try.ntmps6
    go_wp2_with (first
      | (go_at_call 19; (with_reducible refine HE1.out.mono ?_); rintro e w1 ⟨rfl, rfl⟩)
      | (go_at_call 13; (with_reducible refine HE2.out.mono ?_); rintro e w1 ⟨rfl, rfl⟩)
      | (go_at_call 10; (with_reducible refine (awake_any _).mono ?_); rintro e w1 ⟨rfl, hb1⟩)
      | fail)
    go_ret
    exact ⟨rfl, hb1⟩

end Go.Proofs.Ythinopiobihmaaa
