/- Contracts of the reference's functions for architectures. No conditions. -/
import Derived.Test.YtahemhdmlfejlaaA5
namespace Go.Proofs.Ytahemhdmlfejlaa
open Go.ChangeShapes Go.WideShapes Go.ChangeAt Go.RowKit

theorem refName_any (a : Int) (w : World) : Calls Try.prog 16 #[.int .u8 a] w fun e w' => e = .returned (.string (nameOf a)) ∧ w = w' := by
  by_cases h1 : a = 1
  · subst h1
    go_enter Try.func16, Try.ntmps16
    go_wp2
    go_ret
    exact ⟨rfl, rfl⟩
  by_cases h2 : a = 2
  · subst h2
    go_enter Try.func16, Try.ntmps16
    go_wp2
    go_ret
    exact ⟨rfl, rfl⟩
  by_cases h3 : a = 3
  · subst h3
    go_enter Try.func16, Try.ntmps16
    go_wp2
    go_ret
    exact ⟨rfl, rfl⟩
  by_cases h4 : a = 4
  · subst h4
    go_enter Try.func16, Try.ntmps16
    go_wp2
    go_ret
    exact ⟨rfl, rfl⟩
  go_enter Try.func16, Try.ntmps16
  go_wp2
  go_ret
  exact ⟨by simp [nameOf, h1, h2, h3, h4], rfl⟩

theorem machB_iff (a : Int) : machB a = (decide (2 ≤ a) && decide (a ≤ 4)) := by
  rw [Bool.eq_iff_iff]
  simp [machB, isB]
  omega

theorem refMachine_any (a : Int) (w : World) : Calls Try.prog 17 #[.int .u8 a] w fun e w' => e = .returned (.bool (machB a)) ∧ w = w' := by
  rw [machB_iff]
  by_cases h1 : 2 ≤ a
  · go_enter Try.func17, Try.ntmps17
    go_wp2
    go_ret
    exact ⟨by simp [h1], rfl⟩
  · go_enter Try.func17, Try.ntmps17
    go_wp2
    go_ret
    exact ⟨by simp; omega, rfl⟩

theorem refScore_any (m a : Int) (w : World) : Calls Try.prog 19 #[.int .u8 m, .int .u8 a] w fun e w' => e = .returned (.int .i64 (scoreOf m a)) ∧ w = w' := by
  cases hm : machB m
  · have hs : scoreOf m a = 0 := by
      rw [machB_iff] at hm
      simp at hm
      unfold scoreOf
      repeat' split
      all_goals omega
    go_enter Try.func19, Try.ntmps19
    go_wp2_with (go_at_call 17; refine (refMachine_any _ _).mono ?_; rintro e w' ⟨rfl, rfl⟩)
    go_ret
    exact ⟨by rw [hs]; rfl, rfl⟩
  · have h3 : m = 2 ∨ m = 3 ∨ m = 4 := by
      rw [machB_iff] at hm
      simp at hm
      omega
    by_cases h1 : a = 1
    · subst h1
      rcases h3 with rfl | rfl | rfl <;>
      · go_enter Try.func19, Try.ntmps19
        go_wp2_with (go_at_call 17; refine (refMachine_any _ _).mono ?_; rintro e w' ⟨rfl, rfl⟩)
        go_ret
        exact ⟨rfl, rfl⟩
    by_cases h2 : a = 2
    · subst h2
      rcases h3 with rfl | rfl | rfl <;>
      · go_enter Try.func19, Try.ntmps19
        go_wp2_with (go_at_call 17; refine (refMachine_any _ _).mono ?_; rintro e w' ⟨rfl, rfl⟩)
        go_ret
        exact ⟨rfl, rfl⟩
    by_cases h4 : a = 3
    · subst h4
      rcases h3 with rfl | rfl | rfl <;>
      · go_enter Try.func19, Try.ntmps19
        go_wp2_with (go_at_call 17; refine (refMachine_any _ _).mono ?_; rintro e w' ⟨rfl, rfl⟩)
        go_ret
        exact ⟨rfl, rfl⟩
    by_cases h5 : a = 4
    · subst h5
      rcases h3 with rfl | rfl | rfl <;>
      · go_enter Try.func19, Try.ntmps19
        go_wp2_with (go_at_call 17; refine (refMachine_any _ _).mono ?_; rintro e w' ⟨rfl, rfl⟩)
        go_ret
        exact ⟨rfl, rfl⟩
    rcases h3 with rfl | rfl | rfl <;>
    · go_enter Try.func19, Try.ntmps19
      go_wp2_with (go_at_call 17; refine (refMachine_any _ _).mono ?_; rintro e w' ⟨rfl, rfl⟩)
      go_ret
      exact ⟨by simp [scoreOf, h1, h2, h4, h5], rfl⟩

theorem refFits_any (m a : Int) (w : World) : Calls Try.prog 18 #[.int .u8 m, .int .u8 a] w fun e w' => e = .returned (.bool (fitsB m a)) ∧ w = w' := by
  go_enter Try.func18, Try.ntmps18
  go_wp2_with (go_at_call 19; refine (refScore_any _ _ _).mono ?_; rintro e w' ⟨rfl, rfl⟩)
  go_ret
  refine ⟨?_, rfl⟩
  have : (!(scoreOf m a == 0)) = fitsB m a := by
    have : 0 ≤ scoreOf m a := by
      unfold scoreOf
      repeat' split
      all_goals omega
    rw [Bool.eq_iff_iff]
    simp [fitsB]
    omega
  rw [← this]
  rfl

theorem refApart_any (a b : Int) (w : World) : Calls Try.prog 20 #[.int .u8 a, .int .u8 b] w fun e w' => e = .returned (.bool (apartB a b)) ∧ w = w' := by
  cases h : (a == b)
  · have h' : (a != b) = true := by simpa using h
    cases ha : machB a
    all_goals
      go_enter Try.func20, Try.ntmps20
      go_wp2_with (go_at_call 17; refine (refMachine_any _ _).mono ?_; rintro e w' ⟨rfl, rfl⟩)
      go_ret
      exact ⟨by simp [apartB, ha, h], rfl⟩
  · have h' : (a != b) = false := by simpa using h
    go_enter Try.func20, Try.ntmps20
    go_wp2_with (go_at_call 17; refine (refMachine_any _ _).mono ?_; rintro e w' ⟨rfl, rfl⟩)
    go_ret
    exact ⟨by simp [apartB, h], rfl⟩

end Go.Proofs.Ytahemhdmlfejlaa
