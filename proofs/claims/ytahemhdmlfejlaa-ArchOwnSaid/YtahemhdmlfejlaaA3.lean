/- Contracts of package arch's functions and of its statements' helpers. No conditions. -/
import Derived.Test.YtahemhdmlfejlaaA2
namespace Go.Proofs.Ytahemhdmlfejlaa
open Go.ChangeShapes Go.WideShapes Go.ChangeAt Go.RowKit

def scoreOf (m a : Int) : Int :=
  if m = 2 then (if a = 1 then 2 else if a = 2 then 1 else if a = 3 then 3 else 0)
  else if m = 3 then (if a = 1 then 2 else if a = 3 then 1 else 0)
  else if m = 4 then (if a = 1 then 2 else if a = 4 then 1 else 0) else 0

def rowV (m : Int) : Value := if m = 2 then .agg #[.int .i64 0, .int .i64 2, .int .i64 1, .int .i64 3, .int .i64 0] else if m = 3 then .agg #[.int .i64 0, .int .i64 2, .int .i64 0, .int .i64 1, .int .i64 0] else if m = 4 then .agg #[.int .i64 0, .int .i64 2, .int .i64 0, .int .i64 0, .int .i64 1] else .agg #[.int .i64 0, .int .i64 0, .int .i64 0, .int .i64 0, .int .i64 0]

theorem row_1 (w : World) : (Instr.index 37 scoresV (.int .u8 1)).run Try.prog w = .ok (rowV 1) w := by kernel_rfl
theorem row_2 (w : World) : (Instr.index 37 scoresV (.int .u8 2)).run Try.prog w = .ok (rowV 2) w := by kernel_rfl
theorem row_3 (w : World) : (Instr.index 37 scoresV (.int .u8 3)).run Try.prog w = .ok (rowV 3) w := by kernel_rfl
theorem row_4 (w : World) : (Instr.index 37 scoresV (.int .u8 4)).run Try.prog w = .ok (rowV 4) w := by kernel_rfl

theorem sc_1_1 (w : World) : (Instr.index 36 (rowV 1) (.int .u8 1)).run Try.prog w = .ok (.int .i64 (scoreOf 1 1)) w := by kernel_rfl
theorem sc_1_2 (w : World) : (Instr.index 36 (rowV 1) (.int .u8 2)).run Try.prog w = .ok (.int .i64 (scoreOf 1 2)) w := by kernel_rfl
theorem sc_1_3 (w : World) : (Instr.index 36 (rowV 1) (.int .u8 3)).run Try.prog w = .ok (.int .i64 (scoreOf 1 3)) w := by kernel_rfl
theorem sc_1_4 (w : World) : (Instr.index 36 (rowV 1) (.int .u8 4)).run Try.prog w = .ok (.int .i64 (scoreOf 1 4)) w := by kernel_rfl
theorem sc_2_1 (w : World) : (Instr.index 36 (rowV 2) (.int .u8 1)).run Try.prog w = .ok (.int .i64 (scoreOf 2 1)) w := by kernel_rfl
theorem sc_2_2 (w : World) : (Instr.index 36 (rowV 2) (.int .u8 2)).run Try.prog w = .ok (.int .i64 (scoreOf 2 2)) w := by kernel_rfl
theorem sc_2_3 (w : World) : (Instr.index 36 (rowV 2) (.int .u8 3)).run Try.prog w = .ok (.int .i64 (scoreOf 2 3)) w := by kernel_rfl
theorem sc_2_4 (w : World) : (Instr.index 36 (rowV 2) (.int .u8 4)).run Try.prog w = .ok (.int .i64 (scoreOf 2 4)) w := by kernel_rfl
theorem sc_3_1 (w : World) : (Instr.index 36 (rowV 3) (.int .u8 1)).run Try.prog w = .ok (.int .i64 (scoreOf 3 1)) w := by kernel_rfl
theorem sc_3_2 (w : World) : (Instr.index 36 (rowV 3) (.int .u8 2)).run Try.prog w = .ok (.int .i64 (scoreOf 3 2)) w := by kernel_rfl
theorem sc_3_3 (w : World) : (Instr.index 36 (rowV 3) (.int .u8 3)).run Try.prog w = .ok (.int .i64 (scoreOf 3 3)) w := by kernel_rfl
theorem sc_3_4 (w : World) : (Instr.index 36 (rowV 3) (.int .u8 4)).run Try.prog w = .ok (.int .i64 (scoreOf 3 4)) w := by kernel_rfl
theorem sc_4_1 (w : World) : (Instr.index 36 (rowV 4) (.int .u8 1)).run Try.prog w = .ok (.int .i64 (scoreOf 4 1)) w := by kernel_rfl
theorem sc_4_2 (w : World) : (Instr.index 36 (rowV 4) (.int .u8 2)).run Try.prog w = .ok (.int .i64 (scoreOf 4 2)) w := by kernel_rfl
theorem sc_4_3 (w : World) : (Instr.index 36 (rowV 4) (.int .u8 3)).run Try.prog w = .ok (.int .i64 (scoreOf 4 3)) w := by kernel_rfl
theorem sc_4_4 (w : World) : (Instr.index 36 (rowV 4) (.int .u8 4)).run Try.prog w = .ok (.int .i64 (scoreOf 4 4)) w := by kernel_rfl

theorem row_at (m : Int) (h : isB m = true) (w : World) : (Instr.index 37 scoresV (.int .u8 m)).run Try.prog w = .ok (rowV m) w := by
  have h4 : m = 1 ∨ m = 2 ∨ m = 3 ∨ m = 4 := by simp [isB] at h; omega
  rcases h4 with rfl | rfl | rfl | rfl
  · exact row_1 w
  · exact row_2 w
  · exact row_3 w
  · exact row_4 w

theorem sc_at (m a : Int) (h : isB m = true) (h' : isB a = true) (w : World) : (Instr.index 36 (rowV m) (.int .u8 a)).run Try.prog w = .ok (.int .i64 (scoreOf m a)) w := by
  have h4 : m = 1 ∨ m = 2 ∨ m = 3 ∨ m = 4 := by simp [isB] at h; omega
  have h5 : a = 1 ∨ a = 2 ∨ a = 3 ∨ a = 4 := by simp [isB] at h'; omega
  rcases h4 with rfl | rfl | rfl | rfl <;> rcases h5 with rfl | rfl | rfl | rfl
  · exact sc_1_1 w
  · exact sc_1_2 w
  · exact sc_1_3 w
  · exact sc_1_4 w
  · exact sc_2_1 w
  · exact sc_2_2 w
  · exact sc_2_3 w
  · exact sc_2_4 w
  · exact sc_3_1 w
  · exact sc_3_2 w
  · exact sc_3_3 w
  · exact sc_3_4 w
  · exact sc_4_1 w
  · exact sc_4_2 w
  · exact sc_4_3 w
  · exact sc_4_4 w

theorem scoreOf_not (m a : Int) (h : isB m = false ∨ isB a = false) : scoreOf m a = 0 := by
  simp [isB] at h
  unfold scoreOf
  repeat' split
  all_goals omega

theorem score_any (m a : Int) (w : World) : Calls Try.prog 14 #[.int .u8 m, .int .u8 a] w fun e w' => e = .returned (.int .i64 (scoreOf m a)) ∧ Below w.heap.size w w' := by
  cases hm : isB m
  · have hs := scoreOf_not m a (.inl hm)
    go_enter Try.func14, Try.ntmps14
    go_wp2_with (go_at_call 22; refine (is_any _ _).mono ?_; rintro e w' ⟨rfl, rfl⟩)
    go_ret
    exact ⟨by rw [hs]; rfl, Below.refl _ _⟩
  · cases ha : isB a
    · have hs := scoreOf_not m a (.inr ha)
      go_enter Try.func14, Try.ntmps14
      go_wp2_with (go_at_call 22; refine (is_any _ _).mono ?_; rintro e w' ⟨rfl, rfl⟩)
      go_ret
      exact ⟨by rw [hs]; rfl, Below.refl _ _⟩
    · have hr := row_at m hm
      have hs := sc_at m a hm ha
      go_enter Try.func14, Try.ntmps14
      go_wp2_with (first | (go_at_call 22; refine (is_any _ _).mono ?_; rintro e w' ⟨rfl, rfl⟩) | (go_at_call 25; refine (scores_any _).mono ?_; rintro e w1 ⟨rfl, hg⟩))
      go_ret
      exact ⟨rfl, hg⟩

def fitsB (m a : Int) : Bool := decide (0 < scoreOf m a)
theorem fits_any (m a : Int) (w : World) : Calls Try.prog 13 #[.int .u8 m, .int .u8 a] w fun e w' => e = .returned (.bool (fitsB m a)) ∧ Below w.heap.size w w' := by
  go_enter Try.func13, Try.ntmps13
  go_wp2_with (go_at_call 14; refine (score_any _ _ _).mono ?_; rintro e w1 ⟨rfl, hg⟩)
  go_ret
  exact ⟨rfl, hg⟩

def apartB (a b : Int) : Bool := machB a && machB b && !(a == b)
theorem apart_any (a b : Int) (w : World) : Calls Try.prog 8 #[.int .u8 a, .int .u8 b] w fun e w' => e = .returned (.bool (apartB a b)) ∧ w = w' := by
  cases ha : machB a
  · go_enter Try.func8, Try.ntmps8
    go_wp2_with (go_at_call 12; refine (machine_any _ _).mono ?_; rintro e w' ⟨rfl, rfl⟩)
    go_ret
    exact ⟨by simp [apartB, ha], rfl⟩
  · cases hb : machB b
    · go_enter Try.func8, Try.ntmps8
      go_wp2_with (go_at_call 12; refine (machine_any _ _).mono ?_; rintro e w' ⟨rfl, rfl⟩)
      go_ret
      exact ⟨by simp [apartB, hb], rfl⟩
    · go_enter Try.func8, Try.ntmps8
      go_wp2_with (go_at_call 12; refine (machine_any _ _).mono ?_; rintro e w' ⟨rfl, rfl⟩)
      go_ret
      exact ⟨by simp [apartB, ha, hb]; rfl, rfl⟩

def followsB (a b : Int) : Bool := isB a && isB b && !apartB a b
theorem follows_any (a b : Int) (w : World) : Calls Try.prog 9 #[.int .u8 a, .int .u8 b] w fun e w' => e = .returned (.bool (followsB a b)) ∧ w = w' := by
  cases ha : isB a
  · go_enter Try.func9, Try.ntmps9
    go_wp2_with (first | (go_at_call 22; refine (is_any _ _).mono ?_; rintro e w' ⟨rfl, rfl⟩) | (go_at_call 8; refine (apart_any _ _ _).mono ?_; rintro e w' ⟨rfl, rfl⟩))
    go_ret
    exact ⟨by simp [followsB, ha], rfl⟩
  · cases hb : isB b
    · go_enter Try.func9, Try.ntmps9
      go_wp2_with (first | (go_at_call 22; refine (is_any _ _).mono ?_; rintro e w' ⟨rfl, rfl⟩) | (go_at_call 8; refine (apart_any _ _ _).mono ?_; rintro e w' ⟨rfl, rfl⟩))
      go_ret
      exact ⟨by simp [followsB, hb], rfl⟩
    · go_enter Try.func9, Try.ntmps9
      go_wp2_with (first | (go_at_call 22; refine (is_any _ _).mono ?_; rintro e w' ⟨rfl, rfl⟩) | (go_at_call 8; refine (apart_any _ _ _).mono ?_; rintro e w' ⟨rfl, rfl⟩))
      go_ret
      exact ⟨by simp [followsB, ha, hb], rfl⟩

theorem score_is (m a v : Int) (h : scoreOf m a = v) (w : World) : Calls Try.prog 14 #[.int .u8 m, .int .u8 a] w fun e w' => e = .returned (.int .i64 v) ∧ Below w.heap.size w w' := by
  subst h
  exact score_any m a w
theorem apart_is (a b : Int) (v : Bool) (h : apartB a b = v) (w : World) : Calls Try.prog 8 #[.int .u8 a, .int .u8 b] w fun e w' => e = .returned (.bool v) ∧ w = w' := by
  subst h
  exact apart_any a b w
theorem follows_is (a b : Int) (v : Bool) (h : followsB a b = v) (w : World) : Calls Try.prog 9 #[.int .u8 a, .int .u8 b] w fun e w' => e = .returned (.bool v) ∧ w = w' := by
  subst h
  exact follows_any a b w

theorem works_any (w : World) : Calls Try.prog 7 #[] w fun e w' => e = .returned (.bool true) ∧ Below w.heap.size w w' := by
  go_enter Try.func7, Try.ntmps7
  go_wp2_with fail
  refine (score_is 2 3 3 (by decide) _).mono ?_
  rintro e w1 ⟨rfl, hg1⟩
  go_wp2_with fail
  refine (score_is 3 2 0 (by decide) _).mono ?_
  rintro e w2 ⟨rfl, hg2⟩
  go_wp2_with fail
  refine (score_is 4 1 2 (by decide) _).mono ?_
  rintro e w3 ⟨rfl, hg3⟩
  go_wp2_with fail
  refine (apart_is 2 3 true (by decide) _).mono ?_
  rintro e w' ⟨rfl, rfl⟩
  go_wp2_with fail
  refine (follows_is 1 3 true (by decide) _).mono ?_
  rintro e w' ⟨rfl, rfl⟩
  go_wp2_with fail
  go_ret
  exact ⟨rfl, (hg1.trans (hg2.mono hg1.size)).trans (hg3.mono (Nat.le_trans hg1.size hg2.size))⟩

end Go.Proofs.Ytahemhdmlfejlaa
