/- The walk of ArchOwn. No conditions. -/
import Derived.Test.YtahemhdmlfejlaaA8
namespace Go.Proofs.Ytahemhdmlfejlaa
open Go.ChangeShapes Go.WideShapes Go.ChangeAt Go.RowKit

theorem fits_dec (m a : Int) (w : World) : Calls Try.prog 13 #[.int .u8 m, .int .u8 a] w fun e w' => e = .returned (.bool (decide (0 < scoreOf m a))) ∧ Below w.heap.size w w' := fits_any m a w

theorem parse_own (a : Int) (h1 : 1 ≤ a) (h2 : a ≤ 4) : parseL (nameOf a).toList = a ∧ parseE (nameOf a).toList = 0 := by
  have h4 : a = 1 ∨ a = 2 ∨ a = 3 ∨ a = 4 := by omega
  rcases h4 with rfl | rfl | rfl | rfl
  · rw [names_l1]; decide
  · rw [names_l2]; decide
  · rw [names_l3]; decide
  · rw [names_l4]; decide

theorem nameOf_not (a : Int) (h : a < 1 ∨ 4 < a) : nameOf a = ⟨#[]⟩ := by
  unfold nameOf
  rw [if_neg (by omega), if_neg (by omega), if_neg (by omega), if_neg (by omega)]
theorem parse_none (a : Int) (h : a < 1 ∨ 4 < a) : parseL (nameOf a).toList = 0 ∧ parseE (nameOf a).toList = 5 := by
  rw [nameOf_not a h, names_l0]; decide

theorem name_unlike (a b : Int) (h1 : 1 ≤ a) (h2 : a ≤ 4) (hab : a ≠ b) : ((nameOf a).toList == (nameOf b).toList) = false := by
  have h4 : a = 1 ∨ a = 2 ∨ a = 3 ∨ a = 4 := by omega
  have h5 : b = 1 ∨ b = 2 ∨ b = 3 ∨ b = 4 ∨ (b < 1 ∨ 4 < b) := by omega
  rcases h5 with h5 | h5 | h5 | h5 | h5
  · subst h5; rcases h4 with rfl | rfl | rfl | rfl <;> first | omega | (simp only [names_l1, names_l2, names_l3, names_l4]; decide)
  · subst h5; rcases h4 with rfl | rfl | rfl | rfl <;> first | omega | (simp only [names_l1, names_l2, names_l3, names_l4]; decide)
  · subst h5; rcases h4 with rfl | rfl | rfl | rfl <;> first | omega | (simp only [names_l1, names_l2, names_l3, names_l4]; decide)
  · subst h5; rcases h4 with rfl | rfl | rfl | rfl <;> first | omega | (simp only [names_l1, names_l2, names_l3, names_l4]; decide)
  · rw [nameOf_not b h5, names_l0]; rcases h4 with rfl | rfl | rfl | rfl <;> (simp only [names_l1, names_l2, names_l3, names_l4]; decide)

theorem score_lo (m a : Int) : 0 ≤ scoreOf m a := by
  unfold scoreOf
  repeat' split
  all_goals omega

theorem score_not (m a : Int) (hm : machB m = true) (h : ¬ 0 < scoreOf m a) : ¬ a = m ∧ ¬ a = 1 := by
  simp [machB, isB] at hm
  unfold scoreOf at h
  constructor
  · rintro rfl
    have h3 : a = 2 ∨ a = 3 ∨ a = 4 := by omega
    rcases h3 with rfl | rfl | rfl <;> simp at h
  · rintro rfl
    have h3 : m = 2 ∨ m = 3 ∨ m = 4 := by omega
    rcases h3 with rfl | rfl | rfl <;> simp at h

theorem score_yes (m a b : Int) (h : 0 < scoreOf m a) : machB m = true ∧ 1 ≤ a ∧ a ≤ 4 ∧ scoreOf m m ≤ scoreOf m a ∧ (a ≠ b → ¬ scoreOf m a = scoreOf m b) := by
  unfold scoreOf machB isB at *
  by_cases m2 : m = 2
  · subst m2
    simp at *
    repeat' split at h
    all_goals (try omega)
    all_goals
      refine ⟨by omega, by omega, by omega, fun hab => ?_⟩
      simp [*]
      repeat' split
      all_goals omega
  by_cases m3 : m = 3
  · subst m3
    simp at *
    repeat' split at h
    all_goals (try omega)
    all_goals
      refine ⟨by omega, by omega, by omega, fun hab => ?_⟩
      simp [*]
      repeat' split
      all_goals omega
  by_cases m4 : m = 4
  · subst m4
    simp at *
    repeat' split at h
    all_goals (try omega)
    all_goals
      refine ⟨by omega, by omega, by omega, fun hab => ?_⟩
      simp [*]
      repeat' split
      all_goals omega
  simp [m2, m3, m4] at h

theorem own_walk (m a b : Int) (w : World) : Calls Try.prog 6 #[.int .u8 m, .int .u8 a, .int .u8 b] w fun e w' => e = .returned (.bool true) ∧ Below w.heap.size w w' := by
  have s0 := score_lo m a
  by_cases hf : 0 < scoreOf m a
  · obtain ⟨hm, h1, h2, h3, h4⟩ := score_yes m a b hf
    obtain ⟨p1, p2⟩ := parse_own a h1 h2
    by_cases hab : a = b
    · subst hab
      clear h4
      go_enter Try.func6, Try.ntmps6
      go_wp2_with (first | (go_at_call 7; refine (works_any _).mono ?_; rintro e w1 ⟨rfl, hg1⟩) | (go_at_call 10; refine (parse_any _ _).mono ?_; rintro e w1 ⟨rfl, hg1⟩) | (go_at_call 11; refine (name_any _ _).mono ?_; rintro e w1 ⟨rfl, hg1⟩) | (go_at_call 12; refine (machine_any _ _).mono ?_; rintro e w' ⟨rfl, rfl⟩) | (go_at_call 13; refine (fits_dec _ _ _).mono ?_; rintro e w1 ⟨rfl, hg1⟩) | (go_at_call 14; refine (score_any _ _ _).mono ?_; rintro e w1 ⟨rfl, hg1⟩))
      go_ret
      exact ⟨rfl, by repeat (first | assumption | refine bel_trans ?_ (by assumption))⟩
    · have n1 := name_unlike a b h1 h2 hab
      have h5 : (a != b) = true := by simpa using hab
      have h6 : (a == b) = false := by simpa using hab
      have h7 : (scoreOf m a != scoreOf m b) = true := by simpa using h4 hab
      clear h4 hab
      go_enter Try.func6, Try.ntmps6
      go_wp2_with (first | (go_at_call 7; refine (works_any _).mono ?_; rintro e w1 ⟨rfl, hg1⟩) | (go_at_call 10; refine (parse_any _ _).mono ?_; rintro e w1 ⟨rfl, hg1⟩) | (go_at_call 11; refine (name_any _ _).mono ?_; rintro e w1 ⟨rfl, hg1⟩) | (go_at_call 12; refine (machine_any _ _).mono ?_; rintro e w' ⟨rfl, rfl⟩) | (go_at_call 13; refine (fits_dec _ _ _).mono ?_; rintro e w1 ⟨rfl, hg1⟩) | (go_at_call 14; refine (score_any _ _ _).mono ?_; rintro e w1 ⟨rfl, hg1⟩))
      go_ret
      exact ⟨rfl, by repeat (first | assumption | refine bel_trans ?_ (by assumption))⟩
  · have hk : machB m = false ∨ (machB m = true ∧ (a == m) = false ∧ (a == 1) = false ∧ (a != m) = true ∧ (a != 1) = true) := by
      cases hm : machB m
      · exact .inl rfl
      · obtain ⟨h1, h2⟩ := score_not m a hm hf
        exact .inr ⟨rfl, by simpa using h1, by simpa using h2, by simpa using h1, by simpa using h2⟩
    have hr : (a < 1 ∧ parseL (nameOf a).toList = 0 ∧ parseE (nameOf a).toList = 5) ∨ (1 ≤ a ∧ 4 < a ∧ parseL (nameOf a).toList = 0 ∧ parseE (nameOf a).toList = 5) ∨ (1 ≤ a ∧ a ≤ 4 ∧ parseL (nameOf a).toList = a ∧ parseE (nameOf a).toList = 0 ∧ a = b) ∨
        (1 ≤ a ∧ a ≤ 4 ∧ parseL (nameOf a).toList = a ∧ parseE (nameOf a).toList = 0 ∧ ((nameOf a).toList == (nameOf b).toList) = false ∧ (a != b) = true ∧ (a == b) = false) := by
      by_cases h1 : 1 ≤ a
      · by_cases h2 : a ≤ 4
        · obtain ⟨p1, p2⟩ := parse_own a h1 h2
          by_cases hab : a = b
          · exact .inr (.inr (.inl ⟨h1, h2, p1, p2, hab⟩))
          · exact .inr (.inr (.inr ⟨h1, h2, p1, p2, name_unlike a b h1 h2 hab, by simpa using hab, by simpa using hab⟩))
        · obtain ⟨p1, p2⟩ := parse_none a (.inr (by omega))
          exact .inr (.inl ⟨h1, by omega, p1, p2⟩)
      · obtain ⟨p1, p2⟩ := parse_none a (.inl (by omega))
        exact .inl ⟨by omega, p1, p2⟩
    have hd : decide (0 < scoreOf m a) = false := by simpa using hf
    clear hf
    rcases hk with hk | ⟨hk1, hk2, hk3, hk4, hk5⟩
    · rcases hr with ⟨h1, p1, p2⟩ | ⟨h1, h2, p1, p2⟩ | ⟨h1, h2, p1, p2, h3⟩ | ⟨h1, h2, p1, p2, h3, h4, h5⟩
      · go_enter Try.func6, Try.ntmps6
        go_wp2_with (first | (go_at_call 7; refine (works_any _).mono ?_; rintro e w1 ⟨rfl, hg1⟩) | (go_at_call 10; refine (parse_any _ _).mono ?_; rintro e w1 ⟨rfl, hg1⟩) | (go_at_call 11; refine (name_any _ _).mono ?_; rintro e w1 ⟨rfl, hg1⟩) | (go_at_call 12; refine (machine_any _ _).mono ?_; rintro e w' ⟨rfl, rfl⟩) | (go_at_call 13; refine (fits_dec _ _ _).mono ?_; rintro e w1 ⟨rfl, hg1⟩) | (go_at_call 14; refine (score_any _ _ _).mono ?_; rintro e w1 ⟨rfl, hg1⟩))
        go_ret
        exact ⟨rfl, by repeat (first | assumption | refine bel_trans ?_ (by assumption))⟩
      · go_enter Try.func6, Try.ntmps6
        go_wp2_with (first | (go_at_call 7; refine (works_any _).mono ?_; rintro e w1 ⟨rfl, hg1⟩) | (go_at_call 10; refine (parse_any _ _).mono ?_; rintro e w1 ⟨rfl, hg1⟩) | (go_at_call 11; refine (name_any _ _).mono ?_; rintro e w1 ⟨rfl, hg1⟩) | (go_at_call 12; refine (machine_any _ _).mono ?_; rintro e w' ⟨rfl, rfl⟩) | (go_at_call 13; refine (fits_dec _ _ _).mono ?_; rintro e w1 ⟨rfl, hg1⟩) | (go_at_call 14; refine (score_any _ _ _).mono ?_; rintro e w1 ⟨rfl, hg1⟩))
        go_ret
        exact ⟨rfl, by repeat (first | assumption | refine bel_trans ?_ (by assumption))⟩
      · subst h3
        go_enter Try.func6, Try.ntmps6
        go_wp2_with (first | (go_at_call 7; refine (works_any _).mono ?_; rintro e w1 ⟨rfl, hg1⟩) | (go_at_call 10; refine (parse_any _ _).mono ?_; rintro e w1 ⟨rfl, hg1⟩) | (go_at_call 11; refine (name_any _ _).mono ?_; rintro e w1 ⟨rfl, hg1⟩) | (go_at_call 12; refine (machine_any _ _).mono ?_; rintro e w' ⟨rfl, rfl⟩) | (go_at_call 13; refine (fits_dec _ _ _).mono ?_; rintro e w1 ⟨rfl, hg1⟩) | (go_at_call 14; refine (score_any _ _ _).mono ?_; rintro e w1 ⟨rfl, hg1⟩))
        go_ret
        exact ⟨rfl, by repeat (first | assumption | refine bel_trans ?_ (by assumption))⟩
      · go_enter Try.func6, Try.ntmps6
        go_wp2_with (first | (go_at_call 7; refine (works_any _).mono ?_; rintro e w1 ⟨rfl, hg1⟩) | (go_at_call 10; refine (parse_any _ _).mono ?_; rintro e w1 ⟨rfl, hg1⟩) | (go_at_call 11; refine (name_any _ _).mono ?_; rintro e w1 ⟨rfl, hg1⟩) | (go_at_call 12; refine (machine_any _ _).mono ?_; rintro e w' ⟨rfl, rfl⟩) | (go_at_call 13; refine (fits_dec _ _ _).mono ?_; rintro e w1 ⟨rfl, hg1⟩) | (go_at_call 14; refine (score_any _ _ _).mono ?_; rintro e w1 ⟨rfl, hg1⟩))
        go_ret
        exact ⟨rfl, by repeat (first | assumption | refine bel_trans ?_ (by assumption))⟩
    · rcases hr with ⟨h1, p1, p2⟩ | ⟨h1, h2, p1, p2⟩ | ⟨h1, h2, p1, p2, h3⟩ | ⟨h1, h2, p1, p2, h3, h4, h5⟩
      · go_enter Try.func6, Try.ntmps6
        go_wp2_with (first | (go_at_call 7; refine (works_any _).mono ?_; rintro e w1 ⟨rfl, hg1⟩) | (go_at_call 10; refine (parse_any _ _).mono ?_; rintro e w1 ⟨rfl, hg1⟩) | (go_at_call 11; refine (name_any _ _).mono ?_; rintro e w1 ⟨rfl, hg1⟩) | (go_at_call 12; refine (machine_any _ _).mono ?_; rintro e w' ⟨rfl, rfl⟩) | (go_at_call 13; refine (fits_dec _ _ _).mono ?_; rintro e w1 ⟨rfl, hg1⟩) | (go_at_call 14; refine (score_any _ _ _).mono ?_; rintro e w1 ⟨rfl, hg1⟩))
        go_ret
        exact ⟨rfl, by repeat (first | assumption | refine bel_trans ?_ (by assumption))⟩
      · go_enter Try.func6, Try.ntmps6
        go_wp2_with (first | (go_at_call 7; refine (works_any _).mono ?_; rintro e w1 ⟨rfl, hg1⟩) | (go_at_call 10; refine (parse_any _ _).mono ?_; rintro e w1 ⟨rfl, hg1⟩) | (go_at_call 11; refine (name_any _ _).mono ?_; rintro e w1 ⟨rfl, hg1⟩) | (go_at_call 12; refine (machine_any _ _).mono ?_; rintro e w' ⟨rfl, rfl⟩) | (go_at_call 13; refine (fits_dec _ _ _).mono ?_; rintro e w1 ⟨rfl, hg1⟩) | (go_at_call 14; refine (score_any _ _ _).mono ?_; rintro e w1 ⟨rfl, hg1⟩))
        go_ret
        exact ⟨rfl, by repeat (first | assumption | refine bel_trans ?_ (by assumption))⟩
      · subst h3
        go_enter Try.func6, Try.ntmps6
        go_wp2_with (first | (go_at_call 7; refine (works_any _).mono ?_; rintro e w1 ⟨rfl, hg1⟩) | (go_at_call 10; refine (parse_any _ _).mono ?_; rintro e w1 ⟨rfl, hg1⟩) | (go_at_call 11; refine (name_any _ _).mono ?_; rintro e w1 ⟨rfl, hg1⟩) | (go_at_call 12; refine (machine_any _ _).mono ?_; rintro e w' ⟨rfl, rfl⟩) | (go_at_call 13; refine (fits_dec _ _ _).mono ?_; rintro e w1 ⟨rfl, hg1⟩) | (go_at_call 14; refine (score_any _ _ _).mono ?_; rintro e w1 ⟨rfl, hg1⟩))
        go_ret
        exact ⟨rfl, by repeat (first | assumption | refine bel_trans ?_ (by assumption))⟩
      · go_enter Try.func6, Try.ntmps6
        go_wp2_with (first | (go_at_call 7; refine (works_any _).mono ?_; rintro e w1 ⟨rfl, hg1⟩) | (go_at_call 10; refine (parse_any _ _).mono ?_; rintro e w1 ⟨rfl, hg1⟩) | (go_at_call 11; refine (name_any _ _).mono ?_; rintro e w1 ⟨rfl, hg1⟩) | (go_at_call 12; refine (machine_any _ _).mono ?_; rintro e w' ⟨rfl, rfl⟩) | (go_at_call 13; refine (fits_dec _ _ _).mono ?_; rintro e w1 ⟨rfl, hg1⟩) | (go_at_call 14; refine (score_any _ _ _).mono ?_; rintro e w1 ⟨rfl, hg1⟩))
        go_ret
        exact ⟨rfl, by repeat (first | assumption | refine bel_trans ?_ (by assumption))⟩

end Go.Proofs.Ytahemhdmlfejlaa
