/- Contracts of the reference's functions for architectures. No conditions. -/
import Derived.Test.YtahemhdmlfejlaaA6
namespace Go.Proofs.Ytahemhdmlfejlaa
open Go.ChangeShapes Go.WideShapes Go.ChangeAt Go.RowKit

theorem names_l1 : (nameOf 1).toList = [110, 111, 97, 114, 99, 104] := by decide +kernel
theorem names_l2 : (nameOf 2).toList = [120, 56, 54, 95, 54, 52] := by decide +kernel
theorem names_l3 : (nameOf 3).toList = [105, 54, 56, 54] := by decide +kernel
theorem names_l4 : (nameOf 4).toList = [97, 97, 114, 99, 104, 54, 52] := by decide +kernel
theorem names_l0 : (⟨#[]⟩ : ByteArray).toList = [] := by decide +kernel
theorem nameOf_empty (a : Int) : (nameOf a).toList.isEmpty = !isB a := by
  by_cases h1 : a = 1
  · subst h1; rw [names_l1]; rfl
  by_cases h2 : a = 2
  · subst h2; rw [names_l2]; rfl
  by_cases h3 : a = 3
  · subst h3; rw [names_l3]; rfl
  by_cases h4 : a = 4
  · subst h4; rw [names_l4]; rfl
  unfold nameOf isB
  rw [if_neg h1, if_neg h2, if_neg h3, if_neg h4, names_l0]
  have : (decide (1 ≤ a) && decide (a ≤ 4)) = false := by simp; omega
  rw [this]
  rfl

theorem followsB_iff (a b : Int) (ha : isB a = true) (hb : isB b = true) : followsB a b = (a == b || a == 1 || b == 1) := by
  unfold followsB apartB machB
  rw [ha, hb]
  cases h1 : (a == b) <;> cases h2 : (a == 1) <;> cases h3 : (b == 1) <;> rfl

theorem refFollows_any (a b : Int) (w : World) : Calls Try.prog 21 #[.int .u8 a, .int .u8 b] w fun e w' => e = .returned (.bool (followsB a b)) ∧ w = w' := by
  have na := nameOf_empty a
  have nb := nameOf_empty b
  cases ha : isB a
  · rw [ha] at na
    simp only [Bool.not_false] at na
    go_enter Try.func21, Try.ntmps21
    go_wp2_with (go_at_call 16; refine (refName_any _ _).mono ?_; rintro e w' ⟨rfl, rfl⟩)
    go_ret
    exact ⟨by simp [followsB, ha], rfl⟩
  · rw [ha] at na
    simp only [Bool.not_true] at na
    cases hb : isB b
    · rw [hb] at nb
      simp only [Bool.not_false] at nb
      go_enter Try.func21, Try.ntmps21
      go_wp2_with (go_at_call 16; refine (refName_any _ _).mono ?_; rintro e w' ⟨rfl, rfl⟩)
      go_ret
      exact ⟨by simp [followsB, hb], rfl⟩
    · rw [hb] at nb
      simp only [Bool.not_true] at nb
      rw [followsB_iff a b ha hb]
      cases h1 : (a == b)
      · cases h2 : (a == 1)
        · go_enter Try.func21, Try.ntmps21
          go_wp2_with (go_at_call 16; refine (refName_any _ _).mono ?_; rintro e w' ⟨rfl, rfl⟩)
          go_ret
          exact ⟨by simp, rfl⟩
        · go_enter Try.func21, Try.ntmps21
          go_wp2_with (go_at_call 16; refine (refName_any _ _).mono ?_; rintro e w' ⟨rfl, rfl⟩)
          go_ret
          exact ⟨by simp, rfl⟩
      · go_enter Try.func21, Try.ntmps21
        go_wp2_with (go_at_call 16; refine (refName_any _ _).mono ?_; rintro e w' ⟨rfl, rfl⟩)
        go_ret
        exact ⟨by simp, rfl⟩

theorem beq_turn (a b : List UInt8) : (a == b) = (b == a) := BEq.comm

theorem parse_of (l : List UInt8) : (parseL l, parseE l) = (if (nameOf 1).toList == l then (1, 0) else if (nameOf 2).toList == l then (2, 0) else if (nameOf 3).toList == l then (3, 0) else if (nameOf 4).toList == l then (4, 0) else ((0 : Int), (5 : Int))) := by
  rw [names_l1, names_l2, names_l3, names_l4, beq_turn _ l, beq_turn _ l, beq_turn _ l, beq_turn _ l]
  unfold parseL parseE idxL
  cases l with
  | nil => rfl
  | cons x r =>
    simp only [List.isEmpty_cons]
    cases (x :: r) == [110, 111, 97, 114, 99, 104]
    case true => rfl
    cases (x :: r) == [120, 56, 54, 95, 54, 52]
    case true => rfl
    cases (x :: r) == [105, 54, 56, 54]
    case true => rfl
    cases (x :: r) == [97, 97, 114, 99, 104, 54, 52] <;> rfl

theorem refParse_any (s : ByteArray) (w : World) : Calls Try.prog 15 #[.string s] w fun e w' => e = .returned (.tuple #[.int .u8 (parseL s.toList), .int .i64 (parseE s.toList)]) ∧ w = w' := by
  have hp := parse_of s.toList
  cases t1 : (nameOf 1).toList == s.toList
  case true =>
    rw [t1] at hp
    obtain ⟨e1, e2⟩ := Prod.mk.inj hp
    rw [e1, e2]
    clear hp e1 e2
    go_enter Try.func15, Try.ntmps15
    go_wp2_with fail
    refine wp_loop_rounds 5 ?_
    rw [rounds_succ]; go_wp2_with (go_at_call 16; refine (refName_any _ _).mono ?_; rintro e w' ⟨rfl, rfl⟩)
    go_ret2
    exact ⟨rfl, rfl⟩
  cases t2 : (nameOf 2).toList == s.toList
  case true =>
    rw [t1, t2] at hp
    obtain ⟨e1, e2⟩ := Prod.mk.inj hp
    rw [e1, e2]
    clear hp e1 e2
    go_enter Try.func15, Try.ntmps15
    go_wp2_with fail
    refine wp_loop_rounds 5 ?_
    iterate 2 (rw [rounds_succ]; go_wp2_with (go_at_call 16; refine (refName_any _ _).mono ?_; rintro e w' ⟨rfl, rfl⟩))
    go_ret2
    exact ⟨rfl, rfl⟩
  cases t3 : (nameOf 3).toList == s.toList
  case true =>
    rw [t1, t2, t3] at hp
    obtain ⟨e1, e2⟩ := Prod.mk.inj hp
    rw [e1, e2]
    clear hp e1 e2
    go_enter Try.func15, Try.ntmps15
    go_wp2_with fail
    refine wp_loop_rounds 5 ?_
    iterate 3 (rw [rounds_succ]; go_wp2_with (go_at_call 16; refine (refName_any _ _).mono ?_; rintro e w' ⟨rfl, rfl⟩))
    go_ret2
    exact ⟨rfl, rfl⟩
  cases t4 : (nameOf 4).toList == s.toList
  case true =>
    rw [t1, t2, t3, t4] at hp
    obtain ⟨e1, e2⟩ := Prod.mk.inj hp
    rw [e1, e2]
    clear hp e1 e2
    go_enter Try.func15, Try.ntmps15
    go_wp2_with fail
    refine wp_loop_rounds 5 ?_
    iterate 4 (rw [rounds_succ]; go_wp2_with (go_at_call 16; refine (refName_any _ _).mono ?_; rintro e w' ⟨rfl, rfl⟩))
    go_ret2
    exact ⟨rfl, rfl⟩
  rw [t1, t2, t3, t4] at hp
  obtain ⟨e1, e2⟩ := Prod.mk.inj hp
  rw [e1, e2]
  clear hp e1 e2
  go_enter Try.func15, Try.ntmps15
  go_wp2_with fail
  refine wp_loop_rounds 5 ?_
  iterate 5 (rw [rounds_succ]; go_wp2_with (go_at_call 16; refine (refName_any _ _).mono ?_; rintro e w' ⟨rfl, rfl⟩))
  go_ret2
  exact ⟨rfl, rfl⟩

end Go.Proofs.Ytahemhdmlfejlaa
