/- Contracts of package trail: At, and what nil tells. -/
import Derived.Test.YtnachllhjojlcaaT3
namespace Go.Proofs.Ytnachllhjojlcaa
open Go.ChangeShapes Go.WideShapes Go.ChangeAt Go.RowKit
set_option maxRecDepth 100000

def atT (T : TrD) (i : Int) : Int := if i < 0 then 0 else T.lits.getD i.toNat 0

theorem inC_get (l : List Int) (i : Nat) (h : i < l.length) : (inC l)[i]? = some (.int .i64 l[i]) := by
  simp [inC, List.getElem?_eq_getElem h]

theorem at_any (g : Nat) (a b c : Value) (T : TrD) (i : Int) (w : World) (hT : IsT w g a b c T) :
    Calls Try.prog 45 #[.pointer (some ⟨g, 0, none⟩), .int .i64 i] w fun e w' => e = .returned (.int .i64 (atT T i)) ∧ w = w' := by
  have HL := Lib.hid (len_any g a b c T w hT)
  obtain ⟨ao, cap, rfl, _, _, hf⟩ := hT.lits.form
  have hc1 := hT.blk.cell 1
  simp at hc1
  unfold atT
  go_enter Try.func45, Try.ntmps45
  by_cases hi : i < 0
  · rw [if_pos hi]
    go_wp2_with (go_at_call 32; refine HL.out.mono ?_; rintro e w' ⟨rfl, rfl⟩)
    go_ret
    exact ⟨rfl, rfl⟩
  · rw [if_neg hi]
    have hi' : decide (i < 0) = false := by simpa using hi
    obtain ⟨k, rfl⟩ := Int.eq_ofNat_of_zero_le (by omega : 0 ≤ i)
    by_cases hk : k < T.lits.length
    · obtain ⟨bl, off, rfl, hc, _, _⟩ := hf (by omega)
      have hck := hc k (by simpa [inC] using hk)
      rw [inC_get _ _ hk] at hck
      have hkd : decide ((T.lits.length : Int) ≤ (k : Int)) = false := by simp; omega
      have hk2 : (k : Int) < (T.lits.length : Int) := by omega
      have hg : T.lits.getD (k : Int).toNat 0 = T.lits[k] := by simp [List.getD, hk]
      rw [hg]
      generalize T.lits[k] = x at *
      go_wp2_with (go_at_call 32; refine HL.out.mono ?_; rintro e w' ⟨rfl, rfl⟩)
      go_ret
      exact ⟨rfl, rfl⟩
    · have hkd : decide ((T.lits.length : Int) ≤ (k : Int)) = true := by simp; omega
      have hg : T.lits.getD (k : Int).toNat 0 = 0 := by simp [List.getD, hk]
      rw [hg]
      go_wp2_with (go_at_call 32; refine HL.out.mono ?_; rintro e w' ⟨rfl, rfl⟩)
      go_ret
      exact ⟨rfl, rfl⟩

theorem len_nil (w : World) : Calls Try.prog 32 #[.pointer none] w fun e w' => e = .returned (.int .i64 0) ∧ w = w' := by
  go_enter Try.func32, Try.ntmps32
  go_wp2_with fail
  go_ret
  exact ⟨rfl, rfl⟩
theorem level_nil (w : World) : Calls Try.prog 51 #[.pointer none] w fun e w' => e = .returned (.int .i64 0) ∧ w = w' := by
  go_enter Try.func51, Try.ntmps51
  go_wp2_with fail
  go_ret
  exact ⟨rfl, rfl⟩
theorem vars_nil (w : World) : Calls Try.prog 35 #[.pointer none] w fun e w' => e = .returned (.int .i64 0) ∧ w = w' := by
  go_enter Try.func35, Try.ntmps35
  go_wp2_with fail
  go_ret
  exact ⟨rfl, rfl⟩
theorem copy_nil (w : World) : Calls Try.prog 52 #[.pointer none] w fun e w' => e = .returned (.pointer none) ∧ w = w' := by
  go_enter Try.func52, Try.ntmps52
  go_wp2_with fail
  go_ret
  exact ⟨rfl, rfl⟩
theorem assign_nil (x y : Int) (w : World) : Calls Try.prog 63 #[.pointer none, .int .i64 x, .int .i64 y] w fun e w' => e = .returned (.int .i64 2) ∧ w = w' := by
  go_enter Try.func63, Try.ntmps63
  go_wp2_with fail
  go_ret
  exact ⟨rfl, rfl⟩
theorem decide_nil (x : Int) (w : World) : Calls Try.prog 33 #[.pointer none, .int .i64 x] w fun e w' => e = .returned (.int .i64 2) ∧ w = w' := by
  go_enter Try.func33, Try.ntmps33
  go_wp2_with fail
  go_ret
  exact ⟨rfl, rfl⟩
theorem back_nil (x : Int) (w : World) : Calls Try.prog 34 #[.pointer none, .int .i64 x] w fun e w' => e = .returned (.int .i64 2) ∧ w = w' := by
  go_enter Try.func34, Try.ntmps34
  go_wp2_with fail
  go_ret
  exact ⟨rfl, rfl⟩

end Go.Proofs.Ytnachllhjojlcaa
