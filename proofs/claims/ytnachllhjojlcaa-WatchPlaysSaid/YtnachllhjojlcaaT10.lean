/- Contracts of package trail: bits.Mul of 1, slices.Repeat of one, New. -/
import Derived.Test.YtnachllhjojlcaaT9
namespace Go.Proofs.Ytnachllhjojlcaa
open Go.ChangeShapes Go.WideShapes Go.ChangeAt Go.RowKit
set_option maxRecDepth 100000

theorem mul64_one (n : Nat) (w : World) (hn : n ≤ 5000) :
    Calls Try.prog 70 #[.int .u64 1, .int .u64 n] w fun e w' => e = .returned (.tuple #[.int .u64 0, .int .u64 n]) ∧ w = w' := by
  have e1 : bits BinOp.and IntKind.u64 1 4294967295 = 1 := by decide +kernel
  have e2 : bits BinOp.and IntKind.u64 (n : Int) 4294967295 = n := by
    have h64 : (2 : Int) ^ 64 = 18446744073709551616 := rfl
    have h32 : (2 : Int) ^ 32 = 4294967296 := rfl
    have h := bits_mask .u64 64 (by decide) (fun m h0 h1 => by rw [IntKind.wrap_u64]; omega) 32 (by decide) n (by omega) (by omega)
    rw [h32] at h
    have h1 : (4294967296 : Int) - 1 = 4294967295 := rfl
    rw [h1] at h
    rw [h]
    omega
  have e3 : (n : Int) / 4294967296 = 0 := by omega
  have e4 : bits BinOp.and IntKind.u64 0 4294967295 = 0 := by decide +kernel
  have e5 : IntKind.u64.wrap (n : Int) = n := by rw [IntKind.wrap_u64]; omega
  go_enter Try.func70, Try.ntmps70
  go_wp2_with fail
  simp [bodyPost, results, Try.results70, go_sem]

theorem mul_one (n : Nat) (w : World) (hn : n ≤ 5000) :
    Calls Try.prog 67 #[.int .u64 1, .int .u64 n] w fun e w' => e = .returned (.tuple #[.int .u64 0, .int .u64 n]) ∧ w = w' := by
  have HM := Lib.hid (mul64_one n w hn)
  go_enter Try.func67, Try.ntmps67
  go_wp2_with (go_at_call 70; refine HM.out.mono ?_; rintro e w' ⟨rfl, rfl⟩)
  simp [bodyPost, results, Try.results67, go_sem]

end Go.Proofs.Ytnachllhjojlcaa
