/- Contracts of package arch's functions. No conditions. -/
import Derived.Test.YtahemhdmlfejlaaRows
import Derived.WalkKit
import Derived.ProofKit
import Derived.OpenShut
import Derived.ShutString
import Derived.WalkLawsBesides
import Derived.WalkSpells
import Derived.Lib.Hide
import Derived.Outline
namespace Go.Proofs.Ytahemhdmlfejlaa
open Go.ChangeShapes Go.WideShapes Go.ChangeAt Go.RowKit

def isB (a : Int) : Bool := decide (1 ≤ a) && decide (a ≤ 4)
def machB (a : Int) : Bool := isB a && !(a == 1)

theorem is_any (a : Int) (w : World) : Calls Try.prog 22 #[.int .u8 a] w fun e w' => e = .returned (.bool (isB a)) ∧ w = w' := by
  by_cases h1 : 1 ≤ a
  · go_enter Try.func22, Try.ntmps22
    go_wp2
    go_ret
    exact ⟨by simp [isB, h1], rfl⟩
  · go_enter Try.func22, Try.ntmps22
    go_wp2
    go_ret
    exact ⟨by simp [isB]; omega, rfl⟩

theorem machine_any (a : Int) (w : World) : Calls Try.prog 12 #[.int .u8 a] w fun e w' => e = .returned (.bool (machB a)) ∧ w = w' := by
  cases h : isB a
  · go_enter Try.func12, Try.ntmps12
    go_wp2_with (go_at_call 22; refine (is_any _ _).mono ?_; rintro e w' ⟨rfl, rfl⟩)
    go_ret
    exact ⟨by simp [machB, h], rfl⟩
  · go_enter Try.func12, Try.ntmps12
    go_wp2_with (go_at_call 22; refine (is_any _ _).mono ?_; rintro e w' ⟨rfl, rfl⟩)
    go_ret
    exact ⟨by simp [machB, h]; rfl, rfl⟩

end Go.Proofs.Ytahemhdmlfejlaa
