/- CoreNames answers true, and never panics. Conditions: none. -/
import Derived.Test.YthaonmmjoednnaaC12
namespace Go.Proofs.Ythaonmmjoednnaa.coreNames
open Go.ChangeShapes Go.WideShapes Go.ChangeAt Go.RowKit
open Go.ChangeMaps (open_string shut_string)
set_option maxRecDepth 100000

theorem own : ownKnob Try.prog.godebug = none := by kernel_rfl
theorem laidOut : laidOutB Try.prog = true := by kernel_rfl

theorem lifted (os : Os) (started : os.Started) (H : Type) (enc : TypeId × Value → H) :
    ReturnsInHanded {} Try.checked os 3 .any (Rows.coreNamesSpec.pre6 enc Try.prog Try.f3 Rows.coreNamesRow.domain false) (Rows.coreNamesSpec.post enc Try.prog Try.f3 false true false false) := by
  refine law_lifted (C := Try.checked) own started (by kernel_rfl) Try.func3
    (ChangeSpec.witness6 (enc := enc) (C := Try.checked) false ⟨#[], #[], []⟩ 8 (by kernel_rfl) (by kernel_rfl) (by kernel_rfl) (by kernel_rfl))
    laidOut (by kernel_rfl) (show Try.f3.resultTypes = #[4] from by kernel_rfl) Try.underlying4 rfl ?_ ?_
  · intro ds hd
    obtain rfl : ds = [] := List.eq_nil_of_length_eq_zero hd
    exact ⟨rfl, rfl, rfl⟩
  · intro W args ds ps hval hA hsz
    obtain ⟨rfl, rfl, rfl⟩ := trodAll_none hA
    exact names_walk W

theorem over : Rows.coreNamesRow.holds Try.pinned (OpenSpec.ofChange Rows.coreNamesSpec) :=
  OpenClaim.holds_of_wide 3 Try.f3 rfl rfl rfl rfl rfl rfl rfl ⟨rfl, rfl, rfl, rfl, rfl⟩ rfl rfl rfl rfl rfl (by kernel_rfl) Try.func3 (by kernel_rfl)
    (of_decide_eq_true (by kernel_rfl)) (by unfold Func.isWrapper; first | (rw [if_pos (by decide +kernel)]; kernel_rfl) | (rw [if_neg (by decide +kernel)]; exact ⟨rfl, rfl⟩))
    (fun os started H enc _ => lifted os started H enc)

theorem proved : Rows.CoreNamesSaid := over
#print axioms proved
end Go.Proofs.Ythaonmmjoednnaa.coreNames
