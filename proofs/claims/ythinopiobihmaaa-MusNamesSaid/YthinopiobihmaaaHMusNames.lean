/- MusNames answers true, and never panics. Conditions: none. -/
import Derived.Test.YthinopiobihmaaaG2
namespace Go.Proofs.Ythinopiobihmaaa.musNames
open Go.ChangeShapes Go.WideShapes Go.ChangeAt Go.RowKit
open Go.ChangeMaps (open_string shut_string)
set_option maxRecDepth 100000

theorem own : ownKnob Try.prog.godebug = none := by kernel_rfl
theorem laidOut : laidOutB Try.prog = true := by kernel_rfl

theorem lifted (os : Os) (started : os.Started) (H : Type) (enc : TypeId × Value → H) :
    ReturnsInHanded {} Try.checked os 7 .any (Rows.musNamesSpec.pre6 enc Try.prog Try.f7 Rows.musNamesRow.domain false) (Rows.musNamesSpec.post enc Try.prog Try.f7 false true false false) := by
  refine law_lifted (C := Try.checked) own started (by kernel_rfl) Try.func7
    (ChangeSpec.witness6 (enc := enc) (C := Try.checked) false ⟨#[], #[], []⟩ 8 (by kernel_rfl) (by kernel_rfl) (by kernel_rfl) (by kernel_rfl))
    laidOut (by kernel_rfl) (show Try.f7.resultTypes = #[4] from by kernel_rfl) Try.underlying4 rfl ?_ ?_
  · intro ds hd
    obtain rfl : ds = [] := List.eq_nil_of_length_eq_zero hd
    exact ⟨rfl, rfl, rfl⟩
  · intro W args ds ps hval hA hsz
    obtain ⟨rfl, rfl, rfl⟩ := trodAll_none hA
    exact mnames_walk W

theorem over : Rows.musNamesRow.holds Try.pinned (OpenSpec.ofChange Rows.musNamesSpec) :=
  OpenClaim.holds_of_wide 7 Try.f7 rfl rfl rfl rfl rfl rfl rfl ⟨rfl, rfl, rfl, rfl, rfl⟩ rfl rfl rfl rfl rfl (by kernel_rfl) Try.func7 (by kernel_rfl)
    (of_decide_eq_true (by kernel_rfl)) (by unfold Func.isWrapper; first | (rw [if_pos (by decide +kernel)]; kernel_rfl) | (rw [if_neg (by decide +kernel)]; exact ⟨rfl, rfl⟩))
    (fun os started H enc _ => lifted os started H enc)

theorem proved : Rows.MusNamesSaid := over
#print axioms proved
end Go.Proofs.Ythinopiobihmaaa.musNames
