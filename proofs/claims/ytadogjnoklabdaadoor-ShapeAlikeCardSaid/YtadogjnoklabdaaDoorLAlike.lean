/- ShapeAlike: for every two rich dependencies and every place the law returns true, and its arguments read as before. The tables lie as start-up lays them. Conditions: the row's own. -/
import Derived.Test.YtadogjnoklabdaaDoorH41
import Derived.Test.YtadogjnoklabdaaDoorH24
import Derived.Test.YtadogjnoklabdaaDoorSh
import Derived.Stop.Joined
namespace Go.Proofs.YtadogjnoklabdaaDoor.shapeAlike
open Go.ChangeShapes Go.WideShapes Go.ChangeAt Go.RowKit
set_option maxRecDepth 100000

theorem own : ownKnob Tryd.prog.godebug = none := by kernel_rfl
theorem laidOut : laidOutB Tryd.prog = true := by kernel_rfl
theorem door_met (os : Os) (args : Array Value) : laidMetH Tryd.prog laid09 ((World.doorLaid Tryd.prog 400 os).forCall (fun _ _ => 0) ⟨#[], args, []⟩).memory :=
  laidMetH_of_parts3 (fuel := 8) (laidMet_of_run' 8 (by kernel_rfl) (by kernel_rfl)) (by kernel_rfl) (by kernel_rfl)
theorem lifted (os : Os) (started : os.Started) (H : Type) (enc : TypeId × Value → H) :
    ReturnsInHanded {} Tryd.checked os 6 .any (fun w args => (Rows.shapeAlikeSpec.pre enc Tryd.prog Tryd.f6 [] false w args ∧ laidMetH Tryd.prog laid09 w) ∧ sizedMet enc Tryd.prog Tryd.f6 (OpenSpec.ofChange Rows.shapeAlikeSpec) false w args)
      (Rows.shapeAlikeSpec.post enc Tryd.prog Tryd.f6 false true false false) := by
  refine returnsInHanded_of_change_and (C := Tryd.checked) (X := fun w _ => laidMetH Tryd.prog laid09 w) (fun _ _ _ hh h => h.of_heap hh) own started (by kernel_rfl) Tryd.func6
    (ChangeSpec.witness_shaped (enc := enc) (C := Tryd.checked) (os := os) (X := fun w _ => laidMetH Tryd.prog laid09 w) false (World.doorLaid Tryd.prog 400 os) #[.agg #[.int .u8 0, .string ⟨#[]⟩, .int .u8 0, .int .i64 0, .string ⟨#[]⟩, .string ⟨#[]⟩, .slice none 0 0], .agg #[.int .u8 0, .string ⟨#[]⟩, .int .u8 0, .int .i64 0, .string ⟨#[]⟩, .string ⟨#[]⟩, .slice none 0 0], .int .u8 0] 8 rfl (World.shaped_of_RefB (by kernel_rfl) (by kernel_rfl)) (by kernel_rfl) (by kernel_rfl) (by kernel_rfl) (door_met os _)) ?_
  intro W base args ds gs before hval0 hW _ _ hL _
  have hW' := hW
  obtain ⟨p, q, hA, hV, rfl, hfz, hnd⟩ := hW
  obtain ⟨rfl, rfl⟩ := trodVars_none hV
  have hlt : ∀ x ∈ p, x.block < W.heap.size := fun x hx => hW'.lt x (by simpa using hx)
  have hA0 := hA
  rw [Tryd.params6] at hA
  obtain ⟨v0, vs0, d0, ds0, p0, q0, hargs, rfl, rfl, h0, r0'⟩ := trodAll_cons hA
  obtain ⟨v1, vs1, d1, ds1, p1, q1, rfl, rfl, rfl, h1, r1'⟩ := trodAll_cons r0'
  obtain ⟨v2, vs2, d2, ds2, p2, q2, rfl, rfl, rfl, h2, r2'⟩ := trodAll_cons r1'
  obtain ⟨rfl, rfl, rfl⟩ := trodAll_nil r2'
  obtain rfl : args = #[v0, v1, v2] := by cases args; simp_all
  obtain ⟨cs0, rfl, hsz0⟩ := okWide_struct Tryd.underlying28 (hval0 0 28 v0 rfl rfl)
  obtain ⟨fuel0, hf0⟩ := h0
  obtain ⟨r0, s0, hcs0, hs0⟩ := open_rich fuel0 _ _ hf0
  obtain rfl : cs0 = #[.int .u8 r0.kind, .string r0.dep.name, .int .u8 r0.dep.op, .int .i64 r0.dep.ep, .string r0.dep.ver, .string r0.dep.rel, s0] := by
    obtain ⟨l⟩ := cs0
    exact congrArg Array.mk hcs0
  obtain ⟨cs1, rfl, hsz1⟩ := okWide_struct Tryd.underlying28 (hval0 1 28 v1 rfl rfl)
  obtain ⟨fuel1, hf1⟩ := h1
  obtain ⟨r1, s1, hcs1, hs1⟩ := open_rich fuel1 _ _ hf1
  obtain rfl : cs1 = #[.int .u8 r1.kind, .string r1.dep.name, .int .u8 r1.dep.op, .int .i64 r1.dep.ep, .string r1.dep.ver, .string r1.dep.rel, s1] := by
    obtain ⟨l⟩ := cs1
    exact congrArg Array.mk hcs1
  obtain ⟨wh2, rfl, rfl, rfl, hwf2⟩ := open_int Tryd.underlying5 (hval0 2 5 v2 rfl rfl) h2
  have hwh2 : 0 ≤ wh2 ∧ wh2 < 256 := by
    have h4 := hwf2
    simp [Lit.wf, IntKind.min, IntKind.max, IntKind.signed, IntKind.bits] at h4
    omega
  obtain ⟨hW2, hO2⟩ := of_laid hL
  refine (alike_any r0 r1 s0 s1 W hs0 hs1 wh2 hwh2 hW2 hO2).mono fun e W' ⟨he, bel⟩ => ?_
  subst he
  refine ⟨_, rfl, _, [], _, [], (p0 ++ (p1 ++ ([] ++ []))), [], hW', ?_, ?_, ?_, bel.frame _, fun h => by cases h⟩
  · exact trodAll_mk1 (shut_bool Tryd.underlying4 _)
  · rw [List.append_nil]
    exact stays_all laidOut bel _ _ _ _ (by kernel_rfl) hA0 hlt
  · rfl
theorem law_holds : Rows.ShapeAlikeSaid :=
  OpenClaim.holds_of_wide 6 Tryd.f6 rfl rfl rfl rfl rfl rfl rfl ⟨rfl, rfl, rfl, rfl, rfl⟩ rfl rfl rfl rfl rfl (by kernel_rfl) Tryd.func6 (by kernel_rfl)
    (of_decide_eq_true (by kernel_rfl)) (by unfold Func.isWrapper; first | (rw [if_pos (by decide +kernel)]; kernel_rfl) | (rw [if_neg (by decide +kernel)]; exact ⟨rfl, rfl⟩))
    (fun os started H enc _ => lifted os started H enc)
end Go.Proofs.YtadogjnoklabdaaDoor.shapeAlike
