/- Whatever is added, decided, and taken back, each answer is the document's; behind each Propagate there is a conflict just where there is one, and if not the same literals are true. Conditions: none. -/
import Derived.Test.YtnachllhjojlcaaV38
namespace Go.Proofs.Ytnachllhjojlcaa
open Go.ChangeShapes Go.WideShapes Go.ChangeAt Go.RowKit Go.Maps Go.Deep
set_option maxRecDepth 100000

theorem plays_walk (vars : Int) (hv : (Lit.int .i64 vars).wf = true) (ao : Option Addr) (l : List Stp) (cap b off : Nat) (ca : Nat → Option Addr) (cc : Nat → Nat) (w : World) (hl : IsStp w w.heap.size ao b off l ca cc) :
    Calls Try.prog 4 #[.int .i64 vars, .slice ao l.length cap] w fun e w' => e = .returned (.bool true) ∧ Below w.heap.size w w' := by
  have hv' := wf_i64b hv
  have HL := Lib.hid (long_any vars w _ ao l cap b off ca cc hl)
  by_cases hlong : longS vars l = true
  · rw [hlong] at HL
    clear hl hlong
    go_enter Try.func4, Try.ntmps4
    go_wp2_with (first
      | (go_at_call 16; (with_reducible refine HL.out.mono ?_); rintro e w1 ⟨rfl, rfl⟩)
      | (go_at_call 9; (with_reducible refine (awake_any _).mono ?_); rintro e w1 ⟨rfl, hb1⟩))
    go_ret
    exact ⟨rfl, hb1⟩
  · have hlong : longS vars l = false := by simpa using hlong
    by_cases h0 : vars < 0
    · rw [hlong] at HL
      clear hl hlong
      go_enter Try.func4, Try.ntmps4
      go_wp2_with (first
        | (go_at_call 16; (with_reducible refine HL.out.mono ?_); rintro e w1 ⟨rfl, rfl⟩)
        | (go_at_call 10; (with_reducible refine (wnew_bad vars _ (.inl h0)).mono ?_); rintro e w2 ⟨rfl, rfl⟩)
        | (go_at_call 17; (with_reducible refine (on_rnew_bad vars h0).mono ?_); rintro e w3 ⟨rfl, rfl⟩)
        | (go_at_call 9; (with_reducible refine (awake_any _).mono ?_); rintro e w1 ⟨rfl, hb1⟩))
      go_ret
      exact ⟨rfl, hb1⟩
    · obtain ⟨n, rfl⟩ := Int.eq_ofNat_of_zero_le (by omega : 0 ≤ vars)
      have := (long_spec hlong).1
      exact plays_main n (by omega) ao l cap b off ca cc w hl hlong

end Go.Proofs.Ytnachllhjojlcaa

namespace Go.Proofs.Ytnachllhjojlcaa.watchPlays
open Go.ChangeShapes Go.WideShapes Go.ChangeAt Go.RowKit
open Go.ChangeMaps (open_string shut_string)
set_option maxRecDepth 100000

theorem own : ownKnob Try.prog.godebug = none := by kernel_rfl
theorem laidOut : laidOutB Try.prog = true := by kernel_rfl

theorem lifted (os : Os) (started : os.Started) (H : Type) (enc : TypeId × Value → H) :
    ReturnsInHanded {} Try.checked os 4 .any (Rows.watchPlaysSpec.pre6 enc Try.prog Try.f4 Rows.watchPlaysRow.domain false) (Rows.watchPlaysSpec.post enc Try.prog Try.f4 false true false false) := by
  refine law_lifted (C := Try.checked) own started (by kernel_rfl) Try.func4
    (ChangeSpec.witness6 (enc := enc) (C := Try.checked) false ⟨#[], #[.int .i64 0, .slice none 0 0], []⟩ 8 (by kernel_rfl) (by kernel_rfl) (by kernel_rfl) (by kernel_rfl))
    laidOut (by kernel_rfl) (show Try.f4.resultTypes = #[4] from by kernel_rfl) Try.underlying4 rfl ?_ ?_
  · intro ds hd
    obtain ⟨d0, d1, rfl⟩ : ∃ d0 d1, ds = [d0, d1] := by
      match ds, hd with
      | [d0, d1], _ => exact ⟨d0, d1, rfl⟩
    exact ⟨rfl, rfl, rfl⟩
  · intro W args ds ps hval hA hsz
    rw [Try.params4] at hA hval hsz
    obtain ⟨v0, vs0, d0, ds0, p0, q0, hargs, rfl, rfl, h0, r0⟩ := trodAll_cons hA
    obtain ⟨v1, vs1, d1, ds1, p1, q1, rfl, rfl, rfl, h1, r1⟩ := trodAll_cons r0
    obtain ⟨rfl, rfl, rfl⟩ := trodAll_nil r1
    obtain rfl : args = #[v0, v1] := by cases args; simp_all
    obtain ⟨a0, rfl, rfl, rfl, w0⟩ := open_int Try.underlying3 (hval 0 3 v0 rfl rfl) h0
    obtain ⟨ao1, l1, cap1, b1, off1, ca1, cc1, rfl, hl1, hn1⟩ := stp_of W v1 d1 p1 (hval 1 36 v1 rfl rfl) h1
    exact plays_walk a0 w0 ao1 l1 cap1 b1 off1 ca1 cc1 W hl1

theorem over : Rows.watchPlaysRow.holds Try.pinned (OpenSpec.ofChange Rows.watchPlaysSpec) :=
  OpenClaim.holds_of_wide 4 Try.f4 rfl rfl rfl rfl rfl rfl rfl ⟨rfl, rfl, rfl, rfl, rfl⟩ rfl rfl rfl rfl rfl (by kernel_rfl) Try.func4 (by kernel_rfl)
    (of_decide_eq_true (by kernel_rfl)) (by unfold Func.isWrapper; first | (rw [if_pos (by decide +kernel)]; kernel_rfl) | (rw [if_neg (by decide +kernel)]; exact ⟨rfl, rfl⟩))
    (fun os started H enc _ => lifted os started H enc)

theorem proved : Rows.WatchPlaysSaid := over
#print axioms proved
end Go.Proofs.Ytnachllhjojlcaa.watchPlays
