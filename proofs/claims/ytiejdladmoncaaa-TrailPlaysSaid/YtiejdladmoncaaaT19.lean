/- The argument []Step, opened; TrailOnce: the other cases. -/
import Derived.Test.YtiejdladmoncaaaT18
namespace Go.Proofs.Ytiejdladmoncaaa
open Go.ChangeShapes Go.WideShapes Go.ChangeAt Go.RowKit Go.Deep
set_option maxRecDepth 100000

theorem wf_i64b {n : Int} (h : (Lit.int .i64 n).wf = true) : -9223372036854775808 ≤ n ∧ n ≤ 9223372036854775807 := by
  simp [Lit.wf, IntKind.min, IntKind.max, IntKind.signed, IntKind.bits] at h
  omega
theorem wf_u8b {n : Int} (h : (Lit.int .u8 n).wf = true) : 0 ≤ n ∧ n ≤ 255 := by
  simp [Lit.wf, IntKind.min, IntKind.max, IntKind.signed, IntKind.bits] at h
  omega

theorem list_of {α : Type} (n : Nat) (Q : Nat → α → Prop) (h : ∀ i, i < n → ∃ a, Q i a) : ∃ l : List α, l.length = n ∧ ∀ i (hi : i < l.length), Q i l[i] := by
  induction n with
  | zero => exact ⟨[], rfl, fun i hi => by simp at hi⟩
  | succ n ih =>
    obtain ⟨l, hl, hq⟩ := ih fun i hi => h i (by omega)
    obtain ⟨a, ha⟩ := h n (by omega)
    refine ⟨l ++ [a], by simp [hl], fun i hi => ?_⟩
    by_cases hin : i < l.length
    · rw [List.getElem_append_left hin]
      exact hq i hin
    · have : i = l.length := by simp at hi; omega
      subst this
      simp [hl]
      exact ha

theorem steps_of {H : Type} {enc : TypeId × Value → H} (W : World) (v : Value) (d : DataW H) (p : List MemPlace) (hval : Value.okWide Try.prog W .any 0 22 v) (h : DataW.Trod enc Try.prog W 0 (fun _ => true) true 22 v d p) (_hfit : Fit Try.prog 22 d) :
    ∃ ao l cap b off, v = .slice ao (List.length l) cap ∧ IsSteps W W.heap.size ao b off l ∧ (l.length : Int) ≤ 9223372036854775807 := by
  obtain ⟨ao, len, cap, rfl⟩ := okWide_slice Try.underlying22 hval
  obtain ⟨fuel, hf⟩ := h
  have hf' : DataW.trod enc Try.prog W 0 (fun _ => true) true fuel 22 [.slice ao len cap] = some (d, p) := by simpa [Value.cells] using hf
  rcases open_struct_slice Try.underlying22 Try.underlying37 (by kernel_rfl) (by kernel_rfl) hf' with ⟨hcs, hx⟩ | ⟨a, len', cap', m, D, Pl, hcs, _, hlc, hcm, hm, hx, hi⟩
  · simp only [List.cons.injEq, Value.slice.injEq, and_true] at hcs
    obtain ⟨rfl, rfl, rfl⟩ := hcs
    exact ⟨none, [], 0, 0, 0, rfl, ⟨fun h => absurd h (by simp), fun i h => absurd h (by simp), fun i h => absurd h (by simp), fun i h => absurd h (by simp), fun i h => absurd h (by simp)⟩, by simp⟩
  · simp only [List.cons.injEq, Value.slice.injEq, and_true] at hcs
    obtain ⟨rfl, rfl, rfl⟩ := hcs
    simp only [if_true] at hm
    subst hm
    have hlen : (len : Int) ≤ 9223372036854775807 := by unfold maxLen at hcm; omega
    obtain ⟨l, hl, hq⟩ := list_of len (fun i (x : StepD) => x.wf ∧ W.cell? (a.add (i * 3 + 0)) = some (.int .u8 x.kind) ∧ W.cell? (a.add (i * 3 + 1)) = some (.int .i64 x.lit) ∧ W.cell? (a.add (i * 3 + 2)) = some (.int .i64 x.reason)) (fun i hi' => by
      obtain ⟨ys, n, hD, _, hyl, hfl⟩ := hi i (by omega)
      obtain ⟨v0, y0, c0, hy0, t0⟩ := hfl 0 _ rfl
      obtain ⟨v1, y1, c1, hy1, t1⟩ := hfl 1 _ rfl
      obtain ⟨v2, y2, c2, hy2, t2⟩ := hfl 2 _ rfl
      obtain ⟨x0, e0, rfl, w0⟩ := DataW.trod_int Try.underlying5 t0
      obtain ⟨x1, e1, rfl, w1⟩ := DataW.trod_int Try.underlying3 t1
      obtain ⟨x2, e2, rfl, w2⟩ := DataW.trod_int Try.underlying3 t2
      simp only [List.cons.injEq, and_true] at e0 e1 e2
      subst e0 e1 e2
      exact ⟨⟨x0, x1, x2⟩, ⟨wf_u8b w0, wf_i64b w1, wf_i64b w2⟩, c0, c1, c2⟩)
    subst hl
    rcases Nat.eq_zero_or_pos l.length with h0 | h0
    · exact ⟨some a, l, _, 0, 0, rfl, ⟨fun h => absurd h (by omega), fun i h => absurd h (by omega), fun i h => absurd h (by omega), fun i h => absurd h (by omega), fun i h => absurd h (by omega)⟩, hlen⟩
    · obtain ⟨b, off, rfl, hb⟩ := addr_of_cell (w := W) (a := a) (hq 0 h0).2.1
      simp only [add_plain] at hq
      exact ⟨_, l, _, b, off, rfl, ⟨fun _ => ⟨rfl, hb⟩, fun i h => (hq i h).1, fun i h => (hq i h).2.1, fun i h => by rw [Nat.add_assoc]; exact (hq i h).2.2.1, fun i h => by rw [Nat.add_assoc]; exact (hq i h).2.2.2⟩, hlen⟩

theorem once_walk (vars : Int) (hv : (Lit.int .i64 vars).wf = true) (ao : Option Addr) (l : List StepD) (cap b off : Nat) (w : World) (hl : IsSteps w w.heap.size ao b off l) :
    Calls Try.prog 3 #[.int .i64 vars, .slice ao l.length cap] w fun e w' => e = .returned (.bool true) ∧ Below w.heap.size w w' := by
  have hv' := wf_i64b hv
  by_cases hb1 : 300 < l.length
  · have h1 : (300 : Int) < (l.length : Int) := by omega
    go_enter Try.func3, Try.ntmps3
    go_wp2_with (first
      | (go_at_call 8; (with_reducible refine (works_any w).mono ?_); rintro r w1 ⟨rfl, hB1⟩)
      | (go_at_call 8; refine (works_any _).mono ?_; rintro r w2 ⟨rfl, hB2⟩))
    go_ret
    exact ⟨rfl, bel_trans hB1 hB2⟩
  · have h1 : ¬ (300 : Int) < (l.length : Int) := by omega
    have h2 : decide ((300 : Int) < (l.length : Int)) = false := by simpa using h1
    by_cases hb2 : 5000 < vars
    · go_enter Try.func3, Try.ntmps3
      go_wp2_with (first
        | (go_at_call 8; (with_reducible refine (works_any w).mono ?_); rintro r w1 ⟨rfl, hB1⟩)
        | (go_at_call 8; refine (works_any _).mono ?_; rintro r w2 ⟨rfl, hB2⟩))
      go_ret
      exact ⟨rfl, bel_trans hB1 hB2⟩
    · have h3 : decide (5000 < vars) = false := by simpa using hb2
      by_cases hb3 : vars < 0
      · have h4 := fun W => Lib.hid (played_bad vars (.slice ao l.length cap) W hb3)
        go_enter Try.func3, Try.ntmps3
        go_wp2_with (first
          | (go_at_call 8; refine (works_any w).mono ?_; rintro r w1 ⟨rfl, hB1⟩)
          | (go_at_call 9; refine (h4 _).out.mono ?_; rintro r w2 ⟨rfl, rfl⟩))
        go_ret
        exact ⟨rfl, hB1⟩
      · obtain ⟨n, rfl⟩ := Int.eq_ofNat_of_zero_le (by omega : 0 ≤ vars)
        exact once_main n (by omega) ao l cap b off w hl (by omega)

end Go.Proofs.Ytiejdladmoncaaa
