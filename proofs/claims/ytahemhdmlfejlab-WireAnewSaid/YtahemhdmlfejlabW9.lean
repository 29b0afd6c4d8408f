/- The argument []Step, opened. -/
import Derived.Test.YtahemhdmlfejlabArgs
import Derived.Test.YtahemhdmlfejlabW7
namespace Go.Proofs.Ytahemhdmlfejlab
open Go.ChangeShapes Go.WideShapes Go.ChangeAt Go.RowKit Go.Deep
set_option maxRecDepth 100000

theorem wf_i64b {n : Int} (h : (Lit.int .i64 n).wf = true) : -9223372036854775808 ≤ n ∧ n ≤ 9223372036854775807 := by
  simp [Lit.wf, IntKind.min, IntKind.max, IntKind.signed, IntKind.bits] at h
  omega
theorem wf_u8b {n : Int} (h : (Lit.int .u8 n).wf = true) : 0 ≤ n ∧ n ≤ 255 := by
  simp [Lit.wf, IntKind.min, IntKind.max, IntKind.signed, IntKind.bits] at h
  omega

theorem list_of {α : Type} (n : Nat) (Q : Nat → α → Prop) (h : ∀ i, i < n → ∃ a, Q i a) : ∃ l : List α, l.length = n ∧ ∀ i (hi : i < l.length), Q i l[i] := by
  induction n with
  | zero => exact ⟨[], rfl, fun i hi => by simp at hi⟩
  | succ n ih =>
    obtain ⟨l, hl, hq⟩ := ih fun i hi => h i (by omega)
    obtain ⟨a, ha⟩ := h n (by omega)
    refine ⟨l ++ [a], by simp [hl], fun i hi => ?_⟩
    by_cases hin : i < l.length
    · rw [List.getElem_append_left hin]
      exact hq i hin
    · have : i = l.length := by simp at hi; omega
      subst this
      simp [hl]
      exact ha

theorem steps_of {H : Type} {enc : TypeId × Value → H} (W : World) (v : Value) (d : DataW H) (p : List MemPlace) (hval : Value.okWide Try.prog W .any 0 22 v) (h : DataW.Trod enc Try.prog W 0 (fun _ => true) true 22 v d p) (hfit : Fit Try.prog 22 d) :
    ∃ ao l cap b off, v = .slice ao (List.length l) cap ∧ IsSteps W W.heap.size ao b off l ∧ (l.length : Int) ≤ 9223372036854775807 := by
  obtain ⟨ao, len, cap, rfl⟩ := okWide_slice Try.underlying22 hval
  obtain ⟨fuel, hf⟩ := h
  have hf' : DataW.trod enc Try.prog W 0 (fun _ => true) true fuel 22 [.slice ao len cap] = some (d, p) := by simpa [Value.cells] using hf
  rcases open_struct_slice Try.underlying22 Try.underlying31 (by kernel_rfl) (by kernel_rfl) hf' with ⟨hcs, hx⟩ | ⟨a, len', cap', m, D, Pl, hcs, _, hlc, hcm, hm, hx, hi⟩
  · simp only [List.cons.injEq, Value.slice.injEq, and_true] at hcs
    obtain ⟨rfl, rfl, rfl⟩ := hcs
    exact ⟨none, [], 0, 0, 0, rfl, ⟨fun h => absurd h (by simp), fun i h => absurd h (by simp), fun i h => absurd h (by simp), fun i h => absurd h (by simp), fun i h => absurd h (by simp), fun i h => absurd h (by simp), fun i h => absurd h (by simp)⟩, by simp⟩
  · simp only [List.cons.injEq, Value.slice.injEq, and_true] at hcs
    obtain ⟨rfl, rfl, rfl⟩ := hcs
    simp only [if_true] at hm
    subst hm
    simp only [Prod.mk.injEq] at hx
    obtain ⟨rfl, _⟩ := hx
    obtain ⟨_, hel⟩ := hfit.slice Try.underlying22
    have hlen : (len : Int) ≤ 9223372036854775807 := by unfold maxLen at hcm; omega
    obtain ⟨l, hl, hq⟩ := list_of len (fun i (x : StepD) => x.wf ∧ W.cell? (a.add (i * 5 + 0)) = some (.int .u8 x.kind) ∧ W.cell? (a.add (i * 5 + 1)) = some (.int .i64 x.least) ∧ W.cell? (a.add (i * 5 + 2)) = some (.int .i64 x.n) ∧ W.cell? (a.add (i * 5 + 3)) = some (.string x.s) ∧ W.cell? (a.add (i * 5 + 4)) = some (.int .i64 x.e)) (fun i hi' => by
      obtain ⟨ys, n, hD, _, hyl, hfl⟩ := hi i (by omega)
      have hfd : Fit Try.prog 31 (D i) := hel (D i) (List.mem_map.2 ⟨i, List.mem_range.2 hi', rfl⟩)
      obtain ⟨v0, y0, c0, hy0, t0⟩ := hfl 0 _ rfl
      obtain ⟨v1, y1, c1, hy1, t1⟩ := hfl 1 _ rfl
      obtain ⟨v2, y2, c2, hy2, t2⟩ := hfl 2 _ rfl
      obtain ⟨v3, y3, c3, hy3, t3⟩ := hfl 3 _ rfl
      obtain ⟨v4, y4, c4, hy4, t4⟩ := hfl 4 _ rfl
      obtain ⟨x0, e0, rfl, w0⟩ := DataW.trod_int Try.underlying5 t0
      obtain ⟨x1, e1, rfl, w1⟩ := DataW.trod_int Try.underlying3 t1
      obtain ⟨x2, e2, rfl, w2⟩ := DataW.trod_int Try.underlying3 t2
      obtain ⟨x3, e3, rfl, w3⟩ := DataW.trod_string Try.underlying9 t3
      obtain ⟨x4, e4, rfl, w4⟩ := DataW.trod_int Try.underlying29 t4
      simp only [List.cons.injEq, and_true] at e0 e1 e2 e3 e4
      subst e0 e1 e2 e3 e4
      have h3 : Fit (H := H) Try.prog 9 (.lit (.string x3.data.toList)) := by
        rw [hD] at hfd
        exact hfd.struct Try.underlying31 3 _ _ rfl (by simp [hy3])
      have h3' := h3.string
      simp only [Array.length_toList] at h3'
      exact ⟨⟨x0, x1, x2, x3, x4⟩, ⟨wf_u8b w0, wf_i64b w1, wf_i64b w2, h3', wf_i64b w4⟩, c0, c1, c2, c3, c4⟩)
    subst hl
    rcases Nat.eq_zero_or_pos l.length with h0 | h0
    · exact ⟨some a, l, _, 0, 0, rfl, ⟨fun h => absurd h (by omega), fun i h => absurd h (by omega), fun i h => absurd h (by omega), fun i h => absurd h (by omega), fun i h => absurd h (by omega), fun i h => absurd h (by omega), fun i h => absurd h (by omega)⟩, hlen⟩
    · obtain ⟨b, off, rfl, hb⟩ := addr_of_cell (w := W) (a := a) (hq 0 h0).2.1
      simp only [add_plain] at hq
      exact ⟨_, l, _, b, off, rfl, ⟨fun _ => ⟨rfl, hb⟩, fun i h => (hq i h).1, fun i h => (hq i h).2.1, fun i h => by rw [Nat.add_assoc]; exact (hq i h).2.2.1, fun i h => by rw [Nat.add_assoc]; exact (hq i h).2.2.2.1,
        fun i h => by rw [Nat.add_assoc]; exact (hq i h).2.2.2.2.1, fun i h => by rw [Nat.add_assoc]; exact (hq i h).2.2.2.2.2⟩, hlen⟩

end Go.Proofs.Ytahemhdmlfejlab
