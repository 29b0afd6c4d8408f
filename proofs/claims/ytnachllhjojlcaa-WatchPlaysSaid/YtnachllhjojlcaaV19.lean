/- Arguments of the watch laws opened: []Step; WatchCopies' walk. -/
import Derived.Test.YtnachllhjojlcaaV18
namespace Go.Proofs.Ytnachllhjojlcaa
open Go.ChangeShapes Go.WideShapes Go.ChangeAt Go.RowKit Go.Maps Go.Deep
set_option maxRecDepth 100000

theorem wf_i64b {n : Int} (h : (Lit.int .i64 n).wf = true) : -9223372036854775808 ≤ n ∧ n ≤ 9223372036854775807 := by
  simp [Lit.wf, IntKind.min, IntKind.max, IntKind.signed, IntKind.bits] at h
  omega
theorem wf_u8b {n : Int} (h : (Lit.int .u8 n).wf = true) : 0 ≤ n ∧ n ≤ 255 := by
  simp [Lit.wf, IntKind.min, IntKind.max, IntKind.signed, IntKind.bits] at h
  omega
theorem list_of {α : Type} (n : Nat) (Q : Nat → α → Prop) (h : ∀ i, i < n → ∃ a, Q i a) : ∃ l : List α, l.length = n ∧ ∀ i (hi : i < l.length), Q i l[i] := by
  induction n with
  | zero => exact ⟨[], rfl, fun i hi => by simp at hi⟩
  | succ n ih =>
    obtain ⟨l, hl, hq⟩ := ih fun i hi => h i (by omega)
    obtain ⟨a, ha⟩ := h n (by omega)
    refine ⟨l ++ [a], by simp [hl], fun i hi => ?_⟩
    by_cases hin : i < l.length
    · rw [List.getElem_append_left hin]
      exact hq i hin
    · have : i = l.length := by simp at hi; omega
      subst this
      simp [hl]
      exact ha
theorem getD_take {l : List Int} {n k : Nat} (h : k < n) (hl : n ≤ l.length) : l.getD k 0 = (l.take n)[k]'(by simp; omega) := by
  have h2 : k < l.length := by omega
  simp [List.getD, h2]

/-- Numbers that lie within something that came in. -/
theorem ints_in {H : Type} {enc : TypeId × Value → H} (W : World) (fuel : Nat) (v : Value) (y : DataW H × List MemPlace) (h : DataW.trod enc Try.prog W 0 (fun _ => true) true fuel 23 [v] = some y) :
    ∃ ao l cap, v = .slice ao (List.length l) cap ∧ l.length ≤ 9223372036854775807 ∧ (∀ x ∈ l, I64 x) ∧ ∀ j (hj : j < l.length), ∃ b off, ao = some ⟨b, off, none⟩ ∧ b < W.heap.size ∧ W.cell? ⟨b, off + j, none⟩ = some (.int .i64 l[j]) := by
  rcases open_ints Try.underlying23 Try.underlying3 (by kernel_rfl) h with ⟨hcs, hx⟩ | ⟨a, len, cap, zs, hcs, _, hlc, hcm, hz, hx, hi, hwf⟩
  · simp only [List.cons.injEq, and_true] at hcs
    exact ⟨none, [], 0, hcs, by simp, fun x hx => by simp at hx, fun j hj => by simp at hj⟩
  · simp only [List.cons.injEq, and_true] at hcs
    simp only [if_true] at hz
    have hlen : len ≤ 9223372036854775807 := by unfold maxLen at hcm; omega
    have hcl : (zs.take len).length = len := by rw [List.length_take]; omega
    refine ⟨some a, zs.take len, cap, by rw [hcl]; exact hcs, by omega, fun x hx => wf_i64b (hwf x (List.mem_of_mem_take hx)), fun j hj => ?_⟩
    have h9 := hi j (by omega)
    obtain ⟨b, off, rfl, hb⟩ := addr_of_cell (w := W) (a := a) (hi 0 (by omega))
    rw [add_plain] at h9
    exact ⟨b, off, rfl, hb, by rw [h9, getD_take (n := len) (by omega) (by omega)]⟩

theorem stp_of {H : Type} {enc : TypeId × Value → H} (W : World) (v : Value) (d : DataW H) (p : List MemPlace) (hval : Value.okWide Try.prog W .any 0 36 v) (h : DataW.Trod enc Try.prog W 0 (fun _ => true) true 36 v d p) :
    ∃ ao l cap b off ca cc, v = .slice ao (List.length l) cap ∧ IsStp W W.heap.size ao b off l ca cc ∧ (l.length : Int) ≤ 9223372036854775807 := by
  obtain ⟨ao, len, cap, rfl⟩ := okWide_slice Try.underlying36 hval
  obtain ⟨fuel, hf⟩ := h
  have hf' : DataW.trod enc Try.prog W 0 (fun _ => true) true fuel 36 [.slice ao len cap] = some (d, p) := by simpa [Value.cells] using hf
  rcases open_struct_slice Try.underlying36 Try.underlying42 (by kernel_rfl) (by kernel_rfl) hf' with ⟨hcs, hx⟩ | ⟨a, len', cap', m, D, Pl, hcs, _, hlc, hcm, hm, hx, hi⟩
  · simp only [List.cons.injEq, Value.slice.injEq, and_true] at hcs
    obtain ⟨rfl, rfl, rfl⟩ := hcs
    exact ⟨none, [], 0, 0, 0, fun _ => none, fun _ => 0, rfl, ⟨fun h => absurd h (by simp), fun i h => absurd h (by simp), fun i h => absurd h (by simp), fun i h => absurd h (by simp), fun i h => absurd h (by simp), fun i h => absurd h (by simp)⟩, by simp⟩
  · simp only [List.cons.injEq, Value.slice.injEq, and_true] at hcs
    obtain ⟨rfl, rfl, rfl⟩ := hcs
    simp only [if_true] at hm
    subst hm
    have hlen : (len : Int) ≤ 9223372036854775807 := by unfold maxLen at hcm; omega
    obtain ⟨l, hl, hq⟩ := list_of len (fun i (x : Stp × Option Addr × Nat) => x.1.wf ∧ W.cell? (a.add (i * 3 + 0)) = some (.int .u8 x.1.kind) ∧ W.cell? (a.add (i * 3 + 1)) = some (.slice x.2.1 x.1.c.length x.2.2) ∧ W.cell? (a.add (i * 3 + 2)) = some (.int .i64 x.1.n) ∧
        ∀ j (hj : j < x.1.c.length), ∃ b off, x.2.1 = some ⟨b, off, none⟩ ∧ b < W.heap.size ∧ W.cell? ⟨b, off + j, none⟩ = some (.int .i64 x.1.c[j])) (fun i hi' => by
      obtain ⟨ys, n, hD, _, hyl, hfl⟩ := hi i (by omega)
      obtain ⟨v0, y0, c0, hy0, t0⟩ := hfl 0 _ rfl
      obtain ⟨v1, y1, c1, hy1, t1⟩ := hfl 1 _ rfl
      obtain ⟨v2, y2, c2, hy2, t2⟩ := hfl 2 _ rfl
      obtain ⟨x0, e0, rfl, w0⟩ := DataW.trod_int Try.underlying5 t0
      obtain ⟨x2, e2, rfl, w2⟩ := DataW.trod_int Try.underlying3 t2
      obtain ⟨ao1, l1, cap1, rfl, hl1, hw1, hc1⟩ := ints_in W n v1 y1 t1
      simp only [List.cons.injEq, and_true] at e0 e2
      subst e0 e2
      exact ⟨(⟨x0, l1, x2⟩, ao1, cap1), ⟨wf_u8b w0, hw1, hl1, wf_i64b w2⟩, c0, c1, c2, hc1⟩)
    subst hl
    rcases Nat.eq_zero_or_pos l.length with h0 | h0
    · obtain rfl : l = [] := List.eq_nil_of_length_eq_zero h0
      exact ⟨some a, [], _, 0, 0, fun _ => none, fun _ => 0, rfl, ⟨fun h => absurd h (by simp), fun i h => absurd h (by simp), fun i h => absurd h (by simp), fun i h => absurd h (by simp), fun i h => absurd h (by simp), fun i h => absurd h (by simp)⟩, by simp⟩
    · obtain ⟨b, off, rfl, hb⟩ := addr_of_cell (w := W) (a := a) (hq 0 h0).2.1
      simp only [add_plain] at hq
      have hca : ∀ i (h : i < l.length), ((l[i]?).map (·.2.1)).getD none = l[i].2.1 := fun i h => by rw [List.getElem?_eq_getElem h]; rfl
      have hcc : ∀ i (h : i < l.length), ((l[i]?).map (·.2.2)).getD 0 = l[i].2.2 := fun i h => by rw [List.getElem?_eq_getElem h]; rfl
      refine ⟨_, l.map (·.1), _, b, off, fun i => ((l[i]?).map (·.2.1)).getD none, fun i => ((l[i]?).map (·.2.2)).getD 0, by rw [List.length_map], ⟨fun _ => ⟨rfl, hb⟩, fun i h => ?_, fun i h => ?_, fun i h => ?_, fun i h => ?_, fun i h j hj => ?_⟩, by simpa using hlen⟩
      all_goals
        have h' : i < l.length := by simpa using h
        obtain ⟨q1, q2, q3, q4, q5⟩ := hq i h'
        simp only [List.getElem_map]
      · exact q1
      · exact q2
      · rw [hca i h', hcc i h', Nat.add_assoc]
        exact q3
      · rw [Nat.add_assoc]
        exact q4
      · rw [hca i h']
        simp only [List.getElem_map] at hj
        exact q5 j hj

end Go.Proofs.Ytnachllhjojlcaa
