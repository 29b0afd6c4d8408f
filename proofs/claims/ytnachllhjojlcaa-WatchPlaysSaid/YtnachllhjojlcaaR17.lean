/- Plain laws for TrailOnce; trails beside a block of something else. -/
import Derived.Test.YtnachllhjojlcaaT14
namespace Go.Proofs.Ytnachllhjojlcaa
open Go.ChangeShapes Go.WideShapes Go.ChangeAt Go.RowKit
set_option maxRecDepth 100000

theorem Trails.withX {w0 w w' : World} {X Y : Nat → Prop} {L : List (Nat × TrD)} (h : Trails w0 w X L) (hb : Below w.heap.size w w') (hY : ∀ k, Y k → X k ∨ (w.heap.size ≤ k ∧ k < w'.heap.size)) : Trails w0 w' Y L := by
  have hh := h.below hb
  have h1 := hh.bel
  have h2 := h.xlt
  obtain ⟨_, _, o, a3, a4, a5, a6, a7⟩ := h
  refine ⟨h1, fun k hk => ?_, o, fun i g T hi => (a3 i g T hi).below hb, a4, a5, fun i k hk => Nat.lt_of_lt_of_le (a6 i k hk) hb.size, fun i k hk hy => ?_⟩
  · rcases hY k hk with h | h
    · exact Nat.lt_of_lt_of_le (h2 k h) hb.size
    · exact h.2
  · rcases hY k hy with h | h
    · exact a7 i k hk h
    · have := a6 i k hk; omega

/-- Something writes the other blocks alone. -/
theorem Trails.foreign {w0 w w' : World} {X : Nat → Prop} {L : List (Nat × TrD)} (h : Trails w0 w X L) (ht : Touch X w w') (hX : ∀ k, X k → w0.heap.size ≤ k) : Trails w0 w' X L := by
  obtain ⟨h1, h2, o, a3, a4, a5, a6, a7⟩ := h
  exact ⟨h1.trans (ht.below h1.size fun x hx hf => by have := hX x hf; omega), fun k hk => Nat.lt_of_lt_of_le (h2 k hk) ht.size, o, fun i g T hi => (a3 i g T hi).other ht (a7 i), a4, a5, fun i k hk => Nat.lt_of_lt_of_le (a6 i k hk) ht.size, a7⟩

/-! ### What is found of a variable -/
def sgn (v : Nat) : Option En → Int
  | none => 0
  | some e => if e.lit = (v : Int) + 1 then 1 else -1

theorem val_posR {n : Nat} {es : List En} (v : Nat) (h : v < n) : valE n es ((v : Int) + 1) = sgn v (look es v) := by
  unfold valE
  have e1 : ((v : Int) + 1).natAbs - 1 = v := by omega
  rw [if_pos (by omega), e1]
  cases look es v <;> rfl
theorem val_negR {n : Nat} {es : List En} (v : Nat) (h : v < n) : valE n es (-(v : Int) - 1) = -sgn v (look es v) := by
  unfold valE
  have e1 : (-(v : Int) - 1).natAbs - 1 = v := by omega
  rw [if_pos (by omega), e1]
  cases hl : look es v with
  | none => rfl
  | some e =>
    have h2 := (look_some hl).2
    simp only [sgn]
    by_cases h3 : e.lit = (v : Int) + 1
    · rw [if_pos h3, if_neg (by omega)]
    · rw [if_neg h3, if_pos (by omega)]
      rfl
theorem of_var {n : Nat} {es : List En} (v : Nat) (h : v < n) : ofE n es v = knE (look es v) := by
  unfold ofE
  rw [if_neg (by omega)]
  rfl

/-- A literal that lies on the trail. -/
theorem on_trail {n : Nat} {es : List En} (hg : Good n es) {e : En} (he : e ∈ es) : valE n es e.lit = 1 ∧ ofE n es ((e.lit.natAbs - 1 : Nat) : Int) = ⟨if e.lit < 0 then -1 else 1, e.level, e.reason⟩ := by
  have hl := hg.lit e he
  have hm := look_mem hg e he
  unfold Lit at hl
  constructor
  · unfold valE
    rw [if_pos hl, hm]
    simp
  · rw [of_var _ (by omega), hm]
    rfl

/-! ### The trail, from its beginning on -/
def older (es : List En) (k : Nat) : List En := es.drop (es.length - k)
theorem older_zero (es : List En) : older es 0 = [] := by simp [older]
theorem older_all (es : List En) : older es es.length = es := by simp [older]
theorem older_good {n : Nat} {es : List En} (k : Nat) (h : Good n es) : Good n (older es k) := by
  have e := List.take_append_drop (es.length - k) es
  rw [← e] at h
  exact h.tail
theorem older_succ (es : List En) (k : Nat) (h : k < es.length) : ∃ e, e ∈ es ∧ older es (k + 1) = e :: older es k ∧ atE es k = e.lit := by
  have hj : es.length - (k + 1) < es.length := by omega
  refine ⟨es[es.length - (k + 1)], List.getElem_mem _, ?_, ?_⟩
  · unfold older
    rw [List.drop_eq_getElem_cons hj]
    congr 2
    omega
  · unfold atE
    rw [if_neg (by omega)]
    simp only [Int.toNat_natCast]
    rw [List.getD_eq_getElem?_getD, List.getElem?_reverse (by simpa using h)]
    simp only [List.length_map, List.getElem?_map]
    have e1 : es.length - 1 - k = es.length - (k + 1) := by omega
    rw [e1, List.getElem?_eq_getElem hj]
    rfl
theorem at_out (es : List En) (i : Int) (h : i < 0 ∨ (es.length : Int) ≤ i) : atE es i = 0 := by
  unfold atE
  by_cases h0 : i < 0
  · rw [if_pos h0]
  · rw [if_neg h0, List.getD_eq_getElem?_getD, List.getElem?_eq_none (by simp; omega)]
    rfl

end Go.Proofs.Ytnachllhjojlcaa
