/- Frames whose midst is any list; which boxes there are. Conditions: as each theorem names them. -/
import Derived.Test.YtadogjnoklabdaaDoorH48
namespace Go.Proofs.YtadogjnoklabdaaDoor
open Go.ChangeShapes Go.WideShapes Go.ChangeAt Go.RowKit Go.Deep
set_option maxRecDepth 100000

theorem box_cases {p : Nat} {r : RichD} (h : boxT p = some r) : (p = 1 ∧ r = aR) ∨ (p = 2 ∧ r = bR) ∨ (p = 3 ∧ r = cR) ∨ (p = 4 ∧ r = badR) ∨ (p = 5 ∧ r = withR') ∨ (p = 6 ∧ r = namedR) := by
  unfold boxT at h
  split at h
  · exact .inl ⟨rfl, (Option.some.inj h).symm⟩
  · exact .inr (.inl ⟨rfl, (Option.some.inj h).symm⟩)
  · exact .inr (.inr (.inl ⟨rfl, (Option.some.inj h).symm⟩))
  · exact .inr (.inr (.inr (.inl ⟨rfl, (Option.some.inj h).symm⟩)))
  · exact .inr (.inr (.inr (.inr (.inl ⟨rfl, (Option.some.inj h).symm⟩))))
  · exact .inr (.inr (.inr (.inr (.inr ⟨rfl, (Option.some.inj h).symm⟩))))
  · cases h
theorem enT_len (S : Nat → Value) : ∀ k, (enT S k).length = k * 8
  | 0 => rfl
  | k + 1 => by
    show (enT S k ++ (richCs (rowT k).1 (S k) ++ [Value.int .u8 (rowT k).2])).length = _
    rw [List.length_append, enT_len S k]
    show k * 8 + 8 = (k + 1) * 8
    omega
theorem enT_at (S : Nat → Value) : ∀ k j, j < k → ∀ i, i < 8 → (enT S k)[j * 8 + i]? = (richCs (rowT j).1 (S j) ++ [Value.int .u8 (rowT j).2])[i]?
  | 0, _, h, _, _ => by omega
  | k + 1, j, h, i, hi => by
    show (enT S k ++ (richCs (rowT k).1 (S k) ++ [Value.int .u8 (rowT k).2]))[j * 8 + i]? = _
    have hl := enT_len S k
    by_cases e : j = k
    · subst e
      rw [List.getElem?_append_right (by omega), hl, Nat.add_sub_cancel_left]
    · rw [List.getElem?_append_left (by omega)]
      exact enT_at S k j (by omega) i hi
theorem row_facts {k : Nat} (hk : k < 26) : onlyE (rowT k).1 (rowT k).2 = true ∧ (rowT k).1.count ≤ 100 := by
  refine names_only (rowT k) ?_
  unfold rowT
  have h2 : k < namesT.length := hk
  rw [List.getD_eq_getElem?_getD, List.getElem?_eq_getElem h2]
  exact List.getElem_mem h2
/-- A row of the table, to be read. -/
theorem TabAt.row {W : World} {q : Nat} (h : TabAt W q) {k : Nat} (hk : k < 26) : ∃ s, IsArgs W (rowT k).1 s ∧ W.cell? ⟨q, k * 8, none⟩ = some (.int .u8 (rowT k).1.kind) ∧ W.cell? ⟨q, k * 8 + 1, none⟩ = some (.string (rowT k).1.dep.name) ∧ W.cell? ⟨q, k * 8 + 2, none⟩ = some (.int .u8 (rowT k).1.dep.op) ∧ W.cell? ⟨q, k * 8 + 3, none⟩ = some (.int .i64 (rowT k).1.dep.ep) ∧ W.cell? ⟨q, k * 8 + 4, none⟩ = some (.string (rowT k).1.dep.ver) ∧ W.cell? ⟨q, k * 8 + 5, none⟩ = some (.string (rowT k).1.dep.rel) ∧ W.cell? ⟨q, k * 8 + 6, none⟩ = some s ∧ W.cell? ⟨q, k * 8 + 7, none⟩ = some (.int .u8 (rowT k).2) := by
  obtain ⟨S, hb, hi⟩ := h
  have c : ∀ i, i < 8 → W.cell? ⟨q, k * 8 + i, none⟩ = (richCs (rowT k).1 (S k) ++ [Value.int .u8 (rowT k).2])[i]? := fun i h8 => by
    rw [hb.cell, ← enT_at S 26 k hk i h8]
    simp
  exact ⟨S k, hi k hk, c 0 (by omega), c 1 (by omega), c 2 (by omega), c 3 (by omega), c 4 (by omega), c 5 (by omega), c 6 (by omega), c 7 (by omega)⟩
theorem TabAt.below {W W' : World} {q : Nat} (h : TabAt W q) (hb : Below W.heap.size W W') : TabAt W' q := by
  obtain ⟨S, h1, h2⟩ := h
  exact ⟨S, h1.below hb h1.lt, fun j hj => (h2 j hj).kept hb⟩
theorem TabAt.lt {W : World} {q : Nat} (h : TabAt W q) : q < W.heap.size := by
  obtain ⟨S, h1, _⟩ := h
  exact h1.lt
end Go.Proofs.YtadogjnoklabdaaDoor
