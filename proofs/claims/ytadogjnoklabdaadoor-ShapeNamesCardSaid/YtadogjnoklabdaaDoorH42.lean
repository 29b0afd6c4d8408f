/- ShapeNames: its rich dependencies in plain words; lists of parts in memory. Conditions: as each theorem names them. -/
import Derived.Test.YtadogjnoklabdaaDoorH34
import Derived.Test.YtadogjnoklabdaaDoorH28
import Derived.Test.YtadogjnoklabdaaDoorH22
namespace Go.Proofs.YtadogjnoklabdaaDoor
open Go.ChangeShapes Go.WideShapes Go.ChangeAt Go.RowKit Go.Deep
set_option maxRecDepth 100000

def listR (k : Int) (d : DepD) (l : List RichD) : RichD := .node k d l.length (fun j => l.getD j .nil)
/-- Parts with their slices. -/
abbrev PartV := RichD × Value
def partsC : List PartV → List Value | [] => [] | p :: l => richCs p.1 p.2 ++ partsC l
theorem partsC_at : (l : List PartV) → (j : Nat) → (hj : j < l.length) → ∀ i, i < 7 → (partsC l)[j * 7 + i]? = (richCs l[j].1 l[j].2)[i]?
  | p :: l, 0, _, i, hi => by
    show (richCs p.1 p.2 ++ partsC l)[0 * 7 + i]? = _
    rw [Nat.zero_mul, Nat.zero_add, List.getElem?_append_left (by exact hi)]
    rfl
  | p :: l, j + 1, hj, i, hi => by
    show (richCs p.1 p.2 ++ partsC l)[(j + 1) * 7 + i]? = _
    rw [List.getElem?_append_right (by show 7 ≤ _; omega), show (j + 1) * 7 + i - (richCs p.1 p.2).length = j * 7 + i from by show (j + 1) * 7 + i - 7 = _; omega, partsC_at l j (by simpa using hj) i hi]
    rfl
theorem fit_no (k : Int) (hk : 0 ≤ k ∧ k < 256) : fitR k noDep :=
  ⟨⟨show (⟨#[]⟩ : ByteArray).size ≤ 9223372036854775807 from by decide, show (⟨#[]⟩ : ByteArray).size ≤ 9223372036854775807 from by decide, show (⟨#[]⟩ : ByteArray).size ≤ 9223372036854775807 from by decide⟩, hk.1, hk.2⟩
theorem is_parts {w : World} {g c : Nat} {k : Int} {d : DepD} (ps : List PartV) (hd : fitR k d) (hl : ps.length ≤ 9223372036854775807) (hb : ∀ i v, (partsC ps)[i]? = some v → w.cell? ⟨g, i, none⟩ = some v) (hps : ∀ p ∈ ps, IsArgs w p.1 p.2) : IsArgs w (listR k d (ps.map (·.1))) (.slice (some ⟨g, 0, none⟩) ps.length c) := by
  have h := IsArgs.mk (w := w) (listR k d (ps.map (·.1))) (some ⟨g, 0, none⟩) c (fun j => (ps.map (·.2)).getD j (.slice none 0 0)) hd (by show (ps.map (·.1)).length ≤ _; rw [List.length_map]; exact hl) (fun j hj => ?_) (fun j hj => ?_)
  · have e : (listR k d (ps.map (·.1))).n = ps.length := by show (ps.map (·.1)).length = _; rw [List.length_map]
    rw [e] at h
    exact h
  · have hj2 : j < ps.length := by
      have h2 : j < (ps.map (·.1)).length := hj
      rwa [List.length_map] at h2
    have e1 : (listR k d (ps.map (·.1))).args j = ps[j].1 := by
      show (ps.map (·.1)).getD j .nil = _
      rw [List.getD_eq_getElem?_getD, List.getElem?_map, List.getElem?_eq_getElem hj2]
      rfl
    have e2 : (ps.map (·.2)).getD j (.slice none 0 0) = ps[j].2 := by
      rw [List.getD_eq_getElem?_getD, List.getElem?_map, List.getElem?_eq_getElem hj2]
      rfl
    have k1 : ∀ i v, i < 7 → (richCs ps[j].1 ps[j].2)[i]? = some v → w.cell? ⟨g, j * 7 + i, none⟩ = some v := fun i v hi hv => hb _ _ ((partsC_at ps j hj2 i hi).trans hv)
    have c0 := k1 0 _ (by omega) rfl
    refine ⟨g, 0, rfl, ?_⟩
    rw [e1, e2, Nat.zero_add]
    exact ⟨c0, k1 1 _ (by omega) rfl, k1 2 _ (by omega) rfl, k1 3 _ (by omega) rfl, k1 4 _ (by omega) rfl, k1 5 _ (by omega) rfl, k1 6 _ (by omega) rfl, cell_lt c0⟩
  · have hj2 : j < ps.length := by
      have h2 : j < (ps.map (·.1)).length := hj
      rwa [List.length_map] at h2
    have e1 : (listR k d (ps.map (·.1))).args j = ps[j].1 := by
      show (ps.map (·.1)).getD j .nil = _
      rw [List.getD_eq_getElem?_getD, List.getElem?_map, List.getElem?_eq_getElem hj2]
      rfl
    have e2 : (ps.map (·.2)).getD j (.slice none 0 0) = ps[j].2 := by
      rw [List.getD_eq_getElem?_getD, List.getElem?_map, List.getElem?_eq_getElem hj2]
      rfl
    show IsArgs w ((listR k d (ps.map (·.1))).args j) ((ps.map (·.2)).getD j (.slice none 0 0))
    rw [e1, e2]
    exact hps _ (List.getElem_mem hj2)
theorem is_leaf (w : World) (k : Int) (d : DepD) (h : fitR k d) : IsArgs w (listR k d []) (.slice none 0 0) :=
  .mk (listR k d []) none 0 (fun _ => nilS) h (Nat.zero_le _) (fun j hj => absurd hj (Nat.not_lt_zero j)) (fun j hj => absurd hj (Nat.not_lt_zero j))

abbrev oneS (b : UInt8) : ByteArray := { data := #[b] }
abbrev aR : RichD := listR 1 (dN (oneS 97)) []
abbrev bR : RichD := listR 1 (dN (oneS 98)) []
abbrev cR : RichD := listR 1 (dN (oneS 99)) []
abbrev kR (k : Int) (l : List RichD) : RichD := listR k noDep l
/-- The table of ShapeNames: what, and up to which place it may be. -/
abbrev namesT : List (RichD × Int) :=
  [(kR 0 [], 0), (kR 8 [], 0), (kR 255 [], 0), (kR 1 [], 0), (listR 1 ⟨oneS 97, 5, 0, ⟨#[]⟩, ⟨#[]⟩⟩ [], 0), (listR 1 (dN (oneS 97)) [bR], 0), (listR 3 (dN (oneS 120)) [aR, bR], 0),
    (kR 2 [aR, bR, cR], 3), (kR 3 [aR, bR], 3), (kR 3 [aR], 0), (kR 4 [aR], 0), (kR 4 [aR, bR, cR], 1), (kR 4 [aR, bR, cR, aR], 0), (kR 5 [aR, bR], 2), (kR 5 [aR, bR, cR], 2), (kR 5 [aR], 0), (kR 6 [aR, bR, cR], 3), (kR 6 [aR], 0),
    (kR 7 [aR, bR], 3), (kR 7 [aR, bR, cR], 0), (kR 7 [aR], 0), (kR 6 [kR 3 [aR, bR], kR 7 [aR, cR]], 3), (kR 7 [aR, kR 2 [bR, kR 4 [aR, cR]]], 0), (kR 2 [aR, kR 4 [bR, cR]], 1), (kR 3 [kR 6 [aR, bR], kR 5 [aR, bR]], 2), (kR 2 [aR, kR 0 []], 0)]
theorem names_only : ∀ x ∈ namesT, onlyE x.1 x.2 = true ∧ x.1.count ≤ 100 := by decide +kernel
def deepR : Nat → RichD | 0 => aR | n + 1 => kR 2 [bR, deepR n]
def manyR (n : Nat) (l : List RichD) : RichD := kR 3 (List.replicate n aR ++ l)
theorem may23 : mayE (manyR 23 []) 3 = 0 := by decide +kernel
theorem may24 : mayE (manyR 24 []) 1 = 40 := by decide +kernel
theorem may25 : mayE (manyR 24 [deepR 9]) 1 = 40 := by decide +kernel
theorem deep8 : mayE (deepR 8) 1 = 0 := by decide +kernel
theorem deep9 : mayE (deepR 9) 1 = 21 := by decide +kernel
theorem deep9w : mayE (deepR 9) 4 = 1 := by decide +kernel
theorem a_zero : mayE aR 0 = 1 := by decide +kernel
theorem deep3c : (deepR 3).count = 7 ∧ (deepR 3).depth = 3 ∧ (deepR 3).atoms.length = 4 := by decide +kernel
theorem deep3a : (deepR 3).atoms[3]? = some (dN (oneS 97)) := by
  show (_ : Option DepD) = _
  rfl
theorem deep32 : sameE (deepR 3) (deepR 2) = false := by decide +kernel
end Go.Proofs.YtadogjnoklabdaaDoor
