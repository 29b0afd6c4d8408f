/- The document's fits, May: plain form. Conditions: as each theorem names them. -/
import Derived.Test.YtadogjnoklabdaaDoorH35
import Derived.Test.YtadogjnoklabdaaDoorH18
namespace Go.Proofs.YtadogjnoklabdaaDoor
open Go.ChangeShapes Go.WideShapes Go.ChangeAt Go.RowKit Go.Deep
set_option maxRecDepth 100000

/-- Of any kind but an Atom: has it as many Args as it should, may it be there? -/
def okE (wh k : Int) (n : Nat) (al : Bool) : Bool :=
  if k = 2 ∨ k = 3 ∨ k = 6 then decide (2 ≤ n) else if k = 7 then decide (n = 2) else if k = 4 then (decide (n = 2) || decide (n = 3)) && (!al && decide (wh = 1)) else if k = 5 then (decide (n = 2) || decide (n = 3)) && (!al && decide (wh ≤ 2)) else false
def fitsE (wh : Int) : RichD → Bool → Bool
  | .nil, _ => false
  | .node k d n f, al => if k = 1 then decide (n = 0) && depE d else (okE wh k n al && d.none) && allN (fun j => fitsE wh (f j) (aloneE k al)) n
theorem fits_eq (wh : Int) (r : RichD) (al : Bool) : fitsE wh r al = if r.kind = 1 then decide (r.n = 0) && depE r.dep else (okE wh r.kind r.n al && r.dep.none) && allN (fun j => fitsE wh (r.args j) (aloneE r.kind al)) r.n := by
  cases r with
  | nil =>
    show false = if (0 : Int) = 1 then _ else (okE wh 0 0 al && _) && _
    rw [if_neg (by omega)]
    rfl
  | node k d n f => rfl
theorem key_ok {wh k : Int} {d : DepD} {n : Nat} {al : Bool} (h1 : 1 ≤ wh) (h3 : wh ≤ 3) (hn : n ≤ 24) (hk : k ≠ 1) : keyE wh (k, d, n, al) = (okE wh k n al && d.none) := by
  rw [Bool.eq_iff_iff, keyE_iff, if_neg hk, Bool.and_eq_true]
  simp only
  unfold okE askE
  rw [if_neg hk]
  generalize d.none = dn
  by_cases k2 : k = 2
  · subst k2; cases dn <;> simp <;> omega
  by_cases k3 : k = 3
  · subst k3; cases dn <;> simp <;> omega
  by_cases k4 : k = 4
  · subst k4; cases dn <;> cases al <;> simp <;> omega
  by_cases k5 : k = 5
  · subst k5; cases dn <;> cases al <;> simp <;> omega
  by_cases k6 : k = 6
  · subst k6; cases dn <;> simp <;> omega
  by_cases k7 : k = 7
  · subst k7; cases dn <;> simp <;> omega
  simp [k2, k3, k4, k5, k6, k7]
  omega
theorem key_atom {wh : Int} {d : DepD} {n : Nat} {al : Bool} (h3 : wh ≤ 3) : keyE wh (1, d, n, al) = (decide (n = 0) && depE d) := by
  rw [Bool.eq_iff_iff, keyE_iff, if_pos rfl, Bool.and_eq_true, decide_eq_true_eq]
  show wh ≤ 3 ∧ (al = true → true = true) ∧ (0 : Int) ≤ (n : Int) ∧ (n : Int) ≤ 0 ∧ _ ↔ _
  constructor
  · rintro ⟨_, _, _, h, h5⟩
    exact ⟨by omega, h5⟩
  · rintro ⟨h, h5⟩
    exact ⟨h3, fun _ => rfl, by omega, by omega, h5⟩
theorem fits_parts {wh : Int} (h1 : 1 ≤ wh) (h3 : wh ≤ 3) : (r : RichD) → (al : Bool) → r.count ≤ 24 → fitsE wh r al = (r.parts al).all (keyE wh)
  | .nil, al, _ => by
    show false = (keyE wh (0, noDep, 0, al) && true)
    rw [Bool.and_true, key_ok h1 h3 (by omega) (by omega)]
    rfl
  | .node k d n f, al, hc => by
    have hn := n_lt (.node k d n f)
    have ih : ∀ al', ∀ j, j < n → fitsE wh (f j) al' = ((f j).parts al').all (keyE wh) := fun al' j hj => fits_parts h1 h3 (f j) al' (by have := arg_count (r := .node k d n f) hj; simp only [RichD.args] at this; omega)
    simp only [RichD.n] at hn
    show (if k = 1 then decide (n = 0) && depE d else (okE wh k n al && d.none) && allN (fun j => fitsE wh (f j) (aloneE k al)) n) = (keyE wh (k, d, n, al) && (catN (fun j => (f j).parts (aloneE k al)) n).all (keyE wh))
    by_cases hk : k = 1
    · subst hk
      rw [if_pos (show (1 : Int) = 1 from rfl), key_atom h3]
      by_cases h0 : n = 0
      · subst h0
        show _ = ((_ && depE d) && true)
        rw [Bool.and_true]
      · rw [decide_eq_false h0, Bool.false_and, Bool.false_and]
    · rw [if_neg hk, key_ok h1 h3 (by omega) hk]
      refine congrArg ((okE wh k n al && d.none) && ·) ?_
      rw [Bool.eq_iff_iff, allN_iff, all_cat]
      exact ⟨fun h j hj => by rw [← ih _ j hj]; exact h j hj, fun h j hj => by rw [ih _ j hj]; exact h j hj⟩
/-- The document's May. -/
def rmayE (r : RichD) (wh : Int) : Int := if wh < 1 ∨ 3 < wh then 1 else if 24 < r.count then 40 else if 8 < r.depth then 21 else if fitsE wh r false = true then 0 else 4
theorem may_same (r : RichD) (wh : Int) : rmayE r wh = mayE r wh := by
  unfold rmayE mayE
  by_cases h1 : wh < 1 ∨ 3 < wh
  · rw [if_pos h1, if_pos h1]
  · rw [if_neg h1, if_neg h1]
    by_cases h2 : 24 < r.count
    · rw [if_pos h2, if_pos h2]
    · rw [if_neg h2, if_neg h2, fits_parts (by omega) (by omega) r false (by omega)]
end Go.Proofs.YtadogjnoklabdaaDoor
