/- The plain laws of places: what may be at one may be at the ones before; parts may be where the whole may. Conditions: as each theorem names them. -/
import Derived.Test.YtadogjnoklabdaaDoorH18
namespace Go.Proofs.YtadogjnoklabdaaDoor
set_option maxRecDepth 100000

theorem keyE_iff {wh : Int} {x : KeyD} : keyE wh x = true ↔ wh ≤ (askE x.1).wher ∧ (x.2.2.2 = true → (askE x.1).alone = true) ∧ (askE x.1).least ≤ (x.2.2.1 : Int) ∧ (x.2.2.1 : Int) ≤ (askE x.1).most ∧ (if x.1 = 1 then depE x.2.1 else x.2.1.none) = true := by
  unfold keyE
  simp only [Bool.and_eq_true, Bool.not_eq_true', decide_eq_false_iff_not, Int.not_lt]
  constructor
  · rintro ⟨h1, h2, h3, h4, h5⟩
    refine ⟨h1, fun h => ?_, h3, h4, h5⟩
    rw [h] at h2
    simpa using h2
  · rintro ⟨h1, h2, h3, h4, h5⟩
    refine ⟨h1, ?_, h3, h4, h5⟩
    cases h : x.2.2.2 with
    | false => rfl
    | true => rw [h2 h]; rfl
theorem keyE_mono {wh wh' : Int} (h : wh' ≤ wh) {x : KeyD} (hx : keyE wh x = true) : keyE wh' x = true := by
  rw [keyE_iff] at hx ⊢
  exact ⟨by omega, hx.2⟩
theorem keyE_free {wh : Int} {k : Int} {d : DepD} {n : Nat} {al : Bool} (hx : keyE wh (k, d, n, al) = true) : keyE wh (k, d, n, false) = true := by
  rw [keyE_iff] at hx ⊢
  exact ⟨hx.1, fun h => (by cases h), hx.2.2⟩
theorem all_cat {α : Type} {p : α → Bool} {f : Nat → List α} : ∀ n, (catN f n).all p = true ↔ ∀ j, j < n → (f j).all p = true
  | 0 => by simp [catN]
  | n + 1 => by
    simp only [catN, List.all_append, Bool.and_eq_true, all_cat n]
    constructor
    · rintro ⟨h1, h2⟩ j hj
      by_cases e : j = n
      · subst e; exact h2
      · exact h1 j (by omega)
    · exact fun h => ⟨fun j hj => h j (by omega), h n (by omega)⟩
theorem parts_free {wh : Int} : (r : RichD) → (al al' : Bool) → (al' = true → al = true) → (r.parts al).all (keyE wh) = true → (r.parts al').all (keyE wh) = true
  | .nil, al, al', ha, h => by
    simp only [RichD.parts, List.all_cons, List.all_nil, Bool.and_true] at h ⊢
    cases al' with
    | false => exact keyE_free h
    | true => rw [ha rfl] at h; exact h
  | .node k d n f, al, al', ha, h => by
    rw [parts_eq] at h ⊢
    simp only [List.all_cons, Bool.and_eq_true, RichD.kind, RichD.dep, RichD.n, RichD.args, all_cat] at h ⊢
    refine ⟨?_, fun j hj => parts_free (f j) _ _ ?_ (h.2 j hj)⟩
    · cases al' with
      | false => exact keyE_free h.1
      | true => rw [ha rfl] at h; exact h.1
    · unfold aloneE
      cases al' with
      | false => intro h2; simp only [Bool.false_or] at h2; cases al <;> simp_all
      | true => intro _; rw [ha rfl]; rfl
theorem mayE_ok {r : RichD} {wh : Int} : mayE r wh = 0 ↔ 1 ≤ wh ∧ wh ≤ 3 ∧ r.count ≤ 24 ∧ r.depth ≤ 8 ∧ (r.parts false).all (keyE wh) = true := by
  unfold mayE
  constructor
  · intro h
    split at h
    · cases h
    · split at h
      · cases h
      · split at h
        · cases h
        · split at h
          · exact ⟨by omega, by omega, by omega, by omega, by assumption⟩
          · cases h
  · rintro ⟨h1, h2, h3, h4, h5⟩
    rw [if_neg (by omega), if_neg (by omega), if_neg (by omega), if_pos h5]
theorem may_mono {r : RichD} {wh wh' : Int} (h1 : 1 ≤ wh') (h : wh' ≤ wh) (hm : mayE r wh = 0) : mayE r wh' = 0 := by
  rw [mayE_ok] at hm ⊢
  refine ⟨h1, by omega, hm.2.2.1, hm.2.2.2.1, ?_⟩
  rw [List.all_eq_true] at *
  exact fun x hx => keyE_mono h (hm.2.2.2.2 x hx)
theorem arg_count {r : RichD} {j : Nat} (hj : j < r.n) : (r.args j).count < r.count := by
  have h1 := sumN_mono (f := fun j => (r.args j).count) (show j + 1 ≤ r.n by omega)
  simp only [sumN] at h1
  have := count_eq r
  omega
theorem arg_depth {r : RichD} {j : Nat} (hj : j < r.n) (hk : r.kind ≠ 1) : (r.args j).depth < r.depth := by
  have h1 := maxN_mono (f := fun j => (r.args j).depth) (show j + 1 ≤ r.n by omega)
  simp only [maxN] at h1
  have := depth_eq r
  rw [if_neg hk] at this
  omega
theorem may_arg {r : RichD} {wh : Int} {j : Nat} (hj : j < r.n) (hm : mayE r wh = 0) : mayE (r.args j) wh = 0 := by
  rw [mayE_ok] at hm ⊢
  obtain ⟨h1, h2, h3, h4, h5⟩ := hm
  rw [parts_eq] at h5
  simp only [List.all_cons, Bool.and_eq_true, all_cat] at h5
  have hk : r.kind ≠ 1 := fun e => by
    have h6 := h5.1
    rw [keyE_iff] at h6
    have h7 := h6.2.2.2.1
    simp only [e] at h7
    unfold askE at h7
    simp at h7
    omega
  have hc := arg_count hj
  have hd := arg_depth hj hk
  exact ⟨h1, h2, by omega, by omega, parts_free _ _ _ (fun h => by cases h) (h5.2 j hj)⟩
end Go.Proofs.YtadogjnoklabdaaDoor
