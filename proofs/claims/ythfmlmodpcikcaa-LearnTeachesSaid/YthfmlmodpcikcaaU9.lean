/- Plain laws of what is taught: what follows by its bonds; what stands where on the trail. -/
import Derived.Test.YthfmlmodpcikcaaU6
namespace Go.Proofs.Ythfmlmodpcikcaa
open Go.ChangeShapes Go.WideShapes Go.ChangeAt Go.RowKit Go.Maps
set_option maxRecDepth 100000

/-- Has a literal its value, a clause a true literal, where A are the variables' values? -/
def satA (A : Nat → Bool) (x : Int) : Bool := if 0 < x then A (x.natAbs - 1) else if x < 0 then !A (x.natAbs - 1) else false
def holdsA (A : Nat → Bool) (c : List Int) : Bool := c.any (satA A)

theorem sat_neg {A : Nat → Bool} {x : Int} (h : satA A x = true) (h' : satA A (-x) = true) : False := by
  unfold satA at h h'
  have e : (-x).natAbs = x.natAbs := by omega
  rw [e] at h'
  by_cases h1 : 0 < x
  · rw [if_pos h1] at h
    rw [if_neg (by omega), if_pos (by omega), h] at h'
    cases h'
  · rw [if_neg h1] at h
    by_cases h2 : x < 0
    · rw [if_pos h2] at h
      rw [if_pos (by omega)] at h'
      rw [h'] at h
      cases h
    · rw [if_neg h2] at h
      cases h

/-- What take says. -/
theorem takeC_ok {n : Nat} {es : List En} {l : List Int} {but place : Int} {hp : Nat → Bool} (h : (takeC n es l but place hp).1 = 0) :
    knownB n l = true ∧ (but = 0 ∨ but ∈ l) ∧ (∀ x ∈ l, x ≠ but → valE n es x = -1 ∧ (posV es (x.natAbs - 1) : Int) < place) ∧ (takeC n es l but place hp).2 = addH es l but hp := by
  unfold takeC at h ⊢
  by_cases h1 : knownB n l = false
  · rw [if_pos h1] at h; cases h
  · rw [if_neg h1] at h ⊢
    by_cases h2 : but ≠ 0 ∧ (l.any fun x => x == but) = false
    · rw [if_pos h2] at h; cases h
    · rw [if_neg h2] at h ⊢
      by_cases h3 : l.all (okT n es but place) = false
      · rw [if_pos h3] at h; cases h
      · rw [if_neg h3]
        refine ⟨by simpa using h1, ?_, fun x hx hne => ?_, rfl⟩
        · by_cases hb : but = 0
          · exact .inl hb
          · refine .inr ?_
            have h4 : (l.any fun x => x == but) = true := by
              cases h5 : (l.any fun x => x == but) with
              | true => rfl
              | false => exact absurd ⟨hb, h5⟩ h2
            obtain ⟨x, hx, h6⟩ := List.any_eq_true.1 h4
            have : x = but := by simpa using h6
            exact this ▸ hx
        · have h4 : l.all (okT n es but place) = true := by simpa using h3
          have h5 := List.all_eq_true.1 h4 x hx
          unfold okT at h5
          simp only [Bool.or_eq_true, decide_eq_true_eq, Bool.and_eq_true] at h5
          rcases h5 with h5 | h5
          · exact absurd h5 hne
          · exact h5
theorem takeC_err {n : Nat} {es : List En} {l : List Int} {but place : Int} {hp : Nat → Bool} : (takeC n es l but place hp).1 = 0 ∨ (takeC n es l but place hp).1 = 1 ∨ (takeC n es l but place hp).1 = 7 := by
  unfold takeC
  split
  · exact .inr (.inl rfl)
  split
  · exact .inr (.inr rfl)
  split
  · exact .inr (.inr rfl)
  · exact .inl rfl

theorem cntB_zero {d : Nat → Bool} : ∀ {len : Nat}, cntB len d = 0 → ∀ j, j < len → d j = false
  | 0, _, j, hj => by omega
  | k + 1, h, j, hj => by
    simp only [cntB] at h
    by_cases hk : d k = true
    · rw [if_pos hk] at h; omega
    · rw [if_neg hk] at h
      by_cases hjk : j = k
      · subst hjk; simpa using hk
      · exact cntB_zero (by omega) j (by omega)
theorem cntB_pos {d : Nat → Bool} : ∀ {len : Nat}, 0 < cntB len d → ∃ j, j < len ∧ d j = true
  | 0, h => by simp [cntB] at h
  | k + 1, h => by
    simp only [cntB] at h
    by_cases hk : d k = true
    · exact ⟨k, by omega, hk⟩
    · rw [if_neg hk] at h
      obtain ⟨j, hj, h1⟩ := cntB_pos h
      exact ⟨j, by omega, h1⟩

/-- The level of what stands at a place. -/
theorem level_at {n : Nat} {es : List En} (hg : Good n es) {j : Nat} {e : En} (h : es.reverse[j]? = some e) : (ofE n es (((atE es j).natAbs : Int) - 1)).level = e.level ∧ (ofE n es (((atE es j).natAbs : Int) - 1)).reason = e.reason := by
  have he : e ∈ es := List.mem_reverse.1 (List.mem_of_getElem? h)
  have h1 := hg.lit e he
  have h2 := (on_trail hg he).2
  have h3 : atE es j = e.lit := at_rev h
  rw [h3]
  have h4 : ((e.lit.natAbs : Int) - 1) = ((e.lit.natAbs - 1 : Nat) : Int) := by have := h1.1; omega
  rw [h4, h2]
  exact ⟨rfl, rfl⟩
theorem level0 {n : Nat} {es : List En} (hg : Good n es) (h0 : hi es = 0) {j : Nat} (hj : j < es.length) : topB n es j = true := by
  obtain ⟨e, he, _, h1⟩ := at_mem hj
  have h2 := (level_at hg h1).1
  have h3 := level_le hg e he
  unfold topB
  rw [h2]
  simp only [decide_eq_true_eq]
  omega

theorem clauseTo_has {es : List En} {hp : Nat → Bool} {j : Nat} : ∀ {k : Nat}, j < k → hp j = true → -atE es j ∈ clauseTo es hp k
  | 0, h, _ => by omega
  | k + 1, h, hj => by
    simp only [clauseTo]
    by_cases hjk : j = k
    · subst hjk
      rw [if_pos hj]
      exact List.mem_cons_self ..
    · have := clauseTo_has (es := es) (hp := hp) (j := j) (k := k) (by omega) hj
      split
      · exact List.mem_cons_of_mem _ this
      · exact this

theorem backFrom_ge {n : Nat} {es : List En} : ∀ (l : List Int) (b : Int), b ≤ backFrom n es b l
  | [], b => Int.le_refl _
  | x :: l, b => by
    unfold backFrom
    have := backFrom_ge (n := n) (es := es) l (max b (ofE n es ((x.natAbs : Int) - 1)).level)
    omega

/-- What holds of what is taught. -/
structure Follow (n : Nat) (es : List En) (cls : List (List Int)) (conflict : Int) (R : Taught) : Prop where
  back : R.2.1 = -1 ↔ hi es = 0
  none : R.2.1 = -1 → R.1 = []
  bonds : ∀ b ∈ R.2.2.1, 0 ≤ b ∧ b < cls.length ∧ knownB n (cls.getD b.toNat []) = true
  head : ∃ r, R.2.2.1 = conflict :: r
  follows : ∀ A, (∀ b ∈ R.2.2.1, holdsA A (cls.getD b.toNat []) = true) → holdsA A R.1 = true
  lits : ∀ x ∈ R.1, 1 ≤ x.natAbs ∧ x.natAbs ≤ n

def HoldsOne (es : List En) (hp : Nat → Bool) (cls : List (List Int)) (bs : List Int) : Prop :=
  ∀ A, (∀ b ∈ bs, holdsA A (cls.getD b.toNat []) = true) → ∃ j, j < es.length ∧ hp j = true ∧ satA A (-atE es j) = true

theorem holds_take {n : Nat} {es : List En} {l : List Int} {but place : Int} {hp : Nat → Bool} (h : (takeC n es l but place hp).1 = 0) {A : Nat → Bool} (hA : holdsA A l = true) (hb : satA A but = false) :
    ∃ j, j < es.length ∧ (takeC n es l but place hp).2 j = true ∧ satA A (-atE es j) = true := by
  obtain ⟨_, _, h3, h4⟩ := takeC_ok h
  obtain ⟨x, hx, hs⟩ := List.any_eq_true.1 hA
  have hne : x ≠ but := by
    rintro rfl
    rw [hs] at hb
    cases hb
  obtain ⟨hv, _⟩ := h3 x hx hne
  obtain ⟨e, _, _, ha, hp'⟩ := val_false hv
  refine ⟨posV es (x.natAbs - 1), hp', ?_, ?_⟩
  · rw [h4]
    simp only [addH, Bool.or_eq_true, List.any_eq_true, Bool.and_eq_true, decide_eq_true_eq]
    exact .inr ⟨x, hx, hne, rfl⟩
  · rw [ha, Int.neg_neg]
    exact hs

theorem loop_follows {n : Nat} {es : List En} {cls : List (List Int)} {conflict : Int} (hg : Good n es) : ∀ (k : Nat) (hp : Nat → Bool) (bs : List Int), HoldsOne es hp cls bs → (∀ b ∈ bs, 0 ≤ b ∧ b < cls.length ∧ knownB n (cls.getD b.toNat []) = true) → (∃ r, bs = conflict :: r) →
    (loopL n es cls k hp bs).2.2.2 = 0 → Follow n es cls conflict (loopL n es cls k hp bs)
  | 0, _, _, _, _, _, h => by simp [loopL] at h
  | k + 1, hp, bs, h1, h2, h3, h => by
    have hn := hi_nonneg hg
    unfold loopL at h ⊢
    by_cases c1 : cntB es.length (fun j => hp j && topB n es j) = 0 ∧ hi es = 0
    · rw [if_pos c1]
      refine ⟨⟨fun _ => c1.2, fun _ => rfl⟩, fun _ => rfl, h2, h3, fun A hA => ?_, fun x hx => by cases hx⟩
      obtain ⟨j, hj, hpj, _⟩ := h1 A hA
      have := cntB_zero c1.1 j hj
      rw [hpj, level0 hg c1.2 hj] at this
      cases this
    · rw [if_neg c1] at h ⊢
      by_cases c2 : cntB es.length (fun j => hp j && topB n es j) = 1 ∧ 0 < hi es
      · rw [if_pos c2]
        have hb := backFrom_ge (n := n) (es := es) (clauseOf es hp).tail 0
        refine ⟨⟨fun e => ?_, fun e => ?_⟩, fun e => ?_, h2, h3, fun A hA => ?_, fun x hx => ?_⟩
        · simp only at e; omega
        · have := c2.2; omega
        · simp only at e; omega
        · obtain ⟨j, hj, hpj, hs⟩ := h1 A hA
          exact List.any_eq_true.2 ⟨_, clauseTo_has hj hpj, hs⟩
        · obtain ⟨j, hj, _, rfl⟩ := clauseTo_mem hx
          have := at_lit hg hj
          unfold Lit at this
          omega
      · rw [if_neg c2] at h ⊢
        simp only at h ⊢
        generalize hlit : atE es (maxH es.length hp) = lit at *
        generalize hr : (ofE n es ((lit.natAbs : Int) - 1)).reason = r at *
        by_cases c3 : r < 0 ∨ (cls.length : Int) ≤ r
        · rw [if_pos c3] at h; cases h
        · rw [if_neg c3] at h ⊢
          by_cases c4 : (takeC n es (cls.getD r.toNat []) lit (maxH es.length hp) (fun j => hp j && !decide ((j : Int) = maxH es.length hp))).1 = 0
          · rw [if_pos c4] at h ⊢
            obtain ⟨k1, _, _, _⟩ := takeC_ok c4
            refine loop_follows hg k _ _ ?_ ?_ ?_ h
            · intro A hA
              obtain ⟨j, hj, hpj, hs⟩ := h1 A fun b hb => hA b (List.mem_append_left _ hb)
              by_cases hjm : (j : Int) = maxH es.length hp
              · have hA2 := hA r (List.mem_append_right _ (List.mem_singleton.2 rfl))
                refine holds_take c4 hA2 ?_
                rw [hjm, hlit] at hs
                cases hsl : satA A lit with
                | false => rfl
                | true => exact (sat_neg hsl hs).elim
              · exact ⟨j, hj, takeC_mono j (by simp [hpj, hjm]), hs⟩
            · intro b hb
              rcases List.mem_append.1 hb with hb | hb
              · exact h2 b hb
              · rw [List.mem_singleton.1 hb]
                exact ⟨by omega, by omega, k1⟩
            · obtain ⟨r', hr'⟩ := h3
              exact ⟨r' ++ [r], by rw [hr']; rfl⟩
          · rw [if_neg c4] at h
            exact absurd h c4

theorem loop_err {n : Nat} {es : List En} {cls : List (List Int)} : ∀ (k : Nat) (hp : Nat → Bool) (bs : List Int), (loopL n es cls k hp bs).2.2.2 ≠ 0 → (loopL n es cls k hp bs).1 = [] ∧ (loopL n es cls k hp bs).2.1 = 0 ∧ (loopL n es cls k hp bs).2.2.1 = []
  | 0, _, _, _ => ⟨rfl, rfl, rfl⟩
  | k + 1, hp, bs, h => by
    unfold loopL at h ⊢
    split at h
    · exact absurd rfl h
    next c1 =>
    rw [if_neg c1]
    split at h
    · exact absurd rfl h
    next c2 =>
    rw [if_neg c2]
    simp only at h ⊢
    split at h
    · next c3 => rw [if_pos c3]; exact ⟨rfl, rfl, rfl⟩
    next c3 =>
    rw [if_neg c3]
    split at h
    · next c4 => rw [if_pos c4]; exact loop_err k _ _ h
    · next c4 => rw [if_neg c4]; exact ⟨rfl, rfl, rfl⟩

theorem learn_follows {n : Nat} {es : List En} {cls : List (List Int)} {conflict : Int} (hg : Good n es) (h : (learnE n es cls conflict).2.2.2 = 0) : Follow n es cls conflict (learnE n es cls conflict) := by
  unfold learnE at h ⊢
  by_cases c1 : conflict < 0 ∨ (cls.length : Int) ≤ conflict
  · rw [if_pos c1] at h; cases h
  · rw [if_neg c1] at h ⊢
    simp only at h ⊢
    by_cases c2 : (takeC n es (cls.getD conflict.toNat []) 0 es.length (fun _ => false)).1 = 0
    · rw [if_pos c2] at h ⊢
      split at h
      · cases h
      · next c3 =>
        rw [if_neg c3]
        obtain ⟨k1, _, _, _⟩ := takeC_ok c2
        refine loop_follows hg _ _ _ ?_ ?_ ⟨[], rfl⟩ h
        · intro A hA
          exact holds_take c2 (hA conflict (List.mem_singleton.2 rfl)) rfl
        · intro b hb
          rw [List.mem_singleton.1 hb]
          exact ⟨by omega, by omega, k1⟩
    · rw [if_neg c2] at h
      exact absurd h c2
theorem learn_err {n : Nat} {es : List En} {cls : List (List Int)} {conflict : Int} (h : (learnE n es cls conflict).2.2.2 ≠ 0) : (learnE n es cls conflict).1 = [] ∧ (learnE n es cls conflict).2.1 = 0 ∧ (learnE n es cls conflict).2.2.1 = [] := by
  unfold learnE at h ⊢
  split at h
  · next c1 => rw [if_pos c1]; exact ⟨rfl, rfl, rfl⟩
  next c1 =>
  rw [if_neg c1]
  simp only at h ⊢
  split at h
  · next c2 =>
    rw [if_pos c2]
    split at h
    · next c3 => rw [if_pos c3]; exact ⟨rfl, rfl, rfl⟩
    · next c3 => rw [if_neg c3]; exact loop_err _ _ _ h
  · next c2 => rw [if_neg c2]; exact ⟨rfl, rfl, rfl⟩

end Go.Proofs.Ythfmlmodpcikcaa
