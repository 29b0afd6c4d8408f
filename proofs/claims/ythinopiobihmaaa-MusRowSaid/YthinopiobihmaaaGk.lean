/- Plain laws of what is taught: what follows by its bonds; what stands where on the trail. -/
import Derived.Test.YthinopiobihmaaaGj
import Derived.Test.YthinopiobihmaaaGb
import Derived.Test.YthinopiobihmaaaGd
namespace Go.Proofs.Ythinopiobihmaaa
open Go.ChangeShapes Go.WideShapes Go.ChangeAt Go.RowKit Go.Maps
set_option maxRecDepth 100000

/-- Has a literal its value, a clause a true literal, where A are the variables' values? -/
def satA (A : Nat → Bool) (x : Int) : Bool := if 0 < x then A (x.natAbs - 1) else if x < 0 then !A (x.natAbs - 1) else false
def holdsA (A : Nat → Bool) (c : List Int) : Bool := c.any (satA A)

theorem sat_neg {A : Nat → Bool} {x : Int} (h : satA A x = true) (h' : satA A (-x) = true) : False := by
  unfold satA at h h'
  have e : (-x).natAbs = x.natAbs := by omega
  rw [e] at h'
  by_cases h1 : 0 < x
  · rw [if_pos h1] at h
    rw [if_neg (by omega), if_pos (by omega), h] at h'
    cases h'
  · rw [if_neg h1] at h
    by_cases h2 : x < 0
    · rw [if_pos h2] at h
      rw [if_pos (by omega)] at h'
      rw [h'] at h
      cases h
    · rw [if_neg h2] at h
      cases h

/-- What take says. -/
theorem takeC_ok {n : Nat} {es : List En} {l : List Int} {but place : Int} {hp : Nat → Bool} (h : (takeC n es l but place hp).1 = 0) :
    knownB n l = true ∧ (but = 0 ∨ but ∈ l) ∧ (∀ x ∈ l, x ≠ but → valE n es x = -1 ∧ (posV es (x.natAbs - 1) : Int) < place) ∧ (takeC n es l but place hp).2 = addH es l but hp := by
  unfold takeC at h ⊢
  by_cases h1 : knownB n l = false
  · rw [if_pos h1] at h; cases h
  · rw [if_neg h1] at h ⊢
    by_cases h2 : but ≠ 0 ∧ (l.any fun x => x == but) = false
    · rw [if_pos h2] at h; cases h
    · rw [if_neg h2] at h ⊢
      by_cases h3 : l.all (okT n es but place) = false
      · rw [if_pos h3] at h; cases h
      · rw [if_neg h3]
        refine ⟨by simpa using h1, ?_, fun x hx hne => ?_, rfl⟩
        · by_cases hb : but = 0
          · exact .inl hb
          · refine .inr ?_
            have h4 : (l.any fun x => x == but) = true := by
              cases h5 : (l.any fun x => x == but) with
              | true => rfl
              | false => exact absurd ⟨hb, h5⟩ h2
            obtain ⟨x, hx, h6⟩ := List.any_eq_true.1 h4
            have : x = but := by simpa using h6
            exact this ▸ hx
        · have h4 : l.all (okT n es but place) = true := by simpa using h3
          have h5 := List.all_eq_true.1 h4 x hx
          unfold okT at h5
          simp only [Bool.or_eq_true, decide_eq_true_eq, Bool.and_eq_true] at h5
          rcases h5 with h5 | h5
          · exact absurd h5 hne
          · exact h5
theorem takeC_err {n : Nat} {es : List En} {l : List Int} {but place : Int} {hp : Nat → Bool} : (takeC n es l but place hp).1 = 0 ∨ (takeC n es l but place hp).1 = 1 ∨ (takeC n es l but place hp).1 = 7 := by
  unfold takeC
  split
  · exact .inr (.inl rfl)
  split
  · exact .inr (.inr rfl)
  split
  · exact .inr (.inr rfl)
  · exact .inl rfl

theorem cntB_zero {d : Nat → Bool} : ∀ {len : Nat}, cntB len d = 0 → ∀ j, j < len → d j = false
  | 0, _, j, hj => by omega
  | k + 1, h, j, hj => by
    simp only [cntB] at h
    by_cases hk : d k = true
    · rw [if_pos hk] at h; omega
    · rw [if_neg hk] at h
      by_cases hjk : j = k
      · subst hjk; simpa using hk
      · exact cntB_zero (by omega) j (by omega)
theorem cntB_pos {d : Nat → Bool} : ∀ {len : Nat}, 0 < cntB len d → ∃ j, j < len ∧ d j = true
  | 0, h => by simp [cntB] at h
  | k + 1, h => by
    simp only [cntB] at h
    by_cases hk : d k = true
    · exact ⟨k, by omega, hk⟩
    · rw [if_neg hk] at h
      obtain ⟨j, hj, h1⟩ := cntB_pos h
      exact ⟨j, by omega, h1⟩

/-- The level of what stands at a place. -/
theorem level_at {n : Nat} {es : List En} (hg : Good n es) {j : Nat} {e : En} (h : es.reverse[j]? = some e) : (ofE n es (((atE es j).natAbs : Int) - 1)).level = e.level ∧ (ofE n es (((atE es j).natAbs : Int) - 1)).reason = e.reason := by
  have he : e ∈ es := List.mem_reverse.1 (List.mem_of_getElem? h)
  have h1 := hg.lit e he
  have h2 := (on_trail hg he).2
  have h3 : atE es j = e.lit := at_rev h
  rw [h3]
  have h4 : ((e.lit.natAbs : Int) - 1) = ((e.lit.natAbs - 1 : Nat) : Int) := by have := h1.1; omega
  rw [h4, h2]
  exact ⟨rfl, rfl⟩
theorem level0 {n : Nat} {es : List En} (hg : Good n es) (h0 : hi es = 0) {j : Nat} (hj : j < es.length) : topB n es j = true := by
  obtain ⟨e, he, _, h1⟩ := at_mem hj
  have h2 := (level_at hg h1).1
  have h3 := level_le hg e he
  unfold topB
  rw [h2]
  simp only [decide_eq_true_eq]
  omega

theorem clauseTo_has {es : List En} {hp : Nat → Bool} {j : Nat} : ∀ {k : Nat}, j < k → hp j = true → -atE es j ∈ clauseTo es hp k
  | 0, h, _ => by omega
  | k + 1, h, hj => by
    simp only [clauseTo]
    by_cases hjk : j = k
    · subst hjk
      rw [if_pos hj]
      exact List.mem_cons_self ..
    · have := clauseTo_has (es := es) (hp := hp) (j := j) (k := k) (by omega) hj
      split
      · exact List.mem_cons_of_mem _ this
      · exact this

theorem backFrom_ge {n : Nat} {es : List En} : ∀ (l : List Int) (b : Int), b ≤ backFrom n es b l
  | [], b => Int.le_refl _
  | x :: l, b => by
    unfold backFrom
    have := backFrom_ge (n := n) (es := es) l (max b (ofE n es ((x.natAbs : Int) - 1)).level)
    omega

/-- What holds of what is taught. -/
structure Follow (n : Nat) (es : List En) (cls : List (List Int)) (conflict : Int) (R : Taught) : Prop where
  back : R.2.1 = -1 ↔ hi es = 0
  none : R.2.1 = -1 → R.1 = []
  bonds : ∀ b ∈ R.2.2.1, 0 ≤ b ∧ b < cls.length ∧ knownB n (cls.getD b.toNat []) = true
  head : ∃ r, R.2.2.1 = conflict :: r
  follows : ∀ A, (∀ b ∈ R.2.2.1, holdsA A (cls.getD b.toNat []) = true) → holdsA A R.1 = true
  lits : ∀ x ∈ R.1, 1 ≤ x.natAbs ∧ x.natAbs ≤ n

def HoldsOne (es : List En) (hp : Nat → Bool) (cls : List (List Int)) (bs : List Int) : Prop :=
  ∀ A, (∀ b ∈ bs, holdsA A (cls.getD b.toNat []) = true) → ∃ j, j < es.length ∧ hp j = true ∧ satA A (-atE es j) = true

theorem holds_take {n : Nat} {es : List En} {l : List Int} {but place : Int} {hp : Nat → Bool} (h : (takeC n es l but place hp).1 = 0) {A : Nat → Bool} (hA : holdsA A l = true) (hb : satA A but = false) :
    ∃ j, j < es.length ∧ (takeC n es l but place hp).2 j = true ∧ satA A (-atE es j) = true := by
  obtain ⟨_, _, h3, h4⟩ := takeC_ok h
  obtain ⟨x, hx, hs⟩ := List.any_eq_true.1 hA
  have hne : x ≠ but := by
    rintro rfl
    rw [hs] at hb
    cases hb
  obtain ⟨hv, _⟩ := h3 x hx hne
  obtain ⟨e, _, _, ha, hp'⟩ := val_false hv
  refine ⟨posV es (x.natAbs - 1), hp', ?_, ?_⟩
  · rw [h4]
    simp only [addH, Bool.or_eq_true, List.any_eq_true, Bool.and_eq_true, decide_eq_true_eq]
    exact .inr ⟨x, hx, hne, rfl⟩
  · rw [ha, Int.neg_neg]
    exact hs

theorem loop_follows {n : Nat} {es : List En} {cls : List (List Int)} {conflict : Int} (hg : Good n es) : ∀ (k : Nat) (hp : Nat → Bool) (bs : List Int), HoldsOne es hp cls bs → (∀ b ∈ bs, 0 ≤ b ∧ b < cls.length ∧ knownB n (cls.getD b.toNat []) = true) → (∃ r, bs = conflict :: r) →
    (loopL n es cls k hp bs).2.2.2 = 0 → Follow n es cls conflict (loopL n es cls k hp bs)
  | 0, _, _, _, _, _, h => by simp [loopL] at h
  | k + 1, hp, bs, h1, h2, h3, h => by
    have hn := hi_nonneg hg
    unfold loopL at h ⊢
    by_cases c1 : cntB es.length (fun j => hp j && topB n es j) = 0 ∧ hi es = 0
    · rw [if_pos c1]
      refine ⟨⟨fun _ => c1.2, fun _ => rfl⟩, fun _ => rfl, h2, h3, fun A hA => ?_, fun x hx => by cases hx⟩
      obtain ⟨j, hj, hpj, _⟩ := h1 A hA
      have := cntB_zero c1.1 j hj
      rw [hpj, level0 hg c1.2 hj] at this
      cases this
    · rw [if_neg c1] at h ⊢
      by_cases c2 : cntB es.length (fun j => hp j && topB n es j) = 1 ∧ 0 < hi es
      · rw [if_pos c2]
        have hb := backFrom_ge (n := n) (es := es) (clauseOf es hp).tail 0
        refine ⟨⟨fun e => ?_, fun e => ?_⟩, fun e => ?_, h2, h3, fun A hA => ?_, fun x hx => ?_⟩
        · simp only at e; omega
        · have := c2.2; omega
        · simp only at e; omega
        · obtain ⟨j, hj, hpj, hs⟩ := h1 A hA
          exact List.any_eq_true.2 ⟨_, clauseTo_has hj hpj, hs⟩
        · obtain ⟨j, hj, _, rfl⟩ := clauseTo_mem hx
          have := at_lit hg hj
          unfold Lit at this
          omega
      · rw [if_neg c2] at h ⊢
        simp only at h ⊢
        generalize hlit : atE es (maxH es.length hp) = lit at *
        generalize hr : (ofE n es ((lit.natAbs : Int) - 1)).reason = r at *
        by_cases c3 : r < 0 ∨ (cls.length : Int) ≤ r
        · rw [if_pos c3] at h; cases h
        · rw [if_neg c3] at h ⊢
          by_cases c4 : (takeC n es (cls.getD r.toNat []) lit (maxH es.length hp) (fun j => hp j && !decide ((j : Int) = maxH es.length hp))).1 = 0
          · rw [if_pos c4] at h ⊢
            obtain ⟨k1, _, _, _⟩ := takeC_ok c4
            refine loop_follows hg k _ _ ?_ ?_ ?_ h
            · intro A hA
              obtain ⟨j, hj, hpj, hs⟩ := h1 A fun b hb => hA b (List.mem_append_left _ hb)
              by_cases hjm : (j : Int) = maxH es.length hp
              · have hA2 := hA r (List.mem_append_right _ (List.mem_singleton.2 rfl))
                refine holds_take c4 hA2 ?_
                rw [hjm, hlit] at hs
                cases hsl : satA A lit with
                | false => rfl
                | true => exact (sat_neg hsl hs).elim
              · exact ⟨j, hj, takeC_mono j (by simp [hpj, hjm]), hs⟩
            · intro b hb
              rcases List.mem_append.1 hb with hb | hb
              · exact h2 b hb
              · rw [List.mem_singleton.1 hb]
                exact ⟨by omega, by omega, k1⟩
            · obtain ⟨r', hr'⟩ := h3
              exact ⟨r' ++ [r], by rw [hr']; rfl⟩
          · rw [if_neg c4] at h
            exact absurd h c4

theorem loop_err {n : Nat} {es : List En} {cls : List (List Int)} : ∀ (k : Nat) (hp : Nat → Bool) (bs : List Int), (loopL n es cls k hp bs).2.2.2 ≠ 0 → (loopL n es cls k hp bs).1 = [] ∧ (loopL n es cls k hp bs).2.1 = 0 ∧ (loopL n es cls k hp bs).2.2.1 = []
  | 0, _, _, _ => ⟨rfl, rfl, rfl⟩
  | k + 1, hp, bs, h => by
    unfold loopL at h ⊢
    split at h
    · exact absurd rfl h
    next c1 =>
    rw [if_neg c1]
    split at h
    · exact absurd rfl h
    next c2 =>
    rw [if_neg c2]
    simp only at h ⊢
    split at h
    · next c3 => rw [if_pos c3]; exact ⟨rfl, rfl, rfl⟩
    next c3 =>
    rw [if_neg c3]
    split at h
    · next c4 => rw [if_pos c4]; exact loop_err k _ _ h
    · next c4 => rw [if_neg c4]; exact ⟨rfl, rfl, rfl⟩

theorem learn_follows {n : Nat} {es : List En} {cls : List (List Int)} {conflict : Int} (hg : Good n es) (h : (learnE n es cls conflict).2.2.2 = 0) : Follow n es cls conflict (learnE n es cls conflict) := by
  unfold learnE at h ⊢
  by_cases c1 : conflict < 0 ∨ (cls.length : Int) ≤ conflict
  · rw [if_pos c1] at h; cases h
  · rw [if_neg c1] at h ⊢
    simp only at h ⊢
    by_cases c2 : (takeC n es (cls.getD conflict.toNat []) 0 es.length (fun _ => false)).1 = 0
    · rw [if_pos c2] at h ⊢
      split at h
      · cases h
      · next c3 =>
        rw [if_neg c3]
        obtain ⟨k1, _, _, _⟩ := takeC_ok c2
        refine loop_follows hg _ _ _ ?_ ?_ ⟨[], rfl⟩ h
        · intro A hA
          exact holds_take c2 (hA conflict (List.mem_singleton.2 rfl)) rfl
        · intro b hb
          rw [List.mem_singleton.1 hb]
          exact ⟨by omega, by omega, k1⟩
    · rw [if_neg c2] at h
      exact absurd h c2
theorem learn_err {n : Nat} {es : List En} {cls : List (List Int)} {conflict : Int} (h : (learnE n es cls conflict).2.2.2 ≠ 0) : (learnE n es cls conflict).1 = [] ∧ (learnE n es cls conflict).2.1 = 0 ∧ (learnE n es cls conflict).2.2.1 = [] := by
  unfold learnE at h ⊢
  split at h
  · next c1 => rw [if_pos c1]; exact ⟨rfl, rfl, rfl⟩
  next c1 =>
  rw [if_neg c1]
  simp only at h ⊢
  split at h
  · next c2 =>
    rw [if_pos c2]
    split at h
    · next c3 => rw [if_pos c3]; exact ⟨rfl, rfl, rfl⟩
    · next c3 => rw [if_neg c3]; exact loop_err _ _ _ h
  · next c2 => rw [if_neg c2]; exact ⟨rfl, rfl, rfl⟩

end Go.Proofs.Ythinopiobihmaaa

namespace Go.Proofs.Ythinopiobihmaaa
open Go.ChangeShapes Go.WideShapes Go.ChangeAt Go.RowKit Go.Maps
set_option maxRecDepth 100000

theorem level_mono {n : Nat} : ∀ {es : List En}, Good n es → ∀ {j j' : Nat} {e e' : En}, es.reverse[j]? = some e → es.reverse[j']? = some e' → j ≤ j' → e.level ≤ e'.level
  | [], _, j, j', e, e', h, _, _ => by simp at h
  | a :: es, hg, j, j', e, e', h, h', hj => by
    have hl : j' < (a :: es).reverse.length := (List.getElem?_eq_some_iff.1 h').1
    simp at hl
    have h1 := hg.2.2.1
    rw [List.reverse_cons] at h h'
    by_cases hj' : j' < es.length
    · rw [List.getElem?_append_left (by simpa using (by omega : j < es.length))] at h
      rw [List.getElem?_append_left (by simpa using hj')] at h'
      exact level_mono hg.2.2.2 h h' hj
    · have e1 : j' = es.length := by omega
      subst e1
      rw [List.getElem?_append_right (by simp)] at h'
      simp at h'
      subst h'
      by_cases hjl : j < es.length
      · rw [List.getElem?_append_left (by simpa using hjl)] at h
        have h2 := (level_le hg.2.2.2 e (List.mem_reverse.1 (List.mem_of_getElem? h))).2
        omega
      · have e2 : j = es.length := by omega
        subst e2
        rw [List.getElem?_append_right (by simp)] at h
        simp at h
        subst h
        exact Int.le_refl _

theorem pos_of {n : Nat} : ∀ {es : List En}, Good n es → ∀ {j : Nat} {e : En}, es.reverse[j]? = some e → posV es (e.lit.natAbs - 1) = j
  | [], _, j, e, h => by simp at h
  | a :: es, hg, j, e, h => by
    have hl : j < (a :: es).reverse.length := (List.getElem?_eq_some_iff.1 h).1
    simp at hl
    have h1 := hg.1.1
    rw [List.reverse_cons] at h
    rw [posV_cons]
    by_cases hjl : j < es.length
    · rw [List.getElem?_append_left (by simpa using hjl)] at h
      have he : e ∈ es := List.mem_reverse.1 (List.mem_of_getElem? h)
      have h2 := look_none hg.2.1 e he
      have h3 := (hg.2.2.2.lit e he).1
      rw [if_neg (by omega)]
      exact pos_of hg.2.2.2 h
    · have e2 : j = es.length := by omega
      subst e2
      rw [List.getElem?_append_right (by simp)] at h
      simp at h
      subst h
      rw [if_pos (by omega)]

theorem cntB_one {d : Nat → Bool} : ∀ {len : Nat}, cntB len d ≤ 1 → ∀ {i j : Nat}, i < len → j < len → d i = true → d j = true → i = j
  | 0, _, i, j, hi, _, _, _ => by omega
  | k + 1, h, i, j, hi, hj, di, dj => by
    simp only [cntB] at h
    by_cases hk : d k = true
    · rw [if_pos hk] at h
      have h0 := cntB_zero (d := d) (len := k) (by omega)
      by_cases hik : i < k
      · have := h0 i hik; rw [di] at this; cases this
      · by_cases hjk : j < k
        · have := h0 j hjk; rw [dj] at this; cases this
        · omega
    · rw [if_neg hk] at h
      have hik : i ≠ k := by rintro rfl; exact hk di
      have hjk : j ≠ k := by rintro rfl; exact hk dj
      exact cntB_one (by omega) (by omega) (by omega) di dj

/-- The places that are held below k, the latest first. -/
def posTo (hp : Nat → Bool) : Nat → List Nat
  | 0 => []
  | k + 1 => if hp k then k :: posTo hp k else posTo hp k
theorem clauseTo_pos (es : List En) (hp : Nat → Bool) : ∀ k, clauseTo es hp k = (posTo hp k).map fun (j : Nat) => -atE es (j : Int)
  | 0 => rfl
  | k + 1 => by
    simp only [clauseTo, posTo]
    split
    · rw [List.map_cons, clauseTo_pos es hp k]
    · exact clauseTo_pos es hp k
theorem posTo_mem {hp : Nat → Bool} : ∀ {k j : Nat}, j ∈ posTo hp k ↔ j < k ∧ hp j = true
  | 0, j => by simp [posTo]
  | k + 1, j => by
    have ih := posTo_mem (hp := hp) (k := k) (j := j)
    simp only [posTo]
    by_cases hk : hp k = true
    · rw [if_pos hk, List.mem_cons, ih]
      constructor
      · rintro (rfl | ⟨h1, h2⟩)
        · exact ⟨by omega, hk⟩
        · exact ⟨by omega, h2⟩
      · rintro ⟨h1, h2⟩
        by_cases hjk : j = k
        · exact .inl hjk
        · exact .inr ⟨by omega, h2⟩
    · rw [if_neg hk, ih]
      constructor
      · rintro ⟨h1, h2⟩; exact ⟨by omega, h2⟩
      · rintro ⟨h1, h2⟩
        refine ⟨?_, h2⟩
        have : j ≠ k := by rintro rfl; exact hk h2
        omega
theorem posTo_row {hp : Nat → Bool} : ∀ k, (posTo hp k).Pairwise (· > ·)
  | 0 => List.Pairwise.nil
  | k + 1 => by
    simp only [posTo]
    split
    · refine List.Pairwise.cons (fun j hj => ?_) (posTo_row k)
      have := (posTo_mem.1 hj).1
      omega
    · exact posTo_row k

theorem backFrom_le {n : Nat} {es : List En} : ∀ (l : List Int) (b : Int), ∀ x ∈ l, (ofE n es ((x.natAbs : Int) - 1)).level ≤ backFrom n es b l
  | [], _, x, hx => by cases hx
  | y :: l, b, x, hx => by
    unfold backFrom
    rcases List.mem_cons.1 hx with rfl | hx
    · have := backFrom_ge (n := n) (es := es) l (max b (ofE n es ((x.natAbs : Int) - 1)).level)
      omega
    · exact backFrom_le l _ x hx
theorem backFrom_lt {n : Nat} {es : List En} {H : Int} : ∀ (l : List Int) (b : Int), b < H → (∀ x ∈ l, (ofE n es ((x.natAbs : Int) - 1)).level < H) → backFrom n es b l < H
  | [], _, h, _ => h
  | y :: l, b, h, hx => by
    unfold backFrom
    have := hx y (List.mem_cons_self ..)
    exact backFrom_lt l _ (by omega) fun x hm => hx x (List.mem_cons_of_mem _ hm)

theorem cut_high (lv : Int) : ∀ (es : List En), ∀ e ∈ cutE lv es, lv < e.level
  | [], e, he => by cases he
  | a :: es, e, he => by
    simp only [cutE] at he
    split at he
    · next h =>
      rcases List.mem_cons.1 he with rfl | he
      · exact h
      · exact cut_high lv es e he
    · cases he

theorem pop_keeps {n : Nat} {es : List En} {e : En} {b : Int} (hg : Good n es) (he : e ∈ es) (hl : e.level ≤ b) : valE n (popE b es) (-e.lit) = -1 := by
  have h1 : e ∈ popE b es := by
    have h2 := he
    rw [← cut_pop b es] at h2
    rcases List.mem_append.1 h2 with h2 | h2
    · have := cut_high b es e h2; omega
    · exact h2
  have h3 := look_mem (pop_good b hg) e h1
  have h4 := hg.lit e he
  unfold Lit at h4
  have e1 : (-e.lit).natAbs = e.lit.natAbs := by omega
  unfold valE
  rw [e1, if_pos h4, h3]
  simp only
  rw [if_neg (by omega)]
theorem pop_gone {n : Nat} {es : List En} {e : En} {b : Int} (hg : Good n es) (he : e ∈ es) (h0 : 0 ≤ b) (hb : b ≤ hi es) (hl : b < e.level) : valE n (popE b es) (-e.lit) = 0 := by
  have e1 : (-e.lit).natAbs = e.lit.natAbs := by omega
  have h1 : look (popE b es) (e.lit.natAbs - 1) = none := by
    cases hk : look (popE b es) (e.lit.natAbs - 1) with
    | none => rfl
    | some e' =>
      obtain ⟨h2, h3⟩ := look_some hk
      have h4 := (level_le (pop_good b hg) e' h2).2
      rw [hi_pop b h0 hg hb] at h4
      have h5 : e' ∈ es := by rw [← cut_pop b es]; exact List.mem_append_right _ h2
      have h6 := look_mem hg e' h5
      have h7 := look_mem hg e he
      have e2 : e'.lit.natAbs - 1 = e.lit.natAbs - 1 := by omega
      rw [e2, h7] at h6
      cases h6
      omega
  unfold valE
  rw [e1]
  split
  · rw [h1]
  · rfl

/-- What holds of a clause that is taught above level 0. -/
structure Turn (n : Nat) (es : List En) (c : List Int) (back : Int) : Prop where
  ne : 0 < c.length
  back0 : 0 ≤ back
  backh : back < hi es
  lit : ∀ i (h : i < c.length), 1 ≤ c[i].natAbs ∧ c[i].natAbs ≤ n
  val : ∀ i (h : i < c.length), valE n es c[i] = -1
  lev : ∀ i (h : i < c.length), ((ofE n es ((c[i].natAbs : Int) - 1)).level = hi es ↔ i = 0)
  row : ∀ i (h : i + 1 < c.length), posV es (c[i + 1].natAbs - 1) < posV es (c[i].natAbs - 1)
  deep : backFrom n es 0 c.tail = back
  backC : backC es back = (0, popE back es)
  first : ∀ h : 0 < c.length, valE n (popE back es) c[0] = 0
  rest : ∀ i (h : i < c.length), 0 < i → valE n (popE back es) c[i] = -1

theorem turn_of {n : Nat} {es : List En} {hp : Nat → Bool} (hg : Good n es) (h1 : cntB es.length (fun j => hp j && topB n es j) = 1) (h0 : 0 < hi es) : Turn n es (clauseOf es hp) (backFrom n es 0 (clauseOf es hp).tail) := by
  have hc : clauseOf es hp = (posTo hp es.length).map fun (j : Nat) => -atE es (j : Int) := clauseTo_pos es hp _
  have hrow := posTo_row (hp := hp) es.length
  have hmem : ∀ j, j ∈ posTo hp es.length ↔ j < es.length ∧ hp j = true := fun j => posTo_mem
  generalize posTo hp es.length = P at *
  -- each entry
  have hent : ∀ i (h : i < P.length), ∃ e ∈ es, es.reverse[P[i]]? = some e ∧ -atE es (P[i] : Int) = -e.lit := fun i h => by
    obtain ⟨e, he, h2, h3⟩ := at_mem ((hmem P[i]).1 (List.getElem_mem h)).1
    exact ⟨e, he, h3, by rw [h2]⟩
  have hlev : ∀ j e, es.reverse[j]? = some e → topB n es j = decide (e.level = hi es) := fun j e h => by
    unfold topB
    rw [(level_at hg h).1]
  have hlevc : ∀ e ∈ es, (ofE n es (((-e.lit).natAbs : Int) - 1)).level = e.level := fun e he => by
    have h2 := (on_trail hg he).2
    have h3 := (hg.lit e he).1
    have e1 : (((-e.lit).natAbs : Int) - 1) = ((e.lit.natAbs - 1 : Nat) : Int) := by omega
    rw [e1, h2]
  -- the first is the one of the highest level
  obtain ⟨t, htl, htd⟩ := cntB_pos (by omega : 0 < cntB es.length (fun j => hp j && topB n es j))
  have htd' := htd
  simp only [Bool.and_eq_true] at htd'
  have htP := (hmem t).2 ⟨htl, htd'.1⟩
  have hne : 0 < P.length := List.length_pos_of_mem htP
  have hfirst : ∀ j ∈ P, j ≤ P[0] := fun j hj => by
    obtain ⟨i, hi, rfl⟩ := List.getElem_of_mem hj
    by_cases hi0 : i = 0
    · subst hi0; exact Nat.le_refl _
    · have := List.pairwise_iff_getElem.1 hrow 0 i hne hi (by omega)
      omega
  have htop0 : topB n es P[0] = true := by
    obtain ⟨e0, he0, hr0, _⟩ := hent 0 hne
    obtain ⟨et, _, _, hrt⟩ := at_mem htl
    have h2 := level_mono hg hrt hr0 (hfirst t htP)
    have h3 := htd'.2
    rw [hlev t et hrt] at h3
    simp only [decide_eq_true_eq] at h3
    have h4 := (level_le hg e0 he0).2
    rw [hlev _ e0 hr0]
    simp only [decide_eq_true_eq]
    omega
  have hp0 : hp P[0] = true := ((hmem _).1 (List.getElem_mem hne)).2
  have hlen : (clauseOf es hp).length = P.length := by rw [hc, List.length_map]
  have hget : ∀ i (h : i < (clauseOf es hp).length), (clauseOf es hp)[i] = -atE es ((P[i]'(by omega) : Nat) : Int) := fun i h => by simp only [hc, List.getElem_map]
  have hcent : ∀ i (h : i < (clauseOf es hp).length), ∃ e ∈ es, es.reverse[P[i]'(by omega)]? = some e ∧ (clauseOf es hp)[i] = -e.lit := fun i h => by
    obtain ⟨e, he, h2, h3⟩ := hent i (by omega)
    exact ⟨e, he, h2, by rw [hget i h, h3]⟩
  have hlevi : ∀ i (h : i < (clauseOf es hp).length), ((ofE n es (((clauseOf es hp)[i].natAbs : Int) - 1)).level = hi es ↔ i = 0) := fun i h => by
    obtain ⟨e, he, h2, h3⟩ := hcent i h
    rw [h3, hlevc e he]
    have h4 := hlev _ e h2
    constructor
    · intro hh
      have h5 : topB n es (P[i]'(by omega)) = true := by rw [h4]; simpa using hh
      have h6 : hp (P[i]'(by omega)) = true := ((hmem _).1 (List.getElem_mem (by omega))).2
      have h7 := cntB_one (d := fun j => hp j && topB n es j) (len := es.length) (by omega) ((hmem _).1 (List.getElem_mem hne)).1 ((hmem _).1 (List.getElem_mem (by omega : i < P.length))).1 (by simp [hp0, htop0]) (by simp [h5, h6])
      by_cases hi0 : i = 0
      · exact hi0
      · have := List.pairwise_iff_getElem.1 hrow 0 i hne (by omega) (by omega)
        omega
    · rintro rfl
      rw [htop0] at h4
      simpa using h4.symm
  have hlow : ∀ x ∈ (clauseOf es hp).tail, (ofE n es ((x.natAbs : Int) - 1)).level < hi es := fun x hx => by
    obtain ⟨i, hi', rfl⟩ := List.getElem_of_mem hx
    rw [List.length_tail] at hi'
    rw [List.getElem_tail]
    have h2 := hlevi (i + 1) (by omega)
    obtain ⟨e, he, h3, h4⟩ := hcent (i + 1) (by omega)
    have h5 := (level_le hg e he).2
    rw [h4, hlevc e he] at h2 ⊢
    have h6 : ¬ e.level = hi es := fun hh => absurd (h2.1 hh) (by omega)
    omega
  have hb0 := backFrom_ge (n := n) (es := es) (clauseOf es hp).tail 0
  have hbh := backFrom_lt (clauseOf es hp).tail 0 h0 hlow
  refine ⟨by omega, hb0, hbh, fun i h => ?_, fun i h => ?_, hlevi, fun i h => ?_, rfl, ?_, fun h => ?_, fun i h hi0 => ?_⟩
  · obtain ⟨e, he, _, h3⟩ := hcent i h
    have := hg.lit e he
    unfold Lit at this
    rw [h3]
    omega
  · obtain ⟨e, he, _, h3⟩ := hcent i h
    rw [h3]
    have h4 := hg.lit e he
    unfold Lit at h4
    have e1 : (-e.lit).natAbs = e.lit.natAbs := by omega
    unfold valE
    rw [e1, if_pos h4, look_mem hg e he]
    simp only
    rw [if_neg (by omega)]
  · obtain ⟨e, he, h2, h3⟩ := hcent i (by omega)
    obtain ⟨e', he', h2', h3'⟩ := hcent (i + 1) h
    have e1 : (-e.lit).natAbs = e.lit.natAbs := by omega
    have e2 : (-e'.lit).natAbs = e'.lit.natAbs := by omega
    rw [h3, h3', e1, e2, pos_of hg h2, pos_of hg h2']
    exact List.pairwise_iff_getElem.1 hrow i (i + 1) (by omega) (by omega) (by omega)
  · unfold Go.Proofs.Ythinopiobihmaaa.backC
    rw [if_neg (by omega)]
  · obtain ⟨e, he, h2, h3⟩ := hcent 0 h
    rw [h3]
    have h4 := (hlevi 0 h).2 rfl
    rw [h3, hlevc e he] at h4
    exact pop_gone hg he hb0 (by omega) (by omega)
  · obtain ⟨e, he, h2, h3⟩ := hcent i h
    rw [h3]
    refine pop_keeps hg he ?_
    have hx : (clauseOf es hp)[i] ∈ (clauseOf es hp).tail := by
      have hi1 : i - 1 < (clauseOf es hp).tail.length := by rw [List.length_tail]; omega
      have := List.getElem_mem hi1
      rw [List.getElem_tail] at this
      have e3 : i - 1 + 1 = i := by omega
      simpa only [e3] using this
    have h5 := backFrom_le (n := n) (es := es) (clauseOf es hp).tail 0 _ hx
    rw [h3, hlevc e he] at h5
    exact h5

theorem loop_turn {n : Nat} {es : List En} {cls : List (List Int)} (hg : Good n es) : ∀ (k : Nat) (hp : Nat → Bool) (bs : List Int), (loopL n es cls k hp bs).2.2.2 = 0 → (loopL n es cls k hp bs).2.1 ≠ -1 → Turn n es (loopL n es cls k hp bs).1 (loopL n es cls k hp bs).2.1
  | 0, _, _, h, _ => by simp [loopL] at h
  | k + 1, hp, bs, h, hb => by
    unfold loopL at h hb ⊢
    split at h
    · next c1 => rw [if_pos c1] at hb; exact absurd rfl hb
    next c1 =>
    rw [if_neg c1] at hb ⊢
    split at h
    · next c2 => rw [if_pos c2]; exact turn_of hg c2.1 c2.2
    next c2 =>
    rw [if_neg c2] at hb ⊢
    simp only at h hb ⊢
    split at h
    · cases h
    next c3 =>
    rw [if_neg c3] at hb ⊢
    split at h
    · next c4 => rw [if_pos c4] at hb ⊢; exact loop_turn hg k _ _ h hb
    · next c4 => exact absurd h c4

theorem learn_turn {n : Nat} {es : List En} {cls : List (List Int)} {conflict : Int} (hg : Good n es) (h : (learnE n es cls conflict).2.2.2 = 0) (hb : (learnE n es cls conflict).2.1 ≠ -1) : Turn n es (learnE n es cls conflict).1 (learnE n es cls conflict).2.1 := by
  unfold learnE at h hb ⊢
  split at h
  · cases h
  next c1 =>
  rw [if_neg c1] at hb ⊢
  simp only at h hb ⊢
  split at h
  · next c2 =>
    rw [if_pos c2] at hb ⊢
    split at h
    · cases h
    · next c3 => rw [if_neg c3] at hb ⊢; exact loop_turn hg _ _ _ h hb
  · next c2 => exact absurd h c2

end Go.Proofs.Ythinopiobihmaaa

namespace Go.Proofs.Ythinopiobihmaaa
set_option maxRecDepth 100000

/-- The bits of a trail of n variables, the oldest first, as a number. -/
def bitsV (n : Nat) : List En → Nat
  | [] => 0
  | e :: es => bitsV n es + if 0 ≤ e.reason then 2 ^ (n - 1 - es.length) else 0
def meas (n : Nat) (es : List En) : Nat := bitsV n es * (n + 1) + es.length

theorem bits_app (n : Nat) (es : List En) : ∀ (xs : List En), xs.length + es.length ≤ n → bitsV n es ≤ bitsV n (xs ++ es) ∧ bitsV n (xs ++ es) + 2 ^ (n - (xs.length + es.length)) ≤ bitsV n es + 2 ^ (n - es.length)
  | [], _ => ⟨Nat.le_refl _, by simp⟩
  | x :: xs, h => by
    have hl : xs.length + es.length < n := by simp at h; omega
    obtain ⟨h1, h2⟩ := bits_app n es xs (by omega)
    have e1 : (xs ++ es).length = xs.length + es.length := by simp
    have e2 : n - (xs.length + es.length) = (n - 1 - (xs.length + es.length)) + 1 := by omega
    rw [e2, Nat.pow_succ] at h2
    have e3 : n - ((x :: xs).length + es.length) = n - 1 - (xs.length + es.length) := by simp; omega
    refine ⟨Nat.le_trans h1 (by show bitsV n (xs ++ es) ≤ bitsV n (xs ++ es) + _; omega), ?_⟩
    show bitsV n (xs ++ es) + (if 0 ≤ x.reason then 2 ^ (n - 1 - (xs ++ es).length) else 0) + 2 ^ (n - ((x :: xs).length + es.length)) ≤ _
    rw [e1, e3]
    split <;> omega
theorem bits_lt (n : Nat) (es : List En) (h : es.length ≤ n) : bitsV n es < 2 ^ n := by
  have h1 := (bits_app n [] es (by simpa using h)).2
  simp only [List.append_nil, bitsV, List.length_nil, Nat.add_zero, Nat.sub_zero, Nat.zero_add] at h1
  have h2 : 0 < 2 ^ (n - es.length) := Nat.pow_pos (by decide)
  omega
theorem meas_lt (n : Nat) (es : List En) (h : es.length ≤ n) : meas n es < 2 ^ n * (n + 1) := by
  have h1 := bits_lt n es h
  have h2 : (bitsV n es + 1) * (n + 1) ≤ 2 ^ n * (n + 1) := Nat.mul_le_mul_right _ h1
  rw [Nat.add_mul] at h2
  unfold meas
  omega
/-- More on the trail. -/
theorem meas_more (n : Nat) (es xs : List En) (h : xs.length + es.length ≤ n) (h0 : xs ≠ []) : meas n es < meas n (xs ++ es) := by
  have h1 := (bits_app n es xs h).1
  have h2 : bitsV n es * (n + 1) ≤ bitsV n (xs ++ es) * (n + 1) := Nat.mul_le_mul_right _ h1
  have h3 : 0 < xs.length := List.length_pos_iff.2 h0
  unfold meas
  rw [List.length_append]
  omega
/-- Where a literal was decided, one is assigned. -/
theorem meas_turn (n : Nat) (es xs ys : List En) (d a : En) (hd : d.reason < 0) (ha : 0 ≤ a.reason) (hx : xs.length + 1 + es.length ≤ n) (hy : ys.length + 1 + es.length ≤ n) : meas n (xs ++ d :: es) < meas n (ys ++ a :: es) := by
  have e1 : (d :: es).length = es.length + 1 := rfl
  have e2 : (a :: es).length = es.length + 1 := rfl
  have h1 := (bits_app n (d :: es) xs (by rw [e1]; omega)).2
  have h2 := (bits_app n (a :: es) ys (by rw [e2]; omega)).1
  have bd : bitsV n (d :: es) = bitsV n es := by simp only [bitsV]; rw [if_neg (by omega)]; rfl
  have ba : bitsV n (a :: es) = bitsV n es + 2 ^ (n - 1 - es.length) := by simp only [bitsV]; rw [if_pos ha]
  rw [bd, e1] at h1
  rw [ba] at h2
  have e3 : n - (es.length + 1) = n - 1 - es.length := by omega
  rw [e3] at h1
  have h3 : 0 < 2 ^ (n - (xs.length + (es.length + 1))) := Nat.pow_pos (by decide)
  have h4 : bitsV n (xs ++ d :: es) + 1 ≤ bitsV n (ys ++ a :: es) := by omega
  have h5 := Nat.mul_le_mul_right (n + 1) h4
  rw [Nat.add_mul] at h5
  unfold meas
  simp only [List.length_append, List.length_cons]
  omega

end Go.Proofs.Ythinopiobihmaaa

namespace Go.Proofs.Ythinopiobihmaaa
set_option maxRecDepth 100000

/-- Where all is settled nothing follows. -/
theorem ext_none {n : Nat} {cl : List (List Int)} {es es' : List En} (h : Ext n cl es es') (hg : Good n es) (hs : ∀ j, j < cl.length → Settled n es (cl.getD j [])) : es' = es := by
  induction h with
  | refl => rfl
  | @step es1 e h0 h1 h2 h3 h4 h5 h6 ih =>
    exfalso
    subst ih
    have := (not_settled hg hg (fun _ h => h) (fun _ => Iff.rfl) h6 (hs e.reason.toNat (by omega))).2
    omega
theorem settled_not_false {n : Nat} {es : List En} {c : List Int} (hs : Settled n es c) : ¬ FalseC n es c := fun hf => by
  rcases hs with ⟨x, hx, h⟩ | ⟨x, hx, _, _, _, h, _⟩
  · rw [hf x hx] at h; cases h
  · rw [hf x hx] at h; cases h

/-- What holds at a prefix holds at the whole. -/
theorem pop_val {n : Nat} : ∀ {es : List En} (lv : Int) {x : Int}, Good n es → valE n (popE lv es) x ≠ 0 → valE n es x = valE n (popE lv es) x
  | [], _, _, _, h => rfl
  | e :: es, lv, x, hg, h => by
    simp only [popE] at h ⊢
    by_cases hl : lv < e.level
    · rw [if_pos hl] at h ⊢
      have ih := pop_val lv hg.2.2.2 h
      rw [val_push hg x (by rw [ih]; exact h), ih]
    · rw [if_neg hl]
/-- A literal that a prefix does not know lies above it. -/
theorem pop_level {n : Nat} : ∀ {es : List En} (lv : Int) {x : Int}, Good n es → valE n es x ≠ 0 → valE n (popE lv es) x = 0 → ∃ e ∈ es, e.lit.natAbs = x.natAbs ∧ lv < e.level
  | [], _, _, _, h, h0 => absurd h0 h
  | e :: es, lv, x, hg, h, h0 => by
    simp only [popE] at h0
    by_cases hl : lv < e.level
    · rw [if_pos hl] at h0
      by_cases hx : valE n es x = 0
      · refine ⟨e, List.mem_cons_self .., ?_, hl⟩
        rw [val_cons] at h
        split at h
        · next h2 => exact h2.2.2
        · exact absurd hx h
      · obtain ⟨e', he, h1, h2⟩ := pop_level lv hg.2.2.2 hx h0
        exact ⟨e', List.mem_cons_of_mem _ he, h1, h2⟩
    · rw [if_neg hl] at h0
      exact absurd h0 h

/-- A false clause that is settled at a prefix has a literal above it. -/
theorem conf_above {n : Nat} {es : List En} {c : List Int} (lv : Int) (hg : Good n es) (hf : FalseC n es c) (hs : Settled n (popE lv es) c) : ∃ x ∈ c, ∃ e ∈ es, e.lit.natAbs = x.natAbs ∧ lv < e.level := by
  rcases hs with ⟨x, hx, h⟩ | ⟨x, hx, _, _, _, h, _⟩
  · have := pop_val lv hg (x := x) (by rw [h]; decide)
    rw [hf x hx, h] at this
    cases this
  · exact ⟨x, hx, pop_level lv hg (by rw [hf x hx]; decide) h⟩

end Go.Proofs.Ythinopiobihmaaa

namespace Go.Proofs.Ythinopiobihmaaa
set_option maxRecDepth 100000

theorem rev_split : ∀ {es : List En} {J : Nat} {e : En}, es.reverse[J]? = some e → ∃ xs ys, es = xs ++ e :: ys ∧ ys.length = J
  | [], J, e, h => by simp at h
  | a :: es, J, e, h => by
    have hl : J < (a :: es).reverse.length := (List.getElem?_eq_some_iff.1 h).1
    simp at hl
    rw [List.reverse_cons] at h
    by_cases hj : J < es.length
    · rw [List.getElem?_append_left (by simpa using hj)] at h
      obtain ⟨xs, ys, h1, h2⟩ := rev_split h
      exact ⟨a :: xs, ys, by rw [h1]; rfl, h2⟩
    · have e1 : J = es.length := by omega
      subst e1
      rw [List.getElem?_append_right (by simp)] at h
      simp at h
      subst h
      exact ⟨[], es, rfl, rfl⟩
theorem pos_app {n : Nat} {ys : List En} : ∀ {xs : List En}, Good n (xs ++ ys) → ∀ {x : Int}, valE n ys x ≠ 0 → valE n (xs ++ ys) x = valE n ys x ∧ posV (xs ++ ys) (x.natAbs - 1) = posV ys (x.natAbs - 1)
  | [], _, _, _ => ⟨rfl, rfl⟩
  | a :: xs, hg, x, h => by
    obtain ⟨h1, h2⟩ := pos_app (xs := xs) hg.2.2.2 h
    have hv : valE n (xs ++ ys) x ≠ 0 := by rw [h1]; exact h
    refine ⟨(val_push hg x hv).trans h1, ?_⟩
    rw [List.cons_append, posV_cons, if_neg ?_, h2]
    intro he
    have h3 : look (xs ++ ys) (a.lit.natAbs - 1) = none := hg.2.1
    have e1 : a.lit.natAbs - 1 = x.natAbs - 1 := by omega
    rw [e1] at h3
    unfold valE at hv
    rw [h3] at hv
    simp at hv

theorem cntB_only {d : Nat → Bool} {J : Nat} : ∀ {len : Nat}, (∀ j, j < len → d j = true → j = J) → cntB len d ≤ 1
  | 0, _ => by simp [cntB]
  | k + 1, h => by
    simp only [cntB]
    by_cases hk : d k = true
    · have hz : ∀ m, m ≤ k → cntB m d = 0 := by
        intro m
        induction m with
        | zero => intro _; rfl
        | succ m ih =>
          intro hm
          have h1 := ih (by omega)
          have h2 : d m = false := by
            cases h3 : d m with
            | false => rfl
            | true =>
              have h4 := h m (by omega) h3
              have h5 := h k (by omega) hk
              omega
          simp only [cntB, h1, h2]
          rfl
      rw [hz k (Nat.le_refl _)]
      split <;> omega
    · rw [if_neg hk]
      exact cntB_only fun j hj => h j (by omega)

/-- A reason's clause may be taken. -/
theorem take_reason {n : Nat} {es : List En} {cls : List (List Int)} (hg : Good n es) (hk : ∀ c ∈ cls, knownB n c = true) (hj : Just n cls es) {J : Nat} {e : En} (he : es.reverse[J]? = some e) (hr : 0 ≤ e.reason) (hp : Nat → Bool) :
    e.reason < cls.length ∧ (takeC n es (cls.getD e.reason.toNat []) e.lit J hp).1 = 0 := by
  obtain ⟨xs, ys, rfl, hlen⟩ := rev_split he
  obtain ⟨j1, j2, j3⟩ := (just_tail (xs := xs) hj).1 hr
  refine ⟨j1, ?_⟩
  have hg1 : Good n (xs ++ [e] ++ ys) := by simpa using hg
  have hkn : knownB n (cls.getD e.reason.toNat []) = true := hk _ (getD_lt j2).2
  unfold takeC
  rw [if_neg (by rw [hkn]; simp), if_neg, if_neg]
  · intro h
    have : (cls.getD e.reason.toNat []).all (okT n (xs ++ e :: ys) e.lit (J : Int)) = true := by
      rw [List.all_eq_true]
      intro x hx
      unfold okT
      by_cases hxe : x = e.lit
      · simp [hxe]
      · have h3 := j3 x hx hxe
        have h4 := pos_app (xs := xs ++ [e]) hg1 (x := x) (by rw [h3]; decide)
        have e2 : xs ++ [e] ++ ys = xs ++ e :: ys := by simp
        rw [e2] at h4
        obtain ⟨_, _, _, _, h5⟩ := val_false h3
        rw [h4.1, h4.2, h3]
        simp only [decide_true, Bool.true_and, Bool.or_eq_true, decide_eq_true_eq]
        exact .inr (by omega)
    rw [this] at h
    cases h
  · rintro ⟨_, h⟩
    have : ((cls.getD e.reason.toNat []).any fun x => x == e.lit) = true := List.any_eq_true.2 ⟨_, j2, by simp⟩
    rw [this] at h
    cases h

theorem loop_ok {n : Nat} {es : List En} {cls : List (List Int)} (hg : Good n es) (hk : ∀ c ∈ cls, knownB n c = true) (hj : Just n cls es) : ∀ (k : Nat) (hp : Nat → Bool) (bs : List Int), maxH es.length hp + 2 ≤ k → (0 < hi es → 0 < cntB es.length (fun j => hp j && topB n es j)) →
    (loopL n es cls k hp bs).2.2.2 = 0
  | 0, hp, bs, h, _ => by have := (maxH_range hp es.length).1; omega
  | k + 1, hp, bs, h, ht => by
    have hn := hi_nonneg hg
    have hr := maxH_range hp es.length
    unfold loopL
    by_cases c1 : cntB es.length (fun j => hp j && topB n es j) = 0 ∧ hi es = 0
    · rw [if_pos c1]
    rw [if_neg c1]
    by_cases c2 : cntB es.length (fun j => hp j && topB n es j) = 1 ∧ 0 < hi es
    · rw [if_pos c2]
    rw [if_neg c2]
    -- the latest
    have hpos : 0 < cntB es.length (fun j => hp j && topB n es j) := by
      by_cases h0 : 0 < hi es
      · exact ht h0
      · have : hi es = 0 := by omega
        have h1 : ¬ cntB es.length (fun j => hp j && topB n es j) = 0 := fun h2 => c1 ⟨h2, this⟩
        omega
    obtain ⟨t, htl, htd⟩ := cntB_pos hpos
    simp only [Bool.and_eq_true] at htd
    have hge := maxH_ge htl htd.1
    obtain ⟨J, hJ⟩ : ∃ J : Nat, maxH es.length hp = (J : Int) := ⟨(maxH es.length hp).toNat, by omega⟩
    have hheld : hp J = true := by
      have := maxH_held (d := hp) (len := es.length) (by omega)
      rwa [hJ, Int.toNat_natCast] at this
    have hJl : J < es.length := by omega
    obtain ⟨e, hem, hea, her⟩ := at_mem hJl
    have hlev := level_at hg her
    have hreason : 0 ≤ e.reason := by
      obtain ⟨xs, ys, hes, hlen⟩ := rev_split her
      rw [hes] at hg
      have hg2 : Good n (e :: ys) := hg.tail
      rcases hg2.2.2.1 with ⟨h1, h2⟩ | ⟨h1, _⟩
      · exfalso
        by_cases h0 : 0 < hi es
        · -- another one of the highest level stands ahead
          have hcnt : ¬ cntB es.length (fun j => hp j && topB n es j) ≤ 1 := fun hle => c2 ⟨by omega, h0⟩
          have hother : ∃ i, i < es.length ∧ i ≠ J ∧ hp i = true ∧ topB n es i = true := by
            by_cases hex : ∃ i, i < es.length ∧ i ≠ J ∧ hp i = true ∧ topB n es i = true
            · exact hex
            · exfalso
              exact hcnt (cntB_only (J := J) fun j hjl hd => by
                simp only [Bool.and_eq_true] at hd
                by_cases hjJ : j = J
                · exact hjJ
                · exact absurd ⟨j, hjl, hjJ, hd.1, hd.2⟩ hex)
          obtain ⟨i, hil, hiJ, hpi, hti⟩ := hother
          have hiJ' : i < J := by have := maxH_ge hil hpi; omega
          obtain ⟨e', _, hea', her'⟩ := at_mem hil
          have hg' : Good n es := by rw [hes]; exact hg
          have hle' := (level_at hg' her').1
          unfold topB at hti
          rw [hle'] at hti
          simp only [decide_eq_true_eq] at hti
          have h5 : e' ∈ ys := by
            have h6 := her'
            rw [hes, List.reverse_append, List.reverse_cons, List.append_assoc, List.getElem?_append_left (by simp; omega)] at h6
            exact List.mem_reverse.1 (List.mem_of_getElem? h6)
          have h7 := (level_le hg2.2.2.2 e' h5).2
          have h8 := (level_le hg' e hem).2
          omega
        · have hg' : Good n es := by rw [hes]; exact hg
          have h8 := (level_le hg' e hem).2
          have h9 := hi_nonneg hg2.2.2.2
          omega
      · exact h1
    obtain ⟨hrl, hT⟩ := take_reason hg hk hj her hreason (fun j => hp j && !decide ((j : Int) = maxH es.length hp))
    have hrr : (ofE n es (((atE es (maxH es.length hp)).natAbs : Int) - 1)).reason = e.reason := by rw [hJ]; exact hlev.2
    simp only
    rw [hrr, hJ, hea]
    rw [hJ] at hT
    rw [if_neg (by omega), if_pos hT]
    refine loop_ok hg hk hj k _ _ ?_ ?_
    · have := maxH_lt (len := es.length) (d := (takeC n es (cls.getD e.reason.toNat []) e.lit J (fun j => hp j && !decide ((j : Int) = (J : Int)))).2) (place := (J : Int)) (fun j hjl hd => takeC_below (fun h1 => by
        simp only [Bool.and_eq_true, Bool.not_eq_true', decide_eq_false_iff_not] at h1
        have := maxH_ge hjl h1.1
        omega) hd) (by omega)
      omega
    · intro h0
      by_cases hc : cntB es.length (fun j => (takeC n es (cls.getD e.reason.toNat []) e.lit J (fun j => hp j && !decide ((j : Int) = (J : Int)))).2 j && topB n es j) = 0
      · exfalso
        have hz := cntB_zero hc
        have hcnt : cntB es.length (fun j => hp j && topB n es j) ≤ 1 := cntB_only (J := J) fun j hjl hd => by
          simp only [Bool.and_eq_true] at hd
          by_cases hjJ : j = J
          · exact hjJ
          · have h6 := hz j hjl
            simp only [hd.2, Bool.and_true] at h6
            rw [takeC_mono j (by simp only [hd.1, Bool.true_and, Bool.not_eq_true', decide_eq_false_iff_not]; omega)] at h6
            cases h6
        exact c2 ⟨by omega, h0⟩
      · omega

/-- A false clause with a literal of the highest level teaches. -/
theorem learn_ok {n : Nat} {es : List En} {cls : List (List Int)} {c : Int} (hg : Good n es) (hk : ∀ c ∈ cls, knownB n c = true) (hj : Just n cls es) (h0 : 0 ≤ c) (h1 : c < cls.length) (hf : FalseC n es (cls.getD c.toNat [])) (ht : 0 < hi es → ∃ x ∈ cls.getD c.toNat [], ∃ e ∈ es, e.lit.natAbs = x.natAbs ∧ hi es ≤ e.level) :
    (learnE n es cls c).2.2.2 = 0 := by
  have hcl : c.toNat < cls.length := by omega
  have hkn : knownB n (cls.getD c.toNat []) = true := hk _ (getD_mem hcl)
  have hT : takeC n es (cls.getD c.toNat []) 0 es.length (fun _ => false) = (0, addH es (cls.getD c.toNat []) 0 (fun _ => false)) := by
    unfold takeC
    rw [if_neg (by rw [hkn]; simp), if_neg (by simp), if_neg]
    intro h
    have : (cls.getD c.toNat []).all (okT n es 0 es.length) = true := by
      rw [List.all_eq_true]
      intro x hx
      unfold okT
      have h3 := hf x hx
      obtain ⟨_, _, _, _, h5⟩ := val_false h3
      rw [h3]
      simp only [decide_true, Bool.true_and, Bool.or_eq_true, decide_eq_true_eq]
      exact .inr (by omega)
    rw [this] at h
    cases h
  have htop : 0 < hi es → 0 < cntB es.length (fun j => addH es (cls.getD c.toNat []) 0 (fun _ => false) j && topB n es j) := fun hh => by
    obtain ⟨x, hx, e, he, hex, hle⟩ := ht hh
    have h3 := hf x hx
    obtain ⟨e', h4, _, _, h5⟩ := val_false h3
    have h6 := posV_at h4
    have h7 := (level_at hg h6).1
    have h8 := look_mem hg e he
    rw [hex, h4] at h8
    injection h8 with h8
    subst h8
    have h9 := (level_le hg e' he).2
    by_cases hc : cntB es.length (fun j => addH es (cls.getD c.toNat []) 0 (fun _ => false) j && topB n es j) = 0
    · exfalso
      have h10 := cntB_zero hc _ h5
      have h11 : addH es (cls.getD c.toNat []) 0 (fun _ => false) (posV es (x.natAbs - 1)) = true := by
        simp only [addH, Bool.false_or, List.any_eq_true, Bool.and_eq_true, decide_eq_true_eq]
        refine ⟨x, hx, ?_, rfl⟩
        rintro rfl
        unfold valE at h3
        simp at h3
      have h12 : topB n es (posV es (x.natAbs - 1)) = true := by
        unfold topB
        rw [h7]
        simp only [decide_eq_true_eq]
        omega
      rw [h11, h12] at h10
      cases h10
    · omega
  unfold learnE
  rw [if_neg (by omega)]
  simp only
  rw [hT]
  simp only [if_true]
  rw [if_neg (fun h => by have := htop h.2; omega)]
  refine loop_ok hg hk hj _ _ _ ?_ htop
  have := (maxH_range (addH es (cls.getD c.toNat []) 0 (fun _ => false)) es.length).2
  omega

end Go.Proofs.Ythinopiobihmaaa

namespace Go.Proofs.Ythinopiobihmaaa
set_option maxRecDepth 100000

/-! ### The model -/
structure Q where
  S : WS
  fr : Nat
  steps : Nat
  bonds : List (List Int)
structure Ans where
  yes : Bool
  state : List Bool
  steps : Nat
  bonds : List (List Int)
  last : List Int
inductive Next
  | done (a : Ans)
  | go (q : Q)

/-- The first variable, from one on, that is open. -/
def openFrom (n : Nat) (es : List En) : Nat → Nat → Nat
  | 0, v => v
  | k + 1, v => if valE n es ((v : Int) + 1) = 0 then v else openFrom n es k (v + 1)
def stateE (n : Nat) (es : List En) : List Bool := (List.range n).map fun (v : Nat) => decide (valE n es ((v : Int) + 1) = 1)
def confQ (q : Q) : Taught := learnE (propS q.S).1.n (propS q.S).1.es (propS q.S).1.cl (propS q.S).2
def varQ (q : Q) : Nat := openFrom (propS q.S).1.n (propS q.S).1.es ((propS q.S).1.n - q.fr) q.fr
def nextQ (q : Q) : Next :=
  if 0 ≤ (propS q.S).2 then
    if (confQ q).2.1 < 0 then .done ⟨false, [], q.steps + 1, q.bonds, (confQ q).2.2.1⟩
    else .go ⟨(addS (backS (propS q.S).1 (confQ q).2.1).1 (confQ q).1).1, 0, q.steps + 1, q.bonds ++ [(confQ q).2.2.1]⟩
  else if varQ q < (propS q.S).1.n then .go ⟨(decS (propS q.S).1 (-((varQ q : Int) + 1))).1, varQ q, q.steps + 1, q.bonds⟩
  else .done ⟨true, stateE (propS q.S).1.n (propS q.S).1.es, q.steps, q.bonds, []⟩
def runQ : Nat → Q → Option Ans
  | 0, _ => none
  | k + 1, q => match nextQ q with
    | .done a => some a
    | .go q' => runQ k q'
def startS (n : Nat) (cl : List (List Int)) : WS := cl.foldl (fun S c => (addS S c).1) (newS n)

/-! ### Laws of trails -/
theorem ext_hi {n : Nat} {cl : List (List Int)} {a b : List En} (h : Ext n cl a b) : hi b = hi a := by
  induction h with
  | refl => rfl
  | step e _ _ _ h3 _ _ _ ih => exact h3.trans ih
theorem ext_pop {n : Nat} {cl : List (List Int)} {a b : List En} (h : Ext n cl a b) {lv : Int} (hl : lv < hi a) : popE lv b = popE lv a := by
  induction h with
  | refl => rfl
  | @step es1 e h0 _ _ h3 _ _ _ ih =>
    have := ext_hi h0
    simp only [popE]
    rw [if_pos (by omega), ih]
theorem ext_first {n : Nat} {cl : List (List Int)} {a b : List En} (h : Ext n cl a b) : b = a ∨ ∃ ys e, b = ys ++ e :: a ∧ 0 ≤ e.reason := by
  induction h with
  | refl => exact .inl rfl
  | @step es1 e h0 h1 _ _ _ _ _ ih =>
    rcases ih with rfl | ⟨ys, e', rfl, h2⟩
    · exact .inr ⟨[], e, rfl, h1⟩
    · exact .inr ⟨e :: ys, e', rfl, h2⟩
theorem ext_more {n : Nat} {cl : List (List Int)} {a b : List En} (h : Ext n cl a b) : ∃ ys, b = ys ++ a := by
  induction h with
  | refl => exact ⟨[], rfl⟩
  | @step es1 e h0 h1 _ _ _ _ _ ih =>
    obtain ⟨ys, rfl⟩ := ih
    exact ⟨e :: ys, rfl⟩
theorem pop_pop (a b : Int) (h : a ≤ b) : ∀ es : List En, popE a (popE b es) = popE a es
  | [] => rfl
  | e :: es => by
    simp only [popE]
    by_cases h1 : b < e.level
    · rw [if_pos h1, if_pos (by omega), pop_pop a b h es]
    · rw [if_neg h1]
      simp only [popE]
theorem pop_first {n : Nat} (lv : Int) (h0 : 0 ≤ lv) : ∀ {es : List En}, Good n es → lv < hi es → ∃ xs d, es = xs ++ d :: popE lv es ∧ d.reason < 0
  | [], _, h => by simp only [hi] at h; omega
  | e :: es, hg, h => by
    simp only [hi] at h
    simp only [popE]
    rw [if_pos h]
    by_cases h1 : lv < hi es
    · obtain ⟨xs, d, h2, h3⟩ := pop_first lv h0 hg.2.2.2 h1
      exact ⟨e :: xs, d, by rw [List.cons_append, ← h2], h3⟩
    · rw [pop_eq lv hg.2.2.2 (by omega)]
      refine ⟨[], e, rfl, ?_⟩
      rcases hg.2.2.1 with ⟨h2, _⟩ | ⟨_, h3⟩ <;> omega
theorem backFrom_at {n : Nat} {es : List En} : ∀ (l : List Int) (b : Int), backFrom n es b l = b ∨ ∃ x ∈ l, (ofE n es ((x.natAbs : Int) - 1)).level = backFrom n es b l
  | [], _ => .inl rfl
  | x :: l, b => by
    unfold backFrom
    rcases backFrom_at l (max b (ofE n es ((x.natAbs : Int) - 1)).level) with h | ⟨y, hy, h⟩
    · rw [h]
      by_cases h1 : (ofE n es ((x.natAbs : Int) - 1)).level ≤ b
      · exact .inl (by omega)
      · exact .inr ⟨x, List.mem_cons_self .., by omega⟩
    · exact .inr ⟨y, List.mem_cons_of_mem _ hy, h⟩
/-- A false literal's entry. -/
theorem false_entry {n : Nat} {es : List En} (hg : Good n es) {x : Int} (h : valE n es x = -1) : ∃ e ∈ es, x = -e.lit ∧ (ofE n es ((x.natAbs : Int) - 1)).level = e.level := by
  obtain ⟨e, he, h1⟩ := val_none h
  refine ⟨e, he, by omega, ?_⟩
  have h2 := (on_trail hg he).2
  have h3 := (hg.lit e he).1
  have e1 : ((x.natAbs : Int) - 1) = ((e.lit.natAbs - 1 : Nat) : Int) := by omega
  rw [e1, h2]

theorem open_from {n : Nat} {es : List En} : ∀ (k v : Nat), v + k = n → v ≤ openFrom n es k v ∧ openFrom n es k v ≤ n ∧ (∀ j, v ≤ j → j < openFrom n es k v → valE n es ((j : Int) + 1) ≠ 0) ∧ (openFrom n es k v < n → valE n es ((openFrom n es k v : Int) + 1) = 0)
  | 0, v, h => ⟨Nat.le_refl _, by simp only [openFrom]; omega, fun j h1 h2 => by simp only [openFrom] at h2; omega, fun h2 => by simp only [openFrom] at h2; omega⟩
  | k + 1, v, h => by
    unfold openFrom
    by_cases h0 : valE n es ((v : Int) + 1) = 0
    · rw [if_pos h0]
      exact ⟨Nat.le_refl _, by omega, fun j h1 h2 => by omega, fun _ => h0⟩
    · rw [if_neg h0]
      obtain ⟨h1, h2, h3, h4⟩ := open_from (n := n) (es := es) k (v + 1) (by omega)
      refine ⟨by omega, h2, fun j h5 h6 => ?_, h4⟩
      by_cases hj : j = v
      · subst hj; exact h0
      · exact h3 j (by omega) h6

/-! ### What holds at each step -/
structure Bonds (cl0 cl : List (List Int)) (bonds : List (List Int)) : Prop where
  len : cl.length = cl0.length + bonds.length
  pre : ∀ j, j < cl0.length → cl.getD j [] = cl0.getD j []
  ne : ∀ k, k < bonds.length → bonds.getD k [] ≠ []
  range : ∀ k, k < bonds.length → ∀ b ∈ bonds.getD k [], 0 ≤ b ∧ b < (cl0.length : Int) + k
  follows : ∀ k, k < bonds.length → ∀ A, (∀ b ∈ bonds.getD k [], holdsA A (cl.getD b.toNat []) = true) → holdsA A (cl.getD (cl0.length + k) []) = true
structure QInv (n : Nat) (cl0 : List (List Int)) (q : Q) : Prop where
  inv : WInv q.S
  num : q.S.n = n
  frn : q.fr ≤ n
  closed : ∀ v, v < q.fr → valE n q.S.es ((v : Int) + 1) ≠ 0
  low : ∀ lv, 0 ≤ lv → lv < hi q.S.es → ∀ j, j < q.S.cl.length → Settled n (popE lv q.S.es) (q.S.cl.getD j [])
  bonds : Bonds cl0 q.S.cl q.bonds
  short : ∀ j, cl0.length ≤ j → (q.S.cl.getD j []).length ≤ n
  meas : q.steps ≤ meas n (propS q.S).1.es
structure AnsOk (n : Nat) (cl0 : List (List Int)) (a : Ans) : Prop where
  yes : a.yes = true → a.state.length = n ∧ (∀ c ∈ cl0, holdsA (fun v => a.state.getD v false) c = true) ∧ a.last = [] ∧ a.steps < 2 ^ n * (n + 1)
  no : a.yes = false → a.state = [] ∧ a.last ≠ [] ∧ ∀ b ∈ a.last, 0 ≤ b ∧ b < (cl0.length : Int) + a.bonds.length
  steps : a.steps ≤ 2 ^ n * (n + 1)
  bonds : ∃ cl, Bonds cl0 cl a.bonds ∧ (a.yes = false → ∀ A, ¬ ∀ b ∈ a.last, holdsA A (cl.getD b.toNat []) = true)

theorem settled_true {n : Nat} {es : List En} {c : List Int} (hg : Good n es) (hs : Settled n es c) (hv : ∀ v, v < n → valE n es ((v : Int) + 1) ≠ 0) (hk : knownS n c = true) : holdsA (fun v => (stateE n es).getD v false) c = true := by
  have hkn : ∀ x ∈ c, 1 ≤ x.natAbs ∧ x.natAbs ≤ n := fun x hx => by
    have := List.all_eq_true.1 hk x hx
    simpa using this
  have hnz : ∀ x ∈ c, valE n es x ≠ 0 := fun x hx h0 => by
    have h1 := hkn x hx
    have h2 := hv (x.natAbs - 1) (by omega)
    have e1 : (((x.natAbs - 1 : Nat) : Int) + 1) = x.natAbs := by omega
    rw [e1] at h2
    rcases Int.natAbs_eq x with h3 | h3
    · rw [← h3] at h2; exact h2 h0
    · have h4 : (x.natAbs : Int) = -x := by omega
      rw [h4, val_neg hg, h0] at h2
      exact h2 rfl
  rcases hs with ⟨x, hx, h1⟩ | ⟨x, hx, _, _, _, h1, _⟩
  · refine List.any_eq_true.2 ⟨x, hx, ?_⟩
    have h2 := hkn x hx
    have hget : (stateE n es).getD (x.natAbs - 1) false = decide (valE n es (((x.natAbs - 1 : Nat) : Int) + 1) = 1) := by
      unfold stateE
      rw [List.getD_eq_getElem?_getD]
      simp [show x.natAbs - 1 < n by omega]
    have e1 : (((x.natAbs - 1 : Nat) : Int) + 1) = x.natAbs := by omega
    rw [e1] at hget
    unfold satA
    simp only
    rw [hget]
    by_cases h3 : 0 < x
    · rw [if_pos h3, show (x.natAbs : Int) = x by omega, h1]
      rfl
    · rw [if_neg h3, if_pos (by omega), show (x.natAbs : Int) = -x by omega, val_neg hg, h1]
      rfl
  · exact absurd h1 (hnz x hx)

section
variable {n : Nat} {cl0 : List (List Int)} {q : Q}

theorem QInv.came (h : QInv n cl0 q) : Came q.S (propS q.S) := (prop_spec h.inv).1
theorem QInv.known (h : QInv n cl0 q) : ∀ c ∈ q.S.cl, knownS n c = true := by have := h.inv.known; rwa [h.num] at this
theorem QInv.good (h : QInv n cl0 q) : Good n (propS q.S).1.es := by have := h.came.inv.good; rwa [h.came.n, h.num] at this
theorem QInv.ext (h : QInv n cl0 q) : Ext n q.S.cl q.S.es (propS q.S).1.es := by have := h.came.ext; rwa [h.num] at this
theorem QInv.low1 (h : QInv n cl0 q) : ∀ lv, 0 ≤ lv → lv < hi (propS q.S).1.es → ∀ j, j < q.S.cl.length → Settled n (popE lv (propS q.S).1.es) (q.S.cl.getD j []) := fun lv h0 hl j hj => by
  rw [ext_hi h.ext] at hl
  rw [ext_pop h.ext hl]
  exact h.low lv h0 hl j hj

/-- A conflict teaches. -/
theorem conf_ok (h : QInv n cl0 q) (hc : 0 ≤ (propS q.S).2) : (confQ q).2.2.2 = 0 ∧ Follow n (propS q.S).1.es q.S.cl (propS q.S).2 (confQ q) ∧ ((confQ q).2.1 = -1 ∨ Turn n (propS q.S).1.es (confQ q).1 (confQ q).2.1) := by
  have k := h.came
  obtain ⟨c1, c2⟩ := k.conf hc
  rw [h.num] at c2
  have hg := h.good
  have hj := k.inv.just
  rw [k.cl, k.n, h.num] at hj
  have hnn := hi_nonneg hg
  have e : confQ q = learnE n (propS q.S).1.es q.S.cl (propS q.S).2 := by unfold confQ; rw [k.cl, k.n, h.num]
  rw [e]
  have h0 : (learnE n (propS q.S).1.es q.S.cl (propS q.S).2).2.2.2 = 0 := learn_ok hg h.known hj hc c1 c2 fun ht => by
    obtain ⟨x, hx, e, he, h1, h2⟩ := conf_above (hi (propS q.S).1.es - 1) hg c2 (h.low1 _ (by omega) (by omega) _ (by omega))
    exact ⟨x, hx, e, he, h1, by omega⟩
  refine ⟨h0, learn_follows hg h0, ?_⟩
  by_cases hb : (learnE n (propS q.S).1.es q.S.cl (propS q.S).2).2.1 = -1
  · exact .inl hb
  · exact .inr (learn_turn hg h0 hb)

theorem turn_len {es : List En} {c : List Int} {b : Int} (hg : Good n es) (h : Turn n es c b) : c.length ≤ n := by
  have hl := hg.len_le
  have h1 : ∀ i (h : i < c.length), posV es (c[i].natAbs - 1) + i < es.length := by
    intro i
    induction i with
    | zero =>
      intro hi
      obtain ⟨_, _, _, _, h2⟩ := val_false (h.val 0 hi)
      omega
    | succ i ih =>
      intro hi
      have := ih (by omega)
      have := h.row i hi
      omega
  by_cases hc : c.length = 0
  · omega
  · have := h1 (c.length - 1) (by omega)
    omega

theorem back_step (h : QInv n cl0 q) (hc : 0 ≤ (propS q.S).2) (hb : 0 ≤ (confQ q).2.1) :
    (backS (propS q.S).1 (confQ q).2.1).2 = 0 ∧ (backS (propS q.S).1 (confQ q).2.1).1.es = popE (confQ q).2.1 (propS q.S).1.es ∧ (backS (propS q.S).1 (confQ q).2.1).1.cl = q.S.cl ∧ (backS (propS q.S).1 (confQ q).2.1).1.n = n ∧
    (addS (backS (propS q.S).1 (confQ q).2.1).1 (confQ q).1).2 = ((q.S.cl.length : Int), 0) ∧ (addS (backS (propS q.S).1 (confQ q).2.1).1 (confQ q).1).1.es = popE (confQ q).2.1 (propS q.S).1.es ∧
    (addS (backS (propS q.S).1 (confQ q).2.1).1 (confQ q).1).1.cl = q.S.cl ++ [(confQ q).1] ∧ (addS (backS (propS q.S).1 (confQ q).2.1).1 (confQ q).1).1.n = n := by
  obtain ⟨h0, hf, ht⟩ := conf_ok h hc
  have hT : Turn n (propS q.S).1.es (confQ q).1 (confQ q).2.1 := by
    rcases ht with h1 | h1
    · omega
    · exact h1
  have k := h.came
  have hk : knownS n (confQ q).1 = true := by
    unfold knownS
    rw [List.all_eq_true]
    intro x hx
    have := hf.lits x hx
    simpa using this
  have e1 : backS (propS q.S).1 (confQ q).2.1 = ({ (propS q.S).1 with es := popE (confQ q).2.1 (propS q.S).1.es, done := 0, fresh := (propS q.S).1.fresh ++ singles (propS q.S).1.ls }, 0) := by
    unfold backS
    rw [hT.backC, if_pos rfl]
  rw [e1]
  unfold addS
  simp only
  rw [k.n, h.num, if_pos hk, k.cl]
  refine ⟨?_, ?_, ?_, ?_, ?_, ?_, ?_, ?_⟩ <;> trivial

theorem getD_app {α : Type} (a b : List α) (d : α) (j : Nat) : (a ++ b).getD j d = if j < a.length then a.getD j d else b.getD (j - a.length) d := by
  simp only [List.getD_eq_getElem?_getD]
  by_cases h : j < a.length
  · rw [if_pos h, List.getElem?_append_left h]
  · rw [if_neg h, List.getElem?_append_right (by omega)]

theorem Bonds.snoc {cl bonds : List (List Int)} (h : Bonds cl0 cl bonds) (c b : List Int) (hne : b ≠ []) (hr : ∀ x ∈ b, 0 ≤ x ∧ x < (cl.length : Int)) (hf : ∀ A, (∀ x ∈ b, holdsA A (cl.getD x.toNat []) = true) → holdsA A c = true) : Bonds cl0 (cl ++ [c]) (bonds ++ [b]) := by
  have hl := h.len
  have hg : ∀ k, (bonds ++ [b]).getD k [] = if k < bonds.length then bonds.getD k [] else [b].getD (k - bonds.length) [] := fun k => getD_app _ _ _ _
  refine ⟨by simp; omega, fun j hj => ?_, fun k hk => ?_, fun k hk x hx => ?_, fun k hk A hA => ?_⟩
  · rw [getD_app, if_pos (by omega)]
    exact h.pre j hj
  · rw [hg]
    split
    · next h1 => exact h.ne k h1
    · next h1 =>
      have : k - bonds.length = 0 := by simp at hk; omega
      rw [this]
      exact hne
  · rw [hg] at hx
    split at hx
    · next h1 => exact h.range k h1 x hx
    · next h1 =>
      have e : k = bonds.length := by simp at hk; omega
      subst e
      rw [Nat.sub_self] at hx
      have := hr x hx
      omega
  · rw [hg] at hA
    split at hA
    · next h1 =>
      rw [getD_app, if_pos (by omega)]
      refine h.follows k h1 A fun x hx => ?_
      have h2 := hA x hx
      have h3 := h.range k h1 x hx
      rw [getD_app, if_pos (by omega)] at h2
      exact h2
    · next h1 =>
      have e : k = bonds.length := by simp at hk; omega
      subst e
      rw [Nat.sub_self] at hA
      rw [getD_app, if_neg (by omega)]
      have e2 : cl0.length + bonds.length - cl.length = 0 := by omega
      rw [e2]
      refine hf A fun x hx => ?_
      have h2 := hA x hx
      have h3 := hr x hx
      rw [getD_app, if_pos (by omega)] at h2
      exact h2

theorem go_back (h : QInv n cl0 q) (hc : 0 ≤ (propS q.S).2) (hb : 0 ≤ (confQ q).2.1) : QInv n cl0 ⟨(addS (backS (propS q.S).1 (confQ q).2.1).1 (confQ q).1).1, 0, q.steps + 1, q.bonds ++ [(confQ q).2.2.1]⟩ := by
  obtain ⟨h0, hf, ht⟩ := conf_ok h hc
  have hT : Turn n (propS q.S).1.es (confQ q).1 (confQ q).2.1 := by
    rcases ht with h1 | h1
    · omega
    · exact h1
  obtain ⟨b1, b2, b3, b4, b5, b6, b7, b8⟩ := back_step h hc hb
  have hg := h.good
  have k := h.came
  have hbh := hT.backh
  have hinv : WInv (addS (backS (propS q.S).1 (confQ q).2.1).1 (confQ q).1).1 := add_inv (back_inv k.inv _) _
  have hhi : hi (popE (confQ q).2.1 (propS q.S).1.es) = (confQ q).2.1 := hi_pop _ hb hg (by omega)
  have hgp := pop_good (confQ q).2.1 hg
  obtain ⟨c0, hc0⟩ : ∃ c0, (confQ q).1[0]'hT.ne = c0 := ⟨_, rfl⟩
  have hc0m : c0 ∈ (confQ q).1 := hc0 ▸ List.getElem_mem _
  -- the learnt clause stands open
  have hset : ∀ lv, 0 ≤ lv → lv < (confQ q).2.1 → Settled n (popE lv (propS q.S).1.es) (confQ q).1 := fun lv l0 l1 => by
    rcases backFrom_at (n := n) (es := (propS q.S).1.es) (confQ q).1.tail 0 with h1 | ⟨x, hx, h1⟩
    · rw [hT.deep] at h1; omega
    · rw [hT.deep] at h1
      have hxc : x ∈ (confQ q).1 := List.mem_of_mem_tail hx
      have vx : valE n (propS q.S).1.es x = -1 := by
        obtain ⟨i, hi', rfl⟩ := List.getElem_of_mem hxc
        exact hT.val i hi'
      have v0 : valE n (propS q.S).1.es c0 = -1 := hc0 ▸ hT.val 0 hT.ne
      have l2 : (ofE n (propS q.S).1.es ((c0.natAbs : Int) - 1)).level = hi (propS q.S).1.es := hc0 ▸ (hT.lev 0 hT.ne).2 rfl
      obtain ⟨ex, hex, e1, e2⟩ := false_entry hg vx
      obtain ⟨e0, he0, e3, e4⟩ := false_entry hg v0
      refine .inr ⟨c0, hc0m, x, hxc, ?_, ?_, ?_⟩
      · rintro rfl
        omega
      · rw [e3]
        exact pop_gone hg he0 l0 (by omega) (by omega)
      · rw [e1]
        exact pop_gone hg hex l0 (by omega) (by omega)
  have hlen := hf.bonds
  refine ⟨hinv, b8, Nat.zero_le _, fun v hv => absurd hv (Nat.not_lt_zero _), ?_, ?_, ?_, ?_⟩
  · show ∀ lv, 0 ≤ lv → lv < hi (addS (backS (propS q.S).1 (confQ q).2.1).1 (confQ q).1).1.es → ∀ j, j < (addS (backS (propS q.S).1 (confQ q).2.1).1 (confQ q).1).1.cl.length → _
    rw [b6, b7, hhi]
    intro lv l0 l1 j hj
    rw [pop_pop _ _ (by omega), getD_app]
    split
    · next h1 => exact h.low1 lv l0 (by omega) j h1
    · next h1 =>
      have : j - q.S.cl.length = 0 := by simp at hj; omega
      rw [this]
      exact hset lv l0 l1
  · show Bonds cl0 (addS (backS (propS q.S).1 (confQ q).2.1).1 (confQ q).1).1.cl (q.bonds ++ [(confQ q).2.2.1])
    rw [b7]
    refine h.bonds.snoc _ _ ?_ (fun x hx => ?_) hf.follows
    · obtain ⟨r, hr⟩ := hf.head
      rw [hr]; simp
    · have := hlen x hx; omega
  · show ∀ j, cl0.length ≤ j → ((addS (backS (propS q.S).1 (confQ q).2.1).1 (confQ q).1).1.cl.getD j []).length ≤ n
    rw [b7]
    intro j hj
    rw [getD_app]
    split
    · exact h.short j hj
    · by_cases e : j - q.S.cl.length = 0
      · rw [e]; exact turn_len hg hT
      · rw [List.getD_eq_getElem?_getD, List.getElem?_eq_none (by simp; omega)]
        exact Nat.zero_le _
  · show q.steps + 1 ≤ meas n (propS (addS (backS (propS q.S).1 (confQ q).2.1).1 (confQ q).1).1).1.es
    obtain ⟨k2, s2⟩ := prop_spec hinv
    have x2 := k2.ext
    rw [b8, b7, b6] at x2
    have hg2 : Good n (propS (addS (backS (propS q.S).1 (confQ q).2.1).1 (confQ q).1).1).1.es := by have := k2.inv.good; rwa [k2.n, b8] at this
    obtain ⟨xs, d, p1, p2⟩ := pop_first _ hb hg hbh
    have hlow := h.low1 _ hb hbh
    have v0 : valE n (popE (confQ q).2.1 (propS q.S).1.es) c0 = 0 := hc0 ▸ hT.first hT.ne
    rcases ext_first x2 with h1 | ⟨ys, e, h1, h2⟩
    · exfalso
      by_cases hcf : 0 ≤ (propS (addS (backS (propS q.S).1 (confQ q).2.1).1 (confQ q).1).1).2
      · obtain ⟨c1, c2⟩ := k2.conf hcf
        rw [b8, b7, h1] at c2
        rw [b7] at c1
        rw [getD_app] at c2
        split at c2
        · next h3 => exact settled_not_false (hlow _ h3) c2
        · next h3 =>
          have e0 : (propS (addS (backS (propS q.S).1 (confQ q).2.1).1 (confQ q).1).1).2.toNat - q.S.cl.length = 0 := by simp at c1; omega
          rw [e0] at c2
          have := c2 c0 hc0m
          omega
      · have h3 := (s2 (by omega)).2 q.S.cl.length (by rw [b7]; simp)
        rw [b8, b7, h1, getD_app, if_neg (by omega), Nat.sub_self] at h3
        have h4 := (not_settled (c := (confQ q).1) (x := c0) hgp hgp (fun _ h => h) (fun _ => Iff.rfl) (fun y hy hne => by
          obtain ⟨i, hi', rfl⟩ := List.getElem_of_mem hy
          by_cases hi0 : i = 0
          · subst hi0; exact absurd hc0 hne
          · exact hT.rest i hi' (by omega)) h3).2
        omega
    · have l1 := hg.len_le
      have l2 := hg2.len_le
      rw [p1] at l1
      rw [h1] at l2 ⊢
      have h3 := meas_turn n (popE (confQ q).2.1 (propS q.S).1.es) xs ys d e p2 h2 (by simp at l1; omega) (by simp at l2; omega)
      rw [← p1] at h3
      have := h.meas
      omega

theorem done_no (h : QInv n cl0 q) (hc : 0 ≤ (propS q.S).2) (hb : (confQ q).2.1 < 0) : AnsOk n cl0 ⟨false, [], q.steps + 1, q.bonds, (confQ q).2.2.1⟩ := by
  obtain ⟨h0, hf, ht⟩ := conf_ok h hc
  have hb1 : (confQ q).2.1 = -1 := by
    rcases ht with h1 | h1
    · exact h1
    · have := h1.back0; omega
  have hl := h.bonds.len
  have hm := meas_lt n _ h.good.len_le
  have := h.meas
  refine ⟨(fun h => by cases h), fun _ => ⟨rfl, ?_, fun b hb => ?_⟩, by show q.steps + 1 ≤ _; omega, q.S.cl, h.bonds, fun _ A hA => ?_⟩
  · obtain ⟨r, hr⟩ := hf.head
    show (confQ q).2.2.1 ≠ []
    rw [hr]; simp
  · have := hf.bonds b hb
    show 0 ≤ b ∧ b < (cl0.length : Int) + q.bonds.length
    omega
  · have h1 := hf.follows A hA
    rw [hf.none hb1] at h1
    cases h1

theorem var_spec (h : QInv n cl0 q) : varQ q ≤ n ∧ (∀ j, j < varQ q → valE n (propS q.S).1.es ((j : Int) + 1) ≠ 0) ∧ (varQ q < n → valE n (propS q.S).1.es ((varQ q : Int) + 1) = 0) := by
  have k := h.came
  have hfr := h.frn
  have e : varQ q = openFrom n (propS q.S).1.es (n - q.fr) q.fr := by unfold varQ; rw [k.n, h.num]
  have hg0 : Good n q.S.es := by have := h.inv.good; rwa [h.num] at this
  obtain ⟨h1, h2, h3, h4⟩ := open_from (n := n) (es := (propS q.S).1.es) (n - q.fr) q.fr (by omega)
  rw [e]
  refine ⟨h2, fun j hj => ?_, h4⟩
  by_cases hjf : j < q.fr
  · have h5 := h.closed j hjf
    rw [h.ext.keeps h.known hg0 h5]
    exact h5
  · exact h3 j (by omega) hj

theorem dec_step (h : QInv n cl0 q) (hv : varQ q < n) : decS (propS q.S).1 (-((varQ q : Int) + 1)) = ((propS q.S).1.wEs (⟨-((varQ q : Int) + 1), hi (propS q.S).1.es + 1, -1⟩ :: (propS q.S).1.es), 0) ∧ Good n (⟨-((varQ q : Int) + 1), hi (propS q.S).1.es + 1, -1⟩ :: (propS q.S).1.es) := by
  obtain ⟨_, _, h3⟩ := var_spec h
  have h4 := h3 hv
  have k := h.came
  have hg := h.good
  have h5 : valE n (propS q.S).1.es (-((varQ q : Int) + 1)) = 0 := by rw [val_neg hg, h4]; rfl
  obtain ⟨h6, h7⟩ := open_zero h5 ⟨by omega, by omega⟩
  constructor
  · unfold decS decC
    rw [k.n, h.num, h6]
    rfl
  · exact ⟨⟨by show 1 ≤ (-((varQ q : Int) + 1)).natAbs; omega, by show (-((varQ q : Int) + 1)).natAbs ≤ n; omega⟩, h7, .inl ⟨rfl, rfl⟩, hg⟩

theorem go_dec (h : QInv n cl0 q) (hc : (propS q.S).2 < 0) (hv : varQ q < n) : QInv n cl0 ⟨(decS (propS q.S).1 (-((varQ q : Int) + 1))).1, varQ q, q.steps + 1, q.bonds⟩ := by
  obtain ⟨h1, h2, h3⟩ := var_spec h
  obtain ⟨e, hgd⟩ := dec_step h hv
  have k := h.came
  have hg := h.good
  obtain ⟨_, s1⟩ := prop_spec h.inv
  have hset := (s1 hc).2
  rw [h.num] at hset
  have hdi : WInv (decS (propS q.S).1 (-((varQ q : Int) + 1))).1 := dec_inv k.inv _
  rw [e] at hdi ⊢
  have hnn := hi_nonneg hg
  refine ⟨hdi, k.n.trans h.num, h1, fun v hv' => ?_, ?_, ?_, ?_, ?_⟩
  · show valE n (⟨-((varQ q : Int) + 1), hi (propS q.S).1.es + 1, -1⟩ :: (propS q.S).1.es) _ ≠ 0
    have h4 := h2 v hv'
    rw [val_push hgd _ h4]
    exact h4
  · show ∀ lv, 0 ≤ lv → lv < hi (propS q.S).1.es + 1 → ∀ j, j < (propS q.S).1.cl.length → Settled n (popE lv (⟨-((varQ q : Int) + 1), hi (propS q.S).1.es + 1, -1⟩ :: (propS q.S).1.es)) ((propS q.S).1.cl.getD j [])
    rw [k.cl]
    intro lv l0 l1 j hj
    simp only [popE]
    rw [if_pos l1]
    by_cases hl : lv < hi (propS q.S).1.es
    · exact h.low1 lv l0 hl j hj
    · rw [pop_eq lv hg (by omega)]
      exact hset j hj
  · show Bonds cl0 (propS q.S).1.cl q.bonds
    rw [k.cl]
    exact h.bonds
  · show ∀ j, cl0.length ≤ j → ((propS q.S).1.cl.getD j []).length ≤ n
    rw [k.cl]
    exact h.short
  · show q.steps + 1 ≤ meas n (propS ((propS q.S).1.wEs (⟨-((varQ q : Int) + 1), hi (propS q.S).1.es + 1, -1⟩ :: (propS q.S).1.es))).1.es
    obtain ⟨k2, _⟩ := prop_spec hdi
    have x2 := k2.ext
    obtain ⟨ys, hys⟩ := ext_more x2
    have hg2 := k2.inv.good
    rw [k2.n] at hg2
    have l2 := hg2.len_le
    have e3 : (propS ((propS q.S).1.wEs (⟨-((varQ q : Int) + 1), hi (propS q.S).1.es + 1, -1⟩ :: (propS q.S).1.es))).1.es = (ys ++ [⟨-((varQ q : Int) + 1), hi (propS q.S).1.es + 1, -1⟩]) ++ (propS q.S).1.es := by
      rw [hys]
      simp
    have e4 : ((propS q.S).1.wEs (⟨-((varQ q : Int) + 1), hi (propS q.S).1.es + 1, -1⟩ :: (propS q.S).1.es)).n = n := k.n.trans h.num
    rw [e4, e3, List.length_append] at l2
    rw [e3]
    have h5 := meas_more n (propS q.S).1.es (ys ++ [⟨-((varQ q : Int) + 1), hi (propS q.S).1.es + 1, -1⟩]) l2 (by simp)
    have := h.meas
    omega

theorem done_yes (h : QInv n cl0 q) (hc : (propS q.S).2 < 0) (hv : ¬ varQ q < n) : AnsOk n cl0 ⟨true, stateE n (propS q.S).1.es, q.steps, q.bonds, []⟩ := by
  obtain ⟨h1, h2, _⟩ := var_spec h
  have hg := h.good
  obtain ⟨_, s1⟩ := prop_spec h.inv
  have hset := (s1 hc).2
  rw [h.num] at hset
  have hm := meas_lt n _ hg.len_le
  have hms := h.meas
  have hl := h.bonds.len
  refine ⟨fun _ => ⟨by simp [stateE], fun c hc => ?_, rfl, by show q.steps < _; omega⟩, (fun h => by cases h), by show q.steps ≤ _; omega, q.S.cl, h.bonds, (fun h => by cases h)⟩
  obtain ⟨j, hj, rfl⟩ := List.getElem_of_mem hc
  have h3 := h.bonds.pre j hj
  have h4 := hset j (by omega)
  have e : cl0.getD j [] = cl0[j] := by rw [List.getD_eq_getElem?_getD, List.getElem?_eq_getElem hj]; rfl
  have hkn : knownS n (q.S.cl.getD j []) = true := h.known _ (getD_mem (by omega))
  rw [h3, e] at h4 hkn
  exact settled_true hg h4 (fun v hv' => h2 v (by omega)) hkn

/-- One step. -/
theorem next_ok (h : QInv n cl0 q) : (∃ a, nextQ q = .done a ∧ AnsOk n cl0 a ∧ q.steps ≤ a.steps) ∨ ∃ q', nextQ q = .go q' ∧ QInv n cl0 q' ∧ q'.steps = q.steps + 1 := by
  have k := h.came
  unfold nextQ
  by_cases hc : 0 ≤ (propS q.S).2
  · rw [if_pos hc]
    by_cases hb : (confQ q).2.1 < 0
    · rw [if_pos hb]
      exact .inl ⟨_, rfl, done_no h hc hb, by show q.steps ≤ q.steps + 1; omega⟩
    · rw [if_neg hb]
      exact .inr ⟨_, rfl, go_back h hc (by omega), rfl⟩
  · rw [if_neg hc, k.n, h.num]
    by_cases hv : varQ q < n
    · rw [if_pos hv]
      exact .inr ⟨_, rfl, go_dec h (by omega) hv, rfl⟩
    · rw [if_neg hv]
      exact .inl ⟨_, rfl, done_yes h (by omega) hv, Nat.le_refl _⟩

theorem run_ok : ∀ (k : Nat) {q : Q}, QInv n cl0 q → 2 ^ n * (n + 1) < k + q.steps → ∃ a, runQ k q = some a ∧ AnsOk n cl0 a ∧ q.steps ≤ a.steps
  | 0, q, h, hk => by
    have := h.meas
    have := meas_lt n _ h.good.len_le
    omega
  | k + 1, q, h, hk => by
    unfold runQ
    rcases next_ok h with ⟨a, h1, h2, h3⟩ | ⟨q', h1, h2, h3⟩
    · rw [h1]
      exact ⟨a, rfl, h2, h3⟩
    · rw [h1]
      obtain ⟨a, h4, h5, h6⟩ := run_ok k h2 (by omega)
      exact ⟨a, h4, h5, by omega⟩
end

theorem run_more : ∀ {k m : Nat} {q : Q} {a : Ans}, runQ k q = some a → k ≤ m → runQ m q = some a
  | 0, _, _, _, h, _ => by cases h
  | k + 1, 0, _, _, _, h => by omega
  | k + 1, m + 1, q, a, h, hm => by
    unfold runQ at h ⊢
    cases hq : nextQ q with
    | done a' => rw [hq] at h; exact h
    | go q' => rw [hq] at h; exact run_more h (by omega)

/-! ### From the start -/
theorem start_spec (n : Nat) : ∀ (cl : List (List Int)) (S : WS), WInv S → S.n = n → S.es = [] → (∀ c ∈ cl, knownS n c = true) →
    WInv (cl.foldl (fun S c => (addS S c).1) S) ∧ (cl.foldl (fun S c => (addS S c).1) S).n = n ∧ (cl.foldl (fun S c => (addS S c).1) S).es = [] ∧ (cl.foldl (fun S c => (addS S c).1) S).cl = S.cl ++ cl
  | [], S, h, hn, he, _ => ⟨h, hn, he, by simp⟩
  | c :: cl, S, h, hn, he, hk => by
    have hc : knownS S.n c = true := by rw [hn]; exact hk c (List.mem_cons_self ..)
    have h1 := add_inv h c
    have e1 : (addS S c).1.n = n ∧ (addS S c).1.es = [] ∧ (addS S c).1.cl = S.cl ++ [c] := by
      unfold addS
      rw [if_pos hc]
      exact ⟨hn, he, rfl⟩
    obtain ⟨a, b, d, e⟩ := start_spec n cl _ h1 e1.1 e1.2.1 fun c' h' => hk c' (List.mem_cons_of_mem _ h')
    refine ⟨a, b, d, ?_⟩
    rw [List.foldl_cons, e, e1.2.2]
    simp
def startQ (n : Nat) (cl : List (List Int)) : Q := ⟨startS n cl, 0, 0, []⟩
theorem start_inv (n : Nat) (cl : List (List Int)) (hk : ∀ c ∈ cl, knownS n c = true) : QInv n cl (startQ n cl) := by
  obtain ⟨a, b, d, e⟩ := start_spec n cl (newS n) (new_inv n) rfl rfl hk
  have e' : (startS n cl).cl = cl := e
  refine ⟨a, b, Nat.zero_le _, fun v hv => absurd hv (Nat.not_lt_zero _), fun lv l0 l1 => ?_, ?_, fun j hj => ?_, Nat.zero_le _⟩
  · have : (startQ n cl).S.es = [] := d
    rw [this] at l1
    simp only [hi] at l1
    omega
  · show Bonds cl (startS n cl).cl []
    rw [e']
    exact ⟨by simp, fun j _ => rfl, fun k hk => absurd hk (Nat.not_lt_zero _), fun k hk => absurd hk (Nat.not_lt_zero _), fun k hk => absurd hk (Nat.not_lt_zero _)⟩
  · show ((startS n cl).cl.getD j []).length ≤ n
    rw [e', List.getD_eq_getElem?_getD, List.getElem?_eq_none hj]
    exact Nat.zero_le _
/-- The answer. -/
def solveE (n : Nat) (cl : List (List Int)) : Ans := (runQ (2 ^ n * (n + 1) + 1) (startQ n cl)).getD ⟨false, [], 0, [], []⟩
theorem solve_ok (n : Nat) (cl : List (List Int)) (hk : ∀ c ∈ cl, knownS n c = true) : runQ (2 ^ n * (n + 1) + 1) (startQ n cl) = some (solveE n cl) ∧ AnsOk n cl (solveE n cl) := by
  obtain ⟨a, h1, h2, _⟩ := run_ok (2 ^ n * (n + 1) + 1) (start_inv n cl hk) (by show _ < _ + 0; omega)
  unfold solveE
  rw [h1]
  exact ⟨rfl, h2⟩

/-! ### What the answer is worth -/
theorem no_unsat {cl0 cl bonds : List (List Int)} {A : Nat → Bool} (h : Bonds cl0 cl bonds) (P : Nat → Prop) (h0 : ∀ j, j < cl0.length → P j → holdsA A (cl0.getD j []) = true) (hP : ∀ k, k < bonds.length → P (cl0.length + k) → ∀ b ∈ bonds.getD k [], P b.toNat) : ∀ j, j < cl.length → P j → holdsA A (cl.getD j []) = true := by
  intro j
  induction j using Nat.strongRecOn with
  | _ j ih =>
    intro hj hp
    by_cases h1 : j < cl0.length
    · rw [h.pre j h1]; exact h0 j h1 hp
    · obtain ⟨k, rfl⟩ : ∃ k, j = cl0.length + k := ⟨j - cl0.length, by omega⟩
      have hl := h.len
      have hk : k < bonds.length := by omega
      refine h.follows k hk A fun b hb => ?_
      have h2 := h.range k hk b hb
      exact ih b.toNat (by omega) (by omega) (hP k hk hp b hb)
theorem AnsOk.sat {n : Nat} {cl0 : List (List Int)} {a : Ans} (h : AnsOk n cl0 a) : a.yes = true ↔ ∃ A, ∀ c ∈ cl0, holdsA A c = true := by
  constructor
  · intro hy
    exact ⟨_, (h.yes hy).2.1⟩
  · rintro ⟨A, hA⟩
    cases hy : a.yes with
    | true => rfl
    | false =>
      exfalso
      obtain ⟨cl, hb, hno⟩ := h.bonds
      obtain ⟨_, _, hr⟩ := h.no hy
      refine hno hy A fun b hb' => ?_
      have h1 := hr b hb'
      have hl := hb.len
      exact no_unsat hb (fun _ => True) (fun j hj _ => hA _ (getD_mem hj)) (fun _ _ _ _ _ => trivial) b.toNat (by omega) trivial

end Go.Proofs.Ythinopiobihmaaa
