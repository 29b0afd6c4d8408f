/- Plain laws of what is taught: where it stands, and what becomes of it behind Back. -/
import Derived.Test.YthfmlmodpcikcaaU9
namespace Go.Proofs.Ythfmlmodpcikcaa
open Go.ChangeShapes Go.WideShapes Go.ChangeAt Go.RowKit Go.Maps
set_option maxRecDepth 100000

theorem level_mono {n : Nat} : ∀ {es : List En}, Good n es → ∀ {j j' : Nat} {e e' : En}, es.reverse[j]? = some e → es.reverse[j']? = some e' → j ≤ j' → e.level ≤ e'.level
  | [], _, j, j', e, e', h, _, _ => by simp at h
  | a :: es, hg, j, j', e, e', h, h', hj => by
    have hl : j' < (a :: es).reverse.length := (List.getElem?_eq_some_iff.1 h').1
    simp at hl
    have h1 := hg.2.2.1
    rw [List.reverse_cons] at h h'
    by_cases hj' : j' < es.length
    · rw [List.getElem?_append_left (by simpa using (by omega : j < es.length))] at h
      rw [List.getElem?_append_left (by simpa using hj')] at h'
      exact level_mono hg.2.2.2 h h' hj
    · have e1 : j' = es.length := by omega
      subst e1
      rw [List.getElem?_append_right (by simp)] at h'
      simp at h'
      subst h'
      by_cases hjl : j < es.length
      · rw [List.getElem?_append_left (by simpa using hjl)] at h
        have h2 := (level_le hg.2.2.2 e (List.mem_reverse.1 (List.mem_of_getElem? h))).2
        omega
      · have e2 : j = es.length := by omega
        subst e2
        rw [List.getElem?_append_right (by simp)] at h
        simp at h
        subst h
        exact Int.le_refl _

theorem pos_of {n : Nat} : ∀ {es : List En}, Good n es → ∀ {j : Nat} {e : En}, es.reverse[j]? = some e → posV es (e.lit.natAbs - 1) = j
  | [], _, j, e, h => by simp at h
  | a :: es, hg, j, e, h => by
    have hl : j < (a :: es).reverse.length := (List.getElem?_eq_some_iff.1 h).1
    simp at hl
    have h1 := hg.1.1
    rw [List.reverse_cons] at h
    rw [posV_cons]
    by_cases hjl : j < es.length
    · rw [List.getElem?_append_left (by simpa using hjl)] at h
      have he : e ∈ es := List.mem_reverse.1 (List.mem_of_getElem? h)
      have h2 := look_none hg.2.1 e he
      have h3 := (hg.2.2.2.lit e he).1
      rw [if_neg (by omega)]
      exact pos_of hg.2.2.2 h
    · have e2 : j = es.length := by omega
      subst e2
      rw [List.getElem?_append_right (by simp)] at h
      simp at h
      subst h
      rw [if_pos (by omega)]

theorem cntB_one {d : Nat → Bool} : ∀ {len : Nat}, cntB len d ≤ 1 → ∀ {i j : Nat}, i < len → j < len → d i = true → d j = true → i = j
  | 0, _, i, j, hi, _, _, _ => by omega
  | k + 1, h, i, j, hi, hj, di, dj => by
    simp only [cntB] at h
    by_cases hk : d k = true
    · rw [if_pos hk] at h
      have h0 := cntB_zero (d := d) (len := k) (by omega)
      by_cases hik : i < k
      · have := h0 i hik; rw [di] at this; cases this
      · by_cases hjk : j < k
        · have := h0 j hjk; rw [dj] at this; cases this
        · omega
    · rw [if_neg hk] at h
      have hik : i ≠ k := by rintro rfl; exact hk di
      have hjk : j ≠ k := by rintro rfl; exact hk dj
      exact cntB_one (by omega) (by omega) (by omega) di dj

/-- The places that are held below k, the latest first. -/
def posTo (hp : Nat → Bool) : Nat → List Nat
  | 0 => []
  | k + 1 => if hp k then k :: posTo hp k else posTo hp k
theorem clauseTo_pos (es : List En) (hp : Nat → Bool) : ∀ k, clauseTo es hp k = (posTo hp k).map fun (j : Nat) => -atE es (j : Int)
  | 0 => rfl
  | k + 1 => by
    simp only [clauseTo, posTo]
    split
    · rw [List.map_cons, clauseTo_pos es hp k]
    · exact clauseTo_pos es hp k
theorem posTo_mem {hp : Nat → Bool} : ∀ {k j : Nat}, j ∈ posTo hp k ↔ j < k ∧ hp j = true
  | 0, j => by simp [posTo]
  | k + 1, j => by
    have ih := posTo_mem (hp := hp) (k := k) (j := j)
    simp only [posTo]
    by_cases hk : hp k = true
    · rw [if_pos hk, List.mem_cons, ih]
      constructor
      · rintro (rfl | ⟨h1, h2⟩)
        · exact ⟨by omega, hk⟩
        · exact ⟨by omega, h2⟩
      · rintro ⟨h1, h2⟩
        by_cases hjk : j = k
        · exact .inl hjk
        · exact .inr ⟨by omega, h2⟩
    · rw [if_neg hk, ih]
      constructor
      · rintro ⟨h1, h2⟩; exact ⟨by omega, h2⟩
      · rintro ⟨h1, h2⟩
        refine ⟨?_, h2⟩
        have : j ≠ k := by rintro rfl; exact hk h2
        omega
theorem posTo_row {hp : Nat → Bool} : ∀ k, (posTo hp k).Pairwise (· > ·)
  | 0 => List.Pairwise.nil
  | k + 1 => by
    simp only [posTo]
    split
    · refine List.Pairwise.cons (fun j hj => ?_) (posTo_row k)
      have := (posTo_mem.1 hj).1
      omega
    · exact posTo_row k

theorem backFrom_le {n : Nat} {es : List En} : ∀ (l : List Int) (b : Int), ∀ x ∈ l, (ofE n es ((x.natAbs : Int) - 1)).level ≤ backFrom n es b l
  | [], _, x, hx => by cases hx
  | y :: l, b, x, hx => by
    unfold backFrom
    rcases List.mem_cons.1 hx with rfl | hx
    · have := backFrom_ge (n := n) (es := es) l (max b (ofE n es ((x.natAbs : Int) - 1)).level)
      omega
    · exact backFrom_le l _ x hx
theorem backFrom_lt {n : Nat} {es : List En} {H : Int} : ∀ (l : List Int) (b : Int), b < H → (∀ x ∈ l, (ofE n es ((x.natAbs : Int) - 1)).level < H) → backFrom n es b l < H
  | [], _, h, _ => h
  | y :: l, b, h, hx => by
    unfold backFrom
    have := hx y (List.mem_cons_self ..)
    exact backFrom_lt l _ (by omega) fun x hm => hx x (List.mem_cons_of_mem _ hm)

theorem cut_high (lv : Int) : ∀ (es : List En), ∀ e ∈ cutE lv es, lv < e.level
  | [], e, he => by cases he
  | a :: es, e, he => by
    simp only [cutE] at he
    split at he
    · next h =>
      rcases List.mem_cons.1 he with rfl | he
      · exact h
      · exact cut_high lv es e he
    · cases he

theorem pop_keeps {n : Nat} {es : List En} {e : En} {b : Int} (hg : Good n es) (he : e ∈ es) (hl : e.level ≤ b) : valE n (popE b es) (-e.lit) = -1 := by
  have h1 : e ∈ popE b es := by
    have h2 := he
    rw [← cut_pop b es] at h2
    rcases List.mem_append.1 h2 with h2 | h2
    · have := cut_high b es e h2; omega
    · exact h2
  have h3 := look_mem (pop_good b hg) e h1
  have h4 := hg.lit e he
  unfold Lit at h4
  have e1 : (-e.lit).natAbs = e.lit.natAbs := by omega
  unfold valE
  rw [e1, if_pos h4, h3]
  simp only
  rw [if_neg (by omega)]
theorem pop_gone {n : Nat} {es : List En} {e : En} {b : Int} (hg : Good n es) (he : e ∈ es) (h0 : 0 ≤ b) (hb : b ≤ hi es) (hl : b < e.level) : valE n (popE b es) (-e.lit) = 0 := by
  have e1 : (-e.lit).natAbs = e.lit.natAbs := by omega
  have h1 : look (popE b es) (e.lit.natAbs - 1) = none := by
    cases hk : look (popE b es) (e.lit.natAbs - 1) with
    | none => rfl
    | some e' =>
      obtain ⟨h2, h3⟩ := look_some hk
      have h4 := (level_le (pop_good b hg) e' h2).2
      rw [hi_pop b h0 hg hb] at h4
      have h5 : e' ∈ es := by rw [← cut_pop b es]; exact List.mem_append_right _ h2
      have h6 := look_mem hg e' h5
      have h7 := look_mem hg e he
      have e2 : e'.lit.natAbs - 1 = e.lit.natAbs - 1 := by omega
      rw [e2, h7] at h6
      cases h6
      omega
  unfold valE
  rw [e1]
  split
  · rw [h1]
  · rfl

/-- What holds of a clause that is taught above level 0. -/
structure Turn (n : Nat) (es : List En) (c : List Int) (back : Int) : Prop where
  ne : 0 < c.length
  back0 : 0 ≤ back
  backh : back < hi es
  lit : ∀ i (h : i < c.length), 1 ≤ c[i].natAbs ∧ c[i].natAbs ≤ n
  val : ∀ i (h : i < c.length), valE n es c[i] = -1
  lev : ∀ i (h : i < c.length), ((ofE n es ((c[i].natAbs : Int) - 1)).level = hi es ↔ i = 0)
  row : ∀ i (h : i + 1 < c.length), posV es (c[i + 1].natAbs - 1) < posV es (c[i].natAbs - 1)
  deep : backFrom n es 0 c.tail = back
  backC : backC es back = (0, popE back es)
  first : ∀ h : 0 < c.length, valE n (popE back es) c[0] = 0
  rest : ∀ i (h : i < c.length), 0 < i → valE n (popE back es) c[i] = -1

theorem turn_of {n : Nat} {es : List En} {hp : Nat → Bool} (hg : Good n es) (h1 : cntB es.length (fun j => hp j && topB n es j) = 1) (h0 : 0 < hi es) : Turn n es (clauseOf es hp) (backFrom n es 0 (clauseOf es hp).tail) := by
  have hc : clauseOf es hp = (posTo hp es.length).map fun (j : Nat) => -atE es (j : Int) := clauseTo_pos es hp _
  have hrow := posTo_row (hp := hp) es.length
  have hmem : ∀ j, j ∈ posTo hp es.length ↔ j < es.length ∧ hp j = true := fun j => posTo_mem
  generalize posTo hp es.length = P at *
  -- each entry
  have hent : ∀ i (h : i < P.length), ∃ e ∈ es, es.reverse[P[i]]? = some e ∧ -atE es (P[i] : Int) = -e.lit := fun i h => by
    obtain ⟨e, he, h2, h3⟩ := at_mem ((hmem P[i]).1 (List.getElem_mem h)).1
    exact ⟨e, he, h3, by rw [h2]⟩
  have hlev : ∀ j e, es.reverse[j]? = some e → topB n es j = decide (e.level = hi es) := fun j e h => by
    unfold topB
    rw [(level_at hg h).1]
  have hlevc : ∀ e ∈ es, (ofE n es (((-e.lit).natAbs : Int) - 1)).level = e.level := fun e he => by
    have h2 := (on_trail hg he).2
    have h3 := (hg.lit e he).1
    have e1 : (((-e.lit).natAbs : Int) - 1) = ((e.lit.natAbs - 1 : Nat) : Int) := by omega
    rw [e1, h2]
  -- the first is the one of the highest level
  obtain ⟨t, htl, htd⟩ := cntB_pos (by omega : 0 < cntB es.length (fun j => hp j && topB n es j))
  have htd' := htd
  simp only [Bool.and_eq_true] at htd'
  have htP := (hmem t).2 ⟨htl, htd'.1⟩
  have hne : 0 < P.length := List.length_pos_of_mem htP
  have hfirst : ∀ j ∈ P, j ≤ P[0] := fun j hj => by
    obtain ⟨i, hi, rfl⟩ := List.getElem_of_mem hj
    by_cases hi0 : i = 0
    · subst hi0; exact Nat.le_refl _
    · have := List.pairwise_iff_getElem.1 hrow 0 i hne hi (by omega)
      omega
  have htop0 : topB n es P[0] = true := by
    obtain ⟨e0, he0, hr0, _⟩ := hent 0 hne
    obtain ⟨et, _, _, hrt⟩ := at_mem htl
    have h2 := level_mono hg hrt hr0 (hfirst t htP)
    have h3 := htd'.2
    rw [hlev t et hrt] at h3
    simp only [decide_eq_true_eq] at h3
    have h4 := (level_le hg e0 he0).2
    rw [hlev _ e0 hr0]
    simp only [decide_eq_true_eq]
    omega
  have hp0 : hp P[0] = true := ((hmem _).1 (List.getElem_mem hne)).2
  have hlen : (clauseOf es hp).length = P.length := by rw [hc, List.length_map]
  have hget : ∀ i (h : i < (clauseOf es hp).length), (clauseOf es hp)[i] = -atE es ((P[i]'(by omega) : Nat) : Int) := fun i h => by simp only [hc, List.getElem_map]
  have hcent : ∀ i (h : i < (clauseOf es hp).length), ∃ e ∈ es, es.reverse[P[i]'(by omega)]? = some e ∧ (clauseOf es hp)[i] = -e.lit := fun i h => by
    obtain ⟨e, he, h2, h3⟩ := hent i (by omega)
    exact ⟨e, he, h2, by rw [hget i h, h3]⟩
  have hlevi : ∀ i (h : i < (clauseOf es hp).length), ((ofE n es (((clauseOf es hp)[i].natAbs : Int) - 1)).level = hi es ↔ i = 0) := fun i h => by
    obtain ⟨e, he, h2, h3⟩ := hcent i h
    rw [h3, hlevc e he]
    have h4 := hlev _ e h2
    constructor
    · intro hh
      have h5 : topB n es (P[i]'(by omega)) = true := by rw [h4]; simpa using hh
      have h6 : hp (P[i]'(by omega)) = true := ((hmem _).1 (List.getElem_mem (by omega))).2
      have h7 := cntB_one (d := fun j => hp j && topB n es j) (len := es.length) (by omega) ((hmem _).1 (List.getElem_mem hne)).1 ((hmem _).1 (List.getElem_mem (by omega : i < P.length))).1 (by simp [hp0, htop0]) (by simp [h5, h6])
      by_cases hi0 : i = 0
      · exact hi0
      · have := List.pairwise_iff_getElem.1 hrow 0 i hne (by omega) (by omega)
        omega
    · rintro rfl
      rw [htop0] at h4
      simpa using h4.symm
  have hlow : ∀ x ∈ (clauseOf es hp).tail, (ofE n es ((x.natAbs : Int) - 1)).level < hi es := fun x hx => by
    obtain ⟨i, hi', rfl⟩ := List.getElem_of_mem hx
    rw [List.length_tail] at hi'
    rw [List.getElem_tail]
    have h2 := hlevi (i + 1) (by omega)
    obtain ⟨e, he, h3, h4⟩ := hcent (i + 1) (by omega)
    have h5 := (level_le hg e he).2
    rw [h4, hlevc e he] at h2 ⊢
    have h6 : ¬ e.level = hi es := fun hh => absurd (h2.1 hh) (by omega)
    omega
  have hb0 := backFrom_ge (n := n) (es := es) (clauseOf es hp).tail 0
  have hbh := backFrom_lt (clauseOf es hp).tail 0 h0 hlow
  refine ⟨by omega, hb0, hbh, fun i h => ?_, fun i h => ?_, hlevi, fun i h => ?_, rfl, ?_, fun h => ?_, fun i h hi0 => ?_⟩
  · obtain ⟨e, he, _, h3⟩ := hcent i h
    have := hg.lit e he
    unfold Lit at this
    rw [h3]
    omega
  · obtain ⟨e, he, _, h3⟩ := hcent i h
    rw [h3]
    have h4 := hg.lit e he
    unfold Lit at h4
    have e1 : (-e.lit).natAbs = e.lit.natAbs := by omega
    unfold valE
    rw [e1, if_pos h4, look_mem hg e he]
    simp only
    rw [if_neg (by omega)]
  · obtain ⟨e, he, h2, h3⟩ := hcent i (by omega)
    obtain ⟨e', he', h2', h3'⟩ := hcent (i + 1) h
    have e1 : (-e.lit).natAbs = e.lit.natAbs := by omega
    have e2 : (-e'.lit).natAbs = e'.lit.natAbs := by omega
    rw [h3, h3', e1, e2, pos_of hg h2, pos_of hg h2']
    exact List.pairwise_iff_getElem.1 hrow i (i + 1) (by omega) (by omega) (by omega)
  · unfold Go.Proofs.Ythfmlmodpcikcaa.backC
    rw [if_neg (by omega)]
  · obtain ⟨e, he, h2, h3⟩ := hcent 0 h
    rw [h3]
    have h4 := (hlevi 0 h).2 rfl
    rw [h3, hlevc e he] at h4
    exact pop_gone hg he hb0 (by omega) (by omega)
  · obtain ⟨e, he, h2, h3⟩ := hcent i h
    rw [h3]
    refine pop_keeps hg he ?_
    have hx : (clauseOf es hp)[i] ∈ (clauseOf es hp).tail := by
      have hi1 : i - 1 < (clauseOf es hp).tail.length := by rw [List.length_tail]; omega
      have := List.getElem_mem hi1
      rw [List.getElem_tail] at this
      have e3 : i - 1 + 1 = i := by omega
      simpa only [e3] using this
    have h5 := backFrom_le (n := n) (es := es) (clauseOf es hp).tail 0 _ hx
    rw [h3, hlevc e he] at h5
    exact h5

theorem loop_turn {n : Nat} {es : List En} {cls : List (List Int)} (hg : Good n es) : ∀ (k : Nat) (hp : Nat → Bool) (bs : List Int), (loopL n es cls k hp bs).2.2.2 = 0 → (loopL n es cls k hp bs).2.1 ≠ -1 → Turn n es (loopL n es cls k hp bs).1 (loopL n es cls k hp bs).2.1
  | 0, _, _, h, _ => by simp [loopL] at h
  | k + 1, hp, bs, h, hb => by
    unfold loopL at h hb ⊢
    split at h
    · next c1 => rw [if_pos c1] at hb; exact absurd rfl hb
    next c1 =>
    rw [if_neg c1] at hb ⊢
    split at h
    · next c2 => rw [if_pos c2]; exact turn_of hg c2.1 c2.2
    next c2 =>
    rw [if_neg c2] at hb ⊢
    simp only at h hb ⊢
    split at h
    · cases h
    next c3 =>
    rw [if_neg c3] at hb ⊢
    split at h
    · next c4 => rw [if_pos c4] at hb ⊢; exact loop_turn hg k _ _ h hb
    · next c4 => exact absurd h c4

theorem learn_turn {n : Nat} {es : List En} {cls : List (List Int)} {conflict : Int} (hg : Good n es) (h : (learnE n es cls conflict).2.2.2 = 0) (hb : (learnE n es cls conflict).2.1 ≠ -1) : Turn n es (learnE n es cls conflict).1 (learnE n es cls conflict).2.1 := by
  unfold learnE at h hb ⊢
  split at h
  · cases h
  next c1 =>
  rw [if_neg c1] at hb ⊢
  simp only at h hb ⊢
  split at h
  · next c2 =>
    rw [if_pos c2] at hb ⊢
    split at h
    · cases h
    · next c3 => rw [if_neg c3] at hb ⊢; exact loop_turn hg _ _ _ h hb
  · next c2 => exact absurd h c2

end Go.Proofs.Ythfmlmodpcikcaa
