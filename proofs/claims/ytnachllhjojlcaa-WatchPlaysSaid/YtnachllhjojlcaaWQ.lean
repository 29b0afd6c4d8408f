/- Watchers as data: lists that are turned about; which literals are chosen. -/
import Derived.Test.YtnachllhjojlcaaWP
namespace Go.Proofs.Ytnachllhjojlcaa
set_option maxRecDepth 100000

/-! ### Two that change places -/
theorem swapL_len (l : List Int) (i k : Nat) : (swapL l i k).length = l.length := by simp [swapL]
theorem swapL_perm {l : List Int} {i k : Nat} (hi : i < l.length) (hk : k < l.length) : (swapL l i k).Perm l := by
  have h := Array.swap_perm (xs := l.toArray) (i := i) (j := k) (by simpa using hi) (by simpa using hk)
  have h2 := h.toList
  rw [Array.toList_swap] at h2
  simp only [List.getElem_toArray] at h2
  unfold swapL
  rw [List.getD_eq_getElem?_getD, List.getD_eq_getElem?_getD, List.getElem?_eq_getElem hi, List.getElem?_eq_getElem hk]
  exact h2
theorem swapL_get {l : List Int} {i k : Nat} (hi : i < l.length) (hk : k < l.length) (j : Nat) : (swapL l i k).getD j 0 = if j = k then l.getD i 0 else if j = i then l.getD k 0 else l.getD j 0 := by
  unfold swapL
  simp only [List.getD_eq_getElem?_getD]
  by_cases h1 : j = k
  · subst h1
    rw [if_pos rfl, List.getElem?_set_self (by simpa using hk)]
    rfl
  · rw [if_neg h1, List.getElem?_set_ne (fun e => h1 e.symm)]
    by_cases h2 : j = i
    · subst h2
      rw [if_pos rfl, List.getElem?_set_self hi]
      rfl
    · rw [if_neg h2, List.getElem?_set_ne (fun e => h2 e.symm)]

theorem inner_spec (r : Int → Int) (i : Nat) (l : List Int) (hi : i < l.length) : ∀ m, i + 1 + m ≤ l.length →
    (innerC r i l (List.range' (i + 1) m)).Perm l ∧ (∀ j, j < i → (innerC r i l (List.range' (i + 1) m)).getD j 0 = l.getD j 0) ∧
      ∀ k, i ≤ k → k < i + 1 + m → r ((innerC r i l (List.range' (i + 1) m)).getD k 0) ≤ r ((innerC r i l (List.range' (i + 1) m)).getD i 0)
  | 0, _ => ⟨List.Perm.refl _, fun _ _ => rfl, fun k h1 h2 => by
      obtain rfl : k = i := by omega
      exact Int.le_refl _⟩
  | m + 1, h => by
    obtain ⟨h1, h2, h3⟩ := inner_spec r i l hi m (by omega)
    have hs : innerC r i l (List.range' (i + 1) (m + 1)) = if r ((innerC r i l (List.range' (i + 1) m)).getD i 0) < r ((innerC r i l (List.range' (i + 1) m)).getD (i + 1 + m) 0) then swapL (innerC r i l (List.range' (i + 1) m)) i (i + 1 + m) else innerC r i l (List.range' (i + 1) m) := by
      unfold innerC
      rw [List.range'_1_concat, List.foldl_append]
      rfl
    rw [hs]
    generalize innerC r i l (List.range' (i + 1) m) = q at *
    have hq := h1.length_eq
    have hi' : i < q.length := by omega
    have hk' : i + 1 + m < q.length := by omega
    split
    · next hlt =>
      refine ⟨(swapL_perm hi' hk').trans h1, fun j hj => ?_, fun k k1 k2 => ?_⟩
      · rw [swapL_get hi' hk', if_neg (by omega), if_neg (by omega), h2 j hj]
      · rw [swapL_get hi' hk' i, if_neg (by omega), if_pos rfl, swapL_get hi' hk' k]
        split
        · omega
        · split
          · exact Int.le_refl _
          · have := h3 k k1 (by omega)
            omega
    · next hlt =>
      refine ⟨h1, h2, fun k k1 k2 => ?_⟩
      by_cases hk : k = i + 1 + m
      · subst hk
        omega
      · exact h3 k k1 (by omega)

theorem best_spec (r : Int → Int) (l : List Int) (i : Nat) (hi : i < l.length) :
    (bestC r l i).Perm l ∧ (∀ j, j < i → (bestC r l i).getD j 0 = l.getD j 0) ∧ ∀ k, i ≤ k → k < l.length → r ((bestC r l i).getD k 0) ≤ r ((bestC r l i).getD i 0) := by
  obtain ⟨h1, h2, h3⟩ := inner_spec r i l hi (l.length - (i + 1)) (by omega)
  exact ⟨h1, h2, fun k k1 k2 => h3 k k1 (by omega)⟩

theorem updF_same (f : Int → List Nat) (x : Int) (v : List Nat) : updF f x v x = v := by simp [updF]
theorem updF_ne (f : Int → List Nat) {x y : Int} (v : List Nat) (h : y ≠ x) : updF f x v y = f y := by simp [updF, h]
theorem updF_self (f : Int → List Nat) (x : Int) : updF f x (f x) = f := by
  funext y
  unfold updF
  split
  · next h => rw [h]
  · rfl
theorem updF_comm (f : Int → List Nat) {x y : Int} (u v : List Nat) (h : x ≠ y) : updF (updF f x u) y v = updF (updF f y v) x u := by
  funext z
  unfold updF
  by_cases h1 : z = y
  · subst h1
    rw [if_pos rfl, if_neg (fun e => h e.symm), if_pos rfl]
  · rw [if_neg h1, if_neg h1]

/-- What choose does. -/
theorem choose_spec (r : Int → Int) (c : Nat) (l : List Int) (b : Int → List Nat) (hn : l.Nodup) :
    (chooseE r c l b).1.Perm l ∧ (∀ x j, j ∈ (chooseE r c l b).2 x ↔ j ∈ b x ∨ (j = c ∧ x ∈ (chooseE r c l b).1.take 2)) ∧
      ((∀ x, (b x).Nodup ∧ c ∉ b x) → ∀ x, ((chooseE r c l b).2 x).Nodup) ∧
      ∀ a b' q, (chooseE r c l b).1 = a :: b' :: q → (∀ x ∈ b' :: q, r x ≤ r a) ∧ ∀ x ∈ q, r x ≤ r b' := by
  rcases Nat.lt_or_ge 0 l.length with h0 | h0
  · by_cases h1 : 1 < l.length
    · have hm : min 2 l.length = 2 := by omega
      have e : chooseE r c l b = chStep r c (chStep r c (l, b) 0) 1 := by
        unfold chooseE
        rw [hm]
        rfl
      rw [e]
      obtain ⟨p1, _, p3⟩ := best_spec r l 0 h0
      have hl1 := p1.length_eq
      obtain ⟨q1, q2, q3⟩ := best_spec r (bestC r l 0) 1 (by omega)
      have hl2 := q1.length_eq
      have pp := q1.trans p1
      have hnd : (bestC r (bestC r l 0) 1).Nodup := pp.nodup_iff.2 hn
      unfold chStep
      simp only
      generalize hL1 : bestC r l 0 = l1 at *
      generalize hL2 : bestC r l1 1 = l2 at *
      have h00 := q2 0 (by omega)
      match l2, hl2, hnd, pp, q1, q2, q3, h00 with
      | [], hl2, _, _, _, _, _, _ => simp at hl2; omega
      | [_], hl2, _, _, _, _, _, _ => simp at hl2; omega
      | x :: y :: t, hl2, hnd, pp, q1, q2, q3, h00 =>
        have hxy : x ≠ y := by
          have := (List.nodup_cons.1 hnd).1
          intro h
          exact this (h ▸ List.mem_cons_self ..)
        have e0 : l1.getD 0 0 = x := by simpa using h00.symm
        have e1 : (x :: y :: t).getD 1 0 = y := rfl
        rw [e0, e1]
        refine ⟨pp, fun z j => ?_, fun hb z => ?_, fun a b' q heq => ?_⟩
        · unfold updF
          simp only [List.take_succ_cons, List.take_zero, List.mem_cons, List.not_mem_nil, or_false]
          by_cases hz1 : z = y
          · subst hz1
            rw [if_pos rfl, if_neg (fun e => hxy e.symm)]
            simp [List.mem_append]
          · rw [if_neg hz1]
            by_cases hz2 : z = x
            · subst hz2
              rw [if_pos rfl]
              simp [List.mem_append]
            · rw [if_neg hz2]
              simp [hz1, hz2]
        · unfold updF
          by_cases hz1 : z = y
          · subst hz1
            rw [if_pos rfl, if_neg (fun e => hxy e.symm)]
            rw [List.nodup_append]
            exact ⟨(hb z).1, by simp, fun a ha b hb2 => by simp at hb2; subst hb2; rintro rfl; exact (hb z).2 ha⟩
          · rw [if_neg hz1]
            by_cases hz2 : z = x
            · subst hz2
              rw [if_pos rfl, List.nodup_append]
              exact ⟨(hb z).1, by simp, fun a ha b hb2 => by simp at hb2; subst hb2; rintro rfl; exact (hb z).2 ha⟩
            · rw [if_neg hz2]
              exact (hb z).1
        · simp only [List.cons.injEq] at heq
          obtain ⟨rfl, rfl, rfl⟩ := heq
          constructor
          · intro z hz
            have hz1 : z ∈ l1 := q1.mem_iff.1 (List.mem_cons_of_mem _ hz)
            obtain ⟨k, hk, rfl⟩ := List.getElem_of_mem hz1
            have := p3 k (by omega) (by omega)
            rw [e0, List.getD_eq_getElem?_getD, List.getElem?_eq_getElem hk] at this
            exact this
          · intro z hz
            obtain ⟨k, hk, rfl⟩ := List.getElem_of_mem hz
            have := q3 (k + 2) (by omega) (by simp at hl2; omega)
            rw [e1] at this
            have e2 : (x :: y :: t).getD (k + 2) 0 = t[k] := by simp [hk]
            rw [e2] at this
            exact this
    · match l, h0, h1, hn with
      | [x], _, _, _ =>
        have e : chooseE r c [x] b = ([x], updF b x (b x ++ [c])) := rfl
        rw [e]
        refine ⟨List.Perm.refl _, fun z j => ?_, fun hb z => ?_, fun a b' q heq => ?_⟩
        · unfold updF
          by_cases hz : z = x
          · subst hz
            simp [List.mem_append]
          · simp [hz]
        · unfold updF
          by_cases hz : z = x
          · subst hz
            simp only [if_true]
            rw [List.nodup_append]
            exact ⟨(hb z).1, by simp, fun a ha b hb2 => by simp at hb2; subst hb2; rintro rfl; exact (hb z).2 ha⟩
          · simp only [if_neg hz]
            exact (hb z).1
        · simp at heq
      | _ :: _ :: _, _, h1, _ => simp at h1
  · have hl : l = [] := List.eq_nil_of_length_eq_zero (by omega)
    subst hl
    have e : chooseE r c [] b = ([], b) := rfl
    rw [e]
    exact ⟨List.Perm.refl _, fun z j => by simp, fun hb z => (hb z).1, fun a b' q heq => by simp at heq⟩

/-! ### Literals, each once -/
theorem ded_go (l : List Int) : ∀ (a : List Int), a.Nodup → (l.foldl (fun a x => if a.any (fun y => y == x) then a else a ++ [x]) a).Nodup ∧ ∀ x, x ∈ l.foldl (fun a x => if a.any (fun y => y == x) then a else a ++ [x]) a ↔ x ∈ a ∨ x ∈ l := by
  induction l with
  | nil => intro a h; exact ⟨h, fun x => by simp⟩
  | cons y l ih =>
    intro a h
    simp only [List.foldl_cons]
    by_cases hy : (a.any fun z => z == y) = true
    · rw [if_pos hy]
      obtain ⟨h1, h2⟩ := ih a h
      refine ⟨h1, fun x => ?_⟩
      rw [h2, List.mem_cons]
      obtain ⟨z, hz, hzy⟩ := List.any_eq_true.1 hy
      have : z = y := by simpa using hzy
      subst this
      constructor
      · rintro (h | h)
        · exact .inl h
        · exact .inr (.inr h)
      · rintro (h | rfl | h)
        · exact .inl h
        · exact .inl hz
        · exact .inr h
    · rw [if_neg hy]
      have hny : y ∉ a := fun hm => hy (List.any_eq_true.2 ⟨y, hm, by simp⟩)
      obtain ⟨h1, h2⟩ := ih (a ++ [y]) (by
        rw [List.nodup_append]
        exact ⟨h, by simp, fun p hp q hq => by simp at hq; subst hq; rintro rfl; exact hny hp⟩)
      refine ⟨h1, fun x => ?_⟩
      rw [h2]
      simp only [List.mem_append, List.mem_cons, List.not_mem_nil, or_false, or_assoc]
theorem ded_nodup (l : List Int) : (dedL l).Nodup := (ded_go l [] List.nodup_nil).1
theorem ded_mem (l : List Int) (x : Int) : x ∈ dedL l ↔ x ∈ l := by
  have := (ded_go l [] List.nodup_nil).2 x
  simpa [dedL] using this

theorem firstAt_spec (f : Int → Bool) : ∀ (l : List Int) (k : Nat), (firstAt f l k = -1 ∧ ∀ x ∈ l, f x = false) ∨ ∃ j : Nat, j < l.length ∧ firstAt f l k = ((k + j : Nat) : Int) ∧ f (l.getD j 0) = true
  | [], k => .inl ⟨rfl, fun x hx => by cases hx⟩
  | x :: l, k => by
    unfold firstAt
    by_cases h : f x = true
    · rw [if_pos h]
      exact .inr ⟨0, by simp, rfl, h⟩
    · rw [if_neg h]
      rcases firstAt_spec f l (k + 1) with ⟨h1, h2⟩ | ⟨j, h1, h2, h3⟩
      · refine .inl ⟨h1, fun y hy => ?_⟩
        rcases List.mem_cons.1 hy with rfl | hy
        · simpa using h
        · exact h2 y hy
      · refine .inr ⟨j + 1, by simp; omega, ?_, h3⟩
        rw [h2]
        congr 1
        omega

end Go.Proofs.Ytnachllhjojlcaa
