/- The plain law of package core: what Of tells is what the document tells. -/
import Derived.Test.YthaonmmjoednnaaC3
import Derived.Test.YthaonmmjoednnaaC4
namespace Go.Proofs.Ythaonmmjoednnaa
set_option maxRecDepth 100000

/-! ### Lists that rise -/
theorem rise_ext : ∀ {a b : List Int} (_ : a.Pairwise (· < ·)) (_ : b.Pairwise (· < ·)) (_ : ∀ x, x ∈ a ↔ x ∈ b), a = b
  | [], [], _, _, _ => rfl
  | [], y :: b, _, _, h => absurd ((h y).2 (by simp)) (by simp)
  | x :: a, [], _, _, h => absurd ((h x).1 (by simp)) (by simp)
  | x :: a, y :: b, h1, h2, h => by
    rw [List.pairwise_cons] at h1 h2
    have hxy : x = y := by
      rcases List.mem_cons.1 ((h x).1 (by simp)) with e | e
      · exact e
      · rcases List.mem_cons.1 ((h y).2 (by simp)) with e2 | e2
        · exact e2.symm
        · have := h1.1 y e2
          have := h2.1 x e
          omega
    subst hxy
    rw [rise_ext h1.2 h2.2 fun z => ?_]
    constructor
    · intro hz
      rcases List.mem_cons.1 ((h z).1 (by simp [hz])) with e | e
      · have := h1.1 z hz
        omega
      · exact e
    · intro hz
      rcases List.mem_cons.1 ((h z).2 (by simp [hz])) with e | e
      · have := h2.1 z hz
        omega
      · exact e
theorem putE_mem : ∀ (l : List Int) (n x : Int), x ∈ putE l n ↔ x ∈ l ∨ x = n
  | [], n, x => by simp [putE]
  | y :: l, n, x => by
    unfold putE
    split
    · rw [List.mem_cons, putE_mem l n x, List.mem_cons, or_assoc]
    · split
      · rename_i h
        subst h
        simp
        exact fun h => .inl h
      · simp only [List.mem_cons]
        constructor
        · rintro (h | h | h)
          · exact .inr h
          · exact .inl (.inl h)
          · exact .inl (.inr h)
        · rintro ((h | h) | h)
          · exact .inr (.inl h)
          · exact .inr (.inr h)
          · exact .inl h
theorem putE_rise : ∀ {l : List Int} {n : Int} (_ : l.Pairwise (· < ·)), (putE l n).Pairwise (· < ·)
  | [], n, _ => by simp [putE]
  | y :: l, n, h => by
    rw [List.pairwise_cons] at h
    unfold putE
    split
    · rename_i hy
      rw [List.pairwise_cons]
      refine ⟨fun z hz => ?_, putE_rise h.2⟩
      rcases (putE_mem l n z).1 hz with e | e
      · exact h.1 z e
      · omega
    · split
      · rw [List.pairwise_cons]
        exact h
      · rw [List.pairwise_cons, List.pairwise_cons]
        refine ⟨fun z hz => ?_, h⟩
        rcases List.mem_cons.1 hz with e | e
        · omega
        · have := h.1 z e
          omega

/-! ### What the document tells -/
def putsE (out l : List Int) : List Int := l.foldl putE out
theorem putsE_mem (l : List Int) : ∀ (out : List Int) (x : Int), x ∈ putsE out l ↔ x ∈ out ∨ x ∈ l := by
  induction l with
  | nil => intro out x; simp [putsE]
  | cons y l ih =>
    intro out x
    refine (ih _ x).trans ?_
    rw [putE_mem, List.mem_cons, or_assoc]
theorem putsE_rise (l : List Int) : ∀ {out : List Int}, out.Pairwise (· < ·) → (putsE out l).Pairwise (· < ·) := by
  induction l with
  | nil => exact fun h => h
  | cons y l ih => exact fun h => ih (putE_rise h)
def restOne (rests : List (List Int)) (N : Nat) (out : List Int) (y : Int) : List Int := if y < N then putE out y else putsE out (rests.getD (y.toNat - N) [])
def restE (rests : List (List Int)) (N : Nat) (l : List Int) : List Int := l.foldl (restOne rests N) []
def restsE (N : Nat) (cl : List (List Int)) : List (List Int) := cl.foldl (fun rs c => rs ++ [restE rs N c]) []
theorem restsE_snoc (N : Nat) (cl : List (List Int)) (c : List Int) : restsE N (cl ++ [c]) = restsE N cl ++ [restE (restsE N cl) N c] := by
  unfold restsE
  rw [List.foldl_append]
  rfl
theorem restsE_len (N : Nat) : ∀ cl : List (List Int), (restsE N cl).length = cl.length := fun cl => by
  have h : ∀ (cl rs : List (List Int)), (cl.foldl (fun rs c => rs ++ [restE rs N c]) rs).length = rs.length + cl.length := by
    intro cl
    induction cl with
    | nil => intro rs; rfl
    | cons c cl ih => intro rs; refine (ih _).trans ?_; simp; omega
  refine (h cl []).trans ?_
  simp
theorem restOne_mem (rests : List (List Int)) (N : Nat) (out : List Int) (y x : Int) : x ∈ restOne rests N out y ↔ x ∈ out ∨ (y < N ∧ x = y) ∨ (¬ y < N ∧ x ∈ rests.getD (y.toNat - N) []) := by
  unfold restOne
  by_cases h : y < N
  · rw [if_pos h, putE_mem]
    simp [h]
  · rw [if_neg h, putsE_mem]
    simp [h]
theorem restE_mem (rests : List (List Int)) (N : Nat) (l : List Int) (x : Int) : x ∈ restE rests N l ↔ ∃ y ∈ l, (y < N ∧ x = y) ∨ (¬ y < N ∧ x ∈ rests.getD (y.toNat - N) []) := by
  have h : ∀ (l out : List Int), x ∈ l.foldl (restOne rests N) out ↔ x ∈ out ∨ ∃ y ∈ l, (y < N ∧ x = y) ∨ (¬ y < N ∧ x ∈ rests.getD (y.toNat - N) []) := by
    intro l
    induction l with
    | nil => intro out; simp
    | cons y l ih =>
      intro out
      refine (ih _).trans ?_
      rw [restOne_mem, or_assoc]
      simp only [List.mem_cons, exists_eq_or_imp]
  refine (h l []).trans ?_
  simp
theorem restE_rise (rests : List (List Int)) (N : Nat) (l : List Int) : (restE rests N l).Pairwise (· < ·) := by
  have h : ∀ (l : List Int) {out : List Int}, out.Pairwise (· < ·) → (l.foldl (restOne rests N) out).Pairwise (· < ·) := by
    intro l
    induction l with
    | nil => exact fun h => h
    | cons y l ih =>
      intro out h
      refine ih ?_
      unfold restOne
      split
      · exact putE_rise h
      · exact putsE_rise _ h
  exact h l List.Pairwise.nil

/-! ### On what a number rests -/
inductive Rests (N : Nat) (cl : List (List Int)) (n : Int) : Int → Prop
  | base (h0 : 0 ≤ n) (h1 : n < N) : Rests N cl n n
  | step (k : Nat) (h : k < cl.length) (y : Int) (hy : y ∈ cl[k]) (hr : Rests N cl n y) : Rests N cl n (N + k)
theorem Rests.low {N : Nat} {cl : List (List Int)} {n y : Int} (h : Rests N cl n y) (hy : y < N) : n = y := by
  cases h with
  | base => rfl
  | step k => omega
theorem Rests.range {N : Nat} {cl : List (List Int)} {n y : Int} (h : Rests N cl n y) : 0 ≤ n ∧ n < N := by
  induction h with
  | base h0 h1 => exact ⟨h0, h1⟩
  | step k h y hy hr ih => exact ih
theorem Rests.high {N : Nat} {cl : List (List Int)} {n : Int} {k : Nat} (hk : k < cl.length) : Rests N cl n ((N : Int) + k) ↔ ∃ y ∈ cl[k], Rests N cl n y := by
  constructor
  · intro h
    generalize hz : (N : Int) + k = z at h
    cases h with
    | base h0 h1 => omega
    | step k2 h2 y hy hr =>
      obtain rfl : k = k2 := by omega
      exact ⟨y, hy, hr⟩
  · rintro ⟨y, hy, hr⟩
    exact .step k hk y hy hr
/-- The numbers of a rests behind it rest on nothing of what comes. -/
theorem Rests.more {N : Nat} {cl : List (List Int)} (c : List Int) {n y : Int} (h : Rests N cl n y) : Rests N (cl ++ [c]) n y := by
  induction h with
  | base h0 h1 => exact .base h0 h1
  | step k h y hy hr ih => exact .step k (by simp; omega) y (by rw [List.getElem_append_left h]; exact hy) ih
theorem Rests.less {N : Nat} {cl : List (List Int)} (hf : ∀ j (h : j < cl.length), ∀ x ∈ cl[j], x < N + j) (c : List Int) {n y : Int} (h : Rests N (cl ++ [c]) n y) : y < N + cl.length → Rests N cl n y := by
  induction h with
  | base h0 h1 => exact fun _ => .base h0 h1
  | step k h y hy hr ih =>
    intro hlt
    have hk : k < cl.length := by omega
    rw [List.getElem_append_left hk] at hy
    have := hf k hk y hy
    exact .step k hk y hy (ih (by omega))

theorem rests_spec {N : Nat} {cl : List (List Int)} (hf : ∀ j (h : j < cl.length), ∀ x ∈ cl[j], 0 ≤ x ∧ x < N + j) : ∀ k, k ≤ cl.length → ∀ j, j < k → ∀ x, x ∈ (restsE N (cl.take k)).getD j [] ↔ Rests N cl x (N + j) := by
  intro k
  induction k with
  | zero => exact fun _ j h => absurd h (Nat.not_lt_zero _)
  | succ k ih =>
    intro hk j hj x
    have hkl : k < cl.length := by omega
    rw [List.take_succ_eq_append_getElem hkl, restsE_snoc]
    have hlen : (restsE N (cl.take k)).length = k := by rw [restsE_len, List.length_take]; omega
    by_cases h : j < k
    · rw [List.getD_eq_getElem?_getD, List.getElem?_append_left (by omega), ← List.getD_eq_getElem?_getD]
      exact ih (by omega) j h x
    · obtain rfl : j = k := by omega
      rw [List.getD_eq_getElem?_getD, List.getElem?_append_right (by omega), hlen, Nat.sub_self]
      show x ∈ restE _ N cl[j] ↔ _
      rw [restE_mem, Rests.high hkl]
      constructor
      · rintro ⟨y, hy, h1 | h1⟩
        · obtain ⟨h2, rfl⟩ := h1
          exact ⟨x, hy, .base (hf j hkl x hy).1 h2⟩
        · refine ⟨y, hy, ?_⟩
          have h3 := hf j hkl y hy
          have h4 := (ih (by omega) (y.toNat - N) (by omega) x).1 h1.2
          rwa [show ((N : Int) + ((y.toNat - N : Nat) : Int)) = y by omega] at h4
      · rintro ⟨y, hy, hr⟩
        refine ⟨y, hy, ?_⟩
        have h3 := hf j hkl y hy
        by_cases h2 : y < N
        · exact .inl ⟨h2, hr.low h2⟩
        · refine .inr ⟨h2, (ih (by omega) (y.toNat - N) (by omega) x).2 ?_⟩
          rwa [show ((N : Int) + ((y.toNat - N : Nat) : Int)) = y by omega]
theorem rest_mem {N : Nat} {cl : List (List Int)} {last : List Int} (hf : ∀ j (h : j < cl.length), ∀ x ∈ cl[j], 0 ≤ x ∧ x < N + j) (hl : ∀ x ∈ last, 0 ≤ x ∧ x < N + cl.length) (x : Int) :
    x ∈ restE (restsE N cl) N last ↔ ∃ y ∈ last, Rests N cl x y := by
  have hs := rests_spec hf cl.length (Nat.le_refl _)
  rw [List.take_length] at hs
  rw [restE_mem]
  constructor
  · rintro ⟨y, hy, h1 | h1⟩
    · obtain ⟨h2, rfl⟩ := h1
      exact ⟨x, hy, .base (hl x hy).1 h2⟩
    · refine ⟨y, hy, ?_⟩
      have h3 := hl y hy
      have h4 := (hs (y.toNat - N) (by omega) x).1 h1.2
      rwa [show ((N : Int) + ((y.toNat - N : Nat) : Int)) = y by omega] at h4
  · rintro ⟨y, hy, hr⟩
    refine ⟨y, hy, ?_⟩
    have h3 := hl y hy
    by_cases h2 : y < N
    · exact .inl ⟨h2, hr.low h2⟩
    · refine .inr ⟨h2, (hs (y.toNat - N) (by omega) x).2 ?_⟩
      rwa [show ((N : Int) + ((y.toNat - N : Nat) : Int)) = y by omega]

/-! ### What Of marks -/
theorem markE_get (l : List Int) : ∀ (r : List Bool), (∀ x ∈ l, 0 ≤ x ∧ x < r.length) → ∀ y : Nat, (markE r l).getD y false = true ↔ r.getD y false = true ∨ (y : Int) ∈ l := by
  induction l with
  | nil => intro r _ y; simp [markE]
  | cons x l ih =>
    intro r hf y
    have h1 := ih (r.set x.toNat true) (fun z hz => by rw [List.length_set]; exact hf z (List.mem_cons_of_mem _ hz)) y
    refine h1.trans ?_
    have hx := hf x (by simp)
    rw [List.mem_cons, ← or_assoc]
    refine or_congr_left ?_
    rw [List.getD_eq_getElem?_getD, List.getD_eq_getElem?_getD, List.getElem?_set]
    by_cases e : x.toNat = y
    · rw [if_pos e, if_pos (by omega)]
      simp
      exact .inr (by omega)
    · rw [if_neg e]
      constructor
      · exact fun h => .inl h
      · rintro (h | h)
        · exact h
        · omega
theorem marks_inv {N : Nat} {cl : List (List Int)} {last : List Int} (hf : ∀ j (h : j < cl.length), ∀ x ∈ cl[j], 0 ≤ x ∧ x < N + j) (hl : ∀ x ∈ last, 0 ≤ x ∧ x < N + cl.length) (r0 : List Bool) (hr0 : r0 = markE (List.replicate (N + cl.length) false) last) (x : Int) :
    ∀ d q, d + q = cl.length → ((∃ y : Nat, y < N + q ∧ (backE N cl r0 (downL cl.length q)).getD y false = true ∧ Rests N cl x y) ↔ ∃ y ∈ last, Rests N cl x y) := by
  have hr0l : r0.length = N + cl.length := by rw [hr0, markE_len, List.length_replicate]
  intro d
  induction d with
  | zero =>
    intro q hq
    obtain rfl : q = cl.length := by omega
    rw [downL_end]
    show (∃ y : Nat, y < N + cl.length ∧ r0.getD y false = true ∧ Rests N cl x y) ↔ _
    have hg : ∀ y : Nat, r0.getD y false = true ↔ (y : Int) ∈ last := fun y => by
      rw [hr0, markE_get _ _ (fun z hz => by rw [List.length_replicate]; have := hl z hz; omega) y]
      simp [List.getD_eq_getElem?_getD, List.getElem?_replicate]
      intro h
      split at h <;> simp at h
    constructor
    · rintro ⟨y, _, h1, h2⟩
      exact ⟨y, (hg y).1 h1, h2⟩
    · rintro ⟨y, h1, h2⟩
      have h3 := hl y h1
      refine ⟨y.toNat, by omega, (hg _).2 ?_, ?_⟩
      · rwa [show ((y.toNat : Nat) : Int) = y by omega]
      · rwa [show ((y.toNat : Nat) : Int) = y by omega]
  | succ d ih =>
    intro p hp
    have hpl : p < cl.length := by omega
    have hi := ih (p + 1) (by omega)
    rw [← hi, downL_step hpl, backE_snoc]
    generalize hr : backE N cl r0 (downL cl.length (p + 1)) = r
    have hrl : r.length = N + cl.length := by rw [← hr, backE_len, hr0l]
    have hcl : cl.getD p [] = cl[p] := by rw [List.getD_eq_getElem?_getD, List.getElem?_eq_getElem hpl]; rfl
    rw [hcl]
    have hm := markE_get cl[p] r (fun z hz => by have := hf p hpl z hz; omega)
    constructor
    · rintro ⟨y, h1, h2, h3⟩
      by_cases hb : r.getD (N + p) false = true
      · rw [if_pos hb] at h2
        rcases (hm y).1 h2 with h4 | h4
        · exact ⟨y, by omega, h4, h3⟩
        · exact ⟨N + p, by omega, hb, by rw [show (((N + p : Nat)) : Int) = (N : Int) + p by omega]; exact .step p hpl y h4 h3⟩
      · rw [if_neg hb] at h2
        exact ⟨y, by omega, h2, h3⟩
    · rintro ⟨y, h1, h2, h3⟩
      by_cases h4 : y < N + p
      · refine ⟨y, h4, ?_, h3⟩
        split
        · exact (hm y).2 (.inl h2)
        · exact h2
      · obtain rfl : y = N + p := by omega
        rw [show (((N + p : Nat)) : Int) = (N : Int) + p by omega, Rests.high hpl] at h3
        obtain ⟨z, hz, hzr⟩ := h3
        have h5 := hf p hpl z hz
        refine ⟨z.toNat, by omega, ?_, ?_⟩
        · rw [if_pos h2]
          exact (hm _).2 (.inr (by rwa [show ((z.toNat : Nat) : Int) = z by omega]))
        · rwa [show ((z.toNat : Nat) : Int) = z by omega]

theorem outE_mem (r : List Bool) (m : Nat) (x : Int) : x ∈ outE r m ↔ 0 ≤ x ∧ x < m ∧ r.getD x.toNat false = true := by
  unfold outE
  rw [List.mem_map]
  constructor
  · rintro ⟨n, hn, rfl⟩
    rw [List.mem_filter, List.mem_range] at hn
    refine ⟨by simp, ?_, ?_⟩
    · have := hn.1
      simp
      omega
    · simpa using hn.2
  · rintro ⟨h0, h1, h2⟩
    refine ⟨x.toNat, ?_, by simp; omega⟩
    rw [List.mem_filter, List.mem_range]
    exact ⟨by omega, by simpa using h2⟩
theorem outE_rise (r : List Bool) (m : Nat) : (outE r m).Pairwise (· < ·) := by
  unfold outE
  rw [List.pairwise_map]
  refine List.Pairwise.imp ?_ (List.Pairwise.filter _ List.pairwise_lt_range)
  intro a b h
  exact Int.ofNat_lt.2 h

theorem core_mem {N : Nat} {cl : List (List Int)} {last : List Int} (hf : ∀ j (h : j < cl.length), ∀ x ∈ cl[j], 0 ≤ x ∧ x < N + j) (hl : ∀ x ∈ last, 0 ≤ x ∧ x < N + cl.length) (x : Int) :
    x ∈ coreE N cl last ↔ ∃ y ∈ last, Rests N cl x y := by
  have h := marks_inv hf hl _ rfl x cl.length 0 (by omega)
  rw [← h, downL_zero]
  unfold coreE
  rw [outE_mem]
  show (_ ∧ _ ∧ (marksE N cl last).getD _ _ = true) ↔ _
  constructor
  · rintro ⟨h0, h1, h2⟩
    refine ⟨x.toNat, by omega, h2, ?_⟩
    rw [show ((x.toNat : Nat) : Int) = x by omega]
    exact .base h0 h1
  · rintro ⟨y, h1, h2, h3⟩
    obtain rfl := h3.low (by omega)
    exact ⟨by omega, by omega, h2⟩
/-- What Of tells is what the document tells. -/
theorem core_rest {N : Nat} {cl : List (List Int)} {last : List Int} (hf : ∀ j (h : j < cl.length), ∀ x ∈ cl[j], 0 ≤ x ∧ x < N + j) (hl : ∀ x ∈ last, 0 ≤ x ∧ x < N + cl.length) : restE (restsE N cl) N last = coreE N cl last :=
  rise_ext (restE_rise _ _ _) (outE_rise _ _) fun x => by rw [rest_mem hf hl, core_mem hf hl]

end Go.Proofs.Ythaonmmjoednnaa
