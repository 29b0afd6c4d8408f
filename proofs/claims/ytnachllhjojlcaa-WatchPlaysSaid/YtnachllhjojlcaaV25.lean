/- Watchers as data: the same clauses in whatever rows, and the same values: what follows is the same. -/
import Derived.Test.YtnachllhjojlcaaWT
namespace Go.Proofs.Ytnachllhjojlcaa
set_option maxRecDepth 100000

theorem val_cons (n : Nat) (e : En) (es : List En) (y : Int) : valE n (e :: es) y = if 1 ≤ y.natAbs ∧ y.natAbs ≤ n ∧ e.lit.natAbs = y.natAbs then (if e.lit = y then 1 else -1) else valE n es y := by
  unfold valE
  by_cases h : 1 ≤ y.natAbs ∧ y.natAbs ≤ n
  · rw [if_pos h]
    simp only [look]
    by_cases h2 : e.lit.natAbs = y.natAbs
    · rw [if_pos (by omega), if_pos ⟨h.1, h.2, h2⟩]
    · rw [if_neg (by omega), if_neg (fun hh => h2 hh.2.2), if_pos h]
  · rw [if_neg h, if_neg (fun hh => h ⟨hh.1, hh.2.1⟩), if_neg h]
theorem val_new {n : Nat} {e : En} {es : List En} {y : Int} (h : valE n (e :: es) y = 1) (h0 : valE n es y ≠ 1) : y = e.lit := by
  rw [val_cons] at h
  split at h
  · split at h
    · next h2 => exact h2.symm
    · cases h
  · exact absurd h h0
theorem openC_val (n : Nat) (es : List En) (x : Int) : openC n es x = if 1 ≤ x.natAbs ∧ x.natAbs ≤ n then (if valE n es x = 0 then 0 else 7) else 1 := by
  unfold openC valE
  by_cases h : 1 ≤ x.natAbs ∧ x.natAbs ≤ n
  · rw [if_pos h, if_pos h, if_pos h]
    cases look es (x.natAbs - 1) with
    | none => rfl
    | some e =>
      simp only [Option.isSome_some, if_true]
      split <;> rfl
  · rw [if_neg h, if_neg h]
theorem val_same {n : Nat} {a b : List En} (ga : Good n a) (gb : Good n b) (h : ∀ x, valE n a x = 1 ↔ valE n b x = 1) (x : Int) : valE n a x = valE n b x := by
  have h1 := h x
  have h2 := h (-x)
  rw [val_neg ga, val_neg gb] at h2
  rcases val_range n a x with h3 | h3 | h3 <;> rcases val_range n b x with h4 | h4 | h4 <;> rw [h3, h4] at h1 h2 ⊢ <;> simp at h1 h2

/-- The same clauses, in whatever row. -/
def Like (a b : List (List Int)) : Prop := ∀ i, i < a.length → ∃ j, j < b.length ∧ ∀ x, x ∈ a.getD i [] ↔ x ∈ b.getD j []
theorem Like.refl (a : List (List Int)) : Like a a := fun i hi => ⟨i, hi, fun _ => Iff.rfl⟩

theorem not_settled {n : Nat} {es b : List En} {c c' : List Int} {x : Int} (hg : Good n es) (gb : Good n b) (hv : ∀ y, valE n es y = 1 → valE n b y = 1) (hc : ∀ y, y ∈ c ↔ y ∈ c') (hx : ∀ y ∈ c, y ≠ x → valE n es y = -1) (hs : Settled n b c') : x ∈ c ∧ valE n b x = 1 := by
  have hneg : ∀ y, valE n es y = -1 → valE n b y = -1 := fun y hy => by
    have h1 := hv (-y) (by rw [val_neg hg, hy]; rfl)
    rw [val_neg gb] at h1
    omega
  rcases hs with ⟨y, hy, h1⟩ | ⟨y, hy, z, hz, hne, h1, h2⟩
  · have hyc := (hc y).2 hy
    by_cases hyx : y = x
    · subst hyx; exact ⟨hyc, h1⟩
    · have := hneg y (hx y hyc hyx); omega
  · exfalso
    by_cases hyx : y = x
    · have := hneg z (hx z ((hc z).2 hz) (fun e => hne (hyx.trans e.symm))); omega
    · have := hneg y (hx y ((hc y).2 hy) hyx); omega

theorem ext_in {n : Nat} {cl cl' : List (List Int)} {a a' b : List En} (hex : Ext n cl a a') (hk : ∀ c ∈ cl, knownS n c = true) (ga : Good n a) (gb : Good n b) (hv : ∀ x, valE n a x = 1 → valE n b x = 1) (hl : Like cl cl') (hs : ∀ j, j < cl'.length → Settled n b (cl'.getD j [])) :
    ∀ x, valE n a' x = 1 → valE n b x = 1 := by
  induction hex with
  | refl => exact hv
  | @step es1 e h0 h1 h2 h3 h4 h5 h6 ih =>
    intro x hx
    by_cases hx0 : valE n es1 x = 1
    · exact ih x hx0
    · obtain rfl := val_new hx hx0
      obtain ⟨j, hj, hm⟩ := hl e.reason.toNat (by omega)
      exact (not_settled (h0.good hk ga) gb ih hm h6 (hs j hj)).2

structure Twin (Sa Sb : WS) : Prop where
  n : Sb.n = Sa.n
  val : ∀ x, valE Sa.n Sa.es x = valE Sa.n Sb.es x
  ab : Like Sa.cl Sb.cl
  ba : Like Sb.cl Sa.cl
theorem Twin.symm {Sa Sb : WS} (h : Twin Sa Sb) : Twin Sb Sa := ⟨h.n.symm, fun x => by rw [h.n]; exact (h.val x).symm, h.ba, h.ab⟩

theorem prop_half {Sa Sb : WS} (h : Twin Sa Sb) (ha : WInv Sa) (hb : WInv Sb) (hc : (propS Sb).2 < 0) : (propS Sa).2 < 0 ∧ ∀ x, valE Sa.n (propS Sa).1.es x = 1 → valE Sa.n (propS Sb).1.es x = 1 := by
  obtain ⟨ka, _⟩ := prop_spec ha
  obtain ⟨kb, sb⟩ := prop_spec hb
  have hs := (sb hc).2
  have gb := kb.inv.good
  have ga' := ka.inv.good
  have hkb := hb.known
  rw [kb.n, h.n] at gb
  rw [ka.n] at ga'
  rw [h.n] at hs
  have hin : ∀ x, valE Sa.n (propS Sa).1.es x = 1 → valE Sa.n (propS Sb).1.es x = 1 := ext_in ka.ext ha.known ha.good gb (fun x hx => by
    rw [h.val x] at hx
    have hg := hb.good
    have he := kb.ext
    rw [h.n] at hg he hkb
    rw [he.keeps hkb hg (by rw [hx]; decide), hx]) h.ab hs
  refine ⟨?_, hin⟩
  by_cases h0 : (propS Sa).2 < 0
  · exact h0
  · exfalso
    obtain ⟨c1, c2⟩ := ka.conf (by omega)
    obtain ⟨j, hj, hm⟩ := h.ab (propS Sa).2.toNat (by omega)
    have h0c : ∀ y ∈ Sa.cl.getD (propS Sa).2.toNat [], y ≠ 0 → valE Sa.n (propS Sa).1.es y = -1 := fun y hy _ => c2 y hy
    obtain ⟨q1, q2⟩ := not_settled (x := 0) ga' gb hin hm h0c (hs j hj)
    unfold valE at q2
    simp at q2

theorem prop_twin {Sa Sb : WS} (h : Twin Sa Sb) (ha : WInv Sa) (hb : WInv Sb) : ((propS Sa).2 < 0 ↔ (propS Sb).2 < 0) ∧ ((propS Sa).2 < 0 → Twin (propS Sa).1 (propS Sb).1) := by
  have h1 := prop_half h ha hb
  have h2 := prop_half h.symm hb ha
  have hiff : (propS Sa).2 < 0 ↔ (propS Sb).2 < 0 := ⟨fun hc => (h2 hc).1, fun hc => (h1 hc).1⟩
  refine ⟨hiff, fun hc => ?_⟩
  obtain ⟨ka, _⟩ := prop_spec ha
  obtain ⟨kb, _⟩ := prop_spec hb
  have ga := ka.inv.good
  have gb := kb.inv.good
  rw [ka.n] at ga
  rw [kb.n, h.n] at gb
  have hb' := (h1 (hiff.1 hc)).2
  have ha' := (h2 hc).2
  rw [h.n] at ha'
  exact ⟨by rw [kb.n, ka.n, h.n], fun x => by rw [ka.n]; exact val_same ga gb (fun y => ⟨hb' y, ha' y⟩) x, by rw [ka.cl, kb.cl]; exact h.ab, by rw [ka.cl, kb.cl]; exact h.ba⟩

theorem dec_twin {Sa Sb : WS} (h : Twin Sa Sb) (x : Int) : (decS Sa x).2 = (decS Sb x).2 ∧ Twin (decS Sa x).1 (decS Sb x).1 := by
  have ho : openC Sa.n Sa.es x = openC Sa.n Sb.es x := by rw [openC_val, openC_val, h.val x]
  unfold decS decC
  rw [h.n]
  refine ⟨ho, h.n, fun y => ?_, h.ab, h.ba⟩
  show valE Sa.n _ y = valE Sa.n _ y
  simp only
  rw [← ho]
  split
  · rw [val_cons, val_cons, h.val y]
  · exact h.val y

/-! ### What Back to level 0 leaves -/
theorem ext_root {n : Nat} {cl : List (List Int)} {a a' es0 : List En} (hex : Ext n cl a a') (hk : ∀ c ∈ cl, knownS n c = true) (ga : Good n a) (hp : popE 0 a = es0) (hs : ∀ j, j < cl.length → Settled n es0 (cl.getD j [])) : popE 0 a' = es0 := by
  induction hex with
  | refl => exact hp
  | step e h0 h1 h2 h3 h4 h5 h6 ih =>
    have hg := h0.good hk ga
    have hnn := hi_nonneg hg
    simp only [popE]
    by_cases hl : 0 < e.level
    · rw [if_pos hl]; exact ih
    · exfalso
      have e1 := pop_eq 0 hg (by omega)
      have e2 := ih
      rw [e1] at e2
      rw [e2] at h5 h6 hg
      have := (not_settled hg hg (fun _ h => h) (fun _ => Iff.rfl) h6 (hs e.reason.toNat (by omega))).2
      omega
theorem dec_root {S : WS} {es0 : List En} (hg : Good S.n S.es) (x : Int) (hp : popE 0 S.es = es0) : popE 0 (decS S x).1.es = es0 := by
  have hnn := hi_nonneg hg
  unfold decS decC
  show popE 0 (if openC S.n S.es x = 0 then _ else S.es) = es0
  split
  · simp only [popE]
    rw [if_pos (by omega)]
    exact hp
  · exact hp
theorem prop_root {S : WS} {es0 : List En} (hI : WInv S) (hp : popE 0 S.es = es0) (hs : ∀ j, j < S.cl.length → Settled S.n es0 (S.cl.getD j [])) : popE 0 (propS S).1.es = es0 :=
  ext_root (prop_spec hI).1.ext hI.known hI.good hp hs
theorem back_root {S : WS} {es0 : List En} (hg : Good S.n S.es) (hp : popE 0 S.es = es0) : (backS S 0).2 = 0 ∧ (backS S 0).1.es = es0 ∧ (backS S 0).1.n = S.n ∧ (backS S 0).1.cl = S.cl := by
  have hnn := hi_nonneg hg
  have e : backC S.es 0 = (0, popE 0 S.es) := by
    unfold backC
    rw [if_neg (by omega)]
  unfold backS
  rw [e, if_pos rfl]
  exact ⟨rfl, hp, rfl, rfl⟩

end Go.Proofs.Ytnachllhjojlcaa
