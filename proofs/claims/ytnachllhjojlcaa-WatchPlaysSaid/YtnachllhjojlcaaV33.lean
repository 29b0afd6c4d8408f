/- The document's watcher: Propagate as data. -/
import Derived.Test.YtnachllhjojlcaaV32
namespace Go.Proofs.Ytnachllhjojlcaa
set_option maxRecDepth 100000

def scanR (n : Nat) (es : List En) : List (List Int) → Nat → Int × Int → Option (Int × Int)
  | [], _, s => some s
  | c :: rest, i, s => if (readR n es c 0).1 = 2 then none else if (readR n es c 0).1 = 1 ∧ s.1 < 0 then scanR n es rest (i + 1) ((i : Int), (readR n es c 0).2) else scanR n es rest (i + 1) s
def propR (n : Nat) (cl : List (List Int)) : Nat → List En → Bool × List En
  | 0, es => (false, es)
  | f + 1, es => match scanR n es cl 0 (-1, 0) with
    | none => (true, es)
    | some s => if s.1 < 0 then (false, es) else propR n cl f (asnC n es s.2 s.1).2

/-- What was read so far. -/
def RInv (n : Nat) (es : List En) (p : List Int) (u : Int) : Prop := (u = 0 ∧ ∀ y ∈ p, valE n es y = -1) ∨ (u ≠ 0 ∧ u ∈ p ∧ valE n es u = 0 ∧ ∀ y ∈ p, y ≠ u → valE n es y = -1)
theorem read_go {n : Nat} {es : List En} : ∀ (l p : List Int) (u : Int), RInv n es p u → (∀ x ∈ l, x ≠ 0) →
    ((readR n es l u).1 = 2 ∧ FalseC n es (p ++ l)) ∨ ((readR n es l u).1 = 1 ∧ (readR n es l u).2 ∈ p ++ l ∧ valE n es (readR n es l u).2 = 0 ∧ ∀ y ∈ p ++ l, y ≠ (readR n es l u).2 → valE n es y = -1) ∨ ((readR n es l u).1 = 0 ∧ Settled n es (p ++ l))
  | [], p, u, h, _ => by
    rw [List.append_nil]
    unfold readR
    rcases h with ⟨rfl, h⟩ | ⟨h0, h1, h2, h3⟩
    · rw [if_pos rfl]; exact .inl ⟨rfl, h⟩
    · rw [if_neg h0]; exact .inr (.inl ⟨rfl, h1, h2, h3⟩)
  | x :: l, p, u, h, hz => by
    have hx0 : x ≠ 0 := hz x (List.mem_cons_self ..)
    have hz' : ∀ y ∈ l, y ≠ 0 := fun y hy => hz y (List.mem_cons_of_mem _ hy)
    have e : p ++ x :: l = (p ++ [x]) ++ l := by simp
    have hxm : x ∈ p ++ x :: l := by simp
    rw [e]
    rw [e] at hxm
    unfold readR
    by_cases h1 : valE n es x = 1
    · rw [if_pos h1]
      exact .inr (.inr ⟨rfl, .inl ⟨x, hxm, h1⟩⟩)
    · rw [if_neg h1]
      by_cases h0 : valE n es x = 0
      · rw [if_pos h0]
        by_cases hu : u ≠ 0 ∧ u ≠ x
        · rw [if_pos hu]
          rcases h with ⟨hu0, _⟩ | ⟨_, k1, k2, _⟩
          · exact absurd hu0 hu.1
          · exact .inr (.inr ⟨rfl, .inr ⟨u, by simp [k1], x, hxm, hu.2, k2, h0⟩⟩)
        · rw [if_neg hu]
          refine read_go l (p ++ [x]) x (.inr ⟨hx0, by simp, h0, fun y hy hne => ?_⟩) hz'
          rcases List.mem_append.1 hy with hy | hy
          · rcases h with ⟨_, k⟩ | ⟨k0, _, _, k3⟩
            · exact k y hy
            · have hux : u = x := by
                by_cases hh : u = x
                · exact hh
                · exact absurd ⟨k0, hh⟩ hu
              exact k3 y hy (by rw [hux]; exact hne)
          · simp at hy; exact absurd hy hne
      · rw [if_neg h0]
        have hm : valE n es x = -1 := by
          rcases val_range n es x with h2 | h2 | h2
          · exact h2
          · exact absurd h2 h0
          · exact absurd h2 h1
        refine read_go l (p ++ [x]) u ?_ hz'
        rcases h with ⟨k0, k⟩ | ⟨k0, k1, k2, k3⟩
        · exact .inl ⟨k0, fun y hy => by
            rcases List.mem_append.1 hy with hy | hy
            · exact k y hy
            · simp at hy; rw [hy]; exact hm⟩
        · exact .inr ⟨k0, by simp [k1], k2, fun y hy hne => by
            rcases List.mem_append.1 hy with hy | hy
            · exact k3 y hy hne
            · simp at hy; rw [hy]; exact hm⟩
theorem read_spec {n : Nat} {es : List En} {c : List Int} (hz : ∀ x ∈ c, x ≠ 0) :
    ((readR n es c 0).1 = 2 ∧ FalseC n es c) ∨ ((readR n es c 0).1 = 1 ∧ (readR n es c 0).2 ∈ c ∧ valE n es (readR n es c 0).2 = 0 ∧ ∀ y ∈ c, y ≠ (readR n es c 0).2 → valE n es y = -1) ∨ ((readR n es c 0).1 = 0 ∧ Settled n es c) := by
  have := read_go (n := n) (es := es) c [] 0 (.inl ⟨rfl, fun y hy => by cases hy⟩) hz
  simpa using this

theorem scan_spec {n : Nat} {es : List En} : ∀ (l : List (List Int)) (i : Nat) (s : Int × Int), (scanR n es l i s = none → ∃ j, j < l.length ∧ (readR n es (l.getD j []) 0).1 = 2) ∧
    ∀ t, scanR n es l i s = some t → (∀ j, j < l.length → (readR n es (l.getD j []) 0).1 ≠ 2) ∧ ((t = s ∧ (s.1 < 0 → ∀ j, j < l.length → (readR n es (l.getD j []) 0).1 ≠ 1)) ∨ (s.1 < 0 ∧ ∃ j, j < l.length ∧ t.1 = ((i + j : Nat) : Int) ∧ (readR n es (l.getD j []) 0).1 = 1 ∧ t.2 = (readR n es (l.getD j []) 0).2))
  | [], i, s => ⟨fun h => by simp [scanR] at h, fun t h => by
      simp only [scanR, Option.some.injEq] at h
      exact ⟨fun j hj => by simp at hj, .inl ⟨h.symm, fun _ j hj => by simp at hj⟩⟩⟩
  | c :: rest, i, s => by
    unfold scanR
    by_cases h2 : (readR n es c 0).1 = 2
    · rw [if_pos h2]
      exact ⟨fun _ => ⟨0, by simp, h2⟩, fun t h => by cases h⟩
    · rw [if_neg h2]
      by_cases h1 : (readR n es c 0).1 = 1 ∧ s.1 < 0
      · rw [if_pos h1]
        obtain ⟨a, b⟩ := scan_spec (n := n) (es := es) rest (i + 1) ((i : Int), (readR n es c 0).2)
        refine ⟨fun h => ?_, fun t h => ?_⟩
        · obtain ⟨j, hj, hr⟩ := a h
          exact ⟨j + 1, by simp; omega, hr⟩
        · obtain ⟨b1, b2⟩ := b t h
          refine ⟨fun j hj => ?_, .inr ⟨h1.2, ?_⟩⟩
          · cases j with
            | zero => exact h2
            | succ j => exact b1 j (by simpa using hj)
          · rcases b2 with ⟨rfl, _⟩ | ⟨h3, _⟩
            · exact ⟨0, by simp, rfl, h1.1, rfl⟩
            · simp at h3; omega
      · rw [if_neg h1]
        obtain ⟨a, b⟩ := scan_spec (n := n) (es := es) rest (i + 1) s
        refine ⟨fun h => ?_, fun t h => ?_⟩
        · obtain ⟨j, hj, hr⟩ := a h
          exact ⟨j + 1, by simp; omega, hr⟩
        · obtain ⟨b1, b2⟩ := b t h
          refine ⟨fun j hj => ?_, ?_⟩
          · cases j with
            | zero => exact h2
            | succ j => exact b1 j (by simpa using hj)
          · rcases b2 with ⟨e, k⟩ | ⟨h3, j, hj, k1, k2, k3⟩
            · refine .inl ⟨e, fun hs j hj => ?_⟩
              cases j with
              | zero => exact fun hh => h1 ⟨hh, hs⟩
              | succ j => exact k hs j (by simpa using hj)
            · exact .inr ⟨h3, j + 1, by simp; omega, by rw [k1]; congr 1; omega, k2, k3⟩

/-- A unit clause is found: what the assignment makes. -/
theorem scan_unit {n : Nat} {es : List En} {cl : List (List Int)} (hk : ∀ c ∈ cl, knownS n c = true) {s : Int × Int} (hs : scanR n es cl 0 (-1, 0) = some s) (h0 : ¬ s.1 < 0) :
    ∃ j, j < cl.length ∧ s.1 = (j : Int) ∧ s.2 ∈ cl.getD j [] ∧ valE n es s.2 = 0 ∧ (∀ y ∈ cl.getD j [], y ≠ s.2 → valE n es y = -1) ∧ 1 ≤ s.2.natAbs ∧ s.2.natAbs ≤ n := by
  obtain ⟨_, h⟩ := (scan_spec cl 0 (-1, 0)).2 s hs
  rcases h with ⟨rfl, _⟩ | ⟨_, j, hj, k1, k2, k3⟩
  · exact absurd (by decide) h0
  · have hm := getD_mem hj
    have hkn := hk _ hm
    have hz : ∀ x ∈ cl.getD j [], x ≠ 0 := fun x hx => by
      have := List.all_eq_true.1 hkn x hx
      simp only [decide_eq_true_eq] at this
      intro e; subst e; simp at this
    rcases read_spec (n := n) (es := es) hz with ⟨e, _⟩ | ⟨_, r1, r2, r3⟩ | ⟨e, _⟩
    · rw [k2] at e; cases e
    · rw [← k3] at r1 r2 r3
      have := List.all_eq_true.1 hkn _ r1
      simp only [decide_eq_true_eq] at this
      exact ⟨j, hj, by rw [k1]; simp, r1, r2, r3, this.1, this.2⟩
    · rw [k2] at e; cases e

theorem propR_spec {n : Nat} {cl : List (List Int)} (hk : ∀ c ∈ cl, knownS n c = true) : ∀ (f : Nat) (es : List En), Good n es → n < f + es.length → Ext n cl es (propR n cl f es).2 ∧ Good n (propR n cl f es).2 ∧
    ((propR n cl f es).1 = true → ∃ j, j < cl.length ∧ FalseC n (propR n cl f es).2 (cl.getD j [])) ∧ ((propR n cl f es).1 = false → ∀ j, j < cl.length → Settled n (propR n cl f es).2 (cl.getD j []))
  | 0, es, hg, hf => by have := hg.len_le; omega
  | f + 1, es, hg, hf => by
    have hz : ∀ j, j < cl.length → ∀ x ∈ cl.getD j [], x ≠ 0 := fun j hj x hx => by
      have := List.all_eq_true.1 (hk _ (getD_mem hj)) x hx
      simp only [decide_eq_true_eq] at this
      intro e; subst e; simp at this
    unfold propR
    cases hs : scanR n es cl 0 (-1, 0) with
    | none =>
      obtain ⟨j, hj, hr⟩ := (scan_spec cl 0 (-1, 0)).1 hs
      refine ⟨.refl, hg, fun _ => ⟨j, hj, ?_⟩, fun h => by cases h⟩
      rcases read_spec (n := n) (es := es) (hz j hj) with ⟨_, h⟩ | ⟨e, _⟩ | ⟨e, _⟩
      · exact h
      · rw [hr] at e; cases e
      · rw [hr] at e; cases e
    | some s =>
      simp only
      by_cases h0 : s.1 < 0
      · rw [if_pos h0]
        refine ⟨.refl, hg, fun h => (by cases h), fun _ j hj => ?_⟩
        obtain ⟨h2, h⟩ := (scan_spec cl 0 (-1, 0)).2 s hs
        rcases h with ⟨rfl, h1⟩ | ⟨_, j', _, k1, _⟩
        · rcases read_spec (n := n) (es := es) (hz j hj) with ⟨e, _⟩ | ⟨e, _⟩ | ⟨_, h⟩
          · exact absurd e (h2 j hj)
          · exact absurd e (h1 (by decide) j hj)
          · exact h
        · omega
      · rw [if_neg h0]
        obtain ⟨j, hj, e1, m1, m2, m3, m4, m5⟩ := scan_unit hk hs h0
        have ea : (asnC n es s.2 s.1).2 = ⟨s.2, hi es, (j : Int)⟩ :: es := by rw [e1]; exact asn_push m2 ⟨m4, m5⟩ j
        have hg2 : Good n (⟨s.2, hi es, (j : Int)⟩ :: es) := good_push hg m2 ⟨m4, m5⟩ j
        rw [ea]
        obtain ⟨p1, p2, p3, p4⟩ := propR_spec hk f (⟨s.2, hi es, (j : Int)⟩ :: es) hg2 (by simp; omega)
        refine ⟨Ext.trans (.step ⟨s.2, hi es, (j : Int)⟩ .refl (by show (0 : Int) ≤ (j : Int); omega) (by show (j : Int) < (cl.length : Int); omega) rfl (by show s.2 ∈ cl.getD ((j : Int)).toNat []; rw [Int.toNat_natCast]; exact m1) m2 (fun y hy hne => m3 y (by have hy' : y ∈ cl.getD ((j : Int)).toNat [] := hy; rwa [Int.toNat_natCast] at hy') hne)) p1, p2, p3, p4⟩

theorem pop_pop (l1 l2 : Int) : ∀ (es : List En), popE l1 (popE l2 es) = if l1 ≤ l2 then popE l1 es else popE l2 es
  | [] => by simp [popE]
  | e :: es => by
    have ih := pop_pop l1 l2 es
    by_cases h2 : l2 < e.level
    · have e1 : popE l2 (e :: es) = popE l2 es := by simp only [popE]; rw [if_pos h2]
      rw [e1, ih]
      by_cases h : l1 ≤ l2
      · rw [if_pos h, if_pos h]
        simp only [popE]
        rw [if_pos (by omega)]
      · rw [if_neg h, if_neg h]
    · have e1 : popE l2 (e :: es) = e :: es := by simp only [popE]; rw [if_neg h2]
      rw [e1]
      by_cases h : l1 ≤ l2
      · rw [if_pos h]
      · rw [if_neg h]
        simp only [popE]
        rw [if_neg (by omega)]
theorem hi_popL {n : Nat} {es : List En} (hg : Good n es) (lv : Int) (h0 : 0 ≤ lv) (h1 : lv ≤ hi es) : hi (popE lv es) = lv := by
  obtain ⟨l, rfl⟩ := Int.eq_ofNat_of_zero_le h0
  by_cases h : (l : Int) = hi es
  · rw [pop_eq (l : Int) hg (by omega)]
    exact h.symm
  · obtain ⟨_, h3⟩ := begs_pop l hg (by omega)
    have h4 := begs_len (pop_good (l : Int) hg)
    rw [h3, List.length_take] at h4
    have h5 := begs_len hg
    omega
theorem ext_hi' {n : Nat} {cl : List (List Int)} {a a' : List En} (h : Ext n cl a a') : hi a' = hi a := by
  induction h with
  | refl => rfl
  | step e _ _ _ h3 _ _ _ ih => exact h3.trans ih
theorem ext_pop {n : Nat} {cl : List (List Int)} {a a' : List En} (h : Ext n cl a a') {lv : Int} (hl : lv < hi a) : popE lv a' = popE lv a := by
  induction h with
  | refl => rfl
  | @step es1 e h0 _ _ h3 _ _ _ ih =>
    simp only [popE]
    rw [if_pos (by rw [h3, ext_hi' h0]; exact hl)]
    exact ih

structure LTwin (n : Nat) (a b : List En) : Prop where
  ga : Good n a
  gb : Good n b
  hi : hi a = hi b
  val : ∀ lv x, valE n (popE lv a) x = valE n (popE lv b) x
theorem LTwin.top {n : Nat} {a b : List En} (h : LTwin n a b) (x : Int) : valE n a x = valE n b x := by
  have := h.val (Go.Proofs.Ytnachllhjojlcaa.hi a) x
  rwa [pop_eq _ h.ga (Int.le_refl _), h.hi, pop_eq _ h.gb (Int.le_refl _)] at this
theorem LTwin.new (n : Nat) : LTwin n [] [] := ⟨trivial, trivial, rfl, fun _ _ => rfl⟩
theorem LTwin.dec {n : Nat} {a b : List En} (h : LTwin n a b) (x : Int) : (decC n a x).1 = (decC n b x).1 ∧ LTwin n (decC n a x).2 (decC n b x).2 := by
  have ho : openC n a x = openC n b x := by rw [openC_val, openC_val, h.top x]
  have g1 := decC_good x h.ga
  have g2 := decC_good x h.gb
  refine ⟨ho, g1, g2, ?_, ?_⟩
  all_goals
    unfold decC
    simp only
    rw [← ho, ← h.hi]
    split
  · rfl
  · exact h.hi
  · intro lv y
    simp only [popE]
    split
    · exact h.val lv y
    · rw [val_cons, val_cons, h.top y]
  · exact h.val
theorem LTwin.back {n : Nat} {a b : List En} (h : LTwin n a b) (lv : Int) : (backC a lv).1 = (backC b lv).1 ∧ LTwin n (backC a lv).2 (backC b lv).2 := by
  have g1 := backC_good lv h.ga
  have g2 := backC_good lv h.gb
  unfold backC at g1 g2 ⊢
  rw [← h.hi] at g2 ⊢
  by_cases hb : lv < 0 ∨ Go.Proofs.Ytnachllhjojlcaa.hi a < lv
  · rw [if_pos hb, if_pos hb]
    exact ⟨rfl, h⟩
  · rw [if_neg hb] at g1 g2 ⊢
    rw [if_neg hb]
    refine ⟨rfl, g1, g2, ?_, fun l y => ?_⟩
    · show Go.Proofs.Ytnachllhjojlcaa.hi (popE lv a) = Go.Proofs.Ytnachllhjojlcaa.hi (popE lv b)
      rw [hi_popL h.ga lv (by omega) (by omega), hi_popL h.gb lv (by omega) (by rw [← h.hi]; omega)]
    · show valE n (popE l (popE lv a)) y = valE n (popE l (popE lv b)) y
      rw [pop_pop, pop_pop]
      split
      · exact h.val l y
      · exact h.val lv y

theorem prop_ref {S : WS} {b : List En} (hI : WInv S) (h : LTwin S.n S.es b) : ((propR S.n S.cl (S.n + 1) b).1 = true ↔ 0 ≤ (propS S).2) ∧ ((propS S).2 < 0 → LTwin S.n (propS S).1.es (propR S.n S.cl (S.n + 1) b).2) := by
  obtain ⟨k, ks⟩ := prop_spec hI
  obtain ⟨r1, r2, r3, r4⟩ := propR_spec hI.known (S.n + 1) b h.gb (by omega)
  have ga' := k.inv.good
  rw [k.n] at ga'
  -- where the document's is settled
  have half1 : (propR S.n S.cl (S.n + 1) b).1 = false → (propS S).2 < 0 ∧ ∀ x, valE S.n (propS S).1.es x = 1 → valE S.n (propR S.n S.cl (S.n + 1) b).2 x = 1 := fun hf => by
    have hs := r4 hf
    have hin := ext_in k.ext hI.known h.ga r2 (fun x hx => by
      rw [h.top x] at hx
      rw [r1.keeps hI.known h.gb (x := x) (by rw [hx]; decide), hx]) (Like.refl S.cl) hs
    refine ⟨?_, hin⟩
    by_cases h0 : (propS S).2 < 0
    · exact h0
    · exfalso
      obtain ⟨c1, c2⟩ := k.conf (by omega)
      obtain ⟨q1, q2⟩ := not_settled (x := 0) ga' r2 hin (fun _ => Iff.rfl) (fun y hy _ => c2 y hy) (hs (propS S).2.toNat (by omega))
      unfold valE at q2
      simp at q2
  have half2 : (propS S).2 < 0 → (propR S.n S.cl (S.n + 1) b).1 = false ∧ ∀ x, valE S.n (propR S.n S.cl (S.n + 1) b).2 x = 1 → valE S.n (propS S).1.es x = 1 := fun hf => by
    have hs := (ks hf).2
    have hin := ext_in r1 hI.known h.gb ga' (fun x hx => by
      rw [← h.top x] at hx
      rw [k.ext.keeps hI.known h.ga (x := x) (by rw [hx]; decide), hx]) (Like.refl S.cl) hs
    refine ⟨?_, hin⟩
    cases hb : (propR S.n S.cl (S.n + 1) b).1 with
    | false => rfl
    | true =>
      exfalso
      obtain ⟨j, hj, c2⟩ := r3 hb
      obtain ⟨q1, q2⟩ := not_settled (x := 0) r2 ga' hin (fun _ => Iff.rfl) (fun y hy _ => c2 y hy) (hs j hj)
      unfold valE at q2
      simp at q2
  refine ⟨⟨fun ht => ?_, fun h0 => ?_⟩, fun hf => ?_⟩
  · by_cases h0 : (propS S).2 < 0
    · rw [(half2 h0).1] at ht; cases ht
    · omega
  · cases hb : (propR S.n S.cl (S.n + 1) b).1 with
    | true => rfl
    | false => have := (half1 hb).1; omega
  · obtain ⟨hb, i2⟩ := half2 hf
    obtain ⟨_, i1⟩ := half1 hb
    have e1 := ext_hi' k.ext
    have e2 := ext_hi' r1
    refine ⟨ga', r2, by rw [e1, e2, h.hi], fun lv y => ?_⟩
    by_cases hl : lv < Go.Proofs.Ytnachllhjojlcaa.hi S.es
    · rw [ext_pop k.ext hl, ext_pop r1 (by rw [← h.hi]; exact hl)]
      exact h.val lv y
    · rw [pop_eq lv ga' (by rw [e1]; omega), pop_eq lv r2 (by rw [e2, ← h.hi]; omega)]
      exact val_same ga' r2 (fun z => ⟨i1 z, i2 z⟩) y

end Go.Proofs.Ytnachllhjojlcaa
