/- Watchers as data: what holds, and stays; what Propagate comes to. -/
import Derived.Test.YtnachllhjojlcaaWQ
namespace Go.Proofs.Ytnachllhjojlcaa
set_option maxRecDepth 100000

/-! ### Lists of lists -/
theorem getD_snoc (ls : List (List Int)) (p : List Int) (i : Nat) : (ls ++ [p]).getD i [] = if i < ls.length then ls.getD i [] else if i = ls.length then p else [] := by
  simp only [List.getD_eq_getElem?_getD]
  by_cases h : i < ls.length
  · rw [if_pos h, List.getElem?_append_left h]
  · rw [if_neg h, List.getElem?_append_right (by omega)]
    by_cases h2 : i = ls.length
    · subst h2; simp
    · rw [if_neg h2, List.getElem?_eq_none (by simp; omega)]
      rfl
theorem getD_setL (ls : List (List Int)) (c : Nat) (v : List Int) (hc : c < ls.length) (i : Nat) : (ls.set c v).getD i [] = if i = c then v else ls.getD i [] := by
  simp only [List.getD_eq_getElem?_getD]
  by_cases h : i = c
  · subst h
    rw [if_pos rfl, List.getElem?_set_self hc]
    rfl
  · rw [if_neg h, List.getElem?_set_ne (fun e => h e.symm)]
theorem getD_lt {ls : List (List Int)} {i : Nat} {x : Int} (h : x ∈ ls.getD i []) : i < ls.length ∧ ls.getD i [] ∈ ls := by
  rcases Nat.lt_or_ge i ls.length with hl | hl
  · refine ⟨hl, ?_⟩
    rw [List.getD_eq_getElem?_getD, List.getElem?_eq_getElem hl]
    exact List.getElem_mem hl
  · rw [List.getD_eq_getElem?_getD, List.getElem?_eq_none hl] at h
    simp at h
theorem getD_mem {ls : List (List Int)} {i : Nat} (hl : i < ls.length) : ls.getD i [] ∈ ls := by
  rw [List.getD_eq_getElem?_getD, List.getElem?_eq_getElem hl]
  exact List.getElem_mem hl

/-! ### What follows -/
theorem Ext.trans {n : Nat} {cl : List (List Int)} {a b c : List En} (h : Ext n cl a b) (k : Ext n cl b c) : Ext n cl a c := by
  induction k with
  | refl => exact h
  | step e _ h1 h2 h3 h4 h5 h6 ih => exact .step e ih h1 h2 h3 h4 h5 h6

theorem open_zero {n : Nat} {es : List En} {x : Int} (h : valE n es x = 0) (hl : 1 ≤ x.natAbs ∧ x.natAbs ≤ n) : openC n es x = 0 ∧ look es (x.natAbs - 1) = none := by
  unfold valE at h
  rw [if_pos hl] at h
  unfold openC
  rw [if_pos hl]
  cases hk : look es (x.natAbs - 1) with
  | none => exact ⟨rfl, rfl⟩
  | some e =>
    rw [hk] at h
    simp only at h
    split at h <;> cases h

theorem good_push {n : Nat} {es : List En} (hg : Good n es) {x : Int} (h : valE n es x = 0) (hl : 1 ≤ x.natAbs ∧ x.natAbs ≤ n) (c : Nat) : Good n (⟨x, hi es, c⟩ :: es) :=
  ⟨hl, (open_zero h hl).2, .inr ⟨by show (0 : Int) ≤ (c : Int); omega, rfl⟩, hg⟩
theorem asn_push {n : Nat} {es : List En} {x : Int} (h : valE n es x = 0) (hl : 1 ≤ x.natAbs ∧ x.natAbs ≤ n) (c : Nat) : (asnC n es x c).2 = ⟨x, hi es, c⟩ :: es := by
  unfold asnC
  rw [if_neg (by omega)]
  simp only
  rw [if_pos (open_zero h hl).1]

theorem Ext.good {n : Nat} {cl : List (List Int)} {a b : List En} (h : Ext n cl a b) (hk : ∀ c ∈ cl, knownS n c = true) (hg : Good n a) : Good n b := by
  induction h with
  | refl => exact hg
  | step e _ h1 h2 h3 h4 h5 _ ih =>
    have h7 := hk _ (getD_lt h4).2
    have h8 := List.all_eq_true.1 h7 _ h4
    simp only [decide_eq_true_eq] at h8
    have h9 := open_zero h5 h8
    exact ⟨h8, h9.2, .inr ⟨h1, h3⟩, ih⟩
theorem Ext.keeps {n : Nat} {cl : List (List Int)} {a b : List En} (h : Ext n cl a b) (hk : ∀ c ∈ cl, knownS n c = true) (hg : Good n a) {x : Int} (hx : valE n a x ≠ 0) : valE n b x = valE n a x := by
  induction h with
  | refl => rfl
  | step e h0 h1 h2 h3 h4 h5 h6 ih =>
    have h7 := (Ext.step e h0 h1 h2 h3 h4 h5 h6).good hk hg
    rw [val_push h7 x (by rw [ih]; exact hx), ih]

theorem WInv.lits {S : WS} (h : WInv S) {c : Nat} {x : Int} (hx : x ∈ S.ls.getD c []) : c < S.cl.length ∧ 1 ≤ x.natAbs ∧ x.natAbs ≤ S.n := by
  have h1 := (h.mem c x).1 hx
  obtain ⟨h2, h3⟩ := getD_lt h1
  have h4 := List.all_eq_true.1 (h.known _ h3) _ h1
  simp only [decide_eq_true_eq] at h4
  exact ⟨h2, h4⟩

theorem WInv.push {S : WS} (h : WInv S) (e : En) (hg : Good S.n (e :: S.es))
    (hj : 0 ≤ e.reason → e.reason < S.cl.length ∧ e.lit ∈ S.cl.getD e.reason.toNat [] ∧ ∀ x ∈ S.cl.getD e.reason.toNat [], x ≠ e.lit → valE S.n S.es x = -1) : WInv (S.wEs (e :: S.es)) := by
  have hd := h.doneLe
  have hv1 : ∀ x, valE S.n S.es x = 1 → valE S.n (e :: S.es) x = 1 := fun x hx => by rw [val_push hg x (by omega), hx]
  have hv2 : ∀ x, valE S.n S.es x = -1 → valE S.n (e :: S.es) x = -1 := fun x hx => by rw [val_push hg x (by omega), hx]
  exact { h with
    good := hg
    doneLe := by show S.done ≤ (e :: S.es).length; simp; omega
    single := fun i hi a ha => hv1 _ (h.single i hi a ha)
    watch := fun i hi a b r hl => by
      obtain ⟨h1, h2⟩ := h.watch i hi a b r hl
      exact ⟨fun hs => hv1 _ (h1 ((seen_push hd).1 hs)), fun hs => hv1 _ (h2 ((seen_push hd).1 hs))⟩
    watchF := fun i a b r hl hf => by
      obtain ⟨h1, h2⟩ := h.watchF i a b r hl hf
      exact ⟨fun hs x hx => hv2 _ (h1 ((seen_push hd).1 hs) x hx), fun hs x hx => hv2 _ (h2 ((seen_push hd).1 hs) x hx)⟩
    just := ⟨hj, h.just⟩ }

theorem look_cases {S : WS} (h : WInv S) (c : Nat) :
    ((∃ x ∈ S.ls.getD c [], valE S.n S.es x = 1) ∧ lookS S c = (S, false)) ∨
    ((∀ x ∈ S.ls.getD c [], valE S.n S.es x = -1) ∧ lookS S c = (S, true)) ∨
    (∃ x ∈ S.ls.getD c [], valE S.n S.es x = 0 ∧ (∀ y ∈ S.ls.getD c [], y ≠ x → valE S.n S.es y = -1) ∧ lookS S c = (S.wEs (⟨x, hi S.es, c⟩ :: S.es), false)) ∨
    ((∃ x ∈ S.ls.getD c [], ∃ y ∈ S.ls.getD c [], x ≠ y ∧ valE S.n S.es x = 0 ∧ valE S.n S.es y = 0) ∧ lookS S c = (S, false)) := by
  have hlit := fun x hx => h.lits (c := c) (x := x) hx
  have hnd := h.nodup c
  unfold lookS
  generalize S.ls.getD c [] = l at *
  by_cases h1 : (l.any fun x => valE S.n S.es x == 1) = true
  · obtain ⟨x, hx, h2⟩ := List.any_eq_true.1 h1
    exact .inl ⟨⟨x, hx, by simpa using h2⟩, by rw [if_pos h1]⟩
  · rw [if_neg h1]
    have hno : ∀ x ∈ l, valE S.n S.es x ≠ 1 := fun x hx hv => h1 (List.any_eq_true.2 ⟨x, hx, by simpa using hv⟩)
    have hop : ∀ x, x ∈ openL S.n S.es l ↔ x ∈ l ∧ valE S.n S.es x = 0 := fun x => by
      unfold openL
      rw [List.mem_filter]
      simp
    have hsub : (openL S.n S.es l).Nodup := hnd.filter _
    match hO : openL S.n S.es l with
    | [] =>
      refine .inr (.inl ⟨fun x hx => ?_, rfl⟩)
      rcases val_range S.n S.es x with h2 | h2 | h2
      · exact h2
      · have := (hop x).2 ⟨hx, h2⟩
        rw [hO] at this
        cases this
      · exact absurd h2 (hno x hx)
    | [x] =>
      obtain ⟨hx, hv⟩ := (hop x).1 (by rw [hO]; exact List.mem_cons_self ..)
      refine .inr (.inr (.inl ⟨x, hx, hv, fun y hy hne => ?_, ?_⟩))
      · rcases val_range S.n S.es y with h2 | h2 | h2
        · exact h2
        · have := (hop y).2 ⟨hy, h2⟩
          rw [hO] at this
          simp at this
          exact absurd this hne
        · exact absurd h2 (hno y hy)
      · simp only
        rw [asn_push hv (hlit x hx).2]
    | x :: y :: r =>
      obtain ⟨hx, hv⟩ := (hop x).1 (by rw [hO]; exact List.mem_cons_self ..)
      obtain ⟨hy, hw⟩ := (hop y).1 (by rw [hO]; exact List.mem_cons_of_mem _ (List.mem_cons_self ..))
      rw [hO] at hsub
      refine .inr (.inr (.inr ⟨⟨x, hx, y, hy, ?_, hv, hw⟩, rfl⟩))
      rintro rfl
      exact (List.nodup_cons.1 hsub).1 (List.mem_cons_self ..)

/-- The one that was open is assigned. -/
theorem WInv.unit {S : WS} (h : WInv S) {c : Nat} {x : Int} (hx : x ∈ S.ls.getD c []) (hv : valE S.n S.es x = 0) (ho : ∀ y ∈ S.ls.getD c [], y ≠ x → valE S.n S.es y = -1) :
    WInv (S.wEs (⟨x, hi S.es, c⟩ :: S.es)) ∧ Ext S.n S.cl S.es (⟨x, hi S.es, c⟩ :: S.es) ∧ valE S.n (⟨x, hi S.es, c⟩ :: S.es) x = 1 := by
  obtain ⟨hc, hl⟩ := h.lits hx
  have hg := good_push h.good hv hl c
  have hx2 := (h.mem c x).1 hx
  have ho2 : ∀ y ∈ S.cl.getD c [], y ≠ x → valE S.n S.es y = -1 := fun y hy => ho y ((h.mem c y).2 hy)
  refine ⟨h.push _ hg fun _ => ?_, .step _ .refl ?_ ?_ rfl ?_ hv ?_, (val_of hg (List.mem_cons_self ..)).1⟩
  · simp only [Int.toNat_natCast]
    exact ⟨by omega, hx2, ho2⟩
  · show (0 : Int) ≤ (c : Int); omega
  · show (c : Int) < (S.cl.length : Int); omega
  · simpa using hx2
  · simpa using ho2

/-- It was looked at. -/
theorem WInv.drop {S : WS} (h : WInv S) {c : Nat} {rest : List Nat} (hf : S.fresh = c :: rest) (ho : Settled S.n S.es (S.ls.getD c [])) : WInv (S.wFresh rest) := by
  have hsub : ∀ i, i ∉ rest → i ≠ c → i ∉ S.fresh := fun i h1 h2 h3 => by
    rw [hf] at h3
    rcases List.mem_cons.1 h3 with h3 | h3
    · exact h2 h3
    · exact h1 h3
  have hup : ∀ i, i ∈ rest → i ∈ S.fresh := fun i hi => by rw [hf]; exact List.mem_cons_of_mem _ hi
  exact { h with
    freshLt := fun i hi => h.freshLt i (hup i hi)
    empty := fun i hi hn => by
      by_cases hic : i = c
      · subst hic
        intro he
        rw [he] at ho
        rcases ho with ⟨x, hx, _⟩ | ⟨x, hx, _⟩ <;> cases hx
      · exact h.empty i hi (hsub i hn hic)
    single := fun i hn a ha => by
      by_cases hic : i = c
      · subst hic
        rw [ha] at ho
        rcases ho with ⟨x, hx, hv⟩ | ⟨x, hx, y, hy, hne, _⟩
        · simp at hx; subst hx; exact hv
        · simp at hx hy; subst hx hy; exact absurd rfl hne
      · exact h.single i (hsub i hn hic) a ha
    watch := fun i hn a b r hl => by
      by_cases hic : i = c
      · subst hic
        obtain ⟨h1, h2⟩ := h.watchF i a b r hl (by rw [hf]; exact List.mem_cons_self ..)
        constructor
        · intro hs
          have ha := seen_none h.good hs
          have hb := h2 hs
          exfalso
          have hall : ∀ x ∈ S.ls.getD i [], valE S.n S.es x = -1 := fun x hx => by
            rw [hl] at hx
            rcases List.mem_cons.1 hx with rfl | hx
            · exact ha
            · exact hb x hx
          rcases ho with ⟨x, hx, hv⟩ | ⟨x, hx, y, hy, _, hv, _⟩
          · have := hall x hx; omega
          · have := hall x hx; omega
        · intro hs
          have hbv := seen_none h.good hs
          have hr := h1 hs
          have hall : ∀ x ∈ S.ls.getD i [], x ≠ a → valE S.n S.es x = -1 := fun x hx hne => by
            rw [hl] at hx
            rcases List.mem_cons.1 hx with rfl | hx
            · exact absurd rfl hne
            · rcases List.mem_cons.1 hx with rfl | hx
              · exact hbv
              · exact hr x hx
          rcases ho with ⟨x, hx, hv⟩ | ⟨x, hx, y, hy, hne, hv, hw⟩
          · by_cases hxa : x = a
            · subst hxa; exact hv
            · have := hall x hx hxa; omega
          · by_cases hxa : x = a
            · subst hxa
              have := hall y hy (fun e => hne e.symm); omega
            · have := hall x hx hxa; omega
      · exact h.watch i (hsub i hn hic) a b r hl
    watchF := fun i a b r hl hi => h.watchF i a b r hl (hup i hi) }

/-- What a round, or all of it, comes to. -/
structure Came (S : WS) (r : WS × Int) : Prop where
  inv : WInv r.1
  n : r.1.n = S.n
  cl : r.1.cl = S.cl
  ext : Ext S.n S.cl S.es r.1.es
  conf : 0 ≤ r.2 → r.2 < S.cl.length ∧ FalseC S.n r.1.es (S.cl.getD r.2.toNat [])
  least : -1 ≤ r.2
theorem Came.trans {S : WS} {T : WS} {r : WS × Int} (h1 : T.n = S.n) (h2 : T.cl = S.cl) (h3 : Ext S.n S.cl S.es T.es) (k : Came T r) : Came S r := by
  obtain ⟨a, b, c, d, e, f⟩ := k
  rw [h1, h2] at d e
  exact ⟨a, b.trans h1, c.trans h2, h3.trans d, e, f⟩

theorem fresh_spec : ∀ (fr : List Nat) (S : WS), WInv S → S.fresh = fr → Came S (freshS fr S) ∧ ((freshS fr S).2 < 0 → (freshS fr S).1.fresh = [])
  | [], S, h, hf => ⟨⟨h, rfl, rfl, .refl, fun h0 => by simp [freshS] at h0, by simp [freshS]⟩, fun _ => hf⟩
  | c :: rest, S, h, hf => by
    have hc := h.freshLt c (by rw [hf]; exact List.mem_cons_self ..)
    unfold freshS
    rcases look_cases h c with ⟨h1, h2⟩ | ⟨h1, h2⟩ | ⟨x, hx, hv, ho, h2⟩ | ⟨h1, h2⟩
    · rw [h2, if_neg (by simp)]
      obtain ⟨m1, m2⟩ := fresh_spec rest (S.wFresh rest) (h.drop hf (.inl h1)) rfl
      exact ⟨Came.trans (T := S.wFresh rest) rfl rfl .refl m1, m2⟩
    · rw [h2, if_pos rfl]
      refine ⟨⟨h, rfl, rfl, .refl, fun _ => ⟨by show (c : Int) < (S.cl.length : Int); omega, fun x hx => ?_⟩, by show (-1 : Int) ≤ (c : Int); omega⟩, fun h0 => absurd h0 (by show ¬ (c : Int) < 0; omega)⟩
      simp only [Int.toNat_natCast] at hx
      exact h1 x ((h.mem c x).2 hx)
    · obtain ⟨k1, k2, k3⟩ := h.unit hx hv ho
      rw [h2, if_neg (by simp)]
      obtain ⟨m1, m2⟩ := fresh_spec rest ((S.wEs (⟨x, hi S.es, c⟩ :: S.es)).wFresh rest) (k1.drop (c := c) (rest := rest) hf (.inl ⟨x, hx, k3⟩)) rfl
      exact ⟨Came.trans (T := (S.wEs (⟨x, hi S.es, c⟩ :: S.es)).wFresh rest) rfl rfl k2 m1, m2⟩
    · rw [h2, if_neg (by simp)]
      obtain ⟨m1, m2⟩ := fresh_spec rest (S.wFresh rest) (h.drop hf (.inr h1)) rfl
      exact ⟨Came.trans (T := S.wFresh rest) rfl rfl .refl m1, m2⟩

end Go.Proofs.Ytnachllhjojlcaa
