/- Watchers as data: what moves does; what Propagate comes to. -/
import Derived.Test.YtnachllhjojlcaaWR
namespace Go.Proofs.Ytnachllhjojlcaa
set_option maxRecDepth 100000

theorem WInv.setL {S : WS} (h : WInv S) {c : Nat} (hc : c < S.cl.length) (hf : c ∉ S.fresh) {l' : List Int} {b' : Int → List Nat} (hp : l'.Perm (S.ls.getD c [])) (hN : ∀ x, (b' x).Nodup)
    (hI : ∀ x i, i ∈ b' x ↔ i < S.cl.length ∧ x ∈ (if i = c then l' else S.ls.getD i []).take 2) (hw : ∀ a b r, l' = a :: b :: r → (seenE S.es S.done a → valE S.n S.es b = 1) ∧ (seenE S.es S.done b → valE S.n S.es a = 1)) :
    WInv ((S.wLs (S.ls.set c l')).wBy b') := by
  have hcl : c < S.ls.length := by rw [h.len]; exact hc
  have hg := getD_setL S.ls c l' hcl
  exact { h with
    len := by simp [h.len]
    nodup := fun i => by
      show ((S.ls.set c l').getD i []).Nodup
      rw [hg]
      split
      · exact hp.nodup_iff.2 (h.nodup c)
      · exact h.nodup i
    mem := fun i x => by
      show x ∈ (S.ls.set c l').getD i [] ↔ _
      rw [hg]
      split
      · next hi => subst hi; rw [hp.mem_iff]; exact h.mem i x
      · exact h.mem i x
    byN := hN
    byI := fun x i => by
      show _ ↔ _ ∧ x ∈ ((S.ls.set c l').getD i []).take 2
      rw [hg]
      exact hI x i
    empty := fun i hi hn => by
      show (S.ls.set c l').getD i [] ≠ []
      rw [hg]
      split
      · next hic =>
        subst hic
        intro he
        rw [he] at hp
        exact h.empty i hi hn (List.nil_perm.1 hp)
      · exact h.empty i hi hn
    single := fun i hn a ha => by
      have ha' : (S.ls.set c l').getD i [] = [a] := ha
      rw [hg] at ha'
      split at ha'
      · next hic =>
        subst hic
        rw [ha'] at hp
        exact h.single i hn a (List.singleton_perm.1 hp).symm
      · exact h.single i hn a ha'
    watch := fun i hn a b r hl => by
      have hl' : (S.ls.set c l').getD i [] = a :: b :: r := hl
      rw [hg] at hl'
      split at hl'
      · exact hw a b r hl'
      · exact h.watch i hn a b r hl'
    watchF := fun i a b r hl hi => by
      have hl' : (S.ls.set c l').getD i [] = a :: b :: r := hl
      rw [hg] at hl'
      split at hl'
      · next hic => subst hic; exact absurd hi hf
      · exact h.watchF i a b r hl' hi }

/-- In the midst of moves: rest is not gone over yet. -/
structure Mid (S : WS) (x0 : Int) (left rest : List Nat) : Prop where
  inv : WInv (S.wBy (updF S.by_ x0 (left ++ rest)))
  fresh : S.fresh = []
  neg : valE S.n S.es x0 = -1
  proc : ∀ i, i < S.cl.length → i ∉ rest → ∀ a b r, S.ls.getD i [] = a :: b :: r → (a = x0 → valE S.n S.es b = 1) ∧ (b = x0 → valE S.n S.es a = 1)

theorem take2_swap (p q : Int) (r : List Int) (x : Int) : x ∈ (p :: q :: r).take 2 ↔ x ∈ (q :: p :: r).take 2 := by
  simp only [List.take_succ_cons, List.take_zero, List.mem_cons, List.not_mem_nil, or_false]
  exact Or.comm

/-- The literal comes second. -/
theorem mvSwap_spec {x0 : Int} {l : List Int} (hx : x0 ∈ l.take 2) : (l = [x0] ∧ mvSwap x0 l = [x0]) ∨ ∃ p r, mvSwap x0 l = p :: x0 :: r ∧ (l = p :: x0 :: r ∨ l = x0 :: p :: r) := by
  match l, hx with
  | [], hx => simp at hx
  | [a], hx =>
    simp at hx
    subst hx
    exact .inl ⟨rfl, by simp [mvSwap]⟩
  | a :: b :: r, hx =>
    simp only [List.take_succ_cons, List.take_zero, List.mem_cons, List.not_mem_nil, or_false] at hx
    unfold mvSwap
    by_cases ha : a = x0
    · subst ha
      rw [if_pos ⟨rfl, by simp⟩]
      exact .inr ⟨b, r, rfl, .inr rfl⟩
    · rw [if_neg (fun h => ha h.1)]
      rcases hx with hx | hx
      · exact absurd hx.symm ha
      · subst hx
        exact .inr ⟨a, r, rfl, .inl rfl⟩

theorem Mid.head {S : WS} {x0 : Int} {left rest : List Nat} {c : Nat} (h : Mid S x0 left (c :: rest)) : c < S.cl.length ∧ x0 ∈ (S.ls.getD c []).take 2 ∧ (left ++ c :: rest).Nodup := by
  have h1 := (h.inv.byI x0 c).1 (by
    show c ∈ updF S.by_ x0 (left ++ c :: rest) x0
    rw [updF_same]
    simp)
  have h2 := h.inv.byN x0
  have h3 : updF S.by_ x0 (left ++ c :: rest) x0 = left ++ c :: rest := updF_same _ _ _
  exact ⟨h1.1, h1.2, by rw [← h3]; exact h2⟩

theorem set_perm {p y : Int} {r : List Int} {j : Nat} (hj : j < r.length) (hy : r.getD j 0 = y) (x0 : Int) : (p :: y :: r.set j x0).Perm (p :: x0 :: r) ∧ swapL (p :: x0 :: r) 1 (2 + j) = p :: y :: r.set j x0 := by
  have e : swapL (p :: x0 :: r) 1 (2 + j) = p :: y :: r.set j x0 := by
    have e1 : 2 + j = j + 1 + 1 := by omega
    unfold swapL
    rw [e1]
    simp only [List.getD_cons_succ, List.getD_cons_zero, List.set_cons_succ, List.set_cons_zero, hy]
  exact ⟨e ▸ swapL_perm (by simp) (by simp; omega), e⟩

/-- Another literal is watched in its place. -/
theorem mid_other {S : WS} {x0 : Int} {left rest : List Nat} {c : Nat} (h : Mid S x0 left (c :: rest)) {p y : Int} {r : List Int} {j : Nat} (hl : S.ls.getD c [] = p :: x0 :: r ∨ S.ls.getD c [] = x0 :: p :: r)
    (hj : j < r.length) (hy : r.getD j 0 = y) (hv : 0 ≤ valE S.n S.es y) :
    Mid ((S.wLs (S.ls.set c (p :: y :: r.set j x0))).wBy (updF S.by_ y (S.by_ y ++ [c]))) x0 left rest := by
  obtain ⟨hc, hx0, hnd⟩ := h.head
  have hcf : c ∉ S.fresh := by rw [h.fresh]; simp
  obtain ⟨hp, _⟩ := set_perm (p := p) hj hy x0
  have hperm : (p :: y :: r.set j x0).Perm (S.ls.getD c []) := by
    rcases hl with hl | hl
    · rw [hl]; exact hp
    · rw [hl]; exact hp.trans (List.Perm.swap _ _ _)
  have hlnd : (p :: x0 :: r).Nodup := by
    have h1 := h.inv.nodup c
    have h2 : (S.ls.getD c []).Nodup := h1
    rcases hl with hl | hl
    · rwa [hl] at h2
    · rw [hl] at h2; exact (List.Perm.swap x0 p r).nodup_iff.2 h2
  have ht2 : ∀ x, x ∈ (S.ls.getD c []).take 2 ↔ x = p ∨ x = x0 := fun x => by
    rcases hl with hl | hl
    · rw [hl]; simp
    · rw [hl, take2_swap]; simp
  have hyr : y ∈ r := by
    rw [← hy, List.getD_eq_getElem?_getD, List.getElem?_eq_getElem hj]
    exact List.getElem_mem hj
  have hyx : y ≠ x0 := by
    rintro rfl
    have := h.neg
    omega
  have hpx : p ≠ x0 := by
    rintro rfl
    exact (List.nodup_cons.1 hlnd).1 (List.mem_cons_self ..)
  have hyp : y ≠ p := by
    rintro rfl
    exact (List.nodup_cons.1 hlnd).1 (List.mem_cons_of_mem _ hyr)
  have hcl : c ∉ left ++ rest := by
    have h1 := hnd
    rw [List.nodup_append] at h1
    obtain ⟨_, h2, h3⟩ := h1
    intro hm
    rcases List.mem_append.1 hm with hm | hm
    · exact h3 c hm c (List.mem_cons_self ..) rfl
    · exact (List.nodup_cons.1 h2).1 hm
  have hnd2 : (left ++ rest).Nodup := hnd.sublist (List.Sublist.append_left (List.sublist_cons_self _ _) _)
  have hold : ∀ x, x ≠ x0 → ∀ i, i ∈ S.by_ x ↔ i < S.cl.length ∧ x ∈ (S.ls.getD i []).take 2 := fun x hx i => by
    have h1 := h.inv.byI x i
    have h2 : updF S.by_ x0 (left ++ c :: rest) x = S.by_ x := updF_ne _ _ hx
    rw [← h2]
    exact h1
  have hold0 : ∀ i, i ∈ left ++ c :: rest ↔ i < S.cl.length ∧ x0 ∈ (S.ls.getD i []).take 2 := fun i => by
    have h1 := h.inv.byI x0 i
    have h2 : updF S.by_ x0 (left ++ c :: rest) x0 = left ++ c :: rest := updF_same _ _ _
    rw [← h2]
    exact h1
  have hcy : c ∉ S.by_ y := fun hm => by
    have := ((hold y hyx c).1 hm).2
    rcases (ht2 y).1 this with h1 | h1
    · exact hyp h1
    · exact hyx h1
  have hseen : ∀ x, seenE S.es S.done x → valE S.n S.es x = -1 := fun x hs => seen_none h.inv.good hs
  have hnp : ¬ seenE S.es S.done p := fun hs => by
    have h1 := h.inv.watch c hcf
    rcases hl with hl | hl
    · have := (h1 p x0 r hl).1 hs
      have h2 := h.neg
      rw [h2] at this
      cases this
    · have := (h1 x0 p r hl).2 hs
      have h2 := h.neg
      rw [h2] at this
      cases this
  have hny : ¬ seenE S.es S.done y := fun hs => by have := hseen y hs; omega
  refine ⟨?_, h.fresh, h.neg, fun i hi hn a b q hq => ?_⟩
  · have key := WInv.setL h.inv (c := c) hc hcf (l' := p :: y :: r.set j x0) (b' := updF (updF S.by_ y (S.by_ y ++ [c])) x0 (left ++ rest)) hperm (fun x => ?_) (fun x i => ?_) (fun a b q hq => ?_)
    · exact key
    · by_cases hx : x = x0
      · subst hx
        rw [updF_same]
        exact hnd2
      · rw [updF_ne _ _ hx]
        by_cases hxy : x = y
        · subst hxy
          rw [updF_same, List.nodup_append]
          have h1 : (updF S.by_ x0 (left ++ c :: rest) x).Nodup := h.inv.byN x
          have h2 : updF S.by_ x0 (left ++ c :: rest) x = S.by_ x := updF_ne _ _ hx
          rw [h2] at h1
          exact ⟨h1, by simp, fun a ha b hb => by simp at hb; subst hb; rintro rfl; exact hcy ha⟩
        · rw [updF_ne _ _ hxy]
          have h1 : (updF S.by_ x0 (left ++ c :: rest) x).Nodup := h.inv.byN x
          have h2 : updF S.by_ x0 (left ++ c :: rest) x = S.by_ x := updF_ne _ _ hx
          rwa [h2] at h1
    · show i ∈ updF (updF S.by_ y (S.by_ y ++ [c])) x0 (left ++ rest) x ↔ i < S.cl.length ∧ x ∈ (if i = c then p :: y :: r.set j x0 else S.ls.getD i []).take 2
      by_cases hx : x = x0
      · subst hx
        rw [updF_same]
        by_cases hic : i = c
        · subst hic
          rw [if_pos rfl]
          constructor
          · intro hm; exact absurd hm hcl
          · rintro ⟨_, hm⟩
            simp only [List.take_succ_cons, List.take_zero, List.mem_cons, List.not_mem_nil, or_false] at hm
            rcases hm with hm | hm
            · exact absurd hm.symm hpx
            · exact absurd hm.symm hyx
        · rw [if_neg hic, ← hold0 i]
          simp only [List.mem_append, List.mem_cons]
          constructor
          · rintro (h | h)
            · exact .inl h
            · exact .inr (.inr h)
          · rintro (h | h | h)
            · exact .inl h
            · exact absurd h hic
            · exact .inr h
      · rw [updF_ne _ _ hx]
        by_cases hxy : x = y
        · subst hxy
          rw [updF_same, List.mem_append]
          by_cases hic : i = c
          · subst hic
            rw [if_pos rfl]
            simp [hc]
          · rw [if_neg hic, hold x hx i]
            simp [hic]
        · rw [updF_ne _ _ hxy]
          by_cases hic : i = c
          · subst hic
            rw [if_pos rfl, hold x hx i, ht2 x]
            simp [hx, hxy]
          · rw [if_neg hic]
            exact hold x hx i
    · simp only [List.cons.injEq] at hq
      obtain ⟨rfl, rfl, rfl⟩ := hq
      exact ⟨fun hs => absurd hs hnp, fun hs => absurd hs hny⟩
  · have hcl' : c < S.ls.length := by rw [show S.ls.length = S.cl.length from h.inv.len]; exact hc
    have hq' : (S.ls.set c (p :: y :: r.set j x0)).getD i [] = a :: b :: q := hq
    rw [getD_setL _ _ _ hcl'] at hq'
    split at hq'
    · simp only [List.cons.injEq] at hq'
      obtain ⟨rfl, rfl, rfl⟩ := hq'
      exact ⟨fun e => absurd e hpx, fun e => absurd e hyx⟩
    · next hic => exact h.proc i hi (fun hm => by
        rcases List.mem_cons.1 hm with hm | hm
        · exact hic hm
        · exact hn hm) a b q hq'

/-- The same two are watched, the literal second. -/
theorem mid_keep {S : WS} {x0 : Int} {left rest : List Nat} {c : Nat} (h : Mid S x0 left (c :: rest)) {l' : List Int} (hl : l' = S.ls.getD c [] ∨ ∃ p r, l' = p :: x0 :: r ∧ S.ls.getD c [] = x0 :: p :: r) :
    WInv ((S.wLs (S.ls.set c l')).wBy (updF S.by_ x0 (left ++ c :: rest))) := by
  obtain ⟨hc, hx0, hnd⟩ := h.head
  have hcf : c ∉ S.fresh := by rw [h.fresh]; simp
  have ht : ∀ x, x ∈ l'.take 2 ↔ x ∈ (S.ls.getD c []).take 2 := fun x => by
    rcases hl with rfl | ⟨p, r, rfl, e⟩
    · exact Iff.rfl
    · rw [e]; exact take2_swap _ _ _ _
  have hperm : l'.Perm (S.ls.getD c []) := by
    rcases hl with rfl | ⟨p, r, rfl, e⟩
    · exact List.Perm.refl _
    · rw [e]; exact List.Perm.swap _ _ _
  refine WInv.setL h.inv hc hcf hperm h.inv.byN (fun x i => ?_) (fun a b q hq => ?_)
  · rw [h.inv.byI x i]
    show i < S.cl.length ∧ x ∈ (S.ls.getD i []).take 2 ↔ i < S.cl.length ∧ x ∈ (if i = c then l' else S.ls.getD i []).take 2
    by_cases hic : i = c
    · subst hic
      rw [if_pos rfl, ht]
    · rw [if_neg hic]
  · have h1 := h.inv.watch c hcf
    rcases hl with rfl | ⟨p, r, rfl, e⟩
    · exact h1 a b q hq
    · simp only [List.cons.injEq] at hq
      obtain ⟨rfl, rfl, rfl⟩ := hq
      exact And.symm (h1 x0 p r e)

theorem look_by (S : WS) (b : Int → List Nat) (c : Nat) : lookS (S.wBy b) c = ((lookS S c).1.wBy b, (lookS S c).2) := by
  unfold lookS
  simp only [WS.wBy, WS.wEs]
  by_cases h : ((S.ls.getD c []).any fun x => valE S.n S.es x == 1) = true
  · rw [if_pos h, if_pos h]
  · rw [if_neg h, if_neg h]
    rcases openL S.n S.es (S.ls.getD c []) with _ | ⟨x, _ | ⟨y, r⟩⟩ <;> rfl

/-- One of them. -/
theorem mid_step {S : WS} {x0 : Int} {left rest : List Nat} {c : Nat} (h : Mid S x0 left (c :: rest)) :
    ((mvStep x0 S left rest c).2.2 = true ∧ WInv (mvStep x0 S left rest c).1 ∧ (mvStep x0 S left rest c).1.n = S.n ∧ (mvStep x0 S left rest c).1.cl = S.cl ∧ (mvStep x0 S left rest c).1.es = S.es ∧ c < S.cl.length ∧ FalseC S.n S.es (S.cl.getD c [])) ∨
    ((mvStep x0 S left rest c).2.2 = false ∧ Mid (mvStep x0 S left rest c).1 x0 (mvStep x0 S left rest c).2.1 rest ∧ (mvStep x0 S left rest c).1.n = S.n ∧ (mvStep x0 S left rest c).1.cl = S.cl ∧ Ext S.n S.cl S.es (mvStep x0 S left rest c).1.es ∧ (mvStep x0 S left rest c).1.done = S.done) := by
  obtain ⟨hc, hx0, hnd⟩ := h.head
  have hcl' : c < S.ls.length := by rw [show S.ls.length = S.cl.length from h.inv.len]; exact hc
  have hsw := mvSwap_spec hx0
  unfold mvStep
  by_cases hat : 0 ≤ mvAt S.n S.es (mvSwap x0 (S.ls.getD c []))
  · rw [if_pos hat]
    refine .inr ⟨rfl, ?_, rfl, rfl, .refl, rfl⟩
    rcases hsw with ⟨_, h2⟩ | ⟨p, r, h2, h3⟩
    · rw [h2] at hat
      simp [mvAt] at hat
    · rw [h2] at hat ⊢
      unfold mvAt at hat ⊢
      have e1 : (p :: x0 :: r).getD 0 0 = p := rfl
      have e2 : (p :: x0 :: r).drop 2 = r := rfl
      rw [e1, e2] at hat ⊢
      by_cases hp : valE S.n S.es p ≠ 1
      · rw [if_pos ⟨by simp, hp⟩] at hat ⊢
        rcases firstAt_spec (fun x => decide (0 ≤ valE S.n S.es x)) r 0 with ⟨h4, _⟩ | ⟨j, h4, h5, h6⟩
        · rw [h4] at hat
          exact absurd hat (by decide)
        · rw [h5]
          simp only [Nat.zero_add, Int.toNat_natCast]
          obtain ⟨_, h7⟩ := set_perm (p := p) h4 rfl x0
          rw [h7]
          exact mid_other h h3 h4 rfl (by simpa using h6)
      · rw [if_neg (fun h => hp h.2)] at hat
        exact absurd hat (by decide)
  · rw [if_neg hat]
    have hk : mvSwap x0 (S.ls.getD c []) = S.ls.getD c [] ∨ ∃ p r, mvSwap x0 (S.ls.getD c []) = p :: x0 :: r ∧ S.ls.getD c [] = x0 :: p :: r := by
      rcases hsw with ⟨h1, h2⟩ | ⟨p, r, h2, h3 | h3⟩
      · exact .inl (by rw [h2, h1])
      · exact .inl (by rw [h2, h3])
      · exact .inr ⟨p, r, h2, h3⟩
    have hW := mid_keep h hk
    have hgo : ∀ a b r, mvSwap x0 (S.ls.getD c []) = a :: b :: r → b = x0 ∧ (valE S.n S.es a = 1 ∨ ∀ x ∈ r, valE S.n S.es x = -1) := fun a b r he => by
      rcases hsw with ⟨_, h2⟩ | ⟨p, r', h2, _⟩
      · rw [h2] at he
        simp at he
      · rw [h2] at he
        simp only [List.cons.injEq] at he
        obtain ⟨rfl, rfl, rfl⟩ := he
        refine ⟨rfl, ?_⟩
        rw [h2] at hat
        unfold mvAt at hat
        have e1 : (p :: x0 :: r').getD 0 0 = p := rfl
        have e2 : (p :: x0 :: r').drop 2 = r' := rfl
        rw [e1, e2] at hat
        by_cases hp : valE S.n S.es p = 1
        · exact .inl hp
        · rw [if_pos ⟨by simp, hp⟩] at hat
          rcases firstAt_spec (fun x => decide (0 ≤ valE S.n S.es x)) r' 0 with ⟨_, h4⟩ | ⟨j, h4, h5, _⟩
          · refine .inr fun x hx => ?_
            have h5 := h4 x hx
            have h6 := val_range S.n S.es x
            simp only [decide_eq_false_iff_not] at h5
            omega
          · rw [h5] at hat
            exact absurd (by omega : (0 : Int) ≤ ((0 + j : Nat) : Int)) hat
    generalize mvSwap x0 (S.ls.getD c []) = l' at *
    -- the state ahead of look, with the whole row at the literal
    have hls : (S.ls.set c l').getD c [] = l' := by rw [getD_setL _ _ _ hcl', if_pos rfl]
    have hlook := look_cases hW c
    have e1 := look_by (S.wLs (S.ls.set c l')) (updF S.by_ x0 (left ++ c :: rest)) c
    rw [e1] at hlook
    have hls2 : (((S.wLs (S.ls.set c l')).wBy (updF S.by_ x0 (left ++ c :: rest))).ls.getD c []) = l' := hls
    rw [hls2] at hlook
    have happ : left ++ [c] ++ rest = left ++ c :: rest := by simp
    have hproc : ∀ (es' : List En), (∀ x, valE S.n S.es x = 1 → valE S.n es' x = 1) → (∀ a b r, l' = a :: b :: r → valE S.n es' a = 1) → ∀ i, i < S.cl.length → i ∉ rest → ∀ a b r, (S.ls.set c l').getD i [] = a :: b :: r → (a = x0 → valE S.n es' b = 1) ∧ (b = x0 → valE S.n es' a = 1) := by
      intro es' hup hone i hi hn a b r hq
      rw [getD_setL _ _ _ hcl'] at hq
      split at hq
      · obtain ⟨rfl, _⟩ := hgo a b r hq
        have h1 := hone a b r hq
        refine ⟨fun e => ?_, fun _ => h1⟩
        have hnd' : (a :: b :: r).Nodup := by
          have h2 := hW.nodup c
          rw [hls2, hq] at h2
          exact h2
        subst e
        exact absurd (List.mem_cons_self ..) (List.nodup_cons.1 hnd').1
      · next hic =>
        obtain ⟨h1, h2⟩ := h.proc i hi (fun hm => by
          rcases List.mem_cons.1 hm with hm | hm
          · exact hic hm
          · exact hn hm) a b r hq
        exact ⟨fun e => hup _ (h1 e), fun e => hup _ (h2 e)⟩
    have hstay : ∀ (st : WS) (k : Bool), lookS (S.wLs (S.ls.set c l')) c = (st, k) → k = false → st = S.wLs (S.ls.set c l') → (∀ a b r, l' = a :: b :: r → valE S.n S.es a = 1) →
        Mid st x0 (left ++ [c]) rest := by
      intro st k _ _ hst hone
      subst hst
      refine ⟨?_, h.fresh, h.neg, hproc S.es (fun _ h => h) hone⟩
      show WInv ((S.wLs (S.ls.set c l')).wBy (updF S.by_ x0 (left ++ [c] ++ rest)))
      rw [happ]
      exact hW
    rcases hL : lookS (S.wLs (S.ls.set c l')) c with ⟨st, k⟩
    rw [hL] at hlook
    simp only at hlook ⊢
    rcases hlook with ⟨⟨x, hx, hv⟩, h2⟩ | ⟨h1, h2⟩ | ⟨x, hx, hv, ho, h2⟩ | ⟨⟨x, hx, y, hy, hne, hv, hw⟩, h2⟩
    · simp only [Prod.mk.injEq] at h2
      obtain ⟨h2, rfl⟩ := h2
      have hst : st = S.wLs (S.ls.set c l') := by
        have h3 := congrArg Prod.fst hL
        unfold lookS at h3
        have h4 : (((S.wLs (S.ls.set c l')).ls.getD c []).any fun x => valE S.n S.es x == 1) = true := by
          show ((S.ls.set c l').getD c []).any _ = true
          rw [hls]
          exact List.any_eq_true.2 ⟨x, hx, by simpa using hv⟩
        rw [if_pos h4] at h3
        exact h3.symm
      refine .inr ⟨rfl, hstay st false hL rfl hst fun a b r he => ?_, by rw [hst]; rfl, by rw [hst]; rfl, by rw [hst]; exact .refl, by rw [hst]; rfl⟩
      obtain ⟨hbx, h3 | h3⟩ := hgo a b r he
      · exact h3
      · rw [he] at hx
        rcases List.mem_cons.1 hx with rfl | hx
        · exact hv
        · rcases List.mem_cons.1 hx with rfl | hx
          · rw [hbx] at hv
            have := h.neg
            have hv' : valE S.n S.es x0 = 1 := hv
            omega
          · have := h3 x hx
            have hv' : valE S.n S.es x = 1 := hv
            omega
    · simp only [Prod.mk.injEq] at h2
      obtain ⟨h2, rfl⟩ := h2
      have hst : st = S.wLs (S.ls.set c l') := by
        have h3 := congrArg Prod.fst hL
        have h5 := congrArg Prod.snd hL
        unfold lookS at h3 h5
        split at h3
        · exact h3.symm
        · next hnot =>
          rw [if_neg hnot] at h5
          split at h3
          · exact h3.symm
          · next hO => rw [hO] at h5; simp at h5
          · exact h3.symm
      refine .inl ⟨rfl, ?_, ?_, ?_, ?_, hc, fun x hx => ?_⟩
      · show WInv (if true = true then st.wBy (updF S.by_ x0 (left ++ [c] ++ rest)) else st)
        rw [if_pos rfl, hst, happ]
        exact hW
      · rw [if_pos rfl, hst]
      · rw [if_pos rfl, hst]
      · rw [if_pos rfl, hst]
      · refine h1 x ?_
        have h3 := (hW.mem c x).2 hx
        rwa [hls2] at h3
    · obtain ⟨k1, k2, k3⟩ := hW.unit (c := c) (x := x) (by rw [hls2]; exact hx) hv (by rw [hls2]; exact ho)
      simp only [Prod.mk.injEq] at h2
      obtain ⟨h2, rfl⟩ := h2
      have hes : st.es = ⟨x, hi S.es, c⟩ :: S.es := by have := congrArg WS.es h2; exact this
      have hby : st.by_ = S.by_ := by
        have h3 := congrArg Prod.fst hL
        unfold lookS at h3
        split at h3
        · exact (congrArg WS.by_ h3).symm
        · split at h3 <;> exact (congrArg WS.by_ h3).symm
      have hn : st.n = S.n := by have := congrArg WS.n h2; exact this
      have hcl2 : st.cl = S.cl := by have := congrArg WS.cl h2; exact this
      have hls3 : st.ls = S.ls.set c l' := by have := congrArg WS.ls h2; exact this
      have hdn : st.done = S.done := by have := congrArg WS.done h2; exact this
      have hfr : st.fresh = S.fresh := by have := congrArg WS.fresh h2; exact this
      have hst : st = (S.wLs (S.ls.set c l')).wEs (⟨x, hi S.es, c⟩ :: S.es) := by
        cases st
        simp only at hes hby hn hcl2 hls3 hdn hfr
        subst hes hby hn hcl2 hls3 hdn hfr
        rfl
      subst hst
      have hgood : Good S.n (⟨x, hi S.es, c⟩ :: S.es) := k1.good
      have hx0v : valE S.n (⟨x, hi S.es, c⟩ :: S.es) x0 = -1 := (val_push hgood x0 (by have := h.neg; omega)).trans h.neg
      have hup : ∀ z, valE S.n S.es z = 1 → valE S.n (⟨x, hi S.es, c⟩ :: S.es) z = 1 := fun z hz => (val_push hgood z (by omega)).trans hz
      refine .inr ⟨rfl, ⟨?_, h.fresh, hx0v, hproc _ hup fun a b r he => ?_⟩, rfl, rfl, k2, rfl⟩
      · show WInv (((S.wLs (S.ls.set c l')).wBy (updF S.by_ x0 (left ++ [c] ++ rest))).wEs (⟨x, hi S.es, c⟩ :: S.es))
        rw [happ]
        exact k1
      · obtain ⟨hbx, h3⟩ := hgo a b r he
        have hxa : x = a := by
          rw [he] at hx
          rcases List.mem_cons.1 hx with h4 | hx
          · exact h4
          · exfalso
            have hv' : valE S.n S.es x = 0 := hv
            rcases List.mem_cons.1 hx with rfl | hx
            · rw [hbx] at hv'
              have := h.neg
              omega
            · rcases h3 with h3 | h3
              · have hna : a ≠ x := by
                  rintro rfl
                  omega
                have h5 : valE S.n S.es a = -1 := ho a (by rw [he]; exact List.mem_cons_self ..) hna
                omega
              · have := h3 x hx
                omega
        rw [← hxa]
        exact k3
    · simp only [Prod.mk.injEq] at h2
      obtain ⟨h2, rfl⟩ := h2
      have hst : st = S.wLs (S.ls.set c l') := by
        have h3 := congrArg Prod.fst hL
        unfold lookS at h3
        split at h3
        · exact h3.symm
        · split at h3
          · exact h3.symm
          · next hO =>
            exfalso
            have hmem : ∀ z, z ∈ l' → valE S.n S.es z = 0 → z ∈ openL S.n S.es ((S.ls.set c l').getD c []) := fun z hz hz0 => by
              rw [hls]
              unfold openL
              rw [List.mem_filter]
              exact ⟨hz, by simpa using hz0⟩
            have m1 := hmem x hx hv
            have m2 := hmem y hy hw
            have hO' : openL S.n S.es ((S.ls.set c l').getD c []) = [_] := hO
            rw [hO'] at m1 m2
            simp at m1 m2
            exact hne (by rw [m1, m2])
          · exact h3.symm
      refine .inr ⟨rfl, hstay st false hL rfl hst fun a b r he => ?_, by rw [hst]; rfl, by rw [hst]; rfl, by rw [hst]; exact .refl, by rw [hst]; rfl⟩
      obtain ⟨hbx, h3⟩ := hgo a b r he
      have hv' : valE S.n S.es x = 0 := hv
      have hw' : valE S.n S.es y = 0 := hw
      rcases h3 with h3 | h3
      · exact h3
      · exfalso
        have hall : ∀ z ∈ l', valE S.n S.es z = 0 → z = a := fun z hz hz0 => by
          rw [he] at hz
          rcases List.mem_cons.1 hz with h4 | hz
          · exact h4
          · rcases List.mem_cons.1 hz with rfl | hz
            · rw [hbx] at hz0
              have := h.neg
              omega
            · have := h3 z hz
              omega
        exact hne ((hall x hx hv').trans (hall y hy hw').symm)

end Go.Proofs.Ytnachllhjojlcaa
