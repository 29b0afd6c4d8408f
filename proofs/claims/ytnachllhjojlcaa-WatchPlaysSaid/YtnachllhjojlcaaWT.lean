/- Watchers as data: Propagate, Add, Decide, Back keep what holds. -/
import Derived.Test.YtnachllhjojlcaaWS
namespace Go.Proofs.Ytnachllhjojlcaa
set_option maxRecDepth 100000

theorem ext_lits {n : Nat} {cl : List (List Int)} {a b : List En} (h : Ext n cl a b) : ∃ s, (b.map (·.lit)).reverse = (a.map (·.lit)).reverse ++ s := by
  induction h with
  | refl => exact ⟨[], by simp⟩
  | step e _ _ _ _ _ _ _ ih =>
    obtain ⟨s, hs⟩ := ih
    exact ⟨s ++ [e.lit], by simp only [List.map_cons, List.reverse_cons]; rw [hs, List.append_assoc]⟩
theorem ext_len {n : Nat} {cl : List (List Int)} {a b : List En} (h : Ext n cl a b) : a.length ≤ b.length := by
  obtain ⟨s, hs⟩ := ext_lits h
  have := congrArg List.length hs
  simp at this
  omega

theorem moves_spec (x0 : Int) : ∀ (rest : List Nat) (S : WS) (left : List Nat), Mid S x0 left rest → Came S (movesS x0 rest S left) ∧ ((movesS x0 rest S left).2 < 0 → (movesS x0 rest S left).1.fresh = [] ∧ (movesS x0 rest S left).1.done = S.done ∧
    ∀ i, i < S.cl.length → ∀ a b r, (movesS x0 rest S left).1.ls.getD i [] = a :: b :: r → (a = x0 → valE S.n (movesS x0 rest S left).1.es b = 1) ∧ (b = x0 → valE S.n (movesS x0 rest S left).1.es a = 1))
  | [], S, left, h => by
    have h1 := h.inv
    rw [List.append_nil] at h1
    exact ⟨⟨h1, rfl, rfl, .refl, fun h0 => by simp [movesS] at h0, by simp [movesS]⟩, fun _ => ⟨h.fresh, rfl, fun i hi a b r hq => h.proc i hi (by simp) a b r hq⟩⟩
  | c :: rest, S, left, h => by
    unfold movesS
    rcases mid_step h with ⟨h1, h2, h3, h4, h5, h6, h7⟩ | ⟨h1, h2, h3, h4, h5, h6⟩
    · rw [if_pos h1]
      refine ⟨⟨h2, h3, h4, by rw [h5]; exact .refl, fun _ => ⟨by show (c : Int) < (S.cl.length : Int); omega, ?_⟩, by show (-1 : Int) ≤ (c : Int); omega⟩, fun h0 => absurd h0 (by show ¬ (c : Int) < 0; omega)⟩
      simp only [Int.toNat_natCast]
      rw [h5]
      exact h7
    · rw [if_neg (by rw [h1]; simp)]
      obtain ⟨k1, k2⟩ := moves_spec x0 rest _ _ h2
      refine ⟨Came.trans h3 h4 h5 k1, fun h0 => ?_⟩
      obtain ⟨m1, m2, m3⟩ := k2 h0
      rw [h3, h4] at m3
      exact ⟨m1, m2.trans h6, m3⟩

theorem head_val {S : WS} (h : WInv S) (hd : S.done < S.es.length) : valE S.n S.es (headS S) = -1 := by
  unfold headS
  have hl : S.done < ((S.es.map (·.lit)).reverse).length := by simpa using hd
  rw [List.getD_eq_getElem?_getD, List.getElem?_eq_getElem hl]
  simp only [Option.getD_some]
  have hm := List.getElem_mem hl
  obtain ⟨e, he, h1⟩ := List.mem_map.1 (List.mem_reverse.1 hm)
  rw [← h1]
  exact (val_of h.good he).2

theorem mid_start {S : WS} (h : WInv S) (hf : S.fresh = []) {x0 : Int} (hv : valE S.n S.es x0 = -1) : Mid S x0 [] (S.by_ x0) := by
  refine ⟨?_, hf, hv, fun i hi hn a b r hq => ?_⟩
  · rw [List.nil_append, updF_self]
    exact h
  · have h1 : x0 ∉ (S.ls.getD i []).take 2 := fun hm => hn ((h.byI x0 i).2 ⟨hi, hm⟩)
    rw [hq] at h1
    simp only [List.take_succ_cons, List.take_zero, List.mem_cons, List.not_mem_nil, or_false, not_or] at h1
    exact ⟨fun e => absurd e.symm h1.1, fun e => absurd e.symm h1.2⟩

theorem done_spec : ∀ (k : Nat) (S : WS), WInv S → S.fresh = [] → S.n < k + S.done → Came S (doneS k S) ∧ ((doneS k S).2 < 0 → (doneS k S).1.fresh = [] ∧ (doneS k S).1.done = (doneS k S).1.es.length)
  | 0, S, h, _, hk => by
    have h1 := h.doneLe
    have h2 := h.good.len_le
    omega
  | k + 1, S, h, hf, hk => by
    unfold doneS
    by_cases hd : S.done < S.es.length
    · rw [if_pos hd]
      obtain ⟨k1, k2⟩ := moves_spec (headS S) (S.by_ (headS S)) S [] (mid_start h hf (head_val h hd))
      by_cases h0 : 0 ≤ (movesS (headS S) (S.by_ (headS S)) S []).2
      · rw [if_pos h0]
        exact ⟨k1, fun h1 => absurd h0 (by omega)⟩
      · rw [if_neg h0]
        obtain ⟨m1, m2, m3⟩ := k2 (by omega)
        obtain ⟨T, c⟩ : ∃ T, T = (movesS (headS S) (S.by_ (headS S)) S []).1 := ⟨_, rfl⟩
        rw [← c] at m1 m2 m3 ⊢
        have hT := k1.inv
        have hn := k1.n
        have hcl := k1.cl
        have hex := k1.ext
        rw [← c] at hT hn hcl hex
        have hlt : T.done < T.es.length := by rw [m2]; have := ext_len hex; omega
        have hx0 : ((T.es.map (·.lit)).reverse).getD T.done 0 = -headS S := by
          obtain ⟨s, hs⟩ := ext_lits hex
          unfold headS
          rw [Int.neg_neg, hs, m2, List.getD_eq_getElem?_getD, List.getD_eq_getElem?_getD, List.getElem?_append_left (by simpa using hd)]
        have hW : WInv (T.wDone (T.done + 1)) := { hT with
          doneLe := hlt
          watch := fun i hi a b r hq => by
            have hq' : T.ls.getD i [] = a :: b :: r := hq
            obtain ⟨w1, w2⟩ := hT.watch i hi a b r hq'
            have hil : i < S.cl.length := by
              rcases Nat.lt_or_ge i S.cl.length with h1 | h1
              · exact h1
              · have h2 := (hT.mem i a).1 (by rw [hq']; exact List.mem_cons_self ..)
                have := (getD_lt h2).1
                rw [hcl] at this
                exact this
            obtain ⟨p1, p2⟩ := m3 i hil a b r hq'
            rw [← hn] at p1 p2
            constructor
            · intro hs
              rcases (seen_succ hlt).1 hs with hs | hs
              · exact w1 hs
              · rw [hx0, Int.neg_neg] at hs
                exact p1 hs
            · intro hs
              rcases (seen_succ hlt).1 hs with hs | hs
              · exact w2 hs
              · rw [hx0, Int.neg_neg] at hs
                exact p2 hs
          watchF := fun i a b r hq hi => by
            have hi' : i ∈ T.fresh := hi
            rw [m1] at hi'
            cases hi' }
        obtain ⟨q1, q2⟩ := done_spec k (T.wDone (T.done + 1)) hW m1 (by show T.n < k + (T.done + 1); rw [hn, m2]; omega)
        exact ⟨Came.trans (T := T.wDone (T.done + 1)) hn hcl hex q1, q2⟩
    · rw [if_neg hd]
      have h1 := h.doneLe
      exact ⟨⟨h, rfl, rfl, .refl, fun h0 => by simp at h0, by simp⟩, fun _ => ⟨hf, by show S.done = S.es.length; omega⟩⟩

theorem settled_all {S : WS} (h : WInv S) (hf : S.fresh = []) (hd : S.done = S.es.length) {i : Nat} (hi : i < S.cl.length) : Settled S.n S.es (S.cl.getD i []) := by
  have hnf : i ∉ S.fresh := by rw [hf]; simp
  have hmem := h.mem i
  have hnd := h.nodup i
  have hsee : ∀ x, valE S.n S.es x = -1 → seenE S.es S.done x := fun x hx => by rw [hd]; exact seen_all hx
  suffices hs : Settled S.n S.es (S.ls.getD i []) by
    rcases hs with ⟨x, hx, hv⟩ | ⟨x, hx, y, hy, hne, hv, hw⟩
    · exact .inl ⟨x, (hmem x).1 hx, hv⟩
    · exact .inr ⟨x, (hmem x).1 hx, y, (hmem y).1 hy, hne, hv, hw⟩
  match hl : S.ls.getD i [] with
  | [] => exact absurd hl (h.empty i hi hnf)
  | [a] => exact .inl ⟨a, List.mem_cons_self .., h.single i hnf a hl⟩
  | a :: b :: r =>
    obtain ⟨w1, w2⟩ := h.watch i hnf a b r hl
    have ha : a ∈ a :: b :: r := List.mem_cons_self ..
    have hb : b ∈ a :: b :: r := List.mem_cons_of_mem _ (List.mem_cons_self ..)
    rw [hl] at hnd
    have hne : a ≠ b := by
      rintro rfl
      exact (List.nodup_cons.1 hnd).1 (List.mem_cons_self ..)
    rcases val_range S.n S.es a with h1 | h1 | h1
    · exact .inl ⟨b, hb, w1 (hsee a h1)⟩
    · rcases val_range S.n S.es b with h2 | h2 | h2
      · exact .inl ⟨a, ha, w2 (hsee b h2)⟩
      · exact .inr ⟨a, ha, b, hb, hne, h1, h2⟩
      · exact .inl ⟨b, hb, h2⟩
    · exact .inl ⟨a, ha, h1⟩

/-- Propagate. -/
theorem prop_spec {S : WS} (h : WInv S) : Came S (propS S) ∧ ((propS S).2 < 0 → (propS S).1.fresh = [] ∧ ∀ i, i < S.cl.length → Settled S.n (propS S).1.es (S.cl.getD i [])) := by
  obtain ⟨k1, k2⟩ := fresh_spec S.fresh S h rfl
  unfold propS
  by_cases h0 : 0 ≤ (freshS S.fresh S).2
  · rw [if_pos h0]
    exact ⟨k1, fun h1 => absurd h0 (by omega)⟩
  · rw [if_neg h0]
    have hfr := k2 (by omega)
    have hn := k1.n
    have hcl := k1.cl
    obtain ⟨m1, m2⟩ := done_spec (S.n + 1) _ k1.inv hfr (by rw [hn]; omega)
    refine ⟨Came.trans hn hcl k1.ext m1, fun h1 => ?_⟩
    obtain ⟨p1, p2⟩ := m2 h1
    refine ⟨p1, fun i hi => ?_⟩
    have h3 := m1.inv
    have h4 := m1.n
    have h5 := m1.cl
    have h6 := settled_all h3 p1 p2 (i := i) (by rw [h5, hcl]; exact hi)
    rw [h4, h5, hn, hcl] at h6
    exact h6

/-! ### What else is done -/
theorem just_more {n : Nat} {cl : List (List Int)} (c : List Int) : ∀ {es : List En}, Just n cl es → Just n (cl ++ [c]) es
  | [], _ => trivial
  | e :: es, h => by
    refine ⟨fun h0 => ?_, just_more c h.2⟩
    obtain ⟨h1, h2, h3⟩ := h.1 h0
    have e1 : (cl ++ [c]).getD e.reason.toNat [] = cl.getD e.reason.toNat [] := by rw [getD_snoc, if_pos (by omega)]
    rw [e1]
    exact ⟨by simp; omega, h2, h3⟩
theorem just_tail {n : Nat} {cl : List (List Int)} : ∀ {xs es : List En}, Just n cl (xs ++ es) → Just n cl es
  | [], _, h => h
  | _ :: _, _, h => just_tail h.2

theorem new_inv (n : Nat) : WInv (newS n) :=
  { good := trivial
    len := rfl
    known := fun c hc => by simp [newS] at hc
    nodup := fun i => by simp [newS]
    mem := fun i x => by simp [newS]
    byN := fun x => by simp [newS]
    byI := fun x i => by simp [newS]
    freshLt := fun i hi => by simp [newS] at hi
    doneLe := Nat.le_refl _
    empty := fun i hi => by simp [newS] at hi
    single := fun i _ a ha => by simp [newS] at ha
    watch := fun i _ a b r hl => by simp [newS] at hl
    watchF := fun i a b r hl => by simp [newS] at hl
    just := trivial }

theorem rank_hi {n : Nat} {es : List En} (hg : Good n es) {x y : Int} (hr : rankE n es y ≤ rankE n es x) (hx : valE n es x = -1) : valE n es y = -1 := by
  have h1 : rankE n es x = (ofE n es ((x.natAbs : Int) - 1)).level := by unfold rankE; rw [if_neg (by omega)]
  have h2 := lev_none hg hx
  rcases val_range n es y with h | h | h
  · exact h
  all_goals
    exfalso
    have h3 : rankE n es y = (n : Int) + 1 := by unfold rankE; rw [if_pos (by omega)]
    omega

theorem add_inv {S : WS} (h : WInv S) (c : List Int) : WInv (addS S c).1 := by
  unfold addS
  by_cases hk : knownS S.n c = true
  · rw [if_pos hk]
    obtain ⟨p1, p2, p3, p4⟩ := choose_spec (rankE S.n S.es) S.cl.length (dedL c) S.by_ (ded_nodup c)
    have hcb : ∀ x, (S.by_ x).Nodup ∧ S.cl.length ∉ S.by_ x := fun x => ⟨h.byN x, fun hm => by have := ((h.byI x _).1 hm).1; omega⟩
    have p3' := p3 hcb
    generalize chooseE (rankE S.n S.es) S.cl.length (dedL c) S.by_ = p at *
    have hls := h.len
    have hg : ∀ i, (S.ls ++ [p.1]).getD i [] = if i < S.cl.length then S.ls.getD i [] else if i = S.cl.length then p.1 else [] := fun i => by rw [getD_snoc, hls]
    have hgc : ∀ i, (S.cl ++ [c]).getD i [] = if i < S.cl.length then S.cl.getD i [] else if i = S.cl.length then c else [] := fun i => getD_snoc _ _ _
    have hpm : ∀ x, x ∈ p.1 ↔ x ∈ c := fun x => by rw [p1.mem_iff, ded_mem]
    have hnf : ∀ i, i ∉ S.fresh ++ [S.cl.length] → i ∉ S.fresh ∧ i ≠ S.cl.length := fun i hi => by
      simp only [List.mem_append, List.mem_cons, List.not_mem_nil, or_false, not_or] at hi
      exact hi
    exact
      { good := h.good
        len := by show (S.ls ++ [p.1]).length = (S.cl ++ [c]).length; simp [hls]
        known := fun d hd => by
          rcases List.mem_append.1 hd with hd | hd
          · exact h.known d hd
          · simp at hd; subst hd; exact hk
        nodup := fun i => by
          show ((S.ls ++ [p.1]).getD i []).Nodup
          rw [hg]
          split
          · exact h.nodup i
          · split
            · exact p1.nodup_iff.2 (ded_nodup c)
            · simp
        mem := fun i x => by
          show x ∈ (S.ls ++ [p.1]).getD i [] ↔ x ∈ (S.cl ++ [c]).getD i []
          rw [hg, hgc]
          split
          · exact h.mem i x
          · split
            · exact hpm x
            · exact Iff.rfl
        byN := p3'
        byI := fun x i => by
          show i ∈ p.2 x ↔ i < (S.cl ++ [c]).length ∧ x ∈ ((S.ls ++ [p.1]).getD i []).take 2
          rw [p2, hg, h.byI]
          simp only [List.length_append, List.length_singleton]
          by_cases h1 : i < S.cl.length
          · rw [if_pos h1]
            constructor
            · rintro (⟨_, h2⟩ | ⟨h2, _⟩)
              · exact ⟨by omega, h2⟩
              · omega
            · rintro ⟨_, h2⟩
              exact .inl ⟨h1, h2⟩
          · rw [if_neg h1]
            by_cases h2 : i = S.cl.length
            · rw [if_pos h2]
              constructor
              · rintro (⟨h3, _⟩ | ⟨_, h3⟩)
                · omega
                · exact ⟨by omega, h3⟩
              · rintro ⟨_, h3⟩
                exact .inr ⟨h2, h3⟩
            · rw [if_neg h2]
              constructor
              · rintro (⟨h3, _⟩ | ⟨h3, _⟩) <;> omega
              · rintro ⟨h3, _⟩
                omega
        freshLt := fun i hi => by
          show i < (S.cl ++ [c]).length
          simp only [List.length_append, List.length_singleton]
          rcases List.mem_append.1 hi with hi | hi
          · have := h.freshLt i hi; omega
          · simp at hi; omega
        doneLe := h.doneLe
        empty := fun i hi hn => by
          have hi' : i < (S.cl ++ [c]).length := hi
          simp only [List.length_append, List.length_singleton] at hi'
          obtain ⟨h1, h2⟩ := hnf i hn
          show (S.ls ++ [p.1]).getD i [] ≠ []
          rw [hg, if_pos (by omega)]
          exact h.empty i (by omega) h1
        single := fun i hn a ha => by
          obtain ⟨h1, h2⟩ := hnf i hn
          have ha' : (S.ls ++ [p.1]).getD i [] = [a] := ha
          rw [hg] at ha'
          split at ha'
          · exact h.single i h1 a ha'
          · cases ha'
        watch := fun i hn a b r hl => by
          obtain ⟨h1, h2⟩ := hnf i hn
          have hl' : (S.ls ++ [p.1]).getD i [] = a :: b :: r := hl
          rw [hg] at hl'
          split at hl'
          · exact h.watch i h1 a b r hl'
          · cases hl'
        watchF := fun i a b r hl hi => by
          have hl' : (S.ls ++ [p.1]).getD i [] = a :: b :: r := hl
          rw [hg] at hl'
          split at hl'
          · next h1 =>
            rcases List.mem_append.1 hi with hi | hi
            · exact h.watchF i a b r hl' hi
            · simp at hi; omega
          · split at hl'
            · obtain ⟨q1, q2⟩ := p4 a b r hl'
              exact ⟨fun hs x hx => rank_hi h.good (q2 x hx) (seen_none h.good hs), fun hs x hx => rank_hi h.good (q1 x hx) (seen_none h.good hs)⟩
            · cases hl'
        just := just_more c h.just }
  · rw [if_neg hk]
    exact h

theorem dec_inv {S : WS} (h : WInv S) (x : Int) : WInv (decS S x).1 := by
  unfold decS
  have hg := decC_good x h.good
  unfold decC at hg ⊢
  simp only at hg ⊢
  split at hg
  · next h0 =>
    rw [if_pos h0]
    exact h.push _ hg fun h1 => absurd h1 (by show ¬ (0 : Int) ≤ -1; decide)
  · next h0 =>
    rw [if_neg h0]
    exact h

theorem mem_singles {ls : List (List Int)} {i : Nat} : i ∈ singles ls ↔ i < ls.length ∧ (ls.getD i []).length = 1 := by
  unfold singles
  rw [List.mem_filter, List.mem_range]
  simp

theorem back_inv {S : WS} (h : WInv S) (lv : Int) : WInv (backS S lv).1 := by
  unfold backS
  by_cases h0 : (backC S.es lv).1 = 0
  · rw [if_pos h0]
    have hg := backC_good lv h.good
    have he : (backC S.es lv).2 = popE lv S.es := by
      unfold backC at h0 ⊢
      split at h0
      · cases h0
      · next h1 => rw [if_neg h1]
    have hj := h.just
    rw [← cut_pop lv S.es] at hj
    have hj2 := just_tail hj
    rw [he] at hg ⊢
    have hs0 : ∀ x, ¬ seenE (popE lv S.es) 0 x := fun x hx => by simp [seenE] at hx
    have hls := h.len
    exact { h with
      good := hg
      freshLt := fun i hi => by
        rcases List.mem_append.1 hi with hi | hi
        · exact h.freshLt i hi
        · have := (mem_singles.1 hi).1
          rw [hls] at this
          exact this
      doneLe := Nat.zero_le _
      empty := fun i hi hn => h.empty i hi fun hm => hn (List.mem_append_left _ hm)
      single := fun i hn a ha => by
        have ha' : S.ls.getD i [] = [a] := ha
        have hil : i < S.ls.length := by
          rcases Nat.lt_or_ge i S.ls.length with h1 | h1
          · exact h1
          · rw [List.getD_eq_getElem?_getD, List.getElem?_eq_none h1] at ha'
            simp at ha'
        exact absurd (List.mem_append_right _ (mem_singles.2 ⟨hil, by rw [ha']; rfl⟩)) hn
      watch := fun i hn a b r hl => ⟨fun hs => absurd hs (hs0 a), fun hs => absurd hs (hs0 b)⟩
      watchF := fun i a b r hl hi => ⟨fun hs => absurd hs (hs0 b), fun hs => absurd hs (hs0 a)⟩
      just := hj2 }
  · rw [if_neg h0]
    exact h

end Go.Proofs.Ytnachllhjojlcaa
