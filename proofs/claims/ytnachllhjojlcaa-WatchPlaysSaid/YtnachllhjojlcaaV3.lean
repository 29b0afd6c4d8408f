/- A watcher in memory: a row's literals change places; what a literal's watchers become. -/
import Derived.Test.YtnachllhjojlcaaV2
namespace Go.Proofs.Ytnachllhjojlcaa
open Go.ChangeShapes Go.WideShapes Go.ChangeAt Go.RowKit Go.Maps
set_option maxRecDepth 100000

theorem inC_getD (l : List Int) (i : Nat) (h : i < l.length) : (inC l)[i]? = some (.int .i64 (l.getD i 0)) := by
  simp [inC, h, List.getD]
theorem inC_set (l : List Int) (i : Nat) (x : Int) : (inC l).set i (.int .i64 x) = inC (l.set i x) := by
  simp [inC, List.map_set]
theorem inC_len (l : List Int) : (inC l).length = l.length := by simp [inC]
theorem natC_snoc (l : List Nat) (c : Nat) : natC (l ++ [c]) = natC l ++ [.int .i64 (c : Int)] := by simp [natC]
theorem natC_len (l : List Nat) : (natC l).length = l.length := by simp [natC]
theorem natC_one (l : List Nat) : ∀ u ∈ natC l, u.oneCell' = true := fun u hu => by
  obtain ⟨i, _, rfl⟩ := List.mem_map.1 hu
  rfl
theorem natC_get (l : List Nat) (i : Nat) (h : i < l.length) : (natC l)[i]? = some (.int .i64 ((l[i] : Nat) : Int)) := by
  simp [natC, h]
theorem rowV_len (n : Nat) (f : Nat → Value) : (rowV n f).length = n := by simp [rowV]
theorem rowV_get (n : Nat) (f : Nat → Value) (i : Nat) (h : i < n) : (rowV n f)[i]? = some (f i) := by simp [rowV, h]

section
variable {w : World} {M : WM} {S : WS}

/-- One row's literals are written anew. -/
theorem WAt.setLi {w' : World} (h : WAt w M S) {c : Nat} (hc : c < S.ls.length) (l' : List Int) (ht : Touch (fun k => (M.L c).ownBlock = some k) w w') (ho : Own w' 3 1 (M.L c) l'.length (inC l')) :
    WAt w' M (S.wLs (S.ls.set c l')) ∧ Touch (M.all S) w w' ∧ ∀ k, M.all (S.wLs (S.ls.set c l')) k → M.all S k ∨ w.heap.size ≤ k := by
  have hg := getD_setL S.ls c l' hc
  have hl : (S.ls.set c l').length = S.ls.length := by simp
  refine WAt.upd (M' := M) (S' := S.wLs (S.ls.set c l')) (fun t => t = .li c) h (ht.mono fun k _ hk => ⟨.li c, rfl, hc, hk⟩) (fun t ht hp => ?_) (fun t ht => ?_) (fun t ht k hk => ?_) (fun t ht k hk => ?_) (fun t ht k hk => ?_) (fun t t' ht ht' _ _ _ => by subst ht ht'; rfl)
  · cases t with
    | lits =>
      show Own w' 23 1 M.vL (S.ls.set c l').length (rowV (S.ls.set c l').length M.L)
      rw [hl]
      exact hp
    | li i =>
      intro hi
      show Own w' 3 1 (M.L i) ((S.ls.set c l').getD i []).length (inC ((S.ls.set c l').getD i []))
      have hic : i ≠ c := fun e => ht (by rw [e])
      rw [hg, if_neg hic]
      have hi' : i < (S.ls.set c l').length := hi
      rw [hl] at hi'
      exact hp hi'
    | _ => exact hp
  · subst ht
    intro _
    show Own w' 3 1 (M.L c) ((S.ls.set c l').getD c []).length (inC ((S.ls.set c l').getD c []))
    rw [hg, if_pos rfl]
    exact ho
  · cases t with
    | li i =>
      obtain ⟨h1, h2⟩ := hk
      have hi' : i < (S.ls.set c l').length := h1
      rw [hl] at hi'
      exact ⟨hi', h2⟩
    | _ => exact hk
  · subst ht
    exact .inl ⟨.li c, rfl, hc, hk.2⟩
  · subst ht
    exact Nat.lt_of_lt_of_le (h.lt (.li c) k ⟨hc, hk.2⟩) (Touch.size (F := fun k => (M.L c).ownBlock = some k) (by assumption))

/-- What a literal's watchers become. -/
theorem WAt.byPutN (N : Nat → Prop) (hN : ∀ k, N k → ¬ M.all S k) (h : WAt w M S) {y : Int} (hy : I64 y) (hn : M.nB < maxLen) (L : List Nat) {w1 : World} {v' : Value} (ht : Touch (fun k => (M.B y).ownBlock = some k) w w1) (ho : Own w1 3 1 v' L.length (natC L))
    (hat : ∀ k, v'.ownBlock = some k → (M.B y).ownBlock = some k ∨ N k) :
    ∃ w2, (Instr.mapUpdate 63 (.map (some M.mb)) (.int .i64 y) v').run Try.prog w1 = .ok () w2 ∧ w1.grownBy w2 (some M.mb) ∧ WAt w2 { M with B := updV M.B y v', nB := M.nB + 1 } (S.wBy (updF S.by_ y L)) ∧
      Touch (M.all S) w w2 ∧ ∀ k, WM.all { M with B := updV M.B y v', nB := M.nB + 1 } (S.wBy (updF S.by_ y L)) k → M.all S k ∨ N k := by
  have hm : MapV w M.mb M.nB M.B := h.part .map
  have hmb : ¬ (M.B y).ownBlock = some M.mb := fun e => by
    have := h.dis (.by_ y) .map M.mb e rfl
    cases this
  have hm1 : MapV w1 M.mb M.nB M.B := hm.keep (ht.block _ hm.lt hmb)
  obtain ⟨w2, hrun, hm2, hg2⟩ := hm1.put hy hn v'
  have hvm : v'.ownBlock ≠ some M.mb := fun e => by
    rcases hat _ e with h1 | h1
    · exact hmb h1
    · exact hN _ h1 ⟨.map, rfl⟩
  have ht2 : Touch (fun k => ∃ t, (t = Tag.map ∨ t = Tag.by_ y) ∧ M.own S t k) w w2 :=
    (ht.mono (G := fun k => ∃ t, (t = Tag.map ∨ t = Tag.by_ y) ∧ M.own S t k) fun k _ hk => ⟨.by_ y, .inr rfl, hk⟩).trans (Touch.of_grown (F := fun k => k = M.mb) hg2 fun k hk => by injection hk with hk; exact hk.symm) fun k _ hk => ⟨.map, .inl rfl, hk⟩
  have ho2 : Own w2 3 1 v' L.length (natC L) := ho.grown hg2 (.inr hvm)
  refine ⟨w2, hrun, hg2, ?_⟩
  refine WAt.updN (M' := { M with B := updV M.B y v', nB := M.nB + 1 }) (S' := S.wBy (updF S.by_ y L)) (fun t => t = .map ∨ t = .by_ y) N h hN ht2 (fun t ht hp => ?_) (fun t ht => ?_) (fun t ht k hk => ?_) (fun t ht k hk => ?_) (fun t ht k hk => ?_) (fun t t' ht ht' k h1 h2 => ?_)
  · cases t with
    | map => exact absurd (.inl rfl) ht
    | by_ x =>
      have hxy : x ≠ y := fun e => ht (.inr (by rw [e]))
      show Own w2 3 1 (updV M.B y v' x) (updF S.by_ y L x).length (natC (updF S.by_ y L x))
      unfold updV
      rw [if_neg hxy, updF_ne _ _ hxy]
      exact hp
    | _ => exact hp
  · rcases ht with rfl | rfl
    · exact hm2
    · show Own w2 3 1 (updV M.B y v' y) (updF S.by_ y L y).length (natC (updF S.by_ y L y))
      unfold updV
      rw [if_pos rfl, updF_same]
      exact ho2
  · cases t with
    | by_ x =>
      have hxy : x ≠ y := fun e => ht (.inr (by rw [e]))
      have hk' : (updV M.B y v' x).ownBlock = some k := hk
      unfold updV at hk'
      rw [if_neg hxy] at hk'
      exact hk'
    | _ => exact hk
  · rcases ht with rfl | rfl
    · exact .inl ⟨.map, .inl rfl, hk⟩
    · have hk' : (updV M.B y v' y).ownBlock = some k := hk
      unfold updV at hk'
      rw [if_pos rfl] at hk'
      rcases hat k hk' with h1 | h1
      · exact .inl ⟨.by_ y, .inr rfl, h1⟩
      · exact .inr h1
  · rcases ht with rfl | rfl
    · cases hk
      exact hm2.lt
    · have hk' : (updV M.B y v' y).ownBlock = some k := hk
      unfold updV at hk'
      rw [if_pos rfl] at hk'
      exact ho2.lt k hk'
  · rcases ht with rfl | rfl <;> rcases ht' with rfl | rfl
    · rfl
    · exfalso
      cases h1
      have hk' : (updV M.B y v' y).ownBlock = some M.mb := h2
      unfold updV at hk'
      rw [if_pos rfl] at hk'
      exact hvm hk'
    · exfalso
      cases h2
      have hk' : (updV M.B y v' y).ownBlock = some M.mb := h1
      unfold updV at hk'
      rw [if_pos rfl] at hk'
      exact hvm hk'
    · rfl

theorem WAt.byPut (h : WAt w M S) {y : Int} (hy : I64 y) (hn : M.nB < maxLen) (L : List Nat) {w1 : World} {v' : Value} (ht : Touch (fun k => (M.B y).ownBlock = some k) w w1) (ho : Own w1 3 1 v' L.length (natC L))
    (hat : ∀ k, v'.ownBlock = some k → (M.B y).ownBlock = some k ∨ w.heap.size ≤ k) :
    ∃ w2, (Instr.mapUpdate 63 (.map (some M.mb)) (.int .i64 y) v').run Try.prog w1 = .ok () w2 ∧ w1.grownBy w2 (some M.mb) ∧ WAt w2 { M with B := updV M.B y v', nB := M.nB + 1 } (S.wBy (updF S.by_ y L)) ∧
      Touch (M.all S) w w2 ∧ ∀ k, WM.all { M with B := updV M.B y v', nB := M.nB + 1 } (S.wBy (updF S.by_ y L)) k → M.all S k ∨ w.heap.size ≤ k :=
  WAt.byPutN (fun k => w.heap.size ≤ k) (fun k hk ⟨t, ht⟩ => by have := h.lt t k ht; omega) h hy hn L ht ho hat

/-- One more watches a literal. -/
theorem WAt.byPush (h : WAt w M S) {y : Int} (hy : I64 y) (hn : M.nB < maxLen) (c : Nat) {wA w1 : World} {v' : Value} (hA : Below w.heap.size w wA)
    (ho : Own w1 3 1 v' ((S.by_ y).length + 1) (natC (S.by_ y) ++ [.int .i64 (c : Int)])) (hg : wA.grownBy w1 (M.B y).ownBlock) (hat : v'.ownBlock = (M.B y).ownBlock ∨ v'.ownBlock = some wA.heap.size) :
    ∃ w2, (Instr.mapUpdate 63 (.map (some M.mb)) (.int .i64 y) v').run Try.prog w1 = .ok () w2 ∧ w1.grownBy w2 (some M.mb) ∧ WAt w2 { M with B := updV M.B y v', nB := M.nB + 1 } (S.wBy (updF S.by_ y (S.by_ y ++ [c]))) ∧
      Touch (M.all S) w w2 ∧ ∀ k, WM.all { M with B := updV M.B y v', nB := M.nB + 1 } (S.wBy (updF S.by_ y (S.by_ y ++ [c]))) k → M.all S k ∨ w.heap.size ≤ k := by
  have ht : Touch (fun k => (M.B y).ownBlock = some k) w w1 := (Touch.of_below hA fun k => (M.B y).ownBlock = some k).trans (Touch.of_grown (F := fun k => (M.B y).ownBlock = some k) hg fun k hk => hk) fun _ _ hk => hk
  obtain ⟨w2, h1, h2⟩ := h.byPut hy hn (S.by_ y ++ [c]) ht (by rw [natC_snoc, List.length_append]; exact ho) (fun k hk => by
    rcases hat with e | e
    · exact .inl (e ▸ hk)
    · rw [e] at hk
      injection hk with hk
      exact .inr (by have := hA.size; omega))
  exact ⟨w2, h1, h2⟩

/-- A row's cells. -/
theorem WAt.row (h : WAt w M S) {c : Nat} (hc : c < S.ls.length) (h0 : 0 < (S.ls.getD c []).length) : ∃ b off cap, M.L c = .slice (some ⟨b, off, none⟩) (S.ls.getD c []).length cap ∧ (S.ls.getD c []).length ≤ cap ∧
    (∀ i, i < (S.ls.getD c []).length → w.cell? ⟨b, off + i, none⟩ = some (.int .i64 ((S.ls.getD c []).getD i 0))) ∧ (∀ i, w.frozen? ⟨b, i, none⟩ = false) ∧ b < w.heap.size := by
  have ho : Own w 3 1 (M.L c) _ _ := h.part (.li c) hc
  obtain ⟨ao, cap, e, h1, h2, hf⟩ := ho.form
  obtain ⟨b, off, rfl, hc2, h3, h4⟩ := hf h0
  exact ⟨b, off, cap, e, h1, fun i hi => by rw [hc2 i (by rw [inC_len]; exact hi), inC_getD _ _ hi], h3, h4⟩

/-- Two of them change places. -/
theorem WAt.swap (h : WAt w M S) {c : Nat} (hc : c < S.ls.length) {b off cap : Nat} (hL : M.L c = .slice (some ⟨b, off, none⟩) (S.ls.getD c []).length cap) (i j : Nat) :
    WAt ((w.setCell ⟨b, off + i, none⟩ (.int .i64 ((S.ls.getD c []).getD j 0))).setCell ⟨b, off + j, none⟩ (.int .i64 ((S.ls.getD c []).getD i 0))) M (S.wLs (S.ls.set c (swapL (S.ls.getD c []) i j))) ∧
    Touch (M.all S) w ((w.setCell ⟨b, off + i, none⟩ (.int .i64 ((S.ls.getD c []).getD j 0))).setCell ⟨b, off + j, none⟩ (.int .i64 ((S.ls.getD c []).getD i 0))) ∧
    ∀ k, M.all (S.wLs (S.ls.set c (swapL (S.ls.getD c []) i j))) k → M.all S k ∨ w.heap.size ≤ k := by
  have ho : Own w 3 1 (M.L c) _ _ := h.part (.li c) hc
  have hlt := h.lt (.li c) b ⟨hc, by rw [hL]; rfl⟩
  refine h.setLi hc _ (((Touch.refl _ w).setCell (fun _ => by rw [hL]; rfl) _).setCell (fun _ => by rw [hL]; rfl) _) ?_
  rw [hL] at ho ⊢
  have h2 := (ho.stored i (.int .i64 ((S.ls.getD c []).getD j 0))).stored j (.int .i64 ((S.ls.getD c []).getD i 0))
  rw [inC_set, inC_set] at h2
  rw [swapL_len]
  exact h2
end

end Go.Proofs.Ytnachllhjojlcaa
