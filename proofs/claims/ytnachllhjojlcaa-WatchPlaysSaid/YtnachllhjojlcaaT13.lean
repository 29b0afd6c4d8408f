/- Several trails side by side, each in blocks of its own, made since a world; contracts of trail's functions over them. -/
import Derived.Test.YtnachllhjojlcaaT12
namespace Go.Proofs.Ytnachllhjojlcaa
open Go.ChangeShapes Go.WideShapes Go.ChangeAt Go.RowKit
set_option maxRecDepth 100000

/-- Trails, made since w0; o: whose a block is; X: blocks of something else. -/
structure Trails (w0 w : World) (X : Nat → Prop) (L : List (Nat × TrD)) : Prop where
  bel : Below w0.heap.size w0 w
  xlt : ∀ k, X k → k < w.heap.size
  ex : ∃ o : Nat → Nat → Prop, (∀ (i g : Nat) (T : TrD), L[i]? = some (g, T) → TrA w (o i) g T) ∧ (∀ i j k, o i k → o j k → i = j) ∧ (∀ i k, o i k → w0.heap.size ≤ k) ∧ (∀ i k, o i k → k < w.heap.size) ∧ ∀ i k, o i k → ¬ X k

theorem Trails.none {w0 w : World} (hb : Below w0.heap.size w0 w) : Trails w0 w (fun _ => False) [] :=
  ⟨hb, fun _ h => h.elim, fun _ _ => False, fun i g T h => by simp at h, fun _ _ _ h => h.elim, fun _ _ h => h.elim, fun _ _ h => h.elim, fun _ _ h => h.elim⟩

theorem Trails.below {w0 w w' : World} {X : Nat → Prop} {L : List (Nat × TrD)} (h : Trails w0 w X L) (hb : Below w.heap.size w w') : Trails w0 w' X L := by
  obtain ⟨h1, h2, o, h3, h4, h5, h6, h7⟩ := h
  exact ⟨bel_new h1 h1.size hb, fun k hk => Nat.lt_of_lt_of_le (h2 k hk) hb.size, o, fun i g T hi => (h3 i g T hi).below hb, h4, h5, fun i k hk => Nat.lt_of_lt_of_le (h6 i k hk) hb.size, h7⟩

theorem Trails.get {w0 w : World} {X : Nat → Prop} {L : List (Nat × TrD)} (h : Trails w0 w X L) (i : Nat) {g : Nat} {T : TrD} (hi : L[i]? = some (g, T)) : ∃ F, TrA w F g T := by
  obtain ⟨_, _, o, h3, _⟩ := h
  exact ⟨_, h3 i g T hi⟩

/-- A call that writes one of them. -/
theorem Trails.op {f : FuncId} {args : Array Value} {Q : Ending → Prop} {w0 w : World} {X : Nat → Prop} {L : List (Nat × TrD)} (h : Trails w0 w X L) (i : Nat) {g : Nat} {T T' : TrD} (hi : L[i]? = some (g, T))
    (hc : ∀ F, TrA w F g T → Calls Try.prog f args w fun e w' => Q e ∧ TrUp w w' F g T') :
    Calls Try.prog f args w fun e w' => Q e ∧ Trails w0 w' X (L.set i (g, T')) ∧ Touch (fun k => ¬ X k) w w' := by
  obtain ⟨h1, h2, o, h3, h4, h5, h6, h7⟩ := h
  refine (hc _ (h3 i g T hi)).mono ?_
  rintro e w' ⟨hq, F', k1, k2, k3⟩
  have hs := k2.size
  refine ⟨hq, ⟨h1.trans (k2.below h1.size fun x hx hf => by have := h5 i x hf; omega), fun k hk => Nat.lt_of_lt_of_le (h2 k hk) hs, fun j k => if j = i then F' k else o j k, ?_, ?_, ?_, ?_, ?_⟩, k2.mono fun x hx hf => h7 i x hf⟩
  · intro j g' T1 hj
    have hL : i < L.length := (List.getElem?_eq_some_iff.1 hi).1
    by_cases hji : j = i
    · subst hji
      rw [List.getElem?_set_self hL] at hj
      simp only [Option.some.injEq, Prod.mk.injEq] at hj
      obtain ⟨rfl, rfl⟩ := hj
      simpa using k1
    · rw [List.getElem?_set_ne (fun e => hji e.symm)] at hj
      simp only [if_neg hji]
      exact (h3 j g' T1 hj).other k2 fun k hk hf => hji (h4 j i k hk hf)
  · intro j1 j2 k
    by_cases e1 : j1 = i <;> by_cases e2 : j2 = i
    · intro _ _; omega
    · simp only [if_pos e1, if_neg e2]
      intro hk hk2
      rcases k3 k hk with hk | hk
      · exact e1 ▸ h4 i j2 k hk hk2
      · have := h6 j2 k hk2; omega
    · simp only [if_neg e1, if_pos e2]
      intro hk2 hk
      rcases k3 k hk with hk | hk
      · exact e2 ▸ h4 j1 i k hk2 hk
      · have := h6 j1 k hk2; omega
    · simp only [if_neg e1, if_neg e2]
      exact h4 j1 j2 k
  · intro j k
    by_cases e1 : j = i
    · simp only [if_pos e1]
      intro hk
      rcases k3 k hk with hk | hk
      · exact h5 i k hk
      · exact Nat.le_trans h1.size hk
    · simp only [if_neg e1]
      exact h5 j k
  · intro j k
    by_cases e1 : j = i
    · simp only [if_pos e1]
      exact k1.lt k
    · simp only [if_neg e1]
      intro hk
      exact Nat.lt_of_lt_of_le (h6 j k hk) hs
  · intro j k
    by_cases e1 : j = i
    · simp only [if_pos e1]
      intro hk hx
      rcases k3 k hk with hk | hk
      · exact h7 i k hk hx
      · have := h2 k hx; omega
    · simp only [if_neg e1]
      exact h7 j k

/-- A new one. -/
theorem Trails.new {w0 w w' : World} {X F : Nat → Prop} {L : List (Nat × TrD)} {g : Nat} {T : TrD} (h : Trails w0 w X L) (hb : Below w.heap.size w w') (hT : TrA w' F g T) (hF : ∀ k, F k → w.heap.size ≤ k) : Trails w0 w' X (L ++ [(g, T)]) := by
  have hh := h.below hb
  have h1 := hh.bel
  have h2 := hh.xlt
  have h2' := h.xlt
  obtain ⟨a1, a2, o, a3, a4, a5, a6, a7⟩ := h
  refine ⟨h1, h2, fun j k => if j = L.length then F k else if j < L.length then o j k else False, ?_, ?_, ?_, ?_, ?_⟩
  · intro j g' T1 hj
    by_cases e : j = L.length
    · subst e
      simp at hj
      obtain ⟨rfl, rfl⟩ := hj
      simpa using hT
    · have hl : j < L.length := by
        have := (List.getElem?_eq_some_iff.1 hj).1
        simp at this
        omega
      rw [List.getElem?_append_left hl] at hj
      simp only [if_neg e, if_pos hl]
      exact (a3 j g' T1 hj).below hb
  · intro j1 j2 k
    by_cases e1 : j1 = L.length <;> by_cases e2 : j2 = L.length
    · intro _ _; omega
    · simp only [if_pos e1, if_neg e2]
      intro hk hk2
      split at hk2
      · have := hF k hk; have := a6 j2 k hk2; omega
      · exact hk2.elim
    · simp only [if_neg e1, if_pos e2]
      intro hk2 hk
      split at hk2
      · have := hF k hk; have := a6 j1 k hk2; omega
      · exact hk2.elim
    · simp only [if_neg e1, if_neg e2]
      intro h1 h2
      split at h1
      · split at h2
        · exact a4 j1 j2 k h1 h2
        · exact h2.elim
      · exact h1.elim
  · intro j k hk
    split at hk
    · exact Nat.le_trans a1.size (hF k hk)
    · split at hk
      · exact a5 j k hk
      · exact hk.elim
  · intro j k hk
    split at hk
    · exact hT.lt k hk
    · split at hk
      · exact Nat.lt_of_lt_of_le (a6 j k hk) hb.size
      · exact hk.elim
  · intro j k hk hx
    split at hk
    · have := hF k hk; have := h2' k hx; omega
    · split at hk
      · exact a7 j k hk hx
      · exact hk.elim

/-! ### What is read -/
theorem valT_trE {n : Nat} {es : List En} (x : Int) : valT (trE n es) x = valE n es x := by
  have hl : (trE n es).vars.length = n := varsE_len n es
  unfold valT valE
  rw [hl]
  by_cases h : Lit n x
  · have hx := h
    unfold Lit at hx
    rw [varN_lit h, if_neg (by omega), if_pos hx, knAt_trE n es _ (by omega)]
    cases hlk : look es (x.natAbs - 1) with
    | none => simp [knE]
    | some e =>
      have h2 := (look_some hlk).2
      simp only [knE]
      by_cases h1 : e.lit = x
      · subst h1
        by_cases h3 : e.lit < 0
        · rw [if_pos h3, if_pos rfl, if_pos h3]; rfl
        · rw [if_neg h3, if_pos rfl, if_neg h3]
      · rw [if_neg h1]
        by_cases h3 : x < 0
        · rw [if_pos h3, if_neg (by omega)]
        · rw [if_neg h3, if_pos (by omega)]
  · rw [varN_not h]
    unfold Lit at h
    rw [if_pos (by omega), if_neg h]

def ofE (n : Nat) (es : List En) (v : Int) : Kn := if v < 0 ∨ (n : Int) ≤ v then ⟨0, -1, -1⟩ else knE (look es v.toNat)
theorem ofT_trE {n : Nat} {es : List En} (v : Int) : ofT (trE n es) v = ofE n es v := by
  have hl : (trE n es).vars.length = n := varsE_len n es
  unfold ofT ofE
  rw [hl]
  by_cases h : v < 0 ∨ (n : Int) ≤ v
  · rw [if_pos h, if_pos h]
  · rw [if_neg h, if_neg h]
    obtain ⟨i, rfl⟩ := Int.eq_ofNat_of_zero_le (by omega : 0 ≤ v)
    exact knAt_trE n es i (by omega)

def atE (es : List En) (i : Int) : Int := if i < 0 then 0 else (es.map (·.lit)).reverse.getD i.toNat 0

theorem knAt_range {n : Nat} {es : List En} : ∀ v, -1 ≤ (knAt (trE n es) v).value ∧ (knAt (trE n es) v).value ≤ 1 := by
  intro v
  unfold knAt
  have hk : ∀ o : Option En, -1 ≤ (knE o).value ∧ (knE o).value ≤ 1 := by
    intro o
    cases o with
    | none => simp [knE]
    | some e => simp only [knE]; split <;> simp
  rcases hq : (trE n es).vars[v.toNat]? with _ | k
  · rw [List.getD_eq_getElem?_getD, hq]
    exact ⟨by decide, by decide⟩
  · rw [List.getD_eq_getElem?_getD, hq]
    have hm := List.mem_of_getElem? hq
    obtain ⟨j, _, rfl⟩ := List.mem_map.1 hm
    exact hk _

section
variable {w0 w : World} {X : Nat → Prop} {L : List (Nat × TrD)} {g n : Nat} {es : List En}

theorem value_tr (h : Trails w0 w X L) (i : Nat) (hL : L[i]? = some (g, trE n es)) (hn : n ≤ 5000) (x : Int) (h1 : -9223372036854775808 ≤ x) (h2 : x ≤ 9223372036854775807) :
    Calls Try.prog 46 #[.pointer (some ⟨g, 0, none⟩), .int .i64 x] w fun e w' => e = .returned (.int .i64 (valE n es x)) ∧ w = w' := by
  obtain ⟨F, a, b, c, k1, _⟩ := h.get i hL
  have hl : (trE n es).vars.length = n := varsE_len n es
  have := value_any g a b c _ x w k1 (by omega) h1 h2 knAt_range
  rwa [valT_trE] at this
theorem levelOf_tr (h : Trails w0 w X L) (i : Nat) (hL : L[i]? = some (g, trE n es)) (hn : n ≤ 5000) (v : Int) :
    Calls Try.prog 68 #[.pointer (some ⟨g, 0, none⟩), .int .i64 v] w fun e w' => e = .returned (.int .i64 (ofE n es v).level) ∧ Below w.heap.size w w' := by
  obtain ⟨F, a, b, c, k1, _⟩ := h.get i hL
  have hl : (trE n es).vars.length = n := varsE_len n es
  have := levelOf_any g a b c _ v w k1 (by omega)
  rwa [ofT_trE] at this
theorem reason_tr (h : Trails w0 w X L) (i : Nat) (hL : L[i]? = some (g, trE n es)) (hn : n ≤ 5000) (v : Int) :
    Calls Try.prog 57 #[.pointer (some ⟨g, 0, none⟩), .int .i64 v] w fun e w' => e = .returned (.int .i64 (ofE n es v).reason) ∧ Below w.heap.size w w' := by
  obtain ⟨F, a, b, c, k1, _⟩ := h.get i hL
  have hl : (trE n es).vars.length = n := varsE_len n es
  have := reason_any g a b c _ v w k1 (by omega)
  rwa [ofT_trE] at this
theorem level_tr (h : Trails w0 w X L) (i : Nat) (hL : L[i]? = some (g, trE n es)) (hg : Good n es) :
    Calls Try.prog 51 #[.pointer (some ⟨g, 0, none⟩)] w fun e w' => e = .returned (.int .i64 (hi es)) ∧ w = w' := by
  obtain ⟨F, a, b, c, k1, _⟩ := h.get i hL
  have := level_any g a b c _ w k1
  rwa [show ((trE n es).begins.length : Int) = hi es from begs_len hg] at this
theorem vars_tr (h : Trails w0 w X L) (i : Nat) (hL : L[i]? = some (g, trE n es)) :
    Calls Try.prog 35 #[.pointer (some ⟨g, 0, none⟩)] w fun e w' => e = .returned (.int .i64 n) ∧ w = w' := by
  obtain ⟨F, a, b, c, k1, _⟩ := h.get i hL
  have := vars_any g a b c _ w k1
  rwa [show (trE n es).vars.length = n from varsE_len n es] at this
theorem len_tr (h : Trails w0 w X L) (i : Nat) (hL : L[i]? = some (g, trE n es)) :
    Calls Try.prog 32 #[.pointer (some ⟨g, 0, none⟩)] w fun e w' => e = .returned (.int .i64 es.length) ∧ w = w' := by
  obtain ⟨F, a, b, c, k1, _⟩ := h.get i hL
  have := len_any g a b c _ w k1
  rwa [show (trE n es).lits.length = es.length by simp [trE]] at this
theorem at_tr (h : Trails w0 w X L) (i : Nat) (hL : L[i]? = some (g, trE n es)) (j : Int) :
    Calls Try.prog 45 #[.pointer (some ⟨g, 0, none⟩), .int .i64 j] w fun e w' => e = .returned (.int .i64 (atE es j)) ∧ w = w' := by
  obtain ⟨F, a, b, c, k1, _⟩ := h.get i hL
  exact at_any g a b c _ j w k1
theorem decide_tr (h : Trails w0 w X L) (i : Nat) (hL : L[i]? = some (g, trE n es)) (hg : Good n es) (hn : n ≤ 5000) (x : Int) (h1 : -9223372036854775808 ≤ x) (h2 : x ≤ 9223372036854775807) :
    Calls Try.prog 33 #[.pointer (some ⟨g, 0, none⟩), .int .i64 x] w fun e w' => e = .returned (.int .i64 (decC n es x).1) ∧ Trails w0 w' X (L.set i (g, trE n (decC n es x).2)) ∧ Touch (fun k => ¬ X k) w w' :=
  h.op i hL (Q := fun e => e = .returned (.int .i64 (decC n es x).1)) fun F hT => decide_any F g n es x w hT hg hn h1 h2
theorem assign_tr (h : Trails w0 w X L) (i : Nat) (hL : L[i]? = some (g, trE n es)) (hg : Good n es) (hn : n ≤ 5000) (x r : Int) (h1 : -9223372036854775808 ≤ x) (h2 : x ≤ 9223372036854775807) :
    Calls Try.prog 63 #[.pointer (some ⟨g, 0, none⟩), .int .i64 x, .int .i64 r] w fun e w' => e = .returned (.int .i64 (asnC n es x r).1) ∧ Trails w0 w' X (L.set i (g, trE n (asnC n es x r).2)) ∧ Touch (fun k => ¬ X k) w w' :=
  h.op i hL (Q := fun e => e = .returned (.int .i64 (asnC n es x r).1)) fun F hT => assign_any F g n es x r w hT hg hn h1 h2
theorem back_tr (h : Trails w0 w X L) (i : Nat) (hL : L[i]? = some (g, trE n es)) (hg : Good n es) (hn : n ≤ 5000) (x : Int) (h1 : -9223372036854775808 ≤ x) (h2 : x ≤ 9223372036854775807) :
    Calls Try.prog 34 #[.pointer (some ⟨g, 0, none⟩), .int .i64 x] w fun e w' => e = .returned (.int .i64 (backC es x).1) ∧ Trails w0 w' X (L.set i (g, trE n (backC es x).2)) ∧ Touch (fun k => ¬ X k) w w' :=
  h.op i hL (Q := fun e => e = .returned (.int .i64 (backC es x).1)) fun F hT => back_any F g n es x w hT hg hn h1 h2
theorem new_tr (h : Trails w0 w X L) (hn : n ≤ 5000) :
    Calls Try.prog 37 #[.int .i64 n] w fun e w' => ∃ g, e = .returned (.tuple #[.pointer (some ⟨g, 0, none⟩), .int .i64 0]) ∧ Trails w0 w' X (L ++ [(g, trE n [])]) ∧ Below w.heap.size w w' :=
  (new_any n w hn).mono fun _ _ ⟨g, h1, h2, _, h3, h4⟩ => ⟨g, h1, h.new h2 h3 h4, h2⟩
theorem copy_tr (h : Trails w0 w X L) (i : Nat) (hL : L[i]? = some (g, trE n es)) (hg : Good n es) (hn : n ≤ 5000) :
    Calls Try.prog 52 #[.pointer (some ⟨g, 0, none⟩)] w fun e w' => ∃ g', e = .returned (.pointer (some ⟨g', 0, none⟩)) ∧ Trails w0 w' X (L ++ [(g', trE n es)]) ∧ Below w.heap.size w w' := by
  obtain ⟨F, hF⟩ := h.get i hL
  have h1 : (trE n es).vars.length = n := varsE_len n es
  have h2 : (trE n es).lits.length = es.length := by simp [trE]
  have h3 := hg.len_le
  have h4 : ((trE n es).begins.length : Int) = hi es := begs_len hg
  have h5 := hi_le_len hg
  exact (copy_any F g _ w hF (by omega) (by omega) (by omega)).mono fun _ _ ⟨g', k1, k2, _, k3, k4⟩ => ⟨g', k1, h.new k2 k3 k4, k2⟩
end

end Go.Proofs.Ytnachllhjojlcaa
