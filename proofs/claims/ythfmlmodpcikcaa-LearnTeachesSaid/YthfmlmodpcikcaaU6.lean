/- What a conflict teaches, as data; clauses in memory; the lesson's places while they are laid. -/
import Derived.Test.YthfmlmodpcikcaaU5
namespace Go.Proofs.Ythfmlmodpcikcaa
open Go.ChangeShapes Go.WideShapes Go.ChangeAt Go.RowKit Go.Maps
set_option maxRecDepth 100000

/-- The literals that are held at places below len, the latest first. -/
def clauseTo (es : List En) (hp : Nat → Bool) : Nat → List Int
  | 0 => []
  | k + 1 => if hp k then -atE es k :: clauseTo es hp k else clauseTo es hp k
def clauseOf (es : List En) (hp : Nat → Bool) : List Int := clauseTo es hp es.length
def backFrom (n : Nat) (es : List En) : Int → List Int → Int
  | b, [] => b
  | b, x :: l => backFrom n es (max b (ofE n es ((x.natAbs : Int) - 1)).level) l

/-- Clause, back, bonds, error. -/
abbrev Taught := List Int × Int × List Int × Int

def loopL (n : Nat) (es : List En) (cls : List (List Int)) : Nat → (Nat → Bool) → List Int → Taught
  | 0, _, _ => ([], 0, [], 7)
  | k + 1, hp, bs =>
    if cntB es.length (fun j => hp j && topB n es j) = 0 ∧ hi es = 0 then ([], -1, bs, 0)
    else if cntB es.length (fun j => hp j && topB n es j) = 1 ∧ 0 < hi es then (clauseOf es hp, backFrom n es 0 (clauseOf es hp).tail, bs, 0)
    else
      let lit := atE es (maxH es.length hp)
      let r := (ofE n es ((lit.natAbs : Int) - 1)).reason
      if r < 0 ∨ (cls.length : Int) ≤ r then ([], 0, [], 7)
      else
        let T := takeC n es (cls.getD r.toNat []) lit (maxH es.length hp) (fun j => hp j && !decide ((j : Int) = maxH es.length hp))
        if T.1 = 0 then loopL n es cls k T.2 (bs ++ [r]) else ([], 0, [], T.1)

def learnE (n : Nat) (es : List En) (cls : List (List Int)) (conflict : Int) : Taught :=
  if conflict < 0 ∨ (cls.length : Int) ≤ conflict then ([], 0, [], 1)
  else
    let T := takeC n es (cls.getD conflict.toNat []) 0 es.length (fun _ => false)
    if T.1 = 0 then (if cntB es.length (fun j => T.2 j && topB n es j) = 0 ∧ 0 < hi es then ([], 0, [], 7) else loopL n es cls (es.length + 2) T.2 [conflict])
    else ([], 0, [], T.1)

/-- Clauses in memory. -/
def IsCls (w : World) (ao : Option Addr) (cls : List (List Int)) : Prop :=
  0 < cls.length → ∃ b off, ao = some ⟨b, off, none⟩ ∧ b < w.heap.size ∧ ∀ j (h : j < cls.length), ∃ ao' cap', w.cell? ⟨b, off + j, none⟩ = some (.slice ao' cls[j].length cap') ∧
    (0 < cls[j].length → ∃ b' off', ao' = some ⟨b', off', none⟩ ∧ b' < w.heap.size ∧ ∀ k (h : k < cls[j].length), w.cell? ⟨b', off' + k, none⟩ = some (.int .i64 cls[j][k]))

theorem IsCls.below {w w' : World} {ao : Option Addr} {cls : List (List Int)} (h : IsCls w ao cls) (hb : Below w.heap.size w w') : IsCls w' ao cls := fun h0 => by
  obtain ⟨b, off, e, hbl, hc⟩ := h h0
  refine ⟨b, off, e, Nat.lt_of_lt_of_le hbl hb.size, fun j hj => ?_⟩
  obtain ⟨ao', cap', h1, h2⟩ := hc j hj
  refine ⟨ao', cap', (World.cell?_of_block (w := w) (hb.block b hbl)).trans h1, fun h3 => ?_⟩
  obtain ⟨b', off', e', hbl', hc'⟩ := h2 h3
  exact ⟨b', off', e', Nat.lt_of_lt_of_le hbl' hb.size, fun k hk => (World.cell?_of_block (w := w) (hb.block b' hbl')).trans (hc' k hk)⟩

theorem results_tmp4 {fn : Func} {t u v x : Tmp} (h : fn.results = #[.tmp t, .tmp u, .tmp v, .tmp x]) (tmps : Array Value) (P : Program) (w : World) :
    (results fn tmps).run P w = .ok (.tuple #[tmps.getD t undef, tmps.getD u undef, tmps.getD v undef, tmps.getD x undef]) w := by
  simp [results, h]

/-! ### The older ones of a trail -/
theorem posV_cons (e : En) (es : List En) (v : Nat) : posV (e :: es) v = if e.lit.natAbs = v + 1 then es.length else posV es v := rfl
theorem placesE_nil (n : Nat) : placesE n [] = List.replicate n 0 := by
  simp only [placesE, posV, List.map_const', List.length_range]
  rfl

theorem takeC_mono {n : Nat} {es : List En} {l : List Int} {but place : Int} {hp : Nat → Bool} : ∀ j, hp j = true → (takeC n es l but place hp).2 j = true := by
  intro j hj
  unfold takeC
  split
  · exact hj
  split
  · exact hj
  split
  · exact hj
  · simp [addH, hj]

/-- What take has added stands ahead of the place. -/
theorem takeC_below {n : Nat} {es : List En} {l : List Int} {but place : Int} {hp : Nat → Bool} {j : Nat} (h0 : hp j = true → (j : Int) < place) : (takeC n es l but place hp).2 j = true → (j : Int) < place := by
  unfold takeC
  split
  · exact h0
  split
  · exact h0
  split
  · exact h0
  · next h =>
    intro h2
    simp only [addH, Bool.or_eq_true, List.any_eq_true, Bool.and_eq_true, decide_eq_true_eq] at h2
    rcases h2 with h2 | ⟨x, hx, h3, h4⟩
    · exact h0 h2
    · have hall : l.all (okT n es but place) = true := by simpa using h
      have h5 := List.all_eq_true.1 hall x hx
      unfold okT at h5
      simp only [Bool.or_eq_true, decide_eq_true_eq, Bool.and_eq_true] at h5
      rcases h5 with h5 | h5
      · exact absurd h5 h3
      · rw [h4] at h5; exact h5.2

theorem maxH_lt {d : Nat → Bool} {place : Int} : ∀ {len : Nat}, (∀ j : Nat, j < len → d j = true → (j : Int) < place) → -1 < place → maxH len d < place
  | 0, _, h => by simpa [maxH] using h
  | k + 1, h, h0 => by
    simp only [maxH]
    split
    · next hk => exact h k (by omega) hk
    · exact maxH_lt (fun j hj => h j (by omega)) h0
theorem maxH_held {d : Nat → Bool} : ∀ {len : Nat}, 0 ≤ maxH len d → d (maxH len d).toNat = true
  | 0, h => by simp [maxH] at h
  | k + 1, h => by
    simp only [maxH] at h ⊢
    split
    · next hk => simpa using hk
    · next hk => rw [if_neg hk] at h; exact maxH_held h
theorem maxH_ge {d : Nat → Bool} : ∀ {len j : Nat}, j < len → d j = true → (j : Int) ≤ maxH len d
  | 0, _, h, _ => by omega
  | k + 1, j, h, hd => by
    simp only [maxH]
    split
    · omega
    · next hk =>
      by_cases hjk : j = k
      · subst hjk; exact absurd hd hk
      · exact maxH_ge (by omega) hd

theorem clauseTo_len {es : List En} {hp : Nat → Bool} : ∀ k, (clauseTo es hp k).length = cntB k hp
  | 0 => rfl
  | k + 1 => by
    simp only [clauseTo, cntB]
    split <;> simp [clauseTo_len k]
theorem clauseTo_mem {es : List En} {hp : Nat → Bool} {x : Int} : ∀ {k : Nat}, x ∈ clauseTo es hp k → ∃ j, j < k ∧ hp j = true ∧ x = -atE es j
  | 0, h => by cases h
  | k + 1, h => by
    simp only [clauseTo] at h
    split at h
    · next hk =>
      rcases List.mem_cons.1 h with rfl | h
      · exact ⟨k, by omega, hk, rfl⟩
      · obtain ⟨j, h1, h2⟩ := clauseTo_mem h
        exact ⟨j, by omega, h2⟩
    · obtain ⟨j, h1, h2⟩ := clauseTo_mem h
      exact ⟨j, by omega, h2⟩
theorem cntB_and_le (d t : Nat → Bool) : ∀ k, cntB k (fun j => d j && t j) ≤ cntB k d
  | 0 => Nat.le_refl _
  | k + 1 => by
    have := cntB_and_le d t k
    simp only [cntB]
    by_cases h1 : d k = true
    · rw [if_pos h1]
      split <;> omega
    · have h2 : d k = false := by simpa using h1
      simp only [h2, Bool.false_and]
      simp
      omega

end Go.Proofs.Ythfmlmodpcikcaa
