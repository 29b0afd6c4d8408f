/- Plain laws: the document's list of literals beside the places that are held. -/
import Derived.Test.YthfmlmodpcikcaaU19
namespace Go.Proofs.Ythfmlmodpcikcaa
open Go.ChangeShapes Go.WideShapes Go.ChangeAt Go.RowKit Go.Maps Go.Deep
set_option maxRecDepth 100000

/-- A false literal's place. -/
def posX (es : List En) (x : Int) : Nat := posV es (x.natAbs - 1)
def levX (n : Nat) (es : List En) (x : Int) : Int := (ofE n es ((x.natAbs : Int) - 1)).level

structure Corr (n : Nat) (es : List En) (hp : Nat → Bool) (C : List Int) : Prop where
  known : knownB n C = true
  val : ∀ x ∈ C, valE n es x = -1
  nodup : C.Nodup
  iff : ∀ j, j < es.length → (hp j = true ↔ ∃ x ∈ C, posX es x = j)

theorem pos_lt {n : Nat} {es : List En} {x : Int} (h : valE n es x = -1) : posX es x < es.length := (val_false h).choose_spec.2.2.2
theorem pos_at {n : Nat} {es : List En} {x : Int} (h : valE n es x = -1) : atE es (posX es x) = -x := (val_false h).choose_spec.2.2.1
theorem pos_inj {n : Nat} {es : List En} {x y : Int} (hx : valE n es x = -1) (hy : valE n es y = -1) (h : posX es x = posX es y) : x = y := by
  have h1 := pos_at hx
  have h2 := pos_at hy
  rw [h, h2] at h1
  omega
theorem knownB_mem {n : Nat} {l : List Int} (h : knownB n l = true) : ∀ x ∈ l, 1 ≤ x.natAbs ∧ x.natAbs ≤ n := fun x hx => by
  have := List.all_eq_true.1 h x hx
  simpa using this
theorem knownB_of {n : Nat} {l : List Int} (h : ∀ x ∈ l, 1 ≤ x.natAbs ∧ x.natAbs ≤ n) : knownB n l = true :=
  List.all_eq_true.2 fun x hx => by simpa using h x hx

theorem Corr.lev {n : Nat} {es : List En} {hp : Nat → Bool} {C : List Int} (_h : Corr n es hp C) {x : Int} (hv : valE n es x = -1) : topB n es (posX es x) = decide (levX n es x = hi es) := by
  unfold topB levX
  rw [pos_at hv]
  have : (-x).natAbs = x.natAbs := by omega
  rw [this]

/-- As many held places as literals. -/
theorem cntB_list (t : Nat → Bool) : ∀ (P : List Nat) (len : Nat), P.Nodup → (∀ j ∈ P, j < len) → cntB len (fun j => decide (j ∈ P) && t j) = (P.filter t).length
  | [], len, _, _ => by
    have := cntB_congr (len := len) (d := fun j => decide (j ∈ ([] : List Nat)) && t j) (d' := fun _ => false) fun j _ => by simp
    rw [this, cntB_none]
    rfl
  | p :: P, len, hn, hl => by
    have hn' := List.nodup_cons.1 hn
    have ih := cntB_list t P len hn'.2 fun j hj => hl j (List.mem_cons_of_mem _ hj)
    have hp := hl p (List.mem_cons_self ..)
    by_cases htp : t p = true
    · have e1 := cntB_congr (len := len) (d := fun j => decide (j ∈ p :: P) && t j) (d' := fun j => decide (j = p) || (decide (j ∈ P) && t j)) fun j _ => by
        by_cases hjp : j = p
        · subst hjp; simp [htp]
        · simp [hjp]
      rw [e1, cntB_put _ p (by simp [hn'.1]) hp, ih, List.filter_cons, if_pos htp]
      rfl
    · have htp2 : t p = false := by simpa using htp
      have e1 := cntB_congr (len := len) (d := fun j => decide (j ∈ p :: P) && t j) (d' := fun j => decide (j ∈ P) && t j) fun j _ => by
        by_cases hjp : j = p
        · subst hjp; simp [htp2]
        · simp [hjp]
      rw [e1, ih, List.filter_cons, if_neg htp]

def highC (n : Nat) (es : List En) (C : List Int) : Nat := (C.filter fun x => decide (levX n es x = hi es)).length

theorem nodup_pos {n : Nat} {es : List En} : ∀ {C : List Int}, C.Nodup → (∀ x ∈ C, valE n es x = -1) → (C.map (posX es)).Nodup
  | [], _, _ => List.nodup_nil
  | x :: C, hn, hv => by
    have hn' := List.nodup_cons.1 hn
    rw [List.map_cons, List.nodup_cons]
    refine ⟨fun hm => ?_, nodup_pos hn'.2 fun y hy => hv y (List.mem_cons_of_mem _ hy)⟩
    obtain ⟨y, hy, he⟩ := List.mem_map.1 hm
    have := pos_inj (hv y (List.mem_cons_of_mem _ hy)) (hv x (List.mem_cons_self ..)) he
    exact hn'.1 (this ▸ hy)

theorem Corr.high {n : Nat} {es : List En} {hp : Nat → Bool} {C : List Int} (h : Corr n es hp C) : cntB es.length (fun j => hp j && topB n es j) = highC n es C := by
  have e1 := cntB_congr (len := es.length) (d := fun j => hp j && topB n es j) (d' := fun j => decide (j ∈ C.map (posX es)) && topB n es j) fun j hj => by
    have h1 := h.iff j hj
    have h2 : hp j = decide (j ∈ C.map (posX es)) := by
      rw [Bool.eq_iff_iff, h1]
      simp [List.mem_map]
    rw [h2]
  rw [e1, cntB_list _ _ _ (nodup_pos h.nodup h.val) (fun j hj => by
    obtain ⟨x, hx, rfl⟩ := List.mem_map.1 hj
    exact pos_lt (h.val x hx))]
  unfold highC
  rw [List.filter_map, List.length_map]
  congr 1
  apply List.filter_congr
  intro x hx
  exact h.lev (h.val x hx)

/-- The latest of them. -/
theorem Corr.latest {n : Nat} {es : List En} {hp : Nat → Bool} {C : List Int} (h : Corr n es hp C) (m : Nat) (hm : m < C.length) (hmax : ∀ i (hi : i < C.length), posX es C[i] ≤ posX es C[m]) : maxH es.length hp = (posX es C[m] : Int) := by
  have hv := h.val C[m] (List.getElem_mem hm)
  have hl := pos_lt hv
  have hh : hp (posX es C[m]) = true := (h.iff _ hl).2 ⟨_, List.getElem_mem hm, rfl⟩
  have h1 := maxH_ge (d := hp) hl hh
  have h2 := maxH_held (d := hp) (len := es.length) (by omega)
  have h3 := maxH_range hp es.length
  obtain ⟨x, hx, h4⟩ := (h.iff (maxH es.length hp).toNat (by omega)).1 h2
  obtain ⟨i, hi, rfl⟩ := List.getElem_of_mem hx
  have h5 := hmax i hi
  omega

theorem withL_mem (l : List Int) (x : Int) : ∀ more : List Int, x ∈ withL l more ↔ x ∈ l ∨ x ∈ more := by
  intro more
  induction more generalizing l with
  | nil => simp [withL]
  | cons y more ih =>
    unfold withL
    by_cases h : (l.any fun z => z == y) = true
    · rw [if_pos h, ih]
      obtain ⟨z, hz, h2⟩ := List.any_eq_true.1 h
      have h3 : z = y := by simpa using h2
      subst h3
      constructor
      · rintro (h | h)
        · exact .inl h
        · exact .inr (List.mem_cons_of_mem _ h)
      · rintro (h | h)
        · exact .inl h
        · rcases List.mem_cons.1 h with rfl | h
          · exact .inl hz
          · exact .inr h
    · rw [if_neg h, ih]
      simp only [List.mem_append, List.mem_cons, List.not_mem_nil, or_false]
      constructor
      · rintro ((h | h) | h)
        · exact .inl h
        · exact .inr (.inl h)
        · exact .inr (.inr h)
      · rintro (h | h | h)
        · exact .inl (.inl h)
        · exact .inl (.inr h)
        · exact .inr h
theorem withL_nodup (l : List Int) (h : l.Nodup) : ∀ more : List Int, (withL l more).Nodup := by
  intro more
  induction more generalizing l with
  | nil => exact h
  | cons y more ih =>
    unfold withL
    split
    · exact ih l h
    · next hy =>
      refine ih _ ?_
      rw [List.nodup_append]
      refine ⟨h, by simp, fun a ha b hb => ?_⟩
      simp only [List.mem_singleton] at hb
      subst hb
      rintro rfl
      exact hy (List.any_eq_true.2 ⟨a, ha, by simp⟩)
theorem woL_mem (l : List Int) (n x : Int) : x ∈ woL l n ↔ x ∈ l ∧ x ≠ n := by
  unfold woL
  rw [List.mem_filter]
  simp

/-- What take makes of both. -/
theorem Corr.first {n : Nat} {es : List En} {l : List Int} (h : (takeC n es l 0 es.length (fun _ => false)).1 = 0) : Corr n es (takeC n es l 0 es.length (fun _ => false)).2 (withL [] l) := by
  obtain ⟨h1, _, h3, h4⟩ := takeC_ok h
  have hk := knownB_mem h1
  have hne : ∀ x ∈ l, x ≠ 0 := fun x hx => by have := hk x hx; omega
  refine ⟨knownB_of fun x hx => ?_, fun x hx => ?_, withL_nodup _ List.nodup_nil _, fun j hj => ?_⟩
  · rcases (withL_mem _ _ _).1 hx with hx | hx
    · cases hx
    · exact hk x hx
  · rcases (withL_mem _ _ _).1 hx with hx | hx
    · cases hx
    · exact (h3 x hx (hne x hx)).1
  · rw [h4]
    simp only [addH, Bool.false_or, List.any_eq_true, Bool.and_eq_true, decide_eq_true_eq]
    constructor
    · rintro ⟨x, hx, _, he⟩
      exact ⟨x, (withL_mem _ _ _).2 (.inr hx), he⟩
    · rintro ⟨x, hx, he⟩
      rcases (withL_mem _ _ _).1 hx with hx | hx
      · cases hx
      · exact ⟨x, hx, hne x hx, he⟩

theorem Corr.next {n : Nat} {es : List En} {hp : Nat → Bool} {C l : List Int} {lit : Int} (h : Corr n es hp C) (hlit : lit ∈ C) {mx : Int} (hmx : mx = posX es lit)
    (ht : (takeC n es l (-lit) mx (fun j => hp j && !decide ((j : Int) = mx))).1 = 0) :
    Corr n es (takeC n es l (-lit) mx (fun j => hp j && !decide ((j : Int) = mx))).2 (withL (woL C lit) (woL l (-lit))) := by
  obtain ⟨h1, _, h3, h4⟩ := takeC_ok ht
  have hk := knownB_mem h1
  have hkC := knownB_mem h.known
  refine ⟨knownB_of fun x hx => ?_, fun x hx => ?_, withL_nodup _ (h.nodup.filter _) _, fun j hj => ?_⟩
  · rcases (withL_mem _ _ _).1 hx with hx | hx
    · exact hkC x ((woL_mem _ _ _).1 hx).1
    · exact hk x ((woL_mem _ _ _).1 hx).1
  · rcases (withL_mem _ _ _).1 hx with hx | hx
    · exact h.val x ((woL_mem _ _ _).1 hx).1
    · obtain ⟨hx1, hx2⟩ := (woL_mem _ _ _).1 hx
      exact (h3 x hx1 hx2).1
  · rw [h4]
    simp only [addH, Bool.or_eq_true, Bool.and_eq_true, Bool.not_eq_true', decide_eq_false_iff_not, List.any_eq_true, decide_eq_true_eq]
    constructor
    · rintro (⟨hj1, hj2⟩ | ⟨x, hx, hne, he⟩)
      · obtain ⟨x, hx, he⟩ := (h.iff j hj).1 hj1
        refine ⟨x, (withL_mem _ _ _).2 (.inl ((woL_mem _ _ _).2 ⟨hx, ?_⟩)), he⟩
        rintro rfl
        exact hj2 (by rw [hmx, he])
      · exact ⟨x, (withL_mem _ _ _).2 (.inr ((woL_mem _ _ _).2 ⟨hx, hne⟩)), he⟩
    · rintro ⟨x, hx, he⟩
      rcases (withL_mem _ _ _).1 hx with hx | hx
      · obtain ⟨hx1, hx2⟩ := (woL_mem _ _ _).1 hx
        refine .inl ⟨(h.iff j hj).2 ⟨x, hx1, he⟩, fun hc => ?_⟩
        rw [hmx] at hc
        exact hx2 (pos_inj (h.val x hx1) (h.val lit hlit) (by omega))
      · obtain ⟨hx1, hx2⟩ := (woL_mem _ _ _).1 hx
        exact .inr ⟨x, hx1, hx2, he⟩

/-- How take answers, by the document's questions. -/
theorem takeC_ask {n : Nat} {es : List En} {l : List Int} {lit mx : Int} {hp : Nat → Bool} (hlit : lit ≠ 0) (hk : knownB n l = true) :
    (takeC n es l (-lit) mx hp).1 = if (woL l (-lit)).length = l.length ∨ aheadB n es (woL l (-lit)) mx = false then 7 else 0 := by
  unfold takeC
  rw [if_neg (by simp [hk])]
  have hin : (l.any fun x => x == -lit) = false ↔ (woL l (-lit)).length = l.length := by
    unfold woL
    rw [List.length_filter_eq_length_iff, List.any_eq_false]
    simp
  have hall : l.all (okT n es (-lit) mx) = aheadB n es (woL l (-lit)) mx := by
    unfold aheadB woL
    rw [List.all_filter]
    congr 1
    funext x
    unfold okT
    by_cases h : x = -lit <;> simp [h]
  by_cases h1 : (l.any fun x => x == -lit) = false
  · rw [if_pos ⟨by omega, h1⟩, if_pos (.inl (hin.1 h1))]
  · rw [if_neg (fun h => h1 h.2), hall]
    by_cases h2 : aheadB n es (woL l (-lit)) mx = false
    · rw [if_pos h2, if_pos (.inr h2)]
    · rw [if_neg h2, if_neg]
      rintro (h | h)
      · exact h1 (hin.2 h)
      · exact h2 h
theorem takeC_ask0 {n : Nat} {es : List En} {l : List Int} {mx : Int} {hp : Nat → Bool} (hk : knownB n l = true) :
    (takeC n es l 0 mx hp).1 = if aheadB n es l mx = false then 7 else 0 := by
  unfold takeC
  rw [if_neg (by simp [hk]), if_neg (by simp)]
  have hkk := knownB_mem hk
  have hall : l.all (okT n es 0 mx) = aheadB n es l mx := by
    unfold aheadB
    rw [Bool.eq_iff_iff, List.all_eq_true, List.all_eq_true]
    constructor
    · intro h x hx
      have h1 := h x hx
      have h2 := hkk x hx
      unfold okT at h1
      have h3 : decide (x = 0) = false := by simp; omega
      rw [h3, Bool.false_or] at h1
      exact h1
    · intro h x hx
      unfold okT
      rw [h x hx]
      simp
  rw [hall]
  split <;> rfl

/-- One of the highest level is left. -/
theorem Corr.keeps {n : Nat} {es : List En} {hp : Nat → Bool} {C l : List Int} {lit : Int} (hC : Corr n es hp C) (h2 : 2 ≤ highC n es C) : 0 < highC n es (withL (woL C lit) (woL l (-lit))) := by
  have h3 : ∃ x ∈ C, x ≠ lit ∧ levX n es x = hi es := by
    refine Classical.byContradiction fun hno => ?_
    have h4 : ∀ x ∈ C.filter (fun x => decide (levX n es x = hi es)), x = lit := fun x hx => by
      obtain ⟨hx1, hx2⟩ := List.mem_filter.1 hx
      refine Classical.byContradiction fun hne => hno ⟨x, hx1, hne, by simpa using hx2⟩
    have h5 := hC.nodup.filter (fun x => decide (levX n es x = hi es))
    unfold highC at h2
    generalize C.filter (fun x => decide (levX n es x = hi es)) = F at *
    match F, h2, h4, h5 with
    | a :: b :: _, _, h4, h5 =>
      have e1 := h4 a (by simp)
      have e2 := h4 b (by simp)
      subst e1
      subst e2
      simp at h5
    | [_], h2, _, _ => simp at h2
    | [], h2, _, _ => simp at h2
  obtain ⟨x, hx, hne, hl⟩ := h3
  refine List.length_pos_of_mem (a := x) (List.mem_filter.2 ⟨(withL_mem _ _ _).2 (.inl ((woL_mem _ _ _).2 ⟨hx, hne⟩)), by simpa using hl⟩)

/-- Which literal of the list the trail has at a place. -/
theorem Corr.at_ {n : Nat} {es : List En} {hp : Nat → Bool} {C : List Int} (h : Corr n es hp C) (hg : Good n es) {j : Nat} (hj : j < es.length) : hp j = true ↔ -atE es j ∈ C := by
  rw [h.iff j hj]
  constructor
  · rintro ⟨x, hx, rfl⟩
    rw [pos_at (h.val x hx), Int.neg_neg]
    exact hx
  · intro hm
    obtain ⟨e, he, h1, h2⟩ := at_mem hj
    refine ⟨_, hm, ?_⟩
    have h3 := pos_of hg h2
    unfold posX
    rw [h1]
    have : (-e.lit).natAbs = e.lit.natAbs := by omega
    rw [this, h3]

theorem Corr.levels {n : Nat} {es : List En} {hp : Nat → Bool} {C : List Int} (h : Corr n es hp C) (hg : Good n es) (h0 : hi es = 0) : highC n es C = C.length := by
  unfold highC
  congr 1
  apply List.filter_eq_self.2
  intro x hx
  have h1 := h.lev (h.val x hx)
  rw [level0 hg h0 (pos_lt (h.val x hx))] at h1
  exact h1.symm

end Go.Proofs.Ythfmlmodpcikcaa
