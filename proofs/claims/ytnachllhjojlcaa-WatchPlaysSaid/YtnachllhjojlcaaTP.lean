/- Trails as data, in plain Lean with no program in sight: literals upon one another, the newest first; what a decision, an assignment and a way back make of them. -/
import Derived.Test.YtnachllhjojlcaaMem
namespace Go.Proofs.Ytnachllhjojlcaa
set_option maxRecDepth 100000

structure Kn where
  value : Int
  level : Int
  reason : Int

/-- A trail as data. -/
structure TrD where
  vars : List Kn
  lits : List Int
  begins : List Int

structure En where
  lit : Int
  level : Int
  reason : Int

def hi : List En → Int
  | [] => 0
  | e :: _ => e.level

def look : List En → Nat → Option En
  | [], _ => none
  | e :: es, v => if e.lit.natAbs = v + 1 then some e else look es v

/-- Is it a literal of n variables? -/
def Lit (n : Nat) (x : Int) : Prop := 1 ≤ x.natAbs ∧ x.natAbs ≤ n

def Good (n : Nat) : List En → Prop
  | [] => True
  | e :: es => Lit n e.lit ∧ look es (e.lit.natAbs - 1) = none ∧ (e.reason = -1 ∧ e.level = hi es + 1 ∨ 0 ≤ e.reason ∧ e.level = hi es) ∧ Good n es

def knE : Option En → Kn
  | none => ⟨0, -1, -1⟩
  | some e => ⟨if e.lit < 0 then -1 else 1, e.level, e.reason⟩

def begs : List En → List Int
  | [] => []
  | e :: es => if e.reason = -1 then begs es ++ [(es.length : Int)] else begs es

def varsE (n : Nat) (es : List En) : List Kn := (List.range n).map fun v => knE (look es v)
def trE (n : Nat) (es : List En) : TrD := ⟨varsE n es, (es.map (·.lit)).reverse, begs es⟩

theorem varsE_len (n : Nat) (es : List En) : (varsE n es).length = n := by simp [varsE]
theorem varsE_get (n : Nat) (es : List En) (v : Nat) (h : v < n) : (varsE n es)[v]? = some (knE (look es v)) := by simp [varsE, h]

theorem hi_nonneg {n : Nat} : ∀ {es : List En}, Good n es → 0 ≤ hi es
  | [], _ => by simp [hi]
  | e :: es, h => by
    obtain ⟨_, _, h3, h4⟩ := h
    have := hi_nonneg h4
    simp only [hi]
    rcases h3 with ⟨_, h⟩ | ⟨_, h⟩ <;> omega

theorem begs_len {n : Nat} : ∀ {es : List En}, Good n es → ((begs es).length : Int) = hi es
  | [], _ => by simp [begs, hi]
  | e :: es, h => by
    obtain ⟨_, _, h3, h4⟩ := h
    have := begs_len h4
    simp only [hi, begs]
    rcases h3 with ⟨h, h'⟩ | ⟨h, h'⟩
    · rw [if_pos h]; simp; omega
    · rw [if_neg (by omega)]; omega

theorem hi_le_len {n : Nat} : ∀ {es : List En}, Good n es → hi es ≤ es.length
  | [], _ => by simp [hi]
  | e :: es, h => by
    obtain ⟨_, _, h3, h4⟩ := h
    have := hi_le_len h4
    simp only [hi, List.length_cons]
    omega

theorem level_le {n : Nat} : ∀ {es : List En}, Good n es → ∀ e ∈ es, 0 ≤ e.level ∧ e.level ≤ hi es
  | [], _, e, he => by cases he
  | a :: es, h, e, he => by
    obtain ⟨_, _, h3, h4⟩ := h
    have hn := hi_nonneg h4
    rcases List.mem_cons.1 he with rfl | he
    · simp only [hi]; omega
    · have := level_le h4 e he
      simp only [hi]; omega

theorem look_some {es : List En} {v : Nat} {e : En} (h : look es v = some e) : e ∈ es ∧ e.lit.natAbs = v + 1 := by
  induction es with
  | nil => cases h
  | cons a es ih =>
    simp only [look] at h
    split at h
    · next h' => cases h; exact ⟨List.mem_cons_self .., h'⟩
    · exact ⟨List.mem_cons_of_mem _ (ih h).1, (ih h).2⟩

theorem look_none {es : List En} {v : Nat} (h : look es v = none) : ∀ e ∈ es, e.lit.natAbs ≠ v + 1 := by
  induction es with
  | nil => intro e he; cases he
  | cons a es ih =>
    simp only [look] at h
    split at h
    · cases h
    · next h' =>
      intro e he
      rcases List.mem_cons.1 he with rfl | he
      · exact h'
      · exact ih h e he

theorem look_none_of {es : List En} {v : Nat} (h : ∀ e ∈ es, e.lit.natAbs ≠ v + 1) : look es v = none := by
  induction es with
  | nil => rfl
  | cons a es ih =>
    simp only [look]
    rw [if_neg (h a (List.mem_cons_self ..))]
    exact ih fun e he => h e (List.mem_cons_of_mem _ he)

theorem look_append (xs es : List En) (v : Nat) : look (xs ++ es) v = (look xs v).or (look es v) := by
  induction xs with
  | nil => simp [look]
  | cons a xs ih =>
    simp only [List.cons_append, look]
    split
    · rfl
    · exact ih

theorem Good.tail {n : Nat} : ∀ {xs es : List En}, Good n (xs ++ es) → Good n es
  | [], _, h => h
  | _ :: _, _, h => Good.tail h.2.2.2

theorem Good.lit {n : Nat} : ∀ {es : List En}, Good n es → ∀ e ∈ es, Lit n e.lit
  | [], _, e, he => by cases he
  | a :: es, h, e, he => by
    rcases List.mem_cons.1 he with rfl | he
    · exact h.1
    · exact Good.lit h.2.2.2 e he

/-- Each entry is what is found of its variable. -/
theorem look_mem {n : Nat} : ∀ {es : List En}, Good n es → ∀ e ∈ es, look es (e.lit.natAbs - 1) = some e
  | [], _, e, he => by cases he
  | a :: es, h, e, he => by
    simp only [look]
    rcases List.mem_cons.1 he with rfl | he
    · have := h.1.1
      rw [if_pos (by omega)]
    · have h1 := (Good.lit h.2.2.2 e he).1
      have h2 := look_mem h.2.2.2 e he
      have h3 := h.1.1
      rw [if_neg, h2]
      intro hc
      have h4 := h.2.1
      have : a.lit.natAbs - 1 = e.lit.natAbs - 1 := by omega
      rw [this, h2] at h4
      cases h4

/-! ### Back -/
def popE (lv : Int) : List En → List En
  | [] => []
  | e :: es => if lv < e.level then popE lv es else e :: es

def cutE (lv : Int) : List En → List En
  | [] => []
  | e :: es => if lv < e.level then e :: cutE lv es else []

theorem cut_pop (lv : Int) : ∀ es, cutE lv es ++ popE lv es = es
  | [] => rfl
  | e :: es => by
    simp only [cutE, popE]
    split
    · rw [List.cons_append, cut_pop lv es]
    · rfl

theorem pop_good {n : Nat} {es : List En} (lv : Int) (h : Good n es) : Good n (popE lv es) := by
  have := cut_pop lv es
  rw [← this] at h
  exact h.tail

theorem hi_pop {n : Nat} (lv : Int) (h0 : 0 ≤ lv) : ∀ {es : List En}, Good n es → lv ≤ hi es → hi (popE lv es) = lv
  | [], _, h => by simp only [hi] at h; simp only [popE, hi]; omega
  | e :: es, h, hl => by
    obtain ⟨_, _, h3, h4⟩ := h
    simp only [hi] at hl
    simp only [popE]
    split
    · exact hi_pop lv h0 h4 (by omega)
    · simp only [hi]; omega

theorem pop_eq {n : Nat} (lv : Int) : ∀ {es : List En}, Good n es → hi es ≤ lv → popE lv es = es
  | [], _, _ => rfl
  | e :: es, h, hl => by
    simp only [hi] at hl
    simp only [popE]
    rw [if_neg (by omega)]

theorem begs_pop {n : Nat} (lv : Nat) : ∀ {es : List En}, Good n es → (lv : Int) < hi es → (begs es)[lv]? = some ((popE lv es).length : Int) ∧ begs (popE lv es) = (begs es).take lv
  | [], _, h => by simp only [hi] at h; omega
  | e :: es, h, hl => by
    have hb := begs_len h.2.2.2
    obtain ⟨_, _, h3, h4⟩ := h
    simp only [hi] at hl
    simp only [popE]
    rw [if_pos hl]
    simp only [begs]
    rcases h3 with ⟨h3, h3'⟩ | ⟨h3, h3'⟩
    · rw [if_pos h3]
      by_cases he : (lv : Int) < hi es
      · obtain ⟨i1, i2⟩ := begs_pop lv h4 he
        have hlt : lv < (begs es).length := by omega
        exact ⟨by rw [List.getElem?_append_left hlt]; exact i1, by rw [i2, List.take_append_of_le_length (by omega)]⟩
      · have hp := pop_eq (lv : Int) h4 (by omega)
        have hlv : lv = (begs es).length := by omega
        rw [hp, hlv]
        exact ⟨by simp, by simp⟩
    · rw [if_neg (by omega)]
      exact begs_pop lv h4 (by omega)

theorem take_lits (lv : Int) (es : List En) : ((es.map (·.lit)).reverse).take (popE lv es).length = ((popE lv es).map (·.lit)).reverse ∧ ((es.map (·.lit)).reverse).drop (popE lv es).length = ((cutE lv es).map (·.lit)).reverse := by
  have h := cut_pop lv es
  generalize popE lv es = p at *
  generalize cutE lv es = c at *
  subst h
  simp only [List.map_append, List.reverse_append]
  constructor
  · rw [List.take_append_of_le_length (by simp)]
    exact List.take_of_length_le (by simp)
  · rw [List.drop_append_of_le_length (by simp), List.drop_of_length_le (by simp)]
    simp

/-- What of the variables stays when some literals are forgotten, one by one. -/
def forget (vars : List Kn) : List Int → List Kn
  | [] => vars
  | x :: xs => forget (vars.set (x.natAbs - 1) ⟨0, -1, -1⟩) xs

theorem forget_len : ∀ (xs : List Int) (vars : List Kn), (forget vars xs).length = vars.length
  | [], _ => rfl
  | x :: xs, vars => by rw [forget, forget_len xs]; simp

theorem forget_append : ∀ (xs ys : List Int) (vars : List Kn), forget vars (xs ++ ys) = forget (forget vars xs) ys
  | [], _, _ => rfl
  | x :: xs, ys, vars => by rw [List.cons_append, forget, forget, forget_append xs]

theorem forget_get : ∀ (xs : List Int) (vars : List Kn) (v : Nat), v < vars.length → (∀ x ∈ xs, 1 ≤ x.natAbs) → (forget vars xs)[v]? = if ∃ x ∈ xs, x.natAbs = v + 1 then some ⟨0, -1, -1⟩ else vars[v]?
  | [], vars, v, hv, _ => by simp [forget]
  | x :: xs, vars, v, hv, h1 => by
    have hx := h1 x (List.mem_cons_self ..)
    rw [forget, forget_get xs _ v (by simpa using hv) fun y hy => h1 y (List.mem_cons_of_mem _ hy)]
    by_cases h : ∃ y ∈ xs, y.natAbs = v + 1
    · have h' : ∃ y ∈ x :: xs, y.natAbs = v + 1 := by
        obtain ⟨y, hy, hy'⟩ := h
        exact ⟨y, List.mem_cons_of_mem _ hy, hy'⟩
      rw [if_pos h, if_pos h']
    · rw [if_neg h]
      by_cases hxv : x.natAbs = v + 1
      · rw [if_pos ⟨x, List.mem_cons_self .., hxv⟩]
        have : x.natAbs - 1 = v := by omega
        rw [this]
        simp [hv]
      · rw [if_neg, List.getElem?_set_ne (by omega)]
        rintro ⟨y, hy, hy'⟩
        rcases List.mem_cons.1 hy with rfl | hy
        · exact hxv hy'
        · exact h ⟨y, hy, hy'⟩

theorem forget_vars {n : Nat} {c p : List En} (h : Good n (c ++ p)) : forget (varsE n (c ++ p)) ((c.map (·.lit)).reverse) = varsE n p := by
  apply List.ext_getElem?
  intro v
  by_cases hv : v < n
  · have h1 : ∀ x ∈ (c.map (·.lit)).reverse, 1 ≤ x.natAbs := by
      intro x hx
      simp only [List.mem_reverse, List.mem_map] at hx
      obtain ⟨e, he, rfl⟩ := hx
      exact (h.lit e (List.mem_append_left _ he)).1
    rw [forget_get _ _ v (by rw [varsE_len]; exact hv) h1, varsE_get n p v hv, varsE_get n _ v hv, look_append]
    by_cases hx : ∃ x ∈ (c.map (·.lit)).reverse, x.natAbs = v + 1
    · rw [if_pos hx]
      obtain ⟨x, hx, hxv⟩ := hx
      simp only [List.mem_reverse, List.mem_map] at hx
      obtain ⟨e, he, rfl⟩ := hx
      have : look p v = none := by
        refine look_none_of fun e' he' hev => ?_
        have a1 := look_mem h e (List.mem_append_left _ he)
        have a2 := look_mem h e' (List.mem_append_right _ he')
        have e1 : e.lit.natAbs - 1 = v := by omega
        have e2 : e'.lit.natAbs - 1 = v := by omega
        rw [e1] at a1
        rw [e2, a1] at a2
        cases a2
        clear a1 h1
        induction c with
        | nil => cases he
        | cons a c ih =>
          rcases List.mem_cons.1 he with rfl | he
          · have := h.2.1
            rw [e1] at this
            exact look_none this e (List.mem_append_right _ he') hev
          · exact ih h.2.2.2 he
      rw [this]
      rfl
    · rw [if_neg hx]
      have : look c v = none := look_none_of fun e he hev => hx ⟨e.lit, by simp only [List.mem_reverse, List.mem_map]; exact ⟨e, he, rfl⟩, hev⟩
      rw [this]
      simp
  · rw [List.getElem?_eq_none (by rw [forget_len, varsE_len]; omega), List.getElem?_eq_none (by rw [varsE_len]; omega)]

/-! ### What is put behind -/
theorem push_vars (n : Nat) (es : List En) (x level reason : Int) (hx : Lit n x) : (varsE n es).set (x.natAbs - 1) ⟨if x < 0 then -1 else 1, level, reason⟩ = varsE n (⟨x, level, reason⟩ :: es) := by
  apply List.ext_getElem?
  intro v
  have h1 := hx.1
  by_cases hv : v < n
  · rw [varsE_get _ _ v hv]
    simp only [look]
    by_cases hxv : x.natAbs - 1 = v
    · have hx' : x.natAbs = v + 1 := by omega
      rw [hxv]
      simp [varsE_len, hv, knE, hx']
    · rw [List.getElem?_set_ne hxv, if_neg (by omega), varsE_get _ _ v hv]
  · rw [List.getElem?_eq_none (by simp [varsE_len]; omega), List.getElem?_eq_none (by rw [varsE_len]; omega)]

/-- As many as there are variables at most. -/
def cnt (f : Nat → Bool) : Nat → Nat
  | 0 => 0
  | n + 1 => cnt f n + if f n then 1 else 0

theorem cnt_le (f : Nat → Bool) : ∀ n, cnt f n ≤ n
  | 0 => Nat.le_refl _
  | n + 1 => by
    have := cnt_le f n
    simp only [cnt]
    split <;> omega

theorem cnt_congr (f g : Nat → Bool) : ∀ n, (∀ v, v < n → f v = g v) → cnt f n = cnt g n
  | 0, _ => rfl
  | n + 1, h => by
    simp only [cnt]
    rw [cnt_congr f g n fun v hv => h v (by omega), h n (by omega)]

theorem cnt_one (f : Nat → Bool) (k : Nat) (hk : f k = false) : ∀ n, cnt (fun v => decide (v = k) || f v) n = cnt f n + if k < n then 1 else 0
  | 0 => by simp [cnt]
  | n + 1 => by
    simp only [cnt]
    rw [cnt_one f k hk n]
    by_cases h : n = k
    · subst h
      simp [hk]
    · have : (decide (n = k) || f n) = f n := by simp [h]
      simp only [this]
      by_cases hkn : k < n
      · have h2 : k < n + 1 := by omega
        simp only [if_pos hkn, if_pos h2]; omega
      · have h2 : ¬ k < n + 1 := by omega
        simp only [if_neg hkn, if_neg h2]; omega

theorem cnt_look {n : Nat} : ∀ {es : List En}, Good n es → cnt (fun v => (look es v).isSome) n = es.length
  | [], _ => by
    have : ∀ m, cnt (fun v => (look [] v).isSome) m = 0 := by
      intro m
      induction m with
      | zero => rfl
      | succ m ih => simp only [cnt, ih]; rfl
    exact this n
  | e :: es, h => by
    have h1 := h.1
    have h2 := h.2.1
    have ih := cnt_look h.2.2.2
    have hc : cnt (fun v => (look (e :: es) v).isSome) n = cnt (fun v => decide (v = e.lit.natAbs - 1) || (look es v).isSome) n := by
      apply cnt_congr
      intro v _
      simp only [look]
      by_cases hv : e.lit.natAbs = v + 1
      · rw [if_pos hv]
        have : v = e.lit.natAbs - 1 := by omega
        simp [this]
      · rw [if_neg hv]
        have : ¬ v = e.lit.natAbs - 1 := by have := h1.1; omega
        simp [this]
    rw [hc, cnt_one _ _ (by rw [h2]; rfl), ih, if_pos (by have := h1.1; have := h1.2; omega)]
    rfl

theorem Good.len_le {n : Nat} {es : List En} (h : Good n es) : es.length ≤ n := by
  rw [← cnt_look h]
  exact cnt_le _ _

/-! ### One step -/
def valE (n : Nat) (es : List En) (x : Int) : Int := if 1 ≤ x.natAbs ∧ x.natAbs ≤ n then (match look es (x.natAbs - 1) with | none => 0 | some e => if e.lit = x then 1 else -1) else 0

/-- Why a literal may not be put. -/
def openC (n : Nat) (es : List En) (x : Int) : Int := if 1 ≤ x.natAbs ∧ x.natAbs ≤ n then (if (look es (x.natAbs - 1)).isSome then 7 else 0) else 1

def decC (n : Nat) (es : List En) (x : Int) : Int × List En := (openC n es x, if openC n es x = 0 then ⟨x, hi es + 1, -1⟩ :: es else es)
def asnC (n : Nat) (es : List En) (x reason : Int) : Int × List En := if reason < 0 then (1, es) else (openC n es x, if openC n es x = 0 then ⟨x, hi es, reason⟩ :: es else es)
def backC (es : List En) (lv : Int) : Int × List En := if lv < 0 ∨ hi es < lv then (1, es) else (0, popE lv es)

theorem openC_zero {n : Nat} {es : List En} {x : Int} (h : openC n es x = 0) : Lit n x ∧ look es (x.natAbs - 1) = none := by
  unfold openC at h
  split at h
  · next h1 =>
    refine ⟨h1, ?_⟩
    cases hl : look es (x.natAbs - 1) with
    | none => rfl
    | some e => rw [hl] at h; simp at h
  · cases h

theorem decC_good {n : Nat} {es : List En} (x : Int) (h : Good n es) : Good n (decC n es x).2 := by
  simp only [decC]
  split
  · next h0 =>
    obtain ⟨h1, h2⟩ := openC_zero h0
    exact ⟨h1, h2, .inl ⟨rfl, rfl⟩, h⟩
  · exact h

theorem asnC_good {n : Nat} {es : List En} (x reason : Int) (h : Good n es) : Good n (asnC n es x reason).2 := by
  simp only [asnC]
  split
  · exact h
  · next hr =>
    show Good n (if openC n es x = 0 then _ else _)
    split
    · next h0 =>
      obtain ⟨h1, h2⟩ := openC_zero h0
      exact ⟨h1, h2, .inr ⟨by show 0 ≤ reason; omega, rfl⟩, h⟩
    · exact h

theorem backC_good {n : Nat} {es : List En} (lv : Int) (h : Good n es) : Good n (backC es lv).2 := by
  simp only [backC]
  split
  · exact h
  · exact pop_good lv h

end Go.Proofs.Ytnachllhjojlcaa
