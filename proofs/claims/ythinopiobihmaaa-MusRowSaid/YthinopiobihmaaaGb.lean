/- Trails as data, in plain Lean with no program in sight: literals upon one another, the newest first; what a decision, an assignment and a way back make of them. -/
import Derived.Test.YthinopiobihmaaaGa
import Derived.Test.YthinopiobihmaaaRows
import Derived.Deep.QuietTactic
import Derived.StillTailTactics
import Derived.Deep.Cut
import Derived.Deep.RegionLaw
import Derived.BigRegion
namespace Go.Proofs.Ythinopiobihmaaa
set_option maxRecDepth 100000

structure Kn where
  value : Int
  level : Int
  reason : Int

/-- A trail as data. -/
structure TrD where
  vars : List Kn
  lits : List Int
  begins : List Int

structure En where
  lit : Int
  level : Int
  reason : Int

def hi : List En → Int
  | [] => 0
  | e :: _ => e.level

def look : List En → Nat → Option En
  | [], _ => none
  | e :: es, v => if e.lit.natAbs = v + 1 then some e else look es v

/-- Is it a literal of n variables? -/
def Lit (n : Nat) (x : Int) : Prop := 1 ≤ x.natAbs ∧ x.natAbs ≤ n

def Good (n : Nat) : List En → Prop
  | [] => True
  | e :: es => Lit n e.lit ∧ look es (e.lit.natAbs - 1) = none ∧ (e.reason = -1 ∧ e.level = hi es + 1 ∨ 0 ≤ e.reason ∧ e.level = hi es) ∧ Good n es

def knE : Option En → Kn
  | none => ⟨0, -1, -1⟩
  | some e => ⟨if e.lit < 0 then -1 else 1, e.level, e.reason⟩

def begs : List En → List Int
  | [] => []
  | e :: es => if e.reason = -1 then begs es ++ [(es.length : Int)] else begs es

def varsE (n : Nat) (es : List En) : List Kn := (List.range n).map fun v => knE (look es v)
def trE (n : Nat) (es : List En) : TrD := ⟨varsE n es, (es.map (·.lit)).reverse, begs es⟩

theorem varsE_len (n : Nat) (es : List En) : (varsE n es).length = n := by simp [varsE]
theorem varsE_get (n : Nat) (es : List En) (v : Nat) (h : v < n) : (varsE n es)[v]? = some (knE (look es v)) := by simp [varsE, h]

theorem hi_nonneg {n : Nat} : ∀ {es : List En}, Good n es → 0 ≤ hi es
  | [], _ => by simp [hi]
  | e :: es, h => by
    obtain ⟨_, _, h3, h4⟩ := h
    have := hi_nonneg h4
    simp only [hi]
    rcases h3 with ⟨_, h⟩ | ⟨_, h⟩ <;> omega

theorem begs_len {n : Nat} : ∀ {es : List En}, Good n es → ((begs es).length : Int) = hi es
  | [], _ => by simp [begs, hi]
  | e :: es, h => by
    obtain ⟨_, _, h3, h4⟩ := h
    have := begs_len h4
    simp only [hi, begs]
    rcases h3 with ⟨h, h'⟩ | ⟨h, h'⟩
    · rw [if_pos h]; simp; omega
    · rw [if_neg (by omega)]; omega

theorem hi_le_len {n : Nat} : ∀ {es : List En}, Good n es → hi es ≤ es.length
  | [], _ => by simp [hi]
  | e :: es, h => by
    obtain ⟨_, _, h3, h4⟩ := h
    have := hi_le_len h4
    simp only [hi, List.length_cons]
    omega

theorem level_le {n : Nat} : ∀ {es : List En}, Good n es → ∀ e ∈ es, 0 ≤ e.level ∧ e.level ≤ hi es
  | [], _, e, he => by cases he
  | a :: es, h, e, he => by
    obtain ⟨_, _, h3, h4⟩ := h
    have hn := hi_nonneg h4
    rcases List.mem_cons.1 he with rfl | he
    · simp only [hi]; omega
    · have := level_le h4 e he
      simp only [hi]; omega

theorem look_some {es : List En} {v : Nat} {e : En} (h : look es v = some e) : e ∈ es ∧ e.lit.natAbs = v + 1 := by
  induction es with
  | nil => cases h
  | cons a es ih =>
    simp only [look] at h
    split at h
    · next h' => cases h; exact ⟨List.mem_cons_self .., h'⟩
    · exact ⟨List.mem_cons_of_mem _ (ih h).1, (ih h).2⟩

theorem look_none {es : List En} {v : Nat} (h : look es v = none) : ∀ e ∈ es, e.lit.natAbs ≠ v + 1 := by
  induction es with
  | nil => intro e he; cases he
  | cons a es ih =>
    simp only [look] at h
    split at h
    · cases h
    · next h' =>
      intro e he
      rcases List.mem_cons.1 he with rfl | he
      · exact h'
      · exact ih h e he

theorem look_none_of {es : List En} {v : Nat} (h : ∀ e ∈ es, e.lit.natAbs ≠ v + 1) : look es v = none := by
  induction es with
  | nil => rfl
  | cons a es ih =>
    simp only [look]
    rw [if_neg (h a (List.mem_cons_self ..))]
    exact ih fun e he => h e (List.mem_cons_of_mem _ he)

theorem look_append (xs es : List En) (v : Nat) : look (xs ++ es) v = (look xs v).or (look es v) := by
  induction xs with
  | nil => simp [look]
  | cons a xs ih =>
    simp only [List.cons_append, look]
    split
    · rfl
    · exact ih

theorem Good.tail {n : Nat} : ∀ {xs es : List En}, Good n (xs ++ es) → Good n es
  | [], _, h => h
  | _ :: _, _, h => Good.tail h.2.2.2

theorem Good.lit {n : Nat} : ∀ {es : List En}, Good n es → ∀ e ∈ es, Lit n e.lit
  | [], _, e, he => by cases he
  | a :: es, h, e, he => by
    rcases List.mem_cons.1 he with rfl | he
    · exact h.1
    · exact Good.lit h.2.2.2 e he

/-- Each entry is what is found of its variable. -/
theorem look_mem {n : Nat} : ∀ {es : List En}, Good n es → ∀ e ∈ es, look es (e.lit.natAbs - 1) = some e
  | [], _, e, he => by cases he
  | a :: es, h, e, he => by
    simp only [look]
    rcases List.mem_cons.1 he with rfl | he
    · have := h.1.1
      rw [if_pos (by omega)]
    · have h1 := (Good.lit h.2.2.2 e he).1
      have h2 := look_mem h.2.2.2 e he
      have h3 := h.1.1
      rw [if_neg, h2]
      intro hc
      have h4 := h.2.1
      have : a.lit.natAbs - 1 = e.lit.natAbs - 1 := by omega
      rw [this, h2] at h4
      cases h4

/-! ### Back -/
def popE (lv : Int) : List En → List En
  | [] => []
  | e :: es => if lv < e.level then popE lv es else e :: es

def cutE (lv : Int) : List En → List En
  | [] => []
  | e :: es => if lv < e.level then e :: cutE lv es else []

theorem cut_pop (lv : Int) : ∀ es, cutE lv es ++ popE lv es = es
  | [] => rfl
  | e :: es => by
    simp only [cutE, popE]
    split
    · rw [List.cons_append, cut_pop lv es]
    · rfl

theorem pop_good {n : Nat} {es : List En} (lv : Int) (h : Good n es) : Good n (popE lv es) := by
  have := cut_pop lv es
  rw [← this] at h
  exact h.tail

theorem hi_pop {n : Nat} (lv : Int) (h0 : 0 ≤ lv) : ∀ {es : List En}, Good n es → lv ≤ hi es → hi (popE lv es) = lv
  | [], _, h => by simp only [hi] at h; simp only [popE, hi]; omega
  | e :: es, h, hl => by
    obtain ⟨_, _, h3, h4⟩ := h
    simp only [hi] at hl
    simp only [popE]
    split
    · exact hi_pop lv h0 h4 (by omega)
    · simp only [hi]; omega

theorem pop_eq {n : Nat} (lv : Int) : ∀ {es : List En}, Good n es → hi es ≤ lv → popE lv es = es
  | [], _, _ => rfl
  | e :: es, h, hl => by
    simp only [hi] at hl
    simp only [popE]
    rw [if_neg (by omega)]

theorem begs_pop {n : Nat} (lv : Nat) : ∀ {es : List En}, Good n es → (lv : Int) < hi es → (begs es)[lv]? = some ((popE lv es).length : Int) ∧ begs (popE lv es) = (begs es).take lv
  | [], _, h => by simp only [hi] at h; omega
  | e :: es, h, hl => by
    have hb := begs_len h.2.2.2
    obtain ⟨_, _, h3, h4⟩ := h
    simp only [hi] at hl
    simp only [popE]
    rw [if_pos hl]
    simp only [begs]
    rcases h3 with ⟨h3, h3'⟩ | ⟨h3, h3'⟩
    · rw [if_pos h3]
      by_cases he : (lv : Int) < hi es
      · obtain ⟨i1, i2⟩ := begs_pop lv h4 he
        have hlt : lv < (begs es).length := by omega
        exact ⟨by rw [List.getElem?_append_left hlt]; exact i1, by rw [i2, List.take_append_of_le_length (by omega)]⟩
      · have hp := pop_eq (lv : Int) h4 (by omega)
        have hlv : lv = (begs es).length := by omega
        rw [hp, hlv]
        exact ⟨by simp, by simp⟩
    · rw [if_neg (by omega)]
      exact begs_pop lv h4 (by omega)

theorem take_lits (lv : Int) (es : List En) : ((es.map (·.lit)).reverse).take (popE lv es).length = ((popE lv es).map (·.lit)).reverse ∧ ((es.map (·.lit)).reverse).drop (popE lv es).length = ((cutE lv es).map (·.lit)).reverse := by
  have h := cut_pop lv es
  generalize popE lv es = p at *
  generalize cutE lv es = c at *
  subst h
  simp only [List.map_append, List.reverse_append]
  constructor
  · rw [List.take_append_of_le_length (by simp)]
    exact List.take_of_length_le (by simp)
  · rw [List.drop_append_of_le_length (by simp), List.drop_of_length_le (by simp)]
    simp

/-- What of the variables stays when some literals are forgotten, one by one. -/
def forget (vars : List Kn) : List Int → List Kn
  | [] => vars
  | x :: xs => forget (vars.set (x.natAbs - 1) ⟨0, -1, -1⟩) xs

theorem forget_len : ∀ (xs : List Int) (vars : List Kn), (forget vars xs).length = vars.length
  | [], _ => rfl
  | x :: xs, vars => by rw [forget, forget_len xs]; simp

theorem forget_append : ∀ (xs ys : List Int) (vars : List Kn), forget vars (xs ++ ys) = forget (forget vars xs) ys
  | [], _, _ => rfl
  | x :: xs, ys, vars => by rw [List.cons_append, forget, forget, forget_append xs]

theorem forget_get : ∀ (xs : List Int) (vars : List Kn) (v : Nat), v < vars.length → (∀ x ∈ xs, 1 ≤ x.natAbs) → (forget vars xs)[v]? = if ∃ x ∈ xs, x.natAbs = v + 1 then some ⟨0, -1, -1⟩ else vars[v]?
  | [], vars, v, hv, _ => by simp [forget]
  | x :: xs, vars, v, hv, h1 => by
    have hx := h1 x (List.mem_cons_self ..)
    rw [forget, forget_get xs _ v (by simpa using hv) fun y hy => h1 y (List.mem_cons_of_mem _ hy)]
    by_cases h : ∃ y ∈ xs, y.natAbs = v + 1
    · have h' : ∃ y ∈ x :: xs, y.natAbs = v + 1 := by
        obtain ⟨y, hy, hy'⟩ := h
        exact ⟨y, List.mem_cons_of_mem _ hy, hy'⟩
      rw [if_pos h, if_pos h']
    · rw [if_neg h]
      by_cases hxv : x.natAbs = v + 1
      · rw [if_pos ⟨x, List.mem_cons_self .., hxv⟩]
        have : x.natAbs - 1 = v := by omega
        rw [this]
        simp [hv]
      · rw [if_neg, List.getElem?_set_ne (by omega)]
        rintro ⟨y, hy, hy'⟩
        rcases List.mem_cons.1 hy with rfl | hy
        · exact hxv hy'
        · exact h ⟨y, hy, hy'⟩

theorem forget_vars {n : Nat} {c p : List En} (h : Good n (c ++ p)) : forget (varsE n (c ++ p)) ((c.map (·.lit)).reverse) = varsE n p := by
  apply List.ext_getElem?
  intro v
  by_cases hv : v < n
  · have h1 : ∀ x ∈ (c.map (·.lit)).reverse, 1 ≤ x.natAbs := by
      intro x hx
      simp only [List.mem_reverse, List.mem_map] at hx
      obtain ⟨e, he, rfl⟩ := hx
      exact (h.lit e (List.mem_append_left _ he)).1
    rw [forget_get _ _ v (by rw [varsE_len]; exact hv) h1, varsE_get n p v hv, varsE_get n _ v hv, look_append]
    by_cases hx : ∃ x ∈ (c.map (·.lit)).reverse, x.natAbs = v + 1
    · rw [if_pos hx]
      obtain ⟨x, hx, hxv⟩ := hx
      simp only [List.mem_reverse, List.mem_map] at hx
      obtain ⟨e, he, rfl⟩ := hx
      have : look p v = none := by
        refine look_none_of fun e' he' hev => ?_
        have a1 := look_mem h e (List.mem_append_left _ he)
        have a2 := look_mem h e' (List.mem_append_right _ he')
        have e1 : e.lit.natAbs - 1 = v := by omega
        have e2 : e'.lit.natAbs - 1 = v := by omega
        rw [e1] at a1
        rw [e2, a1] at a2
        cases a2
        clear a1 h1
        induction c with
        | nil => cases he
        | cons a c ih =>
          rcases List.mem_cons.1 he with rfl | he
          · have := h.2.1
            rw [e1] at this
            exact look_none this e (List.mem_append_right _ he') hev
          · exact ih h.2.2.2 he
      rw [this]
      rfl
    · rw [if_neg hx]
      have : look c v = none := look_none_of fun e he hev => hx ⟨e.lit, by simp only [List.mem_reverse, List.mem_map]; exact ⟨e, he, rfl⟩, hev⟩
      rw [this]
      simp
  · rw [List.getElem?_eq_none (by rw [forget_len, varsE_len]; omega), List.getElem?_eq_none (by rw [varsE_len]; omega)]

/-! ### What is put behind -/
theorem push_vars (n : Nat) (es : List En) (x level reason : Int) (hx : Lit n x) : (varsE n es).set (x.natAbs - 1) ⟨if x < 0 then -1 else 1, level, reason⟩ = varsE n (⟨x, level, reason⟩ :: es) := by
  apply List.ext_getElem?
  intro v
  have h1 := hx.1
  by_cases hv : v < n
  · rw [varsE_get _ _ v hv]
    simp only [look]
    by_cases hxv : x.natAbs - 1 = v
    · have hx' : x.natAbs = v + 1 := by omega
      rw [hxv]
      simp [varsE_len, hv, knE, hx']
    · rw [List.getElem?_set_ne hxv, if_neg (by omega), varsE_get _ _ v hv]
  · rw [List.getElem?_eq_none (by simp [varsE_len]; omega), List.getElem?_eq_none (by rw [varsE_len]; omega)]

/-- As many as there are variables at most. -/
def cnt (f : Nat → Bool) : Nat → Nat
  | 0 => 0
  | n + 1 => cnt f n + if f n then 1 else 0

theorem cnt_le (f : Nat → Bool) : ∀ n, cnt f n ≤ n
  | 0 => Nat.le_refl _
  | n + 1 => by
    have := cnt_le f n
    simp only [cnt]
    split <;> omega

theorem cnt_congr (f g : Nat → Bool) : ∀ n, (∀ v, v < n → f v = g v) → cnt f n = cnt g n
  | 0, _ => rfl
  | n + 1, h => by
    simp only [cnt]
    rw [cnt_congr f g n fun v hv => h v (by omega), h n (by omega)]

theorem cnt_one (f : Nat → Bool) (k : Nat) (hk : f k = false) : ∀ n, cnt (fun v => decide (v = k) || f v) n = cnt f n + if k < n then 1 else 0
  | 0 => by simp [cnt]
  | n + 1 => by
    simp only [cnt]
    rw [cnt_one f k hk n]
    by_cases h : n = k
    · subst h
      simp [hk]
    · have : (decide (n = k) || f n) = f n := by simp [h]
      simp only [this]
      by_cases hkn : k < n
      · have h2 : k < n + 1 := by omega
        simp only [if_pos hkn, if_pos h2]; omega
      · have h2 : ¬ k < n + 1 := by omega
        simp only [if_neg hkn, if_neg h2]; omega

theorem cnt_look {n : Nat} : ∀ {es : List En}, Good n es → cnt (fun v => (look es v).isSome) n = es.length
  | [], _ => by
    have : ∀ m, cnt (fun v => (look [] v).isSome) m = 0 := by
      intro m
      induction m with
      | zero => rfl
      | succ m ih => simp only [cnt, ih]; rfl
    exact this n
  | e :: es, h => by
    have h1 := h.1
    have h2 := h.2.1
    have ih := cnt_look h.2.2.2
    have hc : cnt (fun v => (look (e :: es) v).isSome) n = cnt (fun v => decide (v = e.lit.natAbs - 1) || (look es v).isSome) n := by
      apply cnt_congr
      intro v _
      simp only [look]
      by_cases hv : e.lit.natAbs = v + 1
      · rw [if_pos hv]
        have : v = e.lit.natAbs - 1 := by omega
        simp [this]
      · rw [if_neg hv]
        have : ¬ v = e.lit.natAbs - 1 := by have := h1.1; omega
        simp [this]
    rw [hc, cnt_one _ _ (by rw [h2]; rfl), ih, if_pos (by have := h1.1; have := h1.2; omega)]
    rfl

theorem Good.len_le {n : Nat} {es : List En} (h : Good n es) : es.length ≤ n := by
  rw [← cnt_look h]
  exact cnt_le _ _

/-! ### One step -/
def valE (n : Nat) (es : List En) (x : Int) : Int := if 1 ≤ x.natAbs ∧ x.natAbs ≤ n then (match look es (x.natAbs - 1) with | none => 0 | some e => if e.lit = x then 1 else -1) else 0

/-- Why a literal may not be put. -/
def openC (n : Nat) (es : List En) (x : Int) : Int := if 1 ≤ x.natAbs ∧ x.natAbs ≤ n then (if (look es (x.natAbs - 1)).isSome then 7 else 0) else 1

def decC (n : Nat) (es : List En) (x : Int) : Int × List En := (openC n es x, if openC n es x = 0 then ⟨x, hi es + 1, -1⟩ :: es else es)
def asnC (n : Nat) (es : List En) (x reason : Int) : Int × List En := if reason < 0 then (1, es) else (openC n es x, if openC n es x = 0 then ⟨x, hi es, reason⟩ :: es else es)
def backC (es : List En) (lv : Int) : Int × List En := if lv < 0 ∨ hi es < lv then (1, es) else (0, popE lv es)

theorem openC_zero {n : Nat} {es : List En} {x : Int} (h : openC n es x = 0) : Lit n x ∧ look es (x.natAbs - 1) = none := by
  unfold openC at h
  split at h
  · next h1 =>
    refine ⟨h1, ?_⟩
    cases hl : look es (x.natAbs - 1) with
    | none => rfl
    | some e => rw [hl] at h; simp at h
  · cases h

theorem decC_good {n : Nat} {es : List En} (x : Int) (h : Good n es) : Good n (decC n es x).2 := by
  simp only [decC]
  split
  · next h0 =>
    obtain ⟨h1, h2⟩ := openC_zero h0
    exact ⟨h1, h2, .inl ⟨rfl, rfl⟩, h⟩
  · exact h

theorem asnC_good {n : Nat} {es : List En} (x reason : Int) (h : Good n es) : Good n (asnC n es x reason).2 := by
  simp only [asnC]
  split
  · exact h
  · next hr =>
    show Good n (if openC n es x = 0 then _ else _)
    split
    · next h0 =>
      obtain ⟨h1, h2⟩ := openC_zero h0
      exact ⟨h1, h2, .inr ⟨by show 0 ≤ reason; omega, rfl⟩, h⟩
    · exact h

theorem backC_good {n : Nat} {es : List En} (lv : Int) (h : Good n es) : Good n (backC es lv).2 := by
  simp only [backC]
  split
  · exact h
  · exact pop_good lv h

end Go.Proofs.Ythinopiobihmaaa

namespace Go.Proofs.Ythinopiobihmaaa
open Go.ChangeShapes Go.WideShapes Go.ChangeAt Go.RowKit
set_option maxRecDepth 100000

def Kn.cells (k : Kn) : List Value := [.int .i64 k.value, .int .i64 k.level, .int .i64 k.reason]
def knC (l : List Kn) : List Value := l.flatMap Kn.cells
def inC (l : List Int) : List Value := l.map (Value.int .i64)

/-- A literal's variable among n; -1: it is none. -/
def varN (n : Nat) (lit : Int) : Int := if lit = 0 then -1 else if (if lit < 0 then -(lit + 1) else lit - 1) < n then (if lit < 0 then -(lit + 1) else lit - 1) else -1

/-- The trail lies at g. -/
structure IsT (w : World) (g : Nat) (a b c : Value) (T : TrD) : Prop where
  blk : Blk w g 100 #[a, b, c]
  vars : Own w 98 3 a T.vars.length (knC T.vars)
  lits : Own w 3 1 b T.lits.length (inC T.lits)
  begins : Own w 3 1 c T.begins.length (inC T.begins)

theorem variable_any (g : Nat) (ao : Option Addr) (n cap : Nat) (b c : Value) (lit : Int) (w : World) (hb : Blk w g 100 #[.slice ao n cap, b, c]) (_hn : n ≤ 140737488351232) (h1 : -9223372036854775808 ≤ lit) (h2 : lit ≤ 9223372036854775807) :
    Calls Try.prog 69 #[.pointer (some ⟨g, 0, none⟩), .int .i64 lit] w fun e w' => e = .returned (.int .i64 (varN n lit)) ∧ w = w' := by
  have hc0 := hb.cell 0
  simp at hc0
  unfold varN
  go_enter Try.func69, Try.ntmps69
  by_cases h0 : lit = 0
  · subst h0
    go_wp2_with fail
    go_ret
    exact ⟨rfl, rfl⟩
  · have h0' : (lit == 0) = false := by simpa using h0
    rw [if_neg h0]
    by_cases hneg : lit < 0
    · obtain ⟨z, hw1⟩ : ∃ z, IntKind.i64.wrap (lit - 1) = z := ⟨_, rfl⟩
      have hw2 : IntKind.i64.wrap (lit + 1) = lit + 1 := by rw [IntKind.wrap_i64]; omega
      have hw3 : IntKind.i64.wrap (-(lit + 1)) = -(lit + 1) := by rw [IntKind.wrap_i64]; omega
      simp only [if_pos hneg]
      generalize hv : -(lit + 1) = v at *
      by_cases hlt : v < n
      · have hd : decide ((n : Int) ≤ v) = false := by simp; omega
        rw [if_pos hlt]
        go_wp2_with fail
        go_ret
        exact ⟨rfl, rfl⟩
      · have hd : decide ((n : Int) ≤ v) = true := by simp; omega
        rw [if_neg hlt]
        go_wp2_with fail
        go_ret
        exact ⟨rfl, rfl⟩
    · have hneg' : decide (lit < 0) = false := by simpa using hneg
      have hw1 : IntKind.i64.wrap (lit - 1) = lit - 1 := by rw [IntKind.wrap_i64]; omega
      simp only [if_neg hneg]
      generalize hv : lit - 1 = v at *
      by_cases hlt : v < n
      · have hd : decide ((n : Int) ≤ v) = false := by simp; omega
        rw [if_pos hlt]
        go_wp2_with fail
        go_ret
        exact ⟨rfl, rfl⟩
      · have hd : decide ((n : Int) ≤ v) = true := by simp; omega
        rw [if_neg hlt]
        go_wp2_with fail
        go_ret
        exact ⟨rfl, rfl⟩

end Go.Proofs.Ythinopiobihmaaa

namespace Go.Proofs.Ythinopiobihmaaa
open Go.ChangeShapes Go.WideShapes Go.ChangeAt Go.RowKit
set_option maxRecDepth 100000

theorem knC_len (l : List Kn) : (knC l).length = 3 * l.length := by
  induction l with
  | nil => rfl
  | cons a l ih => simp [knC, Kn.cells] at ih ⊢; omega

theorem knC_get (l : List Kn) : ∀ (i : Nat) (h : i < l.length), (knC l)[i * 3]? = some (.int .i64 l[i].value) ∧ (knC l)[i * 3 + 1]? = some (.int .i64 l[i].level) ∧ (knC l)[i * 3 + 2]? = some (.int .i64 l[i].reason) := by
  induction l with
  | nil => intro i h; exact absurd h (by simp)
  | cons a l ih =>
    intro i h
    have he : knC (a :: l) = .int .i64 a.value :: .int .i64 a.level :: .int .i64 a.reason :: knC l := rfl
    rw [he]
    cases i with
    | zero => exact ⟨rfl, rfl, rfl⟩
    | succ i =>
      obtain ⟨h1, h2, h3⟩ := ih i (by simpa using h)
      have e : (i + 1) * 3 = i * 3 + 1 + 1 + 1 := by omega
      rw [e]
      simp only [List.getElem?_cons_succ, List.getElem_cons_succ]
      exact ⟨h1, h2, h3⟩

def knAt (T : TrD) (v : Int) : Kn := T.vars.getD v.toNat ⟨0, -1, -1⟩

/-- What a variable's cells hold. -/
theorem IsT.at_ {w : World} {g : Nat} {a b c : Value} {T : TrD} (h : IsT w g a b c T) (i : Nat) (hi : i < T.vars.length) :
    ∃ bl off cap, a = .slice (some ⟨bl, off, none⟩) T.vars.length cap ∧ w.cell? ⟨bl, off + i * 3, none⟩ = some (.int .i64 (knAt T i).value) ∧ w.cell? ⟨bl, off + i * 3 + 1, none⟩ = some (.int .i64 (knAt T i).level) ∧
      w.cell? ⟨bl, off + i * 3 + 2, none⟩ = some (.int .i64 (knAt T i).reason) ∧ (∀ j, w.frozen? ⟨bl, j, none⟩ = false) ∧ bl < w.heap.size := by
  obtain ⟨ao, cap, rfl, _, _, hf⟩ := h.vars.form
  obtain ⟨bl, off, rfl, hc, hfr, hbl⟩ := hf (by omega)
  have hk : knAt T i = T.vars[i] := by simp [knAt, List.getD, hi]
  obtain ⟨h1, h2, h3⟩ := knC_get T.vars i hi
  rw [← hk] at h1 h2 h3
  have hl := knC_len T.vars
  refine ⟨bl, off, cap, rfl, ?_, ?_, ?_, ?_⟩
  · rw [hc (i * 3) (by omega)]; exact h1
  · rw [Nat.add_assoc, hc (i * 3 + 1) (by omega)]; exact h2
  · rw [Nat.add_assoc, hc (i * 3 + 2) (by omega)]; exact h3
  · exact ⟨hfr, hbl⟩

def openE (T : TrD) (lit : Int) : Int := if varN T.vars.length lit < 0 then 1 else if (knAt T (varN T.vars.length lit)).value ≠ 0 then 7 else 0

theorem varN_lt (n : Nat) (lit : Int) : varN n lit < n ∧ -1 ≤ varN n lit := by
  unfold varN
  split
  · omega
  · split <;> split <;> omega

theorem open_any (g : Nat) (a b c : Value) (T : TrD) (lit : Int) (w : World) (hT : IsT w g a b c T) (hn : T.vars.length ≤ 140737488351232) (h1 : -9223372036854775808 ≤ lit) (h2 : lit ≤ 9223372036854775807) :
    Calls Try.prog 64 #[.pointer (some ⟨g, 0, none⟩), .int .i64 lit] w fun e w' => e = .returned (.int .i64 (openE T lit)) ∧ w = w' := by
  obtain ⟨ao, cap, rfl, _, _, _⟩ := hT.vars.form
  have hc0 := hT.blk.cell 0
  simp at hc0
  have HV := Lib.hid (variable_any g ao T.vars.length cap b c lit w hT.blk hn h1 h2)
  obtain ⟨hv1, hv2⟩ := varN_lt T.vars.length lit
  unfold openE
  generalize varN T.vars.length lit = v at *
  go_enter Try.func64, Try.ntmps64
  by_cases hv : v < 0
  · rw [if_pos hv]
    go_wp2_with (go_at_call 69; refine HV.out.mono ?_; rintro e w' ⟨rfl, rfl⟩)
    go_ret
    exact ⟨rfl, rfl⟩
  · rw [if_neg hv]
    obtain ⟨i, rfl⟩ := Int.eq_ofNat_of_zero_le (by omega : 0 ≤ v)
    obtain ⟨bl, off, cap', e, hcv, _, _, _⟩ := hT.at_ i (by omega)
    cases e
    have hv' : decide ((i : Int) < 0) = false := by simp
    have hi : (i : Int) < (T.vars.length : Int) := by omega
    by_cases hz : (knAt T i).value ≠ 0
    · rw [if_pos hz]
      have hz' : ((knAt T i).value == 0) = false := by simpa using hz
      go_wp2_with (go_at_call 69; refine HV.out.mono ?_; rintro e w' ⟨rfl, rfl⟩)
      go_ret
      exact ⟨rfl, rfl⟩
    · rw [if_neg hz]
      have hz' : ((knAt T i).value == 0) = true := by simpa using hz
      go_wp2_with (go_at_call 69; refine HV.out.mono ?_; rintro e w' ⟨rfl, rfl⟩)
      go_ret
      exact ⟨rfl, rfl⟩

end Go.Proofs.Ythinopiobihmaaa

namespace Go.Proofs.Ythinopiobihmaaa
open Go.ChangeShapes Go.WideShapes Go.ChangeAt Go.RowKit
set_option maxRecDepth 100000

def valT (T : TrD) (lit : Int) : Int := if varN T.vars.length lit < 0 then 0 else if lit < 0 then -(knAt T (varN T.vars.length lit)).value else (knAt T (varN T.vars.length lit)).value

theorem value_any (g : Nat) (a b c : Value) (T : TrD) (lit : Int) (w : World) (hT : IsT w g a b c T) (hn : T.vars.length ≤ 140737488351232) (h1 : -9223372036854775808 ≤ lit) (h2 : lit ≤ 9223372036854775807) (hx : ∀ v, -1 ≤ (knAt T v).value ∧ (knAt T v).value ≤ 1) :
    Calls Try.prog 51 #[.pointer (some ⟨g, 0, none⟩), .int .i64 lit] w fun e w' => e = .returned (.int .i64 (valT T lit)) ∧ w = w' := by
  obtain ⟨ao, cap, rfl, _, _, _⟩ := hT.vars.form
  have hc0 := hT.blk.cell 0
  simp at hc0
  have HV := Lib.hid (variable_any g ao T.vars.length cap b c lit w hT.blk hn h1 h2)
  obtain ⟨hv1, hv2⟩ := varN_lt T.vars.length lit
  unfold valT
  generalize varN T.vars.length lit = v at *
  go_enter Try.func51, Try.ntmps51
  by_cases hv : v < 0
  · rw [if_pos hv]
    go_wp2_with (go_at_call 69; refine HV.out.mono ?_; rintro e w' ⟨rfl, rfl⟩)
    go_ret
    exact ⟨rfl, rfl⟩
  · rw [if_neg hv]
    obtain ⟨i, rfl⟩ := Int.eq_ofNat_of_zero_le (by omega : 0 ≤ v)
    obtain ⟨bl, off, cap', e, hcv, _, _, _⟩ := hT.at_ i (by omega)
    cases e
    have hv' : decide ((i : Int) < 0) = false := by simp
    have hi : (i : Int) < (T.vars.length : Int) := by omega
    obtain ⟨hx1, hx2⟩ := hx i
    generalize (knAt T i).value = x at *
    have hwx : IntKind.i64.wrap (-x) = -x := by rw [IntKind.wrap_i64]; omega
    by_cases hz : lit < 0
    · rw [if_pos hz]
      go_wp2_with (go_at_call 69; refine HV.out.mono ?_; rintro e w' ⟨rfl, rfl⟩)
      go_ret
      exact ⟨rfl, rfl⟩
    · rw [if_neg hz]
      have hz' : decide (lit < 0) = false := by simpa using hz
      go_wp2_with (go_at_call 69; refine HV.out.mono ?_; rintro e w' ⟨rfl, rfl⟩)
      go_ret
      exact ⟨rfl, rfl⟩

theorem value_nil (lit : Int) (w : World) : Calls Try.prog 51 #[.pointer none, .int .i64 lit] w fun e w' => e = .returned (.int .i64 0) ∧ w = w' := by
  go_enter Try.func51, Try.ntmps51
  go_wp2_with fail
  go_ret
  exact ⟨rfl, rfl⟩

theorem field_kn (x y z : Int) (W : World) : (Instr.field 98 (.agg #[.int .i64 x, .int .i64 y, .int .i64 z]) 1).run Try.prog W = .ok (.int .i64 y) W ∧ (Instr.field 98 (.agg #[.int .i64 x, .int .i64 y, .int .i64 z]) 2).run Try.prog W = .ok (.int .i64 z) W ∧ (Instr.field 98 (.agg #[.int .i64 x, .int .i64 y, .int .i64 z]) 0).run Try.prog W = .ok (.int .i64 x) W :=
  ⟨by kernel_rfl, by kernel_rfl, by kernel_rfl⟩

/-- What is known of a variable, any number. -/
def ofT (T : TrD) (v : Int) : Kn := if v < 0 ∨ (T.vars.length : Int) ≤ v then ⟨0, -1, -1⟩ else knAt T v

def Kn.agg (k : Kn) : Value := .agg #[.int .i64 k.value, .int .i64 k.level, .int .i64 k.reason]

theorem of_any (g : Nat) (a b c : Value) (T : TrD) (v : Int) (w : World) (hT : IsT w g a b c T) (_hn : T.vars.length ≤ 140737488351232) :
    Calls Try.prog 67 #[.pointer (some ⟨g, 0, none⟩), .int .i64 v] w fun e w' => e = .returned (ofT T v).agg ∧ Below w.heap.size w w' := by
  obtain ⟨ao, cap, rfl, _, _, _⟩ := hT.vars.form
  have hc0 := hT.blk.cell 0
  simp at hc0
  have hgl := hT.blk.lt
  have hgne : ¬ w.heap.size = g := by omega
  have hgne' : ¬ g = w.heap.size := by omega
  unfold ofT
  go_enter Try.func67, Try.ntmps67
  by_cases hv : v < 0
  · rw [if_pos (.inl hv)]
    go_wp2_with fail
    simp [bodyPost, results, Try.results67, go_sem, Kn.agg]
    exact (Below.refl _ _).alloc (Nat.le_refl _) _
  · have hv' : decide (v < 0) = false := by simpa using hv
    by_cases hv2 : (T.vars.length : Int) ≤ v
    · rw [if_pos (.inr hv2)]
      go_wp2_with fail
      simp [bodyPost, results, Try.results67, go_sem, Kn.agg]
      exact (Below.refl _ _).alloc (Nat.le_refl _) _
    · rw [if_neg (by omega)]
      have hv2' : decide ((T.vars.length : Int) ≤ v) = false := by simpa using hv2
      obtain ⟨i, rfl⟩ := Int.eq_ofNat_of_zero_le (by omega : 0 ≤ v)
      obtain ⟨bl, off, cap', e, hcv, hcl, hcr, _, hbl⟩ := hT.at_ i (by omega)
      have hbne : ¬ bl = w.heap.size := by omega
      have hbne' : ¬ w.heap.size = bl := by omega
      cases e
      have hi : (i : Int) < (T.vars.length : Int) := by omega
      go_wp2_with fail
      simp [bodyPost, results, Try.results67, go_sem, Kn.agg]
      exact (Below.refl _ _).alloc (Nat.le_refl _) _

theorem of_nil (v : Int) (w : World) :
    Calls Try.prog 67 #[.pointer none, .int .i64 v] w fun e w' => e = .returned (Kn.agg ⟨0, -1, -1⟩) ∧ Below w.heap.size w w' := by
  go_enter Try.func67, Try.ntmps67
  go_wp2_with fail
  simp [bodyPost, results, Try.results67, go_sem, Kn.agg]
  exact (Below.refl _ _).alloc (Nat.le_refl _) _

theorem levelOf_any (g : Nat) (a b c : Value) (T : TrD) (v : Int) (w : World) (hT : IsT w g a b c T) (hn : T.vars.length ≤ 140737488351232) :
    Calls Try.prog 48 #[.pointer (some ⟨g, 0, none⟩), .int .i64 v] w fun e w' => e = .returned (.int .i64 (ofT T v).level) ∧ Below w.heap.size w w' := by
  have HO := of_any g a b c T v w hT hn
  generalize ofT T v = k at *
  obtain ⟨x, y, z⟩ := k
  simp only [Kn.agg] at HO ⊢
  have HO := Lib.hid HO
  have hfd := fun W => (field_kn x y z W).1
  have hfd2 := fun W => (field_kn x y z W).2.1
  go_enter Try.func48, Try.ntmps48
  go_wp2_with (go_at_call 67; refine HO.out.mono ?_; rintro e w1 ⟨rfl, hB⟩)
  go_ret
  exact ⟨rfl, hB⟩

theorem reason_any (g : Nat) (a b c : Value) (T : TrD) (v : Int) (w : World) (hT : IsT w g a b c T) (hn : T.vars.length ≤ 140737488351232) :
    Calls Try.prog 47 #[.pointer (some ⟨g, 0, none⟩), .int .i64 v] w fun e w' => e = .returned (.int .i64 (ofT T v).reason) ∧ Below w.heap.size w w' := by
  have HO := of_any g a b c T v w hT hn
  generalize ofT T v = k at *
  obtain ⟨x, y, z⟩ := k
  simp only [Kn.agg] at HO ⊢
  have HO := Lib.hid HO
  have hfd := fun W => (field_kn x y z W).1
  have hfd2 := fun W => (field_kn x y z W).2.1
  go_enter Try.func47, Try.ntmps47
  go_wp2_with (go_at_call 67; refine HO.out.mono ?_; rintro e w1 ⟨rfl, hB⟩)
  go_ret
  exact ⟨rfl, hB⟩

theorem level_any (g : Nat) (a b c : Value) (T : TrD) (w : World) (hT : IsT w g a b c T) :
    Calls Try.prog 46 #[.pointer (some ⟨g, 0, none⟩)] w fun e w' => e = .returned (.int .i64 T.begins.length) ∧ w = w' := by
  obtain ⟨ao, cap, rfl, _, _, _⟩ := hT.begins.form
  have hc2 := hT.blk.cell 2
  simp at hc2
  go_enter Try.func46, Try.ntmps46
  go_wp2_with fail
  go_ret
  exact ⟨rfl, rfl⟩

theorem vars_any (g : Nat) (a b c : Value) (T : TrD) (w : World) (hT : IsT w g a b c T) :
    Calls Try.prog 40 #[.pointer (some ⟨g, 0, none⟩)] w fun e w' => e = .returned (.int .i64 T.vars.length) ∧ w = w' := by
  obtain ⟨ao, cap, rfl, _, _, _⟩ := hT.vars.form
  have hc0 := hT.blk.cell 0
  simp at hc0
  go_enter Try.func40, Try.ntmps40
  go_wp2_with fail
  go_ret
  exact ⟨rfl, rfl⟩

theorem len_any (g : Nat) (a b c : Value) (T : TrD) (w : World) (hT : IsT w g a b c T) :
    Calls Try.prog 41 #[.pointer (some ⟨g, 0, none⟩)] w fun e w' => e = .returned (.int .i64 T.lits.length) ∧ w = w' := by
  obtain ⟨ao, cap, rfl, _, _, _⟩ := hT.lits.form
  have hc1 := hT.blk.cell 1
  simp at hc1
  go_enter Try.func41, Try.ntmps41
  go_wp2_with fail
  go_ret
  exact ⟨rfl, rfl⟩

end Go.Proofs.Ythinopiobihmaaa

namespace Go.Proofs.Ythinopiobihmaaa
open Go.ChangeShapes Go.WideShapes Go.ChangeAt Go.RowKit
set_option maxRecDepth 100000

def atT (T : TrD) (i : Int) : Int := if i < 0 then 0 else T.lits.getD i.toNat 0

theorem inC_get (l : List Int) (i : Nat) (h : i < l.length) : (inC l)[i]? = some (.int .i64 l[i]) := by
  simp [inC, List.getElem?_eq_getElem h]

theorem at_any (g : Nat) (a b c : Value) (T : TrD) (i : Int) (w : World) (hT : IsT w g a b c T) :
    Calls Try.prog 43 #[.pointer (some ⟨g, 0, none⟩), .int .i64 i] w fun e w' => e = .returned (.int .i64 (atT T i)) ∧ w = w' := by
  have HL := Lib.hid (len_any g a b c T w hT)
  obtain ⟨ao, cap, rfl, _, _, hf⟩ := hT.lits.form
  have hc1 := hT.blk.cell 1
  simp at hc1
  unfold atT
  go_enter Try.func43, Try.ntmps43
  by_cases hi : i < 0
  · rw [if_pos hi]
    go_wp2_with (go_at_call 41; refine HL.out.mono ?_; rintro e w' ⟨rfl, rfl⟩)
    go_ret
    exact ⟨rfl, rfl⟩
  · rw [if_neg hi]
    have hi' : decide (i < 0) = false := by simpa using hi
    obtain ⟨k, rfl⟩ := Int.eq_ofNat_of_zero_le (by omega : 0 ≤ i)
    by_cases hk : k < T.lits.length
    · obtain ⟨bl, off, rfl, hc, _, _⟩ := hf (by omega)
      have hck := hc k (by simpa [inC] using hk)
      rw [inC_get _ _ hk] at hck
      have hkd : decide ((T.lits.length : Int) ≤ (k : Int)) = false := by simp; omega
      have hk2 : (k : Int) < (T.lits.length : Int) := by omega
      have hg : T.lits.getD (k : Int).toNat 0 = T.lits[k] := by simp [List.getD, hk]
      rw [hg]
      generalize T.lits[k] = x at *
      go_wp2_with (go_at_call 41; refine HL.out.mono ?_; rintro e w' ⟨rfl, rfl⟩)
      go_ret
      exact ⟨rfl, rfl⟩
    · have hkd : decide ((T.lits.length : Int) ≤ (k : Int)) = true := by simp; omega
      have hg : T.lits.getD (k : Int).toNat 0 = 0 := by simp [List.getD, hk]
      rw [hg]
      go_wp2_with (go_at_call 41; refine HL.out.mono ?_; rintro e w' ⟨rfl, rfl⟩)
      go_ret
      exact ⟨rfl, rfl⟩

theorem len_nil (w : World) : Calls Try.prog 41 #[.pointer none] w fun e w' => e = .returned (.int .i64 0) ∧ w = w' := by
  go_enter Try.func41, Try.ntmps41
  go_wp2_with fail
  go_ret
  exact ⟨rfl, rfl⟩
theorem level_nil (w : World) : Calls Try.prog 46 #[.pointer none] w fun e w' => e = .returned (.int .i64 0) ∧ w = w' := by
  go_enter Try.func46, Try.ntmps46
  go_wp2_with fail
  go_ret
  exact ⟨rfl, rfl⟩
theorem vars_nil (w : World) : Calls Try.prog 40 #[.pointer none] w fun e w' => e = .returned (.int .i64 0) ∧ w = w' := by
  go_enter Try.func40, Try.ntmps40
  go_wp2_with fail
  go_ret
  exact ⟨rfl, rfl⟩
theorem copy_nil (w : World) : Calls Try.prog 49 #[.pointer none] w fun e w' => e = .returned (.pointer none) ∧ w = w' := by
  go_enter Try.func49, Try.ntmps49
  go_wp2_with fail
  go_ret
  exact ⟨rfl, rfl⟩
theorem assign_nil (x y : Int) (w : World) : Calls Try.prog 77 #[.pointer none, .int .i64 x, .int .i64 y] w fun e w' => e = .returned (.int .i64 2) ∧ w = w' := by
  go_enter Try.func77, Try.ntmps77
  go_wp2_with fail
  go_ret
  exact ⟨rfl, rfl⟩
theorem decide_nil (x : Int) (w : World) : Calls Try.prog 39 #[.pointer none, .int .i64 x] w fun e w' => e = .returned (.int .i64 2) ∧ w = w' := by
  go_enter Try.func39, Try.ntmps39
  go_wp2_with fail
  go_ret
  exact ⟨rfl, rfl⟩
theorem back_nil (x : Int) (w : World) : Calls Try.prog 50 #[.pointer none, .int .i64 x] w fun e w' => e = .returned (.int .i64 2) ∧ w = w' := by
  go_enter Try.func50, Try.ntmps50
  go_wp2_with fail
  go_ret
  exact ⟨rfl, rfl⟩

end Go.Proofs.Ythinopiobihmaaa

namespace Go.Proofs.Ythinopiobihmaaa
open Go.ChangeShapes Go.WideShapes Go.ChangeAt Go.RowKit
set_option maxRecDepth 100000

/-- What push makes of a trail; v is the literal's variable. -/
def pushT (T : TrD) (lit reason : Int) (v : Nat) : TrD := ⟨T.vars.set v ⟨if lit < 0 then -1 else 1, T.begins.length, reason⟩, T.lits ++ [lit], T.begins⟩

theorem knC_set (l : List Kn) (k : Kn) : ∀ (i : Nat), i < l.length → knC (l.set i k) = (((knC l).set (i * 3) (.int .i64 k.value)).set (i * 3 + 1) (.int .i64 k.level)).set (i * 3 + 2) (.int .i64 k.reason) := by
  induction l with
  | nil => intro i h; exact absurd h (by simp)
  | cons a l ih =>
    intro i h
    have he : ∀ (b : Kn) (m : List Kn), knC (b :: m) = .int .i64 b.value :: .int .i64 b.level :: .int .i64 b.reason :: knC m := fun _ _ => rfl
    cases i with
    | zero => rfl
    | succ i =>
      have e : (i + 1) * 3 = i * 3 + 1 + 1 + 1 := by omega
      rw [List.set_cons_succ, he, he, ih i (by simpa using h), e]
      rfl

theorem in_one (l : List Int) : ∀ u ∈ inC l, u.oneCell' = true := by
  intro u hu
  obtain ⟨b, _, rfl⟩ := List.mem_map.1 hu
  rfl
theorem in_app (l m : List Int) : inC (l ++ m) = inC l ++ inC m := by simp [inC]

set_option maxHeartbeats 1000000 in
theorem push_any (g : Nat) (a b c : Value) (T : TrD) (lit reason : Int) (v : Nat) (w : World) (hT : IsT w g a b c T) (hbc : b.ownBlock = none ∨ b.ownBlock ≠ c.ownBlock) (hn : T.vars.length ≤ 5000) (hl : T.lits.length ≤ 5000)
    (h1 : -9223372036854775808 ≤ lit) (h2 : lit ≤ 9223372036854775807) (hv : varN T.vars.length lit = v) (hvl : v < T.vars.length) :
    Calls Try.prog 65 #[.pointer (some ⟨g, 0, none⟩), .int .i64 lit, .int .i64 reason] w fun e w' => e = .returned (.tuple #[]) ∧ ∃ b', IsT w' g a b' c (pushT T lit reason v) ∧
      Touch (fun x => x = g ∨ a.ownBlock = some x ∨ b.ownBlock = some x) w w' ∧ (b'.ownBlock = b.ownBlock ∨ ∀ k, b'.ownBlock = some k → w.heap.size ≤ k) := by
  obtain ⟨i3, hi, hz0, hz1, hz2⟩ := info_parts (P := Try.prog) (e := 3) (z := .int .i64 0) (size := 1) (bytes := 8) (by kernel_rfl)
  obtain ⟨bl, off, cap, rfl, hcv, hcl, hcr, hfz, hbl⟩ := hT.at_ v hvl
  obtain ⟨aoB, capB, rfl, _, _, _⟩ := hT.lits.form
  obtain ⟨aoC, capC, rfl, _, _, _⟩ := hT.begins.form
  have hc2 := hT.blk.cell 2
  simp at hc2
  have hgl := hT.blk.lt
  have hgne : ¬ w.heap.size = g := by omega
  have hgne' : ¬ g = w.heap.size := by omega
  have hbne : ¬ w.heap.size = bl := by omega
  have hbne' : ¬ bl = w.heap.size := by omega
  have hvi : (v : Int) < (T.vars.length : Int) := by omega
  have hbg : ¬ bl = g := fun e => hT.vars.ne_blk hT.blk (by decide) (by rw [e]; rfl)
  have hgb : ¬ g = bl := fun e => hbg e.symm
  have hblb : (Value.slice aoB T.lits.length capB).ownBlock ≠ some bl := fun e => by
    obtain ⟨_, hb1⟩ := hT.lits.blk e
    obtain ⟨_, hb2⟩ := hT.vars.blk (k := bl) rfl
    exact hb1.ne_ hb2 (by decide) rfl
  have hblc : (Value.slice aoC T.begins.length capC).ownBlock ≠ some bl := fun e => by
    obtain ⟨_, hb1⟩ := hT.begins.blk e
    obtain ⟨_, hb2⟩ := hT.vars.blk (k := bl) rfl
    exact hb1.ne_ hb2 (by decide) rfl
  have hgc : (Value.slice aoC T.begins.length capC).ownBlock ≠ some g := hT.begins.ne_blk hT.blk (by decide)
  have hgB : (Value.slice aoB T.lits.length capB).ownBlock ≠ some g := hT.lits.ne_blk hT.blk (by decide)
  obtain ⟨x, hx⟩ : ∃ x : Int, x = if lit < 0 then -1 else 1 := ⟨_, rfl⟩
  obtain ⟨W, hW⟩ : ∃ W, W = (w.alloc (.cells #[.int .i64 x, .int .i64 T.begins.length, .int .i64 reason] 98)).drew := ⟨_, rfl⟩
  have hWs : W.heap.size = w.heap.size + 1 := by rw [hW]; simp
  have hTW : IsT W g (.slice (some ⟨bl, off, none⟩) T.vars.length cap) (.slice aoB T.lits.length capB) (.slice aoC T.begins.length capC) T := by
    rw [hW]
    exact ⟨(hT.blk.alloc _).drew, (hT.vars.alloc _).drew, (hT.lits.alloc _).drew, (hT.begins.alloc _).drew⟩
  have hTo : Touch (fun _ => False) w W := by rw [hW]; exact ((Touch.refl _ w).alloc _).drew
  have HV : Hid (Calls Try.prog 69 #[.pointer (some ⟨g, 0, none⟩), .int .i64 lit] W fun e w' => e = .returned (.int .i64 (v : Int)) ∧ w' = W) := Lib.hid (by
    have h := variable_any g _ T.vars.length cap _ _ lit W hTW.blk (by omega) h1 h2
    rw [hv] at h
    exact h.mono fun _ _ hh => ⟨hh.1, hh.2.symm⟩)
  have kb : Blk W w.heap.size 98 #[.int .i64 x, .int .i64 T.begins.length, .int .i64 reason] := by rw [hW]; exact (Blk.new w _ _).drew
  go_enter Try.func65, Try.ntmps65
  go_upto_if 15 with fail
  go_cut [] from 7 (fun wx => wx = w.alloc (.cells #[.int .i64 x, .int .i64 T.begins.length, .int .i64 reason] 98))
  case first =>
    clear hW hTW HV kb
    by_cases hneg : lit < 0
    · rw [if_pos hneg] at hx
      go_wp2_with fail
      go_meet
      case rel => rw [hx]
    · have hneg' : decide (lit < 0) = false := by simpa using hneg
      rw [if_neg hneg] at hx
      go_wp2_with fail
      go_meet
      case rel => rw [hx]
  case rest =>
    subst hcut
    go_upto_region 3 with fail
    go_cut [] from 7 (fun wx => IsT wx g (.slice (some ⟨bl, off, none⟩) T.vars.length cap) (.slice aoB T.lits.length capB) (.slice aoC T.begins.length capC) ⟨T.vars.set v ⟨x, T.begins.length, reason⟩, T.lits, T.begins⟩ ∧
      wx.heap.size = w.heap.size + 1 ∧ Touch (fun k => k = bl) W wx)
    case first =>
      obtain ⟨_, _, _, e, hcv, hcl, hcr, hfz, _⟩ := hTW.at_ v hvl
      cases e
      have k0 := hTW.blk.cell 0
      have k1 := kb.cell 0
      have k2 := kb.cell 1
      have k3 := kb.cell 2
      simp at k0 k1 k2 k3
      refine wp_region_still_tail 9 (by kernel_rfl) (by kernel_rfl) ?_
      change wpStill _ _ (World.drew (w.alloc (.cells #[.int .i64 x, .int .i64 T.begins.length, .int .i64 reason] 98))) (fun a' => wpList _ _ _ _ a' (World.drew (w.alloc (.cells #[.int .i64 x, .int .i64 T.begins.length, .int .i64 reason] 98)))) _ _
      rw [← hW]
      have hHid := Lib.hid hx
      clear hW hx
      simp only [List.take_succ_cons, List.take_zero, List.drop_succ_cons, List.drop_zero]
      repeat still_step
      still_call HV.out
      repeat still_step
      refine wpStill_nil ?_
      go_wp2_with fail
      go_meet
      case rel =>
        refine ⟨⟨((hTW.blk.far hgb _).far hgb _).far hgb _, ?_, ((hTW.lits.far hblb _).far hblb _).far hblb _, ((hTW.begins.far hblc _).far hblc _).far hblc _⟩, ?_, ?_⟩
        · have h := ((hTW.vars.stored (v * 3) (.int .i64 x)).stored (v * 3 + 1) (.int .i64 T.begins.length)).stored (v * 3 + 2) (.int .i64 reason)
          show Own _ 98 3 _ (T.vars.set v ⟨x, T.begins.length, reason⟩).length (knC (T.vars.set v ⟨x, T.begins.length, reason⟩))
          rw [knC_set T.vars ⟨x, T.begins.length, reason⟩ v hvl, List.length_set]
          exact h
        · simp [World.setCell, hWs]
        · exact (((Touch.refl (fun k => k = bl) W).setCell (p := ⟨bl, off + v * 3, none⟩) (fun _ => rfl) _).setCell (p := ⟨bl, off + v * 3 + 1, none⟩) (fun _ => rfl) _).setCell (p := ⟨bl, off + v * 3 + 2, none⟩) (fun _ => rfl) _
    case rest =>
      obtain ⟨hTx, hsx, htx⟩ := hcut
      have hc1 := hTx.blk.cell 1
      simp at hc1
      have hgs : wc.heap.size ≠ g := by omega
      have hWc : Hid (W = (w.alloc (.cells #[.int .i64 x, .int .i64 T.begins.length, .int .i64 reason] 98)).drew) := Lib.hid hW
      have hSx := Lib.hid hsx
      clear hW hsx
      go_wp2_with (at_builtin; go_loud (refine wpList_append_S _ rfl (.tmp 30) (.tmp 32) _ _ rfl 3 i3 _ 1 8 Try.underlying26 hi hz0 hz1 hz2 rfl (by omega) (.slice aoB T.lits.length capB) T.lits.length (inC T.lits) rfl (hTx.lits.alloc _) (in_one _) _ 1 [_] rfl (src_new wc Try.underlying26 3 _ rfl) (by simp only [maxLen]; omega) (by omega) ?_); intro ao2 cap2 w1 hn1 hm1 hown1 hg1 hat1 hlt1; have hWn := (hTx.blk.alloc _).grown hg1 (Ne.symm hgB); have hcn := hWn.cell 1; simp at hcn; have hfn := hWn.frozen 1)
      refine bodyPost_end (results_none Try.results65 _ _ _) rfl ?_
      have hown1' := hown1.ne_blk hWn (by decide)
      have hTo1 : Touch (fun k => (Value.slice aoB T.lits.length capB).ownBlock = some k) wc w1 := ((Touch.refl _ wc).alloc _).trans (Touch.of_grown (F := fun k => (Value.slice aoB T.lits.length capB).ownBlock = some k) hg1 fun k hk => hk) fun _ _ h => h
      subst hx
      refine ⟨rfl, .slice ao2 (T.lits.length + 1) cap2, ⟨hWn.set_ 1 _, ?_, ?_, ?_⟩, ?_, ?_⟩
      · exact (hTx.vars.alloc _).grown hg1 (by
          refine .inr fun e => ?_
          exact hblb e.symm) |>.far (p := ⟨g, 1, none⟩) (by intro e; simp only [Value.ownBlock, Option.some.injEq] at e; exact hbg e) _
      · have h := hown1.far (p := ⟨g, 1, none⟩) hown1' (.slice ao2 (T.lits.length + 1) cap2)
        simpa [pushT, in_app, inC] using h
      · exact (hTx.begins.alloc _).grown hg1 (by
          rcases hbc with h | h
          · rw [h]
            cases hk : (Value.slice aoC T.begins.length capC).ownBlock with
            | none => exact .inl rfl
            | some k => exact .inr (by simp)
          · exact .inr (Ne.symm h)) |>.far hgc _
      · have h1 : Touch (fun x => x = g ∨ (Value.slice (some ⟨bl, off, none⟩) T.vars.length cap).ownBlock = some x ∨ (Value.slice aoB T.lits.length capB).ownBlock = some x) w W := hTo.mono fun _ _ h => h.elim
        refine ((h1.trans htx fun y _ hy => .inr (.inl ?_)).trans hTo1 fun y _ hy => .inr (.inr hy)).setCell (p := ⟨g, 1, none⟩) (fun _ => .inl rfl) _
        rw [hy]; rfl
      · rcases hat1 with h | h
        · exact .inl h
        · right
          intro k hk
          rw [h] at hk
          injection hk with hk
          simp at hk
          have := hSx.out
          omega

end Go.Proofs.Ythinopiobihmaaa

namespace Go.Proofs.Ythinopiobihmaaa
open Go.ChangeShapes Go.WideShapes Go.ChangeAt Go.RowKit
set_option maxRecDepth 100000

/-- The trail at g, its blocks among F. -/
def TrA (w : World) (F : Nat → Prop) (g : Nat) (T : TrD) : Prop :=
  ∃ a b c, IsT w g a b c T ∧ F g ∧ (∀ k, a.ownBlock = some k → F k) ∧ (∀ k, b.ownBlock = some k → F k) ∧ (∀ k, c.ownBlock = some k → F k) ∧ (b.ownBlock = none ∨ b.ownBlock ≠ c.ownBlock) ∧ ∀ k, F k → k < w.heap.size

/-- What a writing call leaves: its trail anew, among F or in new blocks. -/
def TrUp (w w' : World) (F : Nat → Prop) (g : Nat) (T : TrD) : Prop :=
  ∃ F', TrA w' F' g T ∧ Touch F w w' ∧ ∀ k, F' k → F k ∨ w.heap.size ≤ k

theorem TrA.below {w w' : World} {F : Nat → Prop} {g : Nat} {T : TrD} (h : TrA w F g T) (hb : Below w.heap.size w w') : TrA w' F g T := by
  obtain ⟨a, b, c, h1, h2, h3, h4, h5, h6, h7⟩ := h
  exact ⟨a, b, c, ⟨h1.blk.below hb (h7 g h2), h1.vars.new hb, h1.lits.new hb, h1.begins.new hb⟩, h2, h3, h4, h5, h6, fun k hk => Nat.lt_of_lt_of_le (h7 k hk) hb.size⟩

theorem TrA.other {w w' : World} {F G : Nat → Prop} {g : Nat} {T : TrD} (h : TrA w F g T) (ht : Touch G w w') (hd : ∀ k, F k → ¬ G k) : TrA w' F g T := by
  obtain ⟨a, b, c, h1, h2, h3, h4, h5, h6, h7⟩ := h
  exact ⟨a, b, c, ⟨h1.blk.touch ht (hd g h2), h1.vars.touch ht fun k hk => hd k (h3 k hk), h1.lits.touch ht fun k hk => hd k (h4 k hk), h1.begins.touch ht fun k hk => hd k (h5 k hk)⟩, h2, h3, h4, h5, h6, fun k hk => Nat.lt_of_lt_of_le (h7 k hk) ht.size⟩

theorem TrA.up {w : World} {F : Nat → Prop} {g : Nat} {T : TrD} (h : TrA w F g T) : TrUp w w F g T := ⟨F, h, Touch.refl _ _, fun _ hk => .inl hk⟩

theorem TrA.lt {w : World} {F : Nat → Prop} {g : Nat} {T : TrD} (h : TrA w F g T) : ∀ k, F k → k < w.heap.size := by
  obtain ⟨a, b, c, h1, h2, h3, h4, h5, h6, h7⟩ := h
  exact h7

theorem TrUp.trans {w w1 w2 : World} {F F1 : Nat → Prop} {g : Nat} {T : TrD} (hT : Touch F w w1) (h1 : ∀ k, F1 k → F k ∨ w.heap.size ≤ k) (h : TrUp w1 w2 F1 g T) : TrUp w w2 F g T := by
  obtain ⟨F', h2, h3, h4⟩ := h
  refine ⟨F', h2, hT.trans h3 fun x hx hf => ?_, fun k hk => ?_⟩
  · rcases h1 x hf with h | h
    · exact h
    · omega
  · rcases h4 k hk with h | h
    · exact h1 k h
    · exact .inr (Nat.le_trans hT.size h)

theorem push_up (F : Nat → Prop) (g : Nat) (T : TrD) (lit reason : Int) (v : Nat) (w : World) (hT : TrA w F g T) (hn : T.vars.length ≤ 5000) (hl : T.lits.length ≤ 5000)
    (h1 : -9223372036854775808 ≤ lit) (h2 : lit ≤ 9223372036854775807) (hv : varN T.vars.length lit = v) (hvl : v < T.vars.length) :
    Calls Try.prog 65 #[.pointer (some ⟨g, 0, none⟩), .int .i64 lit, .int .i64 reason] w fun e w' => e = .returned (.tuple #[]) ∧ TrUp w w' F g (pushT T lit reason v) := by
  obtain ⟨a, b, c, k1, k2, k3, k4, k5, k6, k7⟩ := hT
  refine (push_any g a b c T lit reason v w k1 k6 hn hl h1 h2 hv hvl).mono ?_
  rintro e w' ⟨he, b', i1, i2, i3⟩
  have hb' : ∀ k, b'.ownBlock = some k → F k ∨ w.heap.size ≤ k := fun k hk => by
    rcases i3 with h | h
    · exact .inl (k4 k (h ▸ hk))
    · exact .inr (h k hk)
  refine ⟨he, fun k => F k ∨ b'.ownBlock = some k, ⟨a, b', c, i1, .inl k2, fun k hk => .inl (k3 k hk), fun k hk => .inr hk, fun k hk => .inl (k5 k hk), ?_, fun k hk => ?_⟩, i2.mono fun x _ hx => ?_, fun k hk => ?_⟩
  · cases hk : b'.ownBlock with
    | none => exact .inl rfl
    | some k =>
      refine .inr fun e => ?_
      rcases i3 with h | h
      · rw [h] at hk
        rcases k6 with h6 | h6
        · rw [h6] at hk; cases hk
        · rw [← e] at h6
          exact h6 hk
      · have h1 := h k hk
        have h2 := k7 k (k5 k e.symm)
        omega
  · rcases hk with hk | hk
    · exact Nat.lt_of_lt_of_le (k7 k hk) i2.size
    · exact i1.lits.lt k hk
  · rcases hx with rfl | hx | hx
    · exact k2
    · exact k3 x hx
    · exact k4 x hx
  · rcases hk with hk | hk
    · exact .inl hk
    · exact hb' k hk

theorem varN_lit {n : Nat} {x : Int} (h : Lit n x) : varN n x = ((x.natAbs - 1 : Nat) : Int) := by
  unfold Lit at h
  unfold varN
  rw [if_neg (by omega)]
  by_cases hx : x < 0
  · simp only [if_pos hx]
    rw [if_pos (by omega)]
    omega
  · simp only [if_neg hx]
    rw [if_pos (by omega)]
    omega
theorem varN_not {n : Nat} {x : Int} (h : ¬ Lit n x) : varN n x = -1 := by
  unfold Lit at h
  unfold varN
  by_cases h0 : x = 0
  · rw [if_pos h0]
  · rw [if_neg h0]
    by_cases hx : x < 0
    · simp only [if_pos hx]
      rw [if_neg (by omega)]
    · simp only [if_neg hx]
      rw [if_neg (by omega)]

theorem knAt_trE (n : Nat) (es : List En) (v : Nat) (h : v < n) : knAt (trE n es) v = knE (look es v) := by
  unfold knAt trE
  rw [List.getD_eq_getElem?_getD]
  simp only [Int.toNat_natCast]
  rw [varsE_get n es v h]
  rfl

theorem openE_trE {n : Nat} {es : List En} (x : Int) : openE (trE n es) x = openC n es x := by
  have hl : (trE n es).vars.length = n := varsE_len n es
  unfold openE openC
  rw [hl]
  by_cases h : Lit n x
  · have hx := h
    unfold Lit at hx
    rw [varN_lit h, if_neg (by omega), if_pos hx, knAt_trE n es _ (by omega)]
    cases look es (x.natAbs - 1) with
    | none => rfl
    | some e =>
      have hv : (knE (some e)).value ≠ 0 := by simp only [knE]; split <;> decide
      rw [if_pos hv]
      rfl
  · rw [varN_not h]
    unfold Lit at h
    rw [if_pos (by omega), if_neg h]

theorem pushT_asn {n : Nat} {es : List En} {x reason : Int} (hg : Good n es) (hx : Lit n x) (hr : 0 ≤ reason) : pushT (trE n es) x reason (x.natAbs - 1) = trE n (⟨x, hi es, reason⟩ :: es) := by
  have h1 := push_vars n es x (hi es) reason hx
  have h2 := begs_len hg
  simp only [pushT, trE, h2, h1, begs, List.map_cons, List.reverse_cons]
  rw [if_neg (by omega)]

theorem pushT_dec {n : Nat} {es : List En} {x : Int} (hg : Good n es) (hx : Lit n x) : pushT ⟨varsE n es, (es.map (·.lit)).reverse, begs es ++ [(es.length : Int)]⟩ x (-1) (x.natAbs - 1) = trE n (⟨x, hi es + 1, -1⟩ :: es) := by
  have h1 := push_vars n es x (hi es + 1) (-1) hx
  have h2 := begs_len hg
  have h3 : (((begs es ++ [(es.length : Int)]).length : Nat) : Int) = hi es + 1 := by
    rw [List.length_append, List.length_singleton]
    omega
  simp only [pushT, trE, h3, h1, begs, List.map_cons, List.reverse_cons, if_true]

theorem assign_any (F : Nat → Prop) (g n : Nat) (es : List En) (lit reason : Int) (w : World) (hT : TrA w F g (trE n es)) (hg : Good n es) (hn : n ≤ 5000)
    (h1 : -9223372036854775808 ≤ lit) (h2 : lit ≤ 9223372036854775807) :
    Calls Try.prog 77 #[.pointer (some ⟨g, 0, none⟩), .int .i64 lit, .int .i64 reason] w fun e w' => e = .returned (.int .i64 (asnC n es lit reason).1) ∧ TrUp w w' F g (trE n (asnC n es lit reason).2) := by
  have hl : (trE n es).vars.length = n := varsE_len n es
  have hll : (trE n es).lits.length = es.length := by simp [trE]
  have hlen := hg.len_le
  by_cases hr : reason < 0
  · simp only [asnC, if_pos hr]
    go_enter Try.func77, Try.ntmps77
    go_wp2_with fail
    go_ret
    exact ⟨rfl, hT.up⟩
  · simp only [asnC, if_neg hr]
    have hr' : decide (reason < 0) = false := by simpa using hr
    have HO : Hid (Calls Try.prog 64 #[.pointer (some ⟨g, 0, none⟩), .int .i64 lit] w fun e w' => e = .returned (.int .i64 (openC n es lit)) ∧ w = w') := Lib.hid (by
      obtain ⟨a, b, c, k1, _⟩ := hT
      have h := open_any g a b c _ lit w k1 (by omega) h1 h2
      rwa [openE_trE] at h)
    by_cases ho : openC n es lit = 0
    · obtain ⟨hx, hlk⟩ := openC_zero ho
      have hx' := hx
      unfold Lit at hx'
      have HP := push_up F g (trE n es) lit reason (lit.natAbs - 1) w hT (by omega) (by omega) h1 h2 (by rw [hl]; exact varN_lit hx) (by omega)
      rw [pushT_asn hg hx (by omega)] at HP
      have HP := Lib.hid HP
      simp only [if_pos ho]
      rw [ho] at HO ⊢
      generalize trE n (⟨lit, hi es, reason⟩ :: es) = T1 at *
      go_enter Try.func77, Try.ntmps77
      go_wp2_with (first | (go_at_call 64; refine HO.out.mono ?_; rintro e w' ⟨rfl, rfl⟩) | (go_at_call 65; refine HP.out.mono ?_; rintro e w1 ⟨rfl, hu⟩))
      go_ret
      exact ⟨rfl, hu⟩
    · simp only [if_neg ho]
      have ho' : (openC n es lit == 0) = false := by simpa using ho
      generalize openC n es lit = q at *
      go_enter Try.func77, Try.ntmps77
      go_wp2_with (first | (go_at_call 64; refine HO.out.mono ?_; rintro e w' ⟨rfl, rfl⟩))
      go_ret
      exact ⟨rfl, hT.up⟩

end Go.Proofs.Ythinopiobihmaaa

namespace Go.Proofs.Ythinopiobihmaaa
open Go.ChangeShapes Go.WideShapes Go.ChangeAt Go.RowKit
set_option maxRecDepth 100000

section
variable {P : Program} (w : World)
theorem step_append_S {ops : Array Oper} {o : Oper} {a : Act} {K : Act → World → Prop} {Q : Exit → Act → World → Prop} {E : Prop} (hgd : o.guard = none) (s sx : Operand) (t tx : TypeId)
    (ho : o.op = .call { callee := .builtin .append, args := #[s, sx], argTypes := #[t, tx] })
    (e : TypeId) (i : TypeInfo) (z : Value) (size bytes : Nat) (ht : P.underlying t = some (.slice e)) (hi : P.info? e = some i) (hz : i.zero = some z)
    (hsize : i.size = size) (hby : i.bytes = bytes) (hzs : z.cells.size = size) (hsz : 0 < size)
    (v : Value) (n : Nat) (xs : List Value) (hv : a.eval s = v) (hown : Own w e size v n xs) (h0 : ∀ u ∈ xs, u.oneCell' = true)
    (x : Value) (m : Nat) (news : List Value) (hx : a.eval sx = x) (hs : Src P size tx x m news w)
    (h63 : n + m ≤ maxLen) (hbytes : (n + m) * bytes ≤ 140737488355328)
    (h : ∀ ao' cap' w', n + m ≤ cap' → cap' ≤ maxLen → Own w' e size (.slice ao' (n + m) cap') (n + m) (xs ++ news) → w.grownBy w' v.ownBlock → ((Value.slice ao' (n + m) cap').ownBlock = v.ownBlock ∨ (Value.slice ao' (n + m) cap').ownBlock = some w.heap.size) → (∀ k, (Value.slice ao' (n + m) cap').ownBlock = some k → k < w'.heap.size) → K (a.put o.dst (.slice ao' (n + m) cap')) w') :
    if Region.wanted o (yielded ops a.tmps) = true then Oper.wp P o a w K Q else E := by
  have hw : Region.wanted o (yielded ops a.tmps) = true := by simp [Region.wanted, hgd]
  rw [if_pos hw]
  exact wp_append_S w s sx t tx ho e i z size bytes ht hi hz hsize hby hzs hsz v n xs hv hown h0 x m news hx hs h63 hbytes h

end

/-- What Decide makes ahead of push. -/
def begT (T : TrD) : TrD := ⟨T.vars, T.lits, T.begins ++ [(T.lits.length : Int)]⟩

theorem decide_T (F : Nat → Prop) (g : Nat) (T : TrD) (lit : Int) (v : Nat) (w : World) (hT : TrA w F g T) (hn : T.vars.length ≤ 5000) (hl : T.lits.length ≤ 5000) (hb : T.begins.length ≤ 5000)
    (h1 : -9223372036854775808 ≤ lit) (h2 : lit ≤ 9223372036854775807) (hv : varN T.vars.length lit = v) (hvl : v < T.vars.length) (ho : openE T lit = 0) :
    Calls Try.prog 39 #[.pointer (some ⟨g, 0, none⟩), .int .i64 lit] w fun e w' => e = .returned (.int .i64 0) ∧ TrUp w w' F g (pushT (begT T) lit (-1) v) := by
  have HO : Hid (Calls Try.prog 64 #[.pointer (some ⟨g, 0, none⟩), .int .i64 lit] w fun e w' => e = .returned (.int .i64 0) ∧ w = w') := Lib.hid (by
    obtain ⟨a, b, c, k1, _⟩ := hT
    have h := open_any g a b c _ lit w k1 (by omega) h1 h2
    rwa [ho] at h)
  have HP : ∀ (F1 : Nat → Prop) (w1 : World), TrA w1 F1 g (begT T) → Calls Try.prog 65 #[.pointer (some ⟨g, 0, none⟩), .int .i64 lit, .int .i64 (-1)] w1 fun e w' => e = .returned (.tuple #[]) ∧ TrUp w1 w' F1 g (pushT (begT T) lit (-1) v) := fun F1 w1 h =>
    push_up F1 g _ lit (-1) v w1 h hn hl h1 h2 hv hvl
  have HP := Lib.hid HP
  obtain ⟨i3, hi, hz0, hz1, hz2⟩ := info_parts (P := Try.prog) (e := 3) (z := .int .i64 0) (size := 1) (bytes := 8) (by kernel_rfl)
  obtain ⟨a, b, c, k1, k2, k3, k4, k5, k6, k7⟩ := hT
  obtain ⟨aoB, capB, rfl, _, _, _⟩ := k1.lits.form
  obtain ⟨aoC, capC, rfl, _, _, _⟩ := k1.begins.form
  have hc1 := k1.blk.cell 1
  have hc2 := k1.blk.cell 2
  simp at hc1 hc2
  have hgl := k1.blk.lt
  have hgne : ¬ w.heap.size = g := by omega
  have hgne' : ¬ g = w.heap.size := by omega
  have hgC : (Value.slice aoC T.begins.length capC).ownBlock ≠ some g := k1.begins.ne_blk k1.blk (by decide)
  have hS : Src Try.prog 1 26 (.slice (some ⟨w.heap.size, 0, none⟩) 1 1) 1 [.int .i64 (T.lits.length : Nat)] (w.alloc (.cells #[.int .i64 (T.lits.length : Nat)] 3)).drew := src_new w.drew Try.underlying26 3 _ rfl
  go_enter Try.func39, Try.ntmps39
  go_wp2_with (first | (go_at_call 64; refine HO.out.mono ?_; rintro e w' ⟨rfl, rfl⟩))
  go_upto_region 6 with fail
  go_cut [] from 14 (fun wx => ∃ F1, TrA wx F1 g (begT T) ∧ Touch F w wx ∧ ∀ k, F1 k → F k ∨ w.heap.size ≤ k)
  case first =>
    clear HO HP ho
    go_region_law (refine step_append_S _ rfl (.tmp 18) (.tmp 24) _ _ rfl 3 i3 _ 1 8 Try.underlying26 hi hz0 hz1 hz2 rfl (by omega) (.slice aoC T.begins.length capC) T.begins.length (inC T.begins) rfl (k1.begins.alloc _).drew (in_one _) _ 1 [_] rfl hS (by simp only [maxLen]; omega) (by omega) ?_; intro ao2 cap2 w1 hn1 hm1 hown1 hg1 hat1 hlt1; have hWn := (k1.blk.alloc _).drew.grown hg1 (Ne.symm hgC); have hcn := hWn.cell 2; simp at hcn; have hfn := hWn.frozen 2)
    all_goals
      go_wp2_with fail
      go_meet
      case rel =>
        have hown1' := hown1.ne_blk hWn (by decide)
        have hT1 : Touch F w w1 := ((Touch.refl F w).alloc _).drew.trans (Touch.of_grown (F := fun k => (Value.slice aoC T.begins.length capC).ownBlock = some k) hg1 fun k hk => hk) fun x _ hx => k5 x hx
        have hbn : ∀ k, (Value.slice aoB T.lits.length capB).ownBlock = some k → some k ≠ (Value.slice aoC T.begins.length capC).ownBlock := fun k hk => by
          rcases k6 with h | h
          · rw [h] at hk; cases hk
          · rw [← hk]; exact h
        refine ⟨fun k => F k ∨ (Value.slice ao2 (T.begins.length + 1) cap2).ownBlock = some k, ⟨a, .slice aoB T.lits.length capB, .slice ao2 (T.begins.length + 1) cap2, ⟨hWn.set_ 2 _, ?_, ?_, ?_⟩, .inl k2, fun k hk => .inl (k3 k hk), fun k hk => .inl (k4 k hk), fun k hk => .inr hk, ?_, ?_⟩, ?_, ?_⟩
        · refine ((k1.vars.alloc _).drew.grown hg1 ?_).far (p := ⟨g, 2, none⟩) (k1.vars.ne_blk k1.blk (by decide)) _
          exact k1.vars.ne_own k1.begins (by decide)
        · refine ((k1.lits.alloc _).drew.grown hg1 ?_).far (p := ⟨g, 2, none⟩) (k1.lits.ne_blk k1.blk (by decide)) _
          exact k6
        · have h := hown1.far (p := ⟨g, 2, none⟩) hown1' (.slice ao2 (T.begins.length + 1) cap2)
          simpa [begT, in_app, inC] using h
        · cases hk : (Value.slice aoB T.lits.length capB).ownBlock with
          | none => exact .inl rfl
          | some k =>
            refine .inr fun e => ?_
            rcases hat1 with h | h
            · rw [h] at e
              exact hbn k hk e
            · rw [h] at e
              injection e with e
              have := k7 k (k4 k hk)
              simp at e
              omega
        · intro k hk
          simp only [World.setCell, Array.size_modify]
          rcases hk with hk | hk
          · exact Nat.lt_of_lt_of_le (k7 k hk) hT1.size
          · exact hlt1 k hk
        · exact hT1.setCell (p := ⟨g, 2, none⟩) (fun _ => k2) _
        · intro k hk
          rcases hk with hk | hk
          · exact .inl hk
          · rcases hat1 with h | h
            · exact .inl (k5 k (h ▸ hk))
            · rw [h] at hk
              injection hk with hk
              simp at hk
              exact .inr (by omega)
  case rest =>
    obtain ⟨F1, r1, r2, r3⟩ := hcut
    go_wp2_with (go_at_call 65; refine (HP.out F1 _ r1).mono ?_; rintro e w1 ⟨rfl, hu⟩)
    go_ret
    exact ⟨rfl, TrUp.trans r2 r3 hu⟩

theorem decide_any (F : Nat → Prop) (g n : Nat) (es : List En) (lit : Int) (w : World) (hT : TrA w F g (trE n es)) (hg : Good n es) (hn : n ≤ 5000)
    (h1 : -9223372036854775808 ≤ lit) (h2 : lit ≤ 9223372036854775807) :
    Calls Try.prog 39 #[.pointer (some ⟨g, 0, none⟩), .int .i64 lit] w fun e w' => e = .returned (.int .i64 (decC n es lit).1) ∧ TrUp w w' F g (trE n (decC n es lit).2) := by
  have hl : (trE n es).vars.length = n := varsE_len n es
  have hll : (trE n es).lits.length = es.length := by simp [trE]
  have hlen := hg.len_le
  have hlb : ((trE n es).begins.length : Int) = hi es := begs_len hg
  have hle := hi_le_len hg
  simp only [decC]
  by_cases ho : openC n es lit = 0
  · obtain ⟨hx, hlk⟩ := openC_zero ho
    have hx' := hx
    unfold Lit at hx'
    simp only [if_pos ho]
    rw [ho]
    have h := decide_T F g (trE n es) lit (lit.natAbs - 1) w hT (by omega) (by omega) (by omega) h1 h2 (by rw [hl]; exact varN_lit hx) (by omega) (by rw [openE_trE]; exact ho)
    have e : begT (trE n es) = ⟨varsE n es, (es.map (·.lit)).reverse, begs es ++ [(es.length : Int)]⟩ := by simp [begT, trE]
    rwa [e, pushT_dec hg hx] at h
  · simp only [if_neg ho]
    have HO : Hid (Calls Try.prog 64 #[.pointer (some ⟨g, 0, none⟩), .int .i64 lit] w fun e w' => e = .returned (.int .i64 (openC n es lit)) ∧ w = w') := Lib.hid (by
      obtain ⟨a, b, c, k1, _⟩ := hT
      have h := open_any g a b c _ lit w k1 (by omega) h1 h2
      rwa [openE_trE] at h)
    have ho' : (openC n es lit == 0) = false := by simpa using ho
    generalize openC n es lit = q at *
    go_enter Try.func39, Try.ntmps39
    go_wp2_with (first | (go_at_call 64; refine HO.out.mono ?_; rintro e w' ⟨rfl, rfl⟩))
    go_ret
    exact ⟨rfl, hT.up⟩

end Go.Proofs.Ythinopiobihmaaa

namespace Go.Proofs.Ythinopiobihmaaa
open Go.ChangeShapes Go.WideShapes Go.ChangeAt Go.RowKit
set_option maxRecDepth 100000

theorem forget_take (vars : List Kn) (xs : List Int) (i : Nat) (h : i < xs.length) : forget vars (xs.take (i + 1)) = (forget vars (xs.take i)).set (xs[i].natAbs - 1) ⟨0, -1, -1⟩ := by
  rw [List.take_succ_eq_append_getElem h, forget_append]
  rfl

theorem IsT.store_kn {W : World} {g bl off n cap : Nat} {b c : Value} {vs : List Kn} {ls bs : List Int} (h : IsT W g (.slice (some ⟨bl, off, none⟩) n cap) b c ⟨vs, ls, bs⟩) (hn : vs.length = n) (v : Nat) (hv : v < n) (x y z : Int) :
    IsT (((W.setCell ⟨bl, off + v * 3, none⟩ (.int .i64 x)).setCell ⟨bl, off + v * 3 + 1, none⟩ (.int .i64 y)).setCell ⟨bl, off + v * 3 + 2, none⟩ (.int .i64 z)) g (.slice (some ⟨bl, off, none⟩) n cap) b c ⟨vs.set v ⟨x, y, z⟩, ls, bs⟩ ∧
    Touch (fun j => j = bl) W (((W.setCell ⟨bl, off + v * 3, none⟩ (.int .i64 x)).setCell ⟨bl, off + v * 3 + 1, none⟩ (.int .i64 y)).setCell ⟨bl, off + v * 3 + 2, none⟩ (.int .i64 z)) := by
  subst hn
  have hgb : ¬ g = bl := fun e => h.vars.ne_blk h.blk (by decide) (by rw [e]; rfl)
  have hb : b.ownBlock ≠ some bl := fun e => by
    obtain ⟨_, hb1⟩ := h.lits.blk e
    obtain ⟨_, hb2⟩ := h.vars.blk (k := bl) rfl
    exact hb1.ne_ hb2 (by decide) rfl
  have hc : c.ownBlock ≠ some bl := fun e => by
    obtain ⟨_, hb1⟩ := h.begins.blk e
    obtain ⟨_, hb2⟩ := h.vars.blk (k := bl) rfl
    exact hb1.ne_ hb2 (by decide) rfl
  refine ⟨⟨((h.blk.far hgb _).far hgb _).far hgb _, ?_, ((h.lits.far hb _).far hb _).far hb _, ((h.begins.far hc _).far hc _).far hc _⟩, ?_⟩
  · have h := ((h.vars.stored (v * 3) (.int .i64 x)).stored (v * 3 + 1) (.int .i64 y)).stored (v * 3 + 2) (.int .i64 z)
    show Own _ 98 3 _ (vs.set v ⟨x, y, z⟩).length (knC (vs.set v ⟨x, y, z⟩))
    rw [knC_set vs ⟨x, y, z⟩ v hv, List.length_set]
    exact h
  · exact (((Touch.refl (fun k => k = bl) W).setCell (p := ⟨bl, off + v * 3, none⟩) (fun _ => rfl) _).setCell (p := ⟨bl, off + v * 3 + 1, none⟩) (fun _ => rfl) _).setCell (p := ⟨bl, off + v * 3 + 2, none⟩) (fun _ => rfl) _

set_option maxHeartbeats 1000000 in
theorem back_T (F : Nat → Prop) (g : Nat) (T : TrD) (lv k : Nat) (w : World) (hT : TrA w F g T) (hn : T.vars.length ≤ 5000) (hl : T.lits.length ≤ 5000) (hb : T.begins.length ≤ 5000)
    (hlv : lv < T.begins.length) (hk : T.begins[lv]? = some (k : Int)) (hkl : k < T.lits.length) (hvs : ∀ x ∈ T.lits, Lit T.vars.length x) :
    Calls Try.prog 50 #[.pointer (some ⟨g, 0, none⟩), .int .i64 lv] w fun e w' => e = .returned (.int .i64 0) ∧ TrUp w w' F g ⟨forget T.vars (T.lits.drop k), T.lits.take k, T.begins.take lv⟩ := by
  obtain ⟨a, b, c, k1, k2F, k3, k4, k5, k6, k7⟩ := hT
  obtain ⟨aoA, capA, rfl, _, _, hfA⟩ := k1.vars.form
  obtain ⟨aoB, capB, rfl, hcB, _, hfB⟩ := k1.lits.form
  obtain ⟨aoC, capC, rfl, hcC, _, hfC⟩ := k1.begins.form
  obtain ⟨bB, oB, rfl, hcellB, _, hltB⟩ := hfB (by omega)
  obtain ⟨bC, oC, rfl, hcellC, _, hltC⟩ := hfC (by omega)
  have hc1 := k1.blk.cell 1
  have hc2 := k1.blk.cell 2
  have hck := hcellC lv (by simpa [inC] using hlv)
  rw [show (inC T.begins)[lv]? = some (.int .i64 k) by simp [inC, hk]] at hck
  simp at hc1 hc2
  have hd1 : decide ((T.begins.length : Int) < (lv : Int)) = false := by simp; omega
  have hd2 : ((lv : Int) == (T.begins.length : Int)) = false := by simp; omega
  have hd3 : decide ((lv : Int) < 0) = false := by simp
  have hi1 : (lv : Int) < (T.begins.length : Int) := by omega
  have hi2 : (k : Int) ≤ (T.lits.length : Int) := by omega
  have hcBk : ¬ capB = k := by omega
  have hd4 : ¬ T.begins.length < lv := by omega
  have hj1 : (k : Int) ≤ (capB : Int) := by omega
  have hj2 : (lv : Int) ≤ (capC : Int) := by omega
  have hcBk' : ¬ capB - k = 0 := by omega
  have hx : ∀ m (h : k + m < T.lits.length), Lit T.vars.length (T.lits[k + m]'h) := fun m h => hvs _ (List.getElem_mem _)
  have hdl : (T.lits.drop k).length = T.lits.length - k := List.length_drop ..
  clear hcellB hcellC hcB hcC
  have hHF : Hid (∀ k, (Value.slice aoA T.vars.length capA).ownBlock = some k → F k) := Lib.hid k3
  have hHB : Hid (∀ j, F j → j < w.heap.size) := Lib.hid k7
  go_enter Try.func50, Try.ntmps50
  go_wp2_with fail
  go_loopw [45] (fun i wr => ∃ m : Nat, m ≤ T.lits.length - k ∧ i = .int .i64 m ∧ IsT wr g (.slice aoA T.vars.length capA) (.slice (some ⟨bB, oB, none⟩) T.lits.length capB) (.slice (some ⟨bC, oC, none⟩) T.begins.length capC) ⟨forget T.vars ((T.lits.drop k).take m), T.lits, T.begins⟩ ∧ Touch F w wr) (fun i _ => T.lits.length - k - (intOf i).toNat)
  case atStart => exact ⟨0, by omega, rfl, k1, Touch.refl _ _⟩
  case round =>
    obtain ⟨m, hm, rfl, hI, hTo⟩ := hrel
    by_cases hlt : m < T.lits.length - k
    · have hkm : k + m < T.lits.length := by omega
      have hxm := hx m hkm
      have hft := forget_take T.vars (T.lits.drop k) m (by rw [hdl]; exact hlt)
      rw [List.getElem_drop] at hft
      have hcx : wr.cell? ⟨bB, oB + k + m, none⟩ = some (.int .i64 T.lits[k + m]) := by
        obtain ⟨_, _, e, _, _, hf⟩ := hI.lits.form
        obtain ⟨b', o', e', hc, _, _⟩ := hf (by show 0 < T.lits.length; omega)
        subst e'
        injection e with e1 e2 e3
        injection e1 with e1
        injection e1 with e1 e4
        subst e1 e4
        have h := hc (k + m) (by simpa [inC] using hkm)
        rw [inC_get _ _ hkm] at h
        rw [Nat.add_assoc]
        exact h
      have hxl : -9223372036854775808 ≤ T.lits[k + m] ∧ T.lits[k + m] ≤ 9223372036854775807 := by unfold Lit at hxm; omega
      generalize T.lits[k + m] = x at *
      have hvx := varN_lit hxm
      have hxm' := hxm
      unfold Lit at hxm'
      obtain ⟨W, hW⟩ : ∃ W, W = wr.drew := ⟨_, rfl⟩
      have hIW : IsT W g (.slice aoA T.vars.length capA) (.slice (some ⟨bB, oB, none⟩) T.lits.length capB) (.slice (some ⟨bC, oC, none⟩) T.begins.length capC) ⟨forget T.vars ((T.lits.drop k).take m), T.lits, T.begins⟩ := by rw [hW]; exact ⟨hI.blk.drew, hI.vars.drew, hI.lits.drew, hI.begins.drew⟩
      have hToW : Touch F w W := by rw [hW]; exact hTo.drew
      have hlen : (forget T.vars ((T.lits.drop k).take m)).length = T.vars.length := forget_len _ _
      generalize hvs2 : forget T.vars ((T.lits.drop k).take m) = vs at *
      obtain ⟨v, hv⟩ : ∃ v, v = x.natAbs - 1 := ⟨_, rfl⟩
      rw [← hv] at hft hvx
      have hvl : v < T.vars.length := by omega
      obtain ⟨bl, off, cap', e, hcv, hcl, hcr, hfz, hbl⟩ := hIW.at_ v (by show v < vs.length; omega)
      injection e with e1 e2 e3
      subst e1 e3
      clear e2
      have HV : Hid (Calls Try.prog 69 #[.pointer (some ⟨g, 0, none⟩), .int .i64 x] W fun e w' => e = .returned (.int .i64 (v : Int)) ∧ w' = W) := Lib.hid (by
        have h := variable_any g _ T.vars.length capA _ _ x W hIW.blk (by omega) hxl.1 hxl.2
        rw [hvx] at h
        exact h.mono fun _ _ hh => ⟨hh.1, hh.2.symm⟩)
      have k0 := hIW.blk.cell 0
      simp at k0
      have hvi : (v : Int) < (T.vars.length : Int) := by omega
      have hmi : (m : Int) < ((T.lits.length - k : Nat) : Int) := by omega
      have h1 := Lib.hid hft
      have h2 := Lib.hid hxm
      have h3 := Lib.hid hlen
      clear hft hxm hvs2 hlen hvx hv hxm' hx hvs
      go_upto_region 11 with fail
      refine wp_region_still_tail 9 (by kernel_rfl) (by kernel_rfl) ?_
      change wpStill _ _ (World.drew wr) (fun a' => wpList _ _ _ _ a' (World.drew wr)) _ _
      rw [← hW]
      clear hW
      simp only [List.take_succ_cons, List.take_zero, List.drop_succ_cons, List.drop_zero]
      repeat still_step
      still_call HV.out
      repeat still_step
      refine wpStill_nil ?_
      go_wp2_with fail
      go_roundw
      case rel =>
        obtain ⟨r1, r2⟩ := hIW.store_kn h3.out v hvl 0 (-1) (-1)
        refine ⟨m + 1, by omega, by go_num, ?_, hToW.trans r2 fun y _ hy => ?_⟩
        · rw [h1.out]
          exact r1
        · subst hy
          exact hHF.out _ rfl
      case measure => simp [intOf]; omega
    · obtain rfl : m = T.lits.length - k := by omega
      have hfa : (T.lits.drop k).take (T.lits.length - k) = T.lits.drop k := List.take_of_length_le (by omega)
      rw [hfa] at hI
      have k1 := hI.blk.cell 1
      have k2 := hI.blk.cell 2
      have f1 := hI.blk.frozen 1
      have f2 := hI.blk.frozen 2
      simp at k1 k2
      have hfh := Lib.hid hfa
      clear hfa hx hvs
      go_upto_region 13 with fail
      go_cut [] from 59 (fun wx => Blk wx g 100 #[.slice aoA T.vars.length capA, .slice (some ⟨bB, oB, none⟩) k k, .slice (some ⟨bC, oC, none⟩) lv lv] ∧ Touch (fun j => j = g) wr wx)
      case first =>
        go_big_region
        all_goals
          go_wp2_with fail
          go_meet
          case rel => exact ⟨((hI.blk.set_ 1 _).set_ 2 _).drew, (((Touch.refl (fun j => j = g) wr).setCell (p := ⟨g, 1, none⟩) (fun _ => rfl) _).setCell (p := ⟨g, 2, none⟩) (fun _ => rfl) _).drew⟩
      case rest =>
        obtain ⟨hB, hTg⟩ := hcut
        go_wp2_with fail
        go_ret
        have hlA := hI.vars.ne_blk hI.blk (by decide)
        have hlB := hI.lits.ne_blk hI.blk (by decide)
        have hlC := hI.begins.ne_blk hI.blk (by decide)
        have hpB := (hI.lits.touch hTg fun j hj e => hlB (e ▸ hj)).piece 0 k k (by omega) (by show k ≤ T.lits.length; omega) (by omega) (by omega)
        have hpC := (hI.begins.touch hTg fun j hj e => hlC (e ▸ hj)).piece 0 lv lv (by omega) (by show lv ≤ T.begins.length; omega) (by omega) (by omega)
        have hpA := hI.vars.touch hTg fun j hj e => hlA (e ▸ hj)
        have hT2 : Touch F w wc := hTo.trans hTg fun y _ hy => hy ▸ k2F
        refine ⟨rfl, F, ⟨_, _, _, ⟨hB, hpA, ?_, ?_⟩, k2F, hHF.out, k4, k5, k6, fun j hj => Nat.lt_of_lt_of_le (hHB.out j hj) hT2.size⟩, hT2, fun j hj => .inl hj⟩
        · have e1 : (T.lits.take k).length = k := by rw [List.length_take]; omega
          show Own wc 3 1 _ (T.lits.take k).length (inC (T.lits.take k))
          rw [e1]
          simpa [inC, List.map_take] using hpB
        · have e1 : (T.begins.take lv).length = lv := by rw [List.length_take]; omega
          show Own wc 3 1 _ (T.begins.take lv).length (inC (T.begins.take lv))
          rw [e1]
          simpa [inC, List.map_take] using hpC


theorem pop_shorter {n : Nat} (lv : Int) {es : List En} (h : Good n es) (hl : lv < hi es) (h0 : 0 ≤ lv) : (popE lv es).length < es.length := by
  cases es with
  | nil => simp only [hi] at hl; omega
  | cons e es =>
    simp only [hi] at hl
    simp only [popE, if_pos hl, List.length_cons]
    have := congrArg List.length (cut_pop lv es)
    rw [List.length_append] at this
    omega

theorem back_any (F : Nat → Prop) (g n : Nat) (es : List En) (lv : Int) (w : World) (hT : TrA w F g (trE n es)) (hg : Good n es) (hn : n ≤ 5000) (h1 : -9223372036854775808 ≤ lv) (h2 : lv ≤ 9223372036854775807) :
    Calls Try.prog 50 #[.pointer (some ⟨g, 0, none⟩), .int .i64 lv] w fun e w' => e = .returned (.int .i64 (backC es lv).1) ∧ TrUp w w' F g (trE n (backC es lv).2) := by
  have hl : (trE n es).vars.length = n := varsE_len n es
  have hll : (trE n es).lits.length = es.length := by simp [trE]
  have hlen := hg.len_le
  have hlb : ((trE n es).begins.length : Int) = hi es := begs_len hg
  have hle := hi_le_len hg
  by_cases hbad : lv < 0 ∨ hi es < lv
  · simp only [backC, if_pos hbad]
    rw [← hlb] at hbad
    obtain ⟨a, b, c, k1, k⟩ := hT
    have hT : TrA w F g (trE n es) := ⟨a, b, c, k1, k⟩
    obtain ⟨aoC, capC, rfl, _, _, _⟩ := k1.begins.form
    have hc2 := k1.blk.cell 2
    simp at hc2
    clear hl hll hlb hle
    generalize trE n es = T at *
    go_enter Try.func50, Try.ntmps50
    by_cases hneg : lv < 0
    · go_wp2_with fail
      go_ret
      exact ⟨rfl, hT.up⟩
    · have hneg' : decide (lv < 0) = false := by simpa using hneg
      have hbig : (T.begins.length : Int) < lv := by omega
      go_wp2_with fail
      go_ret
      exact ⟨rfl, hT.up⟩
  · simp only [backC, if_neg hbad]
    obtain ⟨m, rfl⟩ := Int.eq_ofNat_of_zero_le (by omega : 0 ≤ lv)
    by_cases heq : (m : Int) = hi es
    · rw [pop_eq (m : Int) hg (by omega)]
      obtain ⟨a, b, c, k1, k⟩ := hT
      have hT : TrA w F g (trE n es) := ⟨a, b, c, k1, k⟩
      obtain ⟨aoC, capC, rfl, _, _, _⟩ := k1.begins.form
      have hc2 := k1.blk.cell 2
      simp at hc2
      have hm : m = (trE n es).begins.length := by omega
      clear hl hll hlb hle heq hbad h1 h2
      subst hm
      generalize trE n es = T at *
      have hd4 : ¬ T.begins.length < T.begins.length := by omega
      go_enter Try.func50, Try.ntmps50
      go_wp2_with fail
      go_ret
      exact ⟨rfl, hT.up⟩
    · have hlt : (m : Int) < hi es := by omega
      obtain ⟨b1, b2⟩ := begs_pop m hg hlt
      obtain ⟨t1, t2⟩ := take_lits (m : Int) es
      have h := back_T F g (trE n es) m (popE m es).length w hT (by omega) (by omega) (by omega) (by omega) b1 (by rw [hll]; exact pop_shorter _ hg hlt (by omega)) (by
        intro x hx
        rw [hl]
        simp only [trE, List.mem_reverse, List.mem_map] at hx
        obtain ⟨e, he, rfl⟩ := hx
        exact hg.lit e he)
      have e : (⟨forget (trE n es).vars ((trE n es).lits.drop (popE m es).length), (trE n es).lits.take (popE m es).length, (trE n es).begins.take m⟩ : TrD) = trE n (popE m es) := by
        have hf : forget (varsE n es) (((cutE (m : Int) es).map (·.lit)).reverse) = varsE n (popE m es) := by
          have hcp := cut_pop (m : Int) es
          have hg' := hg
          rw [← hcp] at hg'
          have := forget_vars hg'
          rwa [hcp] at this
        show (⟨forget (varsE n es) (((es.map (·.lit)).reverse).drop (popE m es).length), ((es.map (·.lit)).reverse).take (popE m es).length, (begs es).take m⟩ : TrD) = _
        rw [t1, t2, ← b2, hf]
        rfl
      rwa [e] at h

end Go.Proofs.Ythinopiobihmaaa
