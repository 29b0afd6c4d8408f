/- Watchers as data, in plain Lean with no program in sight: what is added, looked at, moved; what holds behind. -/
import Derived.Test.YthinopiobihmaaaGc
namespace Go.Proofs.Ythinopiobihmaaa
set_option maxRecDepth 100000

/-! ### Values -/
theorem val_range (n : Nat) (es : List En) (x : Int) : valE n es x = -1 ∨ valE n es x = 0 ∨ valE n es x = 1 := by
  unfold valE
  split
  · split
    · exact .inr (.inl rfl)
    · split
      · exact .inr (.inr rfl)
      · exact .inl rfl
  · exact .inr (.inl rfl)

theorem val_of {n : Nat} {es : List En} (hg : Good n es) {e : En} (he : e ∈ es) : valE n es e.lit = 1 ∧ valE n es (-e.lit) = -1 := by
  have h1 := hg.lit e he
  have h2 := look_mem hg e he
  unfold Lit at h1
  have e1 : (-e.lit).natAbs = e.lit.natAbs := by omega
  unfold valE
  rw [e1, if_pos h1, if_pos h1, h2]
  exact ⟨by simp, by simp; omega⟩

theorem val_true {n : Nat} {es : List En} {x : Int} (h : valE n es x = 1) : ∃ e ∈ es, e.lit = x := by
  unfold valE at h
  split at h
  · split at h
    · cases h
    · next e hl =>
      split at h
      · next he => exact ⟨e, (look_some hl).1, he⟩
      · cases h
  · cases h
theorem val_none {n : Nat} {es : List En} {x : Int} (h : valE n es x = -1) : ∃ e ∈ es, e.lit = -x := by
  unfold valE at h
  split at h
  · split at h
    · cases h
    · next e hl =>
      split at h
      · cases h
      · next he =>
        have := (look_some hl).2
        exact ⟨e, (look_some hl).1, by omega⟩
  · cases h
theorem val_neg {n : Nat} {es : List En} (hg : Good n es) (x : Int) : valE n es (-x) = - valE n es x := by
  rcases val_range n es x with h | h | h
  · obtain ⟨e, he, h1⟩ := val_none h
    rw [h, ← h1]
    exact (val_of hg he).1
  · rcases val_range n es (-x) with h2 | h2 | h2
    · obtain ⟨e, he, h1⟩ := val_none h2
      have h3 := (val_of hg he).1
      rw [show e.lit = x by omega] at h3
      rw [h] at h3
      cases h3
    · rw [h, h2]; rfl
    · obtain ⟨e, he, h1⟩ := val_true h2
      have h3 := (val_of hg he).2
      rw [h1, Int.neg_neg, h] at h3
      cases h3
  · obtain ⟨e, he, h1⟩ := val_true h
    rw [h, ← h1]
    exact (val_of hg he).2
theorem val_lit {n : Nat} {es : List En} {x : Int} (h : valE n es x ≠ 0) : 1 ≤ x.natAbs ∧ x.natAbs ≤ n := by
  unfold valE at h
  split at h
  · assumption
  · exact absurd rfl h

/-- What has a value keeps it. -/
theorem val_push {n : Nat} {es : List En} {e : En} (hg : Good n (e :: es)) (x : Int) (h : valE n es x ≠ 0) : valE n (e :: es) x = valE n es x := by
  have hg' := hg.2.2.2
  rcases val_range n es x with h1 | h1 | h1
  · obtain ⟨a, ha, h2⟩ := val_none h1
    have := (val_of hg (List.mem_cons_of_mem _ ha)).2
    rw [h1, ← this, h2, Int.neg_neg]
  · exact absurd h1 h
  · obtain ⟨a, ha, h2⟩ := val_true h1
    have := (val_of hg (List.mem_cons_of_mem _ ha)).1
    rw [h1, ← this, h2]

theorem lev_none {n : Nat} {es : List En} (hg : Good n es) {x : Int} (h : valE n es x = -1) : (ofE n es ((x.natAbs : Int) - 1)).level ≤ n := by
  have h1 := val_lit (n := n) (es := es) (x := x) (by omega)
  unfold ofE
  rw [if_neg (by omega)]
  have e1 : ((x.natAbs : Int) - 1).toNat = x.natAbs - 1 := by omega
  rw [e1]
  obtain ⟨e, he, h2⟩ := val_none h
  have h3 := look_mem hg e he
  have e2 : e.lit.natAbs = x.natAbs := by omega
  rw [e2] at h3
  rw [h3]
  have h4 := level_le hg e he
  have h5 := hi_le_len hg
  have h6 := hg.len_le
  simp only [knE]
  omega

/-! ### The model -/
structure WS where
  n : Nat
  es : List En
  cl : List (List Int)
  ls : List (List Int)
  by_ : Int → List Nat
  done : Nat
  fresh : List Nat

abbrev WS.wEs (S : WS) (x : List En) : WS := ⟨S.n, x, S.cl, S.ls, S.by_, S.done, S.fresh⟩
abbrev WS.wLs (S : WS) (x : List (List Int)) : WS := ⟨S.n, S.es, S.cl, x, S.by_, S.done, S.fresh⟩
abbrev WS.wBy (S : WS) (x : Int → List Nat) : WS := ⟨S.n, S.es, S.cl, S.ls, x, S.done, S.fresh⟩
abbrev WS.wDone (S : WS) (x : Nat) : WS := ⟨S.n, S.es, S.cl, S.ls, S.by_, x, S.fresh⟩
abbrev WS.wFresh (S : WS) (x : List Nat) : WS := ⟨S.n, S.es, S.cl, S.ls, S.by_, S.done, x⟩

def updF (f : Int → List Nat) (x : Int) (v : List Nat) : Int → List Nat := fun y => if y = x then v else f y
def swapL (l : List Int) (i k : Nat) : List Int := (l.set i (l.getD k 0)).set k (l.getD i 0)
def rankE (n : Nat) (es : List En) (x : Int) : Int := if 0 ≤ valE n es x then (n : Int) + 1 else (ofE n es ((x.natAbs : Int) - 1)).level
def innerC (r : Int → Int) (i : Nat) (l : List Int) (ks : List Nat) : List Int := ks.foldl (fun l k => if r (l.getD i 0) < r (l.getD k 0) then swapL l i k else l) l
def bestC (r : Int → Int) (l : List Int) (i : Nat) : List Int := innerC r i l (List.range' (i + 1) (l.length - (i + 1)))
def chStep (r : Int → Int) (c : Nat) (s : List Int × (Int → List Nat)) (i : Nat) : List Int × (Int → List Nat) :=
  (bestC r s.1 i, updF s.2 ((bestC r s.1 i).getD i 0) (s.2 ((bestC r s.1 i).getD i 0) ++ [c]))
def chooseE (r : Int → Int) (c : Nat) (l : List Int) (b : Int → List Nat) : List Int × (Int → List Nat) := (List.range (min 2 l.length)).foldl (chStep r c) (l, b)

def knownS (n : Nat) (c : List Int) : Bool := c.all fun x => decide (1 ≤ x.natAbs ∧ x.natAbs ≤ n)
def dedL (l : List Int) : List Int := l.foldl (fun a x => if a.any (fun y => y == x) then a else a ++ [x]) []
def addS (S : WS) (c : List Int) : WS × Int × Int :=
  if knownS S.n c = true then
    ({ S with cl := S.cl ++ [c], ls := S.ls ++ [(chooseE (rankE S.n S.es) S.cl.length (dedL c) S.by_).1], by_ := (chooseE (rankE S.n S.es) S.cl.length (dedL c) S.by_).2, fresh := S.fresh ++ [S.cl.length] }, S.cl.length, 0)
  else (S, 0, 1)
def decS (S : WS) (x : Int) : WS × Int := (S.wEs (decC S.n S.es x).2, (decC S.n S.es x).1)
def singles (ls : List (List Int)) : List Nat := (List.range ls.length).filter fun i => (ls.getD i []).length == 1
def backS (S : WS) (lv : Int) : WS × Int :=
  if (backC S.es lv).1 = 0 then ({ S with es := (backC S.es lv).2, done := 0, fresh := S.fresh ++ singles S.ls }, 0) else (S, (backC S.es lv).1)
def openL (n : Nat) (es : List En) (l : List Int) : List Int := l.filter fun x => valE n es x == 0
def lookS (S : WS) (c : Nat) : WS × Bool :=
  if (S.ls.getD c []).any (fun x => valE S.n S.es x == 1) = true then (S, false)
  else match openL S.n S.es (S.ls.getD c []) with
    | [] => (S, true)
    | [x] => (S.wEs (asnC S.n S.es x c).2, false)
    | _ => (S, false)
def firstAt (f : Int → Bool) : List Int → Nat → Int
  | [], _ => -1
  | x :: l, k => if f x = true then k else firstAt f l (k + 1)
def mvSwap (x0 : Int) (l : List Int) : List Int := if l.getD 0 0 = x0 ∧ 1 < l.length then swapL l 0 1 else l
def mvAt (n : Nat) (es : List En) (l : List Int) : Int := if 1 < l.length ∧ valE n es (l.getD 0 0) ≠ 1 then firstAt (fun x => decide (0 ≤ valE n es x)) (l.drop 2) 0 else -1
def mvStep (x0 : Int) (S : WS) (left rest : List Nat) (c : Nat) : WS × List Nat × Bool :=
  if 0 ≤ mvAt S.n S.es (mvSwap x0 (S.ls.getD c [])) then
    ((S.wLs (S.ls.set c (swapL (mvSwap x0 (S.ls.getD c [])) 1 (2 + (mvAt S.n S.es (mvSwap x0 (S.ls.getD c []))).toNat)))).wBy
              (updF S.by_ ((swapL (mvSwap x0 (S.ls.getD c [])) 1 (2 + (mvAt S.n S.es (mvSwap x0 (S.ls.getD c []))).toNat)).getD 1 0)
                (S.by_ ((swapL (mvSwap x0 (S.ls.getD c [])) 1 (2 + (mvAt S.n S.es (mvSwap x0 (S.ls.getD c []))).toNat)).getD 1 0) ++ [c])), left, false)
  else
    ((if (lookS (S.wLs (S.ls.set c (mvSwap x0 (S.ls.getD c [])))) c).2 = true then
        (lookS (S.wLs (S.ls.set c (mvSwap x0 (S.ls.getD c [])))) c).1.wBy (updF S.by_ x0 (left ++ [c] ++ rest))
      else (lookS (S.wLs (S.ls.set c (mvSwap x0 (S.ls.getD c [])))) c).1), left ++ [c], (lookS (S.wLs (S.ls.set c (mvSwap x0 (S.ls.getD c [])))) c).2)
def movesS (x0 : Int) : List Nat → WS → List Nat → WS × Int
  | [], S, left => (S.wBy (updF S.by_ x0 left), -1)
  | c :: rest, S, left => if (mvStep x0 S left rest c).2.2 = true then ((mvStep x0 S left rest c).1, c) else movesS x0 rest (mvStep x0 S left rest c).1 (mvStep x0 S left rest c).2.1
def freshS : List Nat → WS → WS × Int
  | [], S => (S, -1)
  | c :: rest, S => if (lookS S c).2 = true then ((lookS S c).1, c) else freshS rest ((lookS S c).1.wFresh rest)
def headS (S : WS) : Int := -(S.es.map (·.lit)).reverse.getD S.done 0
def doneS : Nat → WS → WS × Int
  | 0, S => (S, -1)
  | k + 1, S =>
    if S.done < S.es.length then
      if 0 ≤ (movesS (headS S) (S.by_ (headS S)) S []).2 then movesS (headS S) (S.by_ (headS S)) S []
      else doneS k ((movesS (headS S) (S.by_ (headS S)) S []).1.wDone ((movesS (headS S) (S.by_ (headS S)) S []).1.done + 1))
    else (S, -1)
def propS (S : WS) : WS × Int := if 0 ≤ (freshS S.fresh S).2 then freshS S.fresh S else doneS (S.n + 1) (freshS S.fresh S).1
def newS (n : Nat) : WS := ⟨n, [], [], [], fun _ => [], 0, []⟩

/-! ### What holds -/
def seenE (es : List En) (d : Nat) (x : Int) : Prop := -x ∈ ((es.map (·.lit)).reverse).take d
/-- Each literal that was assigned follows by its reason's clause. -/
def Just (n : Nat) (cl : List (List Int)) : List En → Prop
  | [] => True
  | e :: es => (0 ≤ e.reason → e.reason < cl.length ∧ e.lit ∈ cl.getD e.reason.toNat [] ∧ ∀ x ∈ cl.getD e.reason.toNat [], x ≠ e.lit → valE n es x = -1) ∧ Just n cl es

theorem seen_none {n : Nat} {es : List En} (hg : Good n es) {d : Nat} {x : Int} (h : seenE es d x) : valE n es x = -1 := by
  have h1 := List.mem_of_mem_take h
  simp only [List.mem_reverse, List.mem_map] at h1
  obtain ⟨e, he, h2⟩ := h1
  have := (val_of hg he).2
  rwa [h2, Int.neg_neg] at this
theorem seen_push {es : List En} {e : En} {d : Nat} {x : Int} (hd : d ≤ es.length) : seenE (e :: es) d x ↔ seenE es d x := by
  unfold seenE
  simp only [List.map_cons, List.reverse_cons]
  rw [List.take_append_of_le_length (by simpa using hd)]
theorem seen_all {n : Nat} {es : List En} {x : Int} (h : valE n es x = -1) : seenE es es.length x := by
  obtain ⟨e, he, h1⟩ := val_none h
  unfold seenE
  rw [List.take_of_length_le (by simp), List.mem_reverse, ← h1]
  exact List.mem_map_of_mem he
theorem seen_succ {es : List En} {d : Nat} {x : Int} (hd : d < es.length) : seenE es (d + 1) x ↔ seenE es d x ∨ x = -((es.map (·.lit)).reverse).getD d 0 := by
  unfold seenE
  have hl : d < ((es.map (·.lit)).reverse).length := by simpa using hd
  rw [List.take_succ_eq_append_getElem hl, List.mem_append, List.mem_singleton, List.getD_eq_getElem?_getD, List.getElem?_eq_getElem hl]
  simp only [Option.getD_some]
  constructor
  · rintro (h | h)
    · exact .inl h
    · exact .inr (by omega)
  · rintro (h | h)
    · exact .inl h
    · exact .inr (by omega)

structure WInv (S : WS) : Prop where
  good : Good S.n S.es
  len : S.ls.length = S.cl.length
  known : ∀ c ∈ S.cl, knownS S.n c = true
  nodup : ∀ i, (S.ls.getD i []).Nodup
  mem : ∀ i x, x ∈ S.ls.getD i [] ↔ x ∈ S.cl.getD i []
  byN : ∀ x, (S.by_ x).Nodup
  byI : ∀ x i, i ∈ S.by_ x ↔ i < S.cl.length ∧ x ∈ (S.ls.getD i []).take 2
  freshLt : ∀ i ∈ S.fresh, i < S.cl.length
  doneLe : S.done ≤ S.es.length
  empty : ∀ i, i < S.cl.length → i ∉ S.fresh → S.ls.getD i [] ≠ []
  single : ∀ i, i ∉ S.fresh → ∀ a, S.ls.getD i [] = [a] → valE S.n S.es a = 1
  watch : ∀ i, i ∉ S.fresh → ∀ a b r, S.ls.getD i [] = a :: b :: r → (seenE S.es S.done a → valE S.n S.es b = 1) ∧ (seenE S.es S.done b → valE S.n S.es a = 1)
  watchF : ∀ i a b r, S.ls.getD i [] = a :: b :: r → i ∈ S.fresh → (seenE S.es S.done b → ∀ x ∈ r, valE S.n S.es x = -1) ∧ (seenE S.es S.done a → ∀ x ∈ b :: r, valE S.n S.es x = -1)
  just : Just S.n S.cl S.es

/-- Satisfied, or two of its literals, unlike ones, are open. -/
def Settled (n : Nat) (es : List En) (c : List Int) : Prop := (∃ x ∈ c, valE n es x = 1) ∨ ∃ x ∈ c, ∃ y ∈ c, x ≠ y ∧ valE n es x = 0 ∧ valE n es y = 0
def FalseC (n : Nat) (es : List En) (c : List Int) : Prop := ∀ x ∈ c, valE n es x = -1

/-- What follows, one behind the other. -/
inductive Ext (n : Nat) (cl : List (List Int)) (es : List En) : List En → Prop
  | refl : Ext n cl es es
  | step {es' : List En} (e : En) : Ext n cl es es' → 0 ≤ e.reason → e.reason < cl.length → e.level = hi es' → e.lit ∈ cl.getD e.reason.toNat [] → valE n es' e.lit = 0 → (∀ x ∈ cl.getD e.reason.toNat [], x ≠ e.lit → valE n es' x = -1) → Ext n cl es (e :: es')

end Go.Proofs.Ythinopiobihmaaa

namespace Go.Proofs.Ythinopiobihmaaa
set_option maxRecDepth 100000

/-! ### Two that change places -/
theorem swapL_len (l : List Int) (i k : Nat) : (swapL l i k).length = l.length := by simp [swapL]
theorem swapL_perm {l : List Int} {i k : Nat} (hi : i < l.length) (hk : k < l.length) : (swapL l i k).Perm l := by
  have h := Array.swap_perm (xs := l.toArray) (i := i) (j := k) (by simpa using hi) (by simpa using hk)
  have h2 := h.toList
  rw [Array.toList_swap] at h2
  simp only [List.getElem_toArray] at h2
  unfold swapL
  rw [List.getD_eq_getElem?_getD, List.getD_eq_getElem?_getD, List.getElem?_eq_getElem hi, List.getElem?_eq_getElem hk]
  exact h2
theorem swapL_get {l : List Int} {i k : Nat} (hi : i < l.length) (hk : k < l.length) (j : Nat) : (swapL l i k).getD j 0 = if j = k then l.getD i 0 else if j = i then l.getD k 0 else l.getD j 0 := by
  unfold swapL
  simp only [List.getD_eq_getElem?_getD]
  by_cases h1 : j = k
  · subst h1
    rw [if_pos rfl, List.getElem?_set_self (by simpa using hk)]
    rfl
  · rw [if_neg h1, List.getElem?_set_ne (fun e => h1 e.symm)]
    by_cases h2 : j = i
    · subst h2
      rw [if_pos rfl, List.getElem?_set_self hi]
      rfl
    · rw [if_neg h2, List.getElem?_set_ne (fun e => h2 e.symm)]

theorem inner_spec (r : Int → Int) (i : Nat) (l : List Int) (hi : i < l.length) : ∀ m, i + 1 + m ≤ l.length →
    (innerC r i l (List.range' (i + 1) m)).Perm l ∧ (∀ j, j < i → (innerC r i l (List.range' (i + 1) m)).getD j 0 = l.getD j 0) ∧
      ∀ k, i ≤ k → k < i + 1 + m → r ((innerC r i l (List.range' (i + 1) m)).getD k 0) ≤ r ((innerC r i l (List.range' (i + 1) m)).getD i 0)
  | 0, _ => ⟨List.Perm.refl _, fun _ _ => rfl, fun k h1 h2 => by
      obtain rfl : k = i := by omega
      exact Int.le_refl _⟩
  | m + 1, h => by
    obtain ⟨h1, h2, h3⟩ := inner_spec r i l hi m (by omega)
    have hs : innerC r i l (List.range' (i + 1) (m + 1)) = if r ((innerC r i l (List.range' (i + 1) m)).getD i 0) < r ((innerC r i l (List.range' (i + 1) m)).getD (i + 1 + m) 0) then swapL (innerC r i l (List.range' (i + 1) m)) i (i + 1 + m) else innerC r i l (List.range' (i + 1) m) := by
      unfold innerC
      rw [List.range'_1_concat, List.foldl_append]
      rfl
    rw [hs]
    generalize innerC r i l (List.range' (i + 1) m) = q at *
    have hq := h1.length_eq
    have hi' : i < q.length := by omega
    have hk' : i + 1 + m < q.length := by omega
    split
    · next hlt =>
      refine ⟨(swapL_perm hi' hk').trans h1, fun j hj => ?_, fun k k1 k2 => ?_⟩
      · rw [swapL_get hi' hk', if_neg (by omega), if_neg (by omega), h2 j hj]
      · rw [swapL_get hi' hk' i, if_neg (by omega), if_pos rfl, swapL_get hi' hk' k]
        split
        · omega
        · split
          · exact Int.le_refl _
          · have := h3 k k1 (by omega)
            omega
    · next hlt =>
      refine ⟨h1, h2, fun k k1 k2 => ?_⟩
      by_cases hk : k = i + 1 + m
      · subst hk
        omega
      · exact h3 k k1 (by omega)

theorem best_spec (r : Int → Int) (l : List Int) (i : Nat) (hi : i < l.length) :
    (bestC r l i).Perm l ∧ (∀ j, j < i → (bestC r l i).getD j 0 = l.getD j 0) ∧ ∀ k, i ≤ k → k < l.length → r ((bestC r l i).getD k 0) ≤ r ((bestC r l i).getD i 0) := by
  obtain ⟨h1, h2, h3⟩ := inner_spec r i l hi (l.length - (i + 1)) (by omega)
  exact ⟨h1, h2, fun k k1 k2 => h3 k k1 (by omega)⟩

theorem updF_same (f : Int → List Nat) (x : Int) (v : List Nat) : updF f x v x = v := by simp [updF]
theorem updF_ne (f : Int → List Nat) {x y : Int} (v : List Nat) (h : y ≠ x) : updF f x v y = f y := by simp [updF, h]
theorem updF_self (f : Int → List Nat) (x : Int) : updF f x (f x) = f := by
  funext y
  unfold updF
  split
  · next h => rw [h]
  · rfl
theorem updF_comm (f : Int → List Nat) {x y : Int} (u v : List Nat) (h : x ≠ y) : updF (updF f x u) y v = updF (updF f y v) x u := by
  funext z
  unfold updF
  by_cases h1 : z = y
  · subst h1
    rw [if_pos rfl, if_neg (fun e => h e.symm), if_pos rfl]
  · rw [if_neg h1, if_neg h1]

/-- What choose does. -/
theorem choose_spec (r : Int → Int) (c : Nat) (l : List Int) (b : Int → List Nat) (hn : l.Nodup) :
    (chooseE r c l b).1.Perm l ∧ (∀ x j, j ∈ (chooseE r c l b).2 x ↔ j ∈ b x ∨ (j = c ∧ x ∈ (chooseE r c l b).1.take 2)) ∧
      ((∀ x, (b x).Nodup ∧ c ∉ b x) → ∀ x, ((chooseE r c l b).2 x).Nodup) ∧
      ∀ a b' q, (chooseE r c l b).1 = a :: b' :: q → (∀ x ∈ b' :: q, r x ≤ r a) ∧ ∀ x ∈ q, r x ≤ r b' := by
  rcases Nat.lt_or_ge 0 l.length with h0 | h0
  · by_cases h1 : 1 < l.length
    · have hm : min 2 l.length = 2 := by omega
      have e : chooseE r c l b = chStep r c (chStep r c (l, b) 0) 1 := by
        unfold chooseE
        rw [hm]
        rfl
      rw [e]
      obtain ⟨p1, _, p3⟩ := best_spec r l 0 h0
      have hl1 := p1.length_eq
      obtain ⟨q1, q2, q3⟩ := best_spec r (bestC r l 0) 1 (by omega)
      have hl2 := q1.length_eq
      have pp := q1.trans p1
      have hnd : (bestC r (bestC r l 0) 1).Nodup := pp.nodup_iff.2 hn
      unfold chStep
      simp only
      generalize hL1 : bestC r l 0 = l1 at *
      generalize hL2 : bestC r l1 1 = l2 at *
      have h00 := q2 0 (by omega)
      match l2, hl2, hnd, pp, q1, q2, q3, h00 with
      | [], hl2, _, _, _, _, _, _ => simp at hl2; omega
      | [_], hl2, _, _, _, _, _, _ => simp at hl2; omega
      | x :: y :: t, hl2, hnd, pp, q1, q2, q3, h00 =>
        have hxy : x ≠ y := by
          have := (List.nodup_cons.1 hnd).1
          intro h
          exact this (h ▸ List.mem_cons_self ..)
        have e0 : l1.getD 0 0 = x := by simpa using h00.symm
        have e1 : (x :: y :: t).getD 1 0 = y := rfl
        rw [e0, e1]
        refine ⟨pp, fun z j => ?_, fun hb z => ?_, fun a b' q heq => ?_⟩
        · unfold updF
          simp only [List.take_succ_cons, List.take_zero, List.mem_cons, List.not_mem_nil, or_false]
          by_cases hz1 : z = y
          · subst hz1
            rw [if_pos rfl, if_neg (fun e => hxy e.symm)]
            simp [List.mem_append]
          · rw [if_neg hz1]
            by_cases hz2 : z = x
            · subst hz2
              rw [if_pos rfl]
              simp [List.mem_append]
            · rw [if_neg hz2]
              simp [hz1, hz2]
        · unfold updF
          by_cases hz1 : z = y
          · subst hz1
            rw [if_pos rfl, if_neg (fun e => hxy e.symm)]
            rw [List.nodup_append]
            exact ⟨(hb z).1, by simp, fun a ha b hb2 => by simp at hb2; subst hb2; rintro rfl; exact (hb z).2 ha⟩
          · rw [if_neg hz1]
            by_cases hz2 : z = x
            · subst hz2
              rw [if_pos rfl, List.nodup_append]
              exact ⟨(hb z).1, by simp, fun a ha b hb2 => by simp at hb2; subst hb2; rintro rfl; exact (hb z).2 ha⟩
            · rw [if_neg hz2]
              exact (hb z).1
        · simp only [List.cons.injEq] at heq
          obtain ⟨rfl, rfl, rfl⟩ := heq
          constructor
          · intro z hz
            have hz1 : z ∈ l1 := q1.mem_iff.1 (List.mem_cons_of_mem _ hz)
            obtain ⟨k, hk, rfl⟩ := List.getElem_of_mem hz1
            have := p3 k (by omega) (by omega)
            rw [e0, List.getD_eq_getElem?_getD, List.getElem?_eq_getElem hk] at this
            exact this
          · intro z hz
            obtain ⟨k, hk, rfl⟩ := List.getElem_of_mem hz
            have := q3 (k + 2) (by omega) (by simp at hl2; omega)
            rw [e1] at this
            have e2 : (x :: y :: t).getD (k + 2) 0 = t[k] := by simp [hk]
            rw [e2] at this
            exact this
    · match l, h0, h1, hn with
      | [x], _, _, _ =>
        have e : chooseE r c [x] b = ([x], updF b x (b x ++ [c])) := rfl
        rw [e]
        refine ⟨List.Perm.refl _, fun z j => ?_, fun hb z => ?_, fun a b' q heq => ?_⟩
        · unfold updF
          by_cases hz : z = x
          · subst hz
            simp [List.mem_append]
          · simp [hz]
        · unfold updF
          by_cases hz : z = x
          · subst hz
            simp only [if_true]
            rw [List.nodup_append]
            exact ⟨(hb z).1, by simp, fun a ha b hb2 => by simp at hb2; subst hb2; rintro rfl; exact (hb z).2 ha⟩
          · simp only [if_neg hz]
            exact (hb z).1
        · simp at heq
      | _ :: _ :: _, _, h1, _ => simp at h1
  · have hl : l = [] := List.eq_nil_of_length_eq_zero (by omega)
    subst hl
    have e : chooseE r c [] b = ([], b) := rfl
    rw [e]
    exact ⟨List.Perm.refl _, fun z j => by simp, fun hb z => (hb z).1, fun a b' q heq => by simp at heq⟩

/-! ### Literals, each once -/
theorem ded_go (l : List Int) : ∀ (a : List Int), a.Nodup → (l.foldl (fun a x => if a.any (fun y => y == x) then a else a ++ [x]) a).Nodup ∧ ∀ x, x ∈ l.foldl (fun a x => if a.any (fun y => y == x) then a else a ++ [x]) a ↔ x ∈ a ∨ x ∈ l := by
  induction l with
  | nil => intro a h; exact ⟨h, fun x => by simp⟩
  | cons y l ih =>
    intro a h
    simp only [List.foldl_cons]
    by_cases hy : (a.any fun z => z == y) = true
    · rw [if_pos hy]
      obtain ⟨h1, h2⟩ := ih a h
      refine ⟨h1, fun x => ?_⟩
      rw [h2, List.mem_cons]
      obtain ⟨z, hz, hzy⟩ := List.any_eq_true.1 hy
      have : z = y := by simpa using hzy
      subst this
      constructor
      · rintro (h | h)
        · exact .inl h
        · exact .inr (.inr h)
      · rintro (h | rfl | h)
        · exact .inl h
        · exact .inl hz
        · exact .inr h
    · rw [if_neg hy]
      have hny : y ∉ a := fun hm => hy (List.any_eq_true.2 ⟨y, hm, by simp⟩)
      obtain ⟨h1, h2⟩ := ih (a ++ [y]) (by
        rw [List.nodup_append]
        exact ⟨h, by simp, fun p hp q hq => by simp at hq; subst hq; rintro rfl; exact hny hp⟩)
      refine ⟨h1, fun x => ?_⟩
      rw [h2]
      simp only [List.mem_append, List.mem_cons, List.not_mem_nil, or_false, or_assoc]
theorem ded_nodup (l : List Int) : (dedL l).Nodup := (ded_go l [] List.nodup_nil).1
theorem ded_mem (l : List Int) (x : Int) : x ∈ dedL l ↔ x ∈ l := by
  have := (ded_go l [] List.nodup_nil).2 x
  simpa [dedL] using this

theorem firstAt_spec (f : Int → Bool) : ∀ (l : List Int) (k : Nat), (firstAt f l k = -1 ∧ ∀ x ∈ l, f x = false) ∨ ∃ j : Nat, j < l.length ∧ firstAt f l k = ((k + j : Nat) : Int) ∧ f (l.getD j 0) = true
  | [], k => .inl ⟨rfl, fun x hx => by cases hx⟩
  | x :: l, k => by
    unfold firstAt
    by_cases h : f x = true
    · rw [if_pos h]
      exact .inr ⟨0, by simp, rfl, h⟩
    · rw [if_neg h]
      rcases firstAt_spec f l (k + 1) with ⟨h1, h2⟩ | ⟨j, h1, h2, h3⟩
      · refine .inl ⟨h1, fun y hy => ?_⟩
        rcases List.mem_cons.1 hy with rfl | hy
        · simpa using h
        · exact h2 y hy
      · refine .inr ⟨j + 1, by simp; omega, ?_, h3⟩
        rw [h2]
        congr 1
        omega

end Go.Proofs.Ythinopiobihmaaa

namespace Go.Proofs.Ythinopiobihmaaa
set_option maxRecDepth 100000

/-! ### Lists of lists -/
theorem getD_snoc (ls : List (List Int)) (p : List Int) (i : Nat) : (ls ++ [p]).getD i [] = if i < ls.length then ls.getD i [] else if i = ls.length then p else [] := by
  simp only [List.getD_eq_getElem?_getD]
  by_cases h : i < ls.length
  · rw [if_pos h, List.getElem?_append_left h]
  · rw [if_neg h, List.getElem?_append_right (by omega)]
    by_cases h2 : i = ls.length
    · subst h2; simp
    · rw [if_neg h2, List.getElem?_eq_none (by simp; omega)]
      rfl
theorem getD_setL (ls : List (List Int)) (c : Nat) (v : List Int) (hc : c < ls.length) (i : Nat) : (ls.set c v).getD i [] = if i = c then v else ls.getD i [] := by
  simp only [List.getD_eq_getElem?_getD]
  by_cases h : i = c
  · subst h
    rw [if_pos rfl, List.getElem?_set_self hc]
    rfl
  · rw [if_neg h, List.getElem?_set_ne (fun e => h e.symm)]
theorem getD_lt {ls : List (List Int)} {i : Nat} {x : Int} (h : x ∈ ls.getD i []) : i < ls.length ∧ ls.getD i [] ∈ ls := by
  rcases Nat.lt_or_ge i ls.length with hl | hl
  · refine ⟨hl, ?_⟩
    rw [List.getD_eq_getElem?_getD, List.getElem?_eq_getElem hl]
    exact List.getElem_mem hl
  · rw [List.getD_eq_getElem?_getD, List.getElem?_eq_none hl] at h
    simp at h
theorem getD_mem {ls : List (List Int)} {i : Nat} (hl : i < ls.length) : ls.getD i [] ∈ ls := by
  rw [List.getD_eq_getElem?_getD, List.getElem?_eq_getElem hl]
  exact List.getElem_mem hl

/-! ### What follows -/
theorem Ext.trans {n : Nat} {cl : List (List Int)} {a b c : List En} (h : Ext n cl a b) (k : Ext n cl b c) : Ext n cl a c := by
  induction k with
  | refl => exact h
  | step e _ h1 h2 h3 h4 h5 h6 ih => exact .step e ih h1 h2 h3 h4 h5 h6

theorem open_zero {n : Nat} {es : List En} {x : Int} (h : valE n es x = 0) (hl : 1 ≤ x.natAbs ∧ x.natAbs ≤ n) : openC n es x = 0 ∧ look es (x.natAbs - 1) = none := by
  unfold valE at h
  rw [if_pos hl] at h
  unfold openC
  rw [if_pos hl]
  cases hk : look es (x.natAbs - 1) with
  | none => exact ⟨rfl, rfl⟩
  | some e =>
    rw [hk] at h
    simp only at h
    split at h <;> cases h

theorem good_push {n : Nat} {es : List En} (hg : Good n es) {x : Int} (h : valE n es x = 0) (hl : 1 ≤ x.natAbs ∧ x.natAbs ≤ n) (c : Nat) : Good n (⟨x, hi es, c⟩ :: es) :=
  ⟨hl, (open_zero h hl).2, .inr ⟨by show (0 : Int) ≤ (c : Int); omega, rfl⟩, hg⟩
theorem asn_push {n : Nat} {es : List En} {x : Int} (h : valE n es x = 0) (hl : 1 ≤ x.natAbs ∧ x.natAbs ≤ n) (c : Nat) : (asnC n es x c).2 = ⟨x, hi es, c⟩ :: es := by
  unfold asnC
  rw [if_neg (by omega)]
  simp only
  rw [if_pos (open_zero h hl).1]

theorem Ext.good {n : Nat} {cl : List (List Int)} {a b : List En} (h : Ext n cl a b) (hk : ∀ c ∈ cl, knownS n c = true) (hg : Good n a) : Good n b := by
  induction h with
  | refl => exact hg
  | step e _ h1 h2 h3 h4 h5 _ ih =>
    have h7 := hk _ (getD_lt h4).2
    have h8 := List.all_eq_true.1 h7 _ h4
    simp only [decide_eq_true_eq] at h8
    have h9 := open_zero h5 h8
    exact ⟨h8, h9.2, .inr ⟨h1, h3⟩, ih⟩
theorem Ext.keeps {n : Nat} {cl : List (List Int)} {a b : List En} (h : Ext n cl a b) (hk : ∀ c ∈ cl, knownS n c = true) (hg : Good n a) {x : Int} (hx : valE n a x ≠ 0) : valE n b x = valE n a x := by
  induction h with
  | refl => rfl
  | step e h0 h1 h2 h3 h4 h5 h6 ih =>
    have h7 := (Ext.step e h0 h1 h2 h3 h4 h5 h6).good hk hg
    rw [val_push h7 x (by rw [ih]; exact hx), ih]

theorem WInv.lits {S : WS} (h : WInv S) {c : Nat} {x : Int} (hx : x ∈ S.ls.getD c []) : c < S.cl.length ∧ 1 ≤ x.natAbs ∧ x.natAbs ≤ S.n := by
  have h1 := (h.mem c x).1 hx
  obtain ⟨h2, h3⟩ := getD_lt h1
  have h4 := List.all_eq_true.1 (h.known _ h3) _ h1
  simp only [decide_eq_true_eq] at h4
  exact ⟨h2, h4⟩

theorem WInv.push {S : WS} (h : WInv S) (e : En) (hg : Good S.n (e :: S.es))
    (hj : 0 ≤ e.reason → e.reason < S.cl.length ∧ e.lit ∈ S.cl.getD e.reason.toNat [] ∧ ∀ x ∈ S.cl.getD e.reason.toNat [], x ≠ e.lit → valE S.n S.es x = -1) : WInv (S.wEs (e :: S.es)) := by
  have hd := h.doneLe
  have hv1 : ∀ x, valE S.n S.es x = 1 → valE S.n (e :: S.es) x = 1 := fun x hx => by rw [val_push hg x (by omega), hx]
  have hv2 : ∀ x, valE S.n S.es x = -1 → valE S.n (e :: S.es) x = -1 := fun x hx => by rw [val_push hg x (by omega), hx]
  exact { h with
    good := hg
    doneLe := by show S.done ≤ (e :: S.es).length; simp; omega
    single := fun i hi a ha => hv1 _ (h.single i hi a ha)
    watch := fun i hi a b r hl => by
      obtain ⟨h1, h2⟩ := h.watch i hi a b r hl
      exact ⟨fun hs => hv1 _ (h1 ((seen_push hd).1 hs)), fun hs => hv1 _ (h2 ((seen_push hd).1 hs))⟩
    watchF := fun i a b r hl hf => by
      obtain ⟨h1, h2⟩ := h.watchF i a b r hl hf
      exact ⟨fun hs x hx => hv2 _ (h1 ((seen_push hd).1 hs) x hx), fun hs x hx => hv2 _ (h2 ((seen_push hd).1 hs) x hx)⟩
    just := ⟨hj, h.just⟩ }

theorem look_cases {S : WS} (h : WInv S) (c : Nat) :
    ((∃ x ∈ S.ls.getD c [], valE S.n S.es x = 1) ∧ lookS S c = (S, false)) ∨
    ((∀ x ∈ S.ls.getD c [], valE S.n S.es x = -1) ∧ lookS S c = (S, true)) ∨
    (∃ x ∈ S.ls.getD c [], valE S.n S.es x = 0 ∧ (∀ y ∈ S.ls.getD c [], y ≠ x → valE S.n S.es y = -1) ∧ lookS S c = (S.wEs (⟨x, hi S.es, c⟩ :: S.es), false)) ∨
    ((∃ x ∈ S.ls.getD c [], ∃ y ∈ S.ls.getD c [], x ≠ y ∧ valE S.n S.es x = 0 ∧ valE S.n S.es y = 0) ∧ lookS S c = (S, false)) := by
  have hlit := fun x hx => h.lits (c := c) (x := x) hx
  have hnd := h.nodup c
  unfold lookS
  generalize S.ls.getD c [] = l at *
  by_cases h1 : (l.any fun x => valE S.n S.es x == 1) = true
  · obtain ⟨x, hx, h2⟩ := List.any_eq_true.1 h1
    exact .inl ⟨⟨x, hx, by simpa using h2⟩, by rw [if_pos h1]⟩
  · rw [if_neg h1]
    have hno : ∀ x ∈ l, valE S.n S.es x ≠ 1 := fun x hx hv => h1 (List.any_eq_true.2 ⟨x, hx, by simpa using hv⟩)
    have hop : ∀ x, x ∈ openL S.n S.es l ↔ x ∈ l ∧ valE S.n S.es x = 0 := fun x => by
      unfold openL
      rw [List.mem_filter]
      simp
    have hsub : (openL S.n S.es l).Nodup := hnd.filter _
    match hO : openL S.n S.es l with
    | [] =>
      refine .inr (.inl ⟨fun x hx => ?_, rfl⟩)
      rcases val_range S.n S.es x with h2 | h2 | h2
      · exact h2
      · have := (hop x).2 ⟨hx, h2⟩
        rw [hO] at this
        cases this
      · exact absurd h2 (hno x hx)
    | [x] =>
      obtain ⟨hx, hv⟩ := (hop x).1 (by rw [hO]; exact List.mem_cons_self ..)
      refine .inr (.inr (.inl ⟨x, hx, hv, fun y hy hne => ?_, ?_⟩))
      · rcases val_range S.n S.es y with h2 | h2 | h2
        · exact h2
        · have := (hop y).2 ⟨hy, h2⟩
          rw [hO] at this
          simp at this
          exact absurd this hne
        · exact absurd h2 (hno y hy)
      · simp only
        rw [asn_push hv (hlit x hx).2]
    | x :: y :: r =>
      obtain ⟨hx, hv⟩ := (hop x).1 (by rw [hO]; exact List.mem_cons_self ..)
      obtain ⟨hy, hw⟩ := (hop y).1 (by rw [hO]; exact List.mem_cons_of_mem _ (List.mem_cons_self ..))
      rw [hO] at hsub
      refine .inr (.inr (.inr ⟨⟨x, hx, y, hy, ?_, hv, hw⟩, rfl⟩))
      rintro rfl
      exact (List.nodup_cons.1 hsub).1 (List.mem_cons_self ..)

/-- The one that was open is assigned. -/
theorem WInv.unit {S : WS} (h : WInv S) {c : Nat} {x : Int} (hx : x ∈ S.ls.getD c []) (hv : valE S.n S.es x = 0) (ho : ∀ y ∈ S.ls.getD c [], y ≠ x → valE S.n S.es y = -1) :
    WInv (S.wEs (⟨x, hi S.es, c⟩ :: S.es)) ∧ Ext S.n S.cl S.es (⟨x, hi S.es, c⟩ :: S.es) ∧ valE S.n (⟨x, hi S.es, c⟩ :: S.es) x = 1 := by
  obtain ⟨hc, hl⟩ := h.lits hx
  have hg := good_push h.good hv hl c
  have hx2 := (h.mem c x).1 hx
  have ho2 : ∀ y ∈ S.cl.getD c [], y ≠ x → valE S.n S.es y = -1 := fun y hy => ho y ((h.mem c y).2 hy)
  refine ⟨h.push _ hg fun _ => ?_, .step _ .refl ?_ ?_ rfl ?_ hv ?_, (val_of hg (List.mem_cons_self ..)).1⟩
  · simp only [Int.toNat_natCast]
    exact ⟨by omega, hx2, ho2⟩
  · show (0 : Int) ≤ (c : Int); omega
  · show (c : Int) < (S.cl.length : Int); omega
  · simpa using hx2
  · simpa using ho2

/-- It was looked at. -/
theorem WInv.drop {S : WS} (h : WInv S) {c : Nat} {rest : List Nat} (hf : S.fresh = c :: rest) (ho : Settled S.n S.es (S.ls.getD c [])) : WInv (S.wFresh rest) := by
  have hsub : ∀ i, i ∉ rest → i ≠ c → i ∉ S.fresh := fun i h1 h2 h3 => by
    rw [hf] at h3
    rcases List.mem_cons.1 h3 with h3 | h3
    · exact h2 h3
    · exact h1 h3
  have hup : ∀ i, i ∈ rest → i ∈ S.fresh := fun i hi => by rw [hf]; exact List.mem_cons_of_mem _ hi
  exact { h with
    freshLt := fun i hi => h.freshLt i (hup i hi)
    empty := fun i hi hn => by
      by_cases hic : i = c
      · subst hic
        intro he
        rw [he] at ho
        rcases ho with ⟨x, hx, _⟩ | ⟨x, hx, _⟩ <;> cases hx
      · exact h.empty i hi (hsub i hn hic)
    single := fun i hn a ha => by
      by_cases hic : i = c
      · subst hic
        rw [ha] at ho
        rcases ho with ⟨x, hx, hv⟩ | ⟨x, hx, y, hy, hne, _⟩
        · simp at hx; subst hx; exact hv
        · simp at hx hy; subst hx hy; exact absurd rfl hne
      · exact h.single i (hsub i hn hic) a ha
    watch := fun i hn a b r hl => by
      by_cases hic : i = c
      · subst hic
        obtain ⟨h1, h2⟩ := h.watchF i a b r hl (by rw [hf]; exact List.mem_cons_self ..)
        constructor
        · intro hs
          have ha := seen_none h.good hs
          have hb := h2 hs
          exfalso
          have hall : ∀ x ∈ S.ls.getD i [], valE S.n S.es x = -1 := fun x hx => by
            rw [hl] at hx
            rcases List.mem_cons.1 hx with rfl | hx
            · exact ha
            · exact hb x hx
          rcases ho with ⟨x, hx, hv⟩ | ⟨x, hx, y, hy, _, hv, _⟩
          · have := hall x hx; omega
          · have := hall x hx; omega
        · intro hs
          have hbv := seen_none h.good hs
          have hr := h1 hs
          have hall : ∀ x ∈ S.ls.getD i [], x ≠ a → valE S.n S.es x = -1 := fun x hx hne => by
            rw [hl] at hx
            rcases List.mem_cons.1 hx with rfl | hx
            · exact absurd rfl hne
            · rcases List.mem_cons.1 hx with rfl | hx
              · exact hbv
              · exact hr x hx
          rcases ho with ⟨x, hx, hv⟩ | ⟨x, hx, y, hy, hne, hv, hw⟩
          · by_cases hxa : x = a
            · subst hxa; exact hv
            · have := hall x hx hxa; omega
          · by_cases hxa : x = a
            · subst hxa
              have := hall y hy (fun e => hne e.symm); omega
            · have := hall x hx hxa; omega
      · exact h.watch i (hsub i hn hic) a b r hl
    watchF := fun i a b r hl hi => h.watchF i a b r hl (hup i hi) }

/-- What a round, or all of it, comes to. -/
structure Came (S : WS) (r : WS × Int) : Prop where
  inv : WInv r.1
  n : r.1.n = S.n
  cl : r.1.cl = S.cl
  ext : Ext S.n S.cl S.es r.1.es
  conf : 0 ≤ r.2 → r.2 < S.cl.length ∧ FalseC S.n r.1.es (S.cl.getD r.2.toNat [])
  least : -1 ≤ r.2
theorem Came.trans {S : WS} {T : WS} {r : WS × Int} (h1 : T.n = S.n) (h2 : T.cl = S.cl) (h3 : Ext S.n S.cl S.es T.es) (k : Came T r) : Came S r := by
  obtain ⟨a, b, c, d, e, f⟩ := k
  rw [h1, h2] at d e
  exact ⟨a, b.trans h1, c.trans h2, h3.trans d, e, f⟩

theorem fresh_spec : ∀ (fr : List Nat) (S : WS), WInv S → S.fresh = fr → Came S (freshS fr S) ∧ ((freshS fr S).2 < 0 → (freshS fr S).1.fresh = [])
  | [], S, h, hf => ⟨⟨h, rfl, rfl, .refl, fun h0 => by simp [freshS] at h0, by simp [freshS]⟩, fun _ => hf⟩
  | c :: rest, S, h, hf => by
    have hc := h.freshLt c (by rw [hf]; exact List.mem_cons_self ..)
    unfold freshS
    rcases look_cases h c with ⟨h1, h2⟩ | ⟨h1, h2⟩ | ⟨x, hx, hv, ho, h2⟩ | ⟨h1, h2⟩
    · rw [h2, if_neg (by simp)]
      obtain ⟨m1, m2⟩ := fresh_spec rest (S.wFresh rest) (h.drop hf (.inl h1)) rfl
      exact ⟨Came.trans (T := S.wFresh rest) rfl rfl .refl m1, m2⟩
    · rw [h2, if_pos rfl]
      refine ⟨⟨h, rfl, rfl, .refl, fun _ => ⟨by show (c : Int) < (S.cl.length : Int); omega, fun x hx => ?_⟩, by show (-1 : Int) ≤ (c : Int); omega⟩, fun h0 => absurd h0 (by show ¬ (c : Int) < 0; omega)⟩
      simp only [Int.toNat_natCast] at hx
      exact h1 x ((h.mem c x).2 hx)
    · obtain ⟨k1, k2, k3⟩ := h.unit hx hv ho
      rw [h2, if_neg (by simp)]
      obtain ⟨m1, m2⟩ := fresh_spec rest ((S.wEs (⟨x, hi S.es, c⟩ :: S.es)).wFresh rest) (k1.drop (c := c) (rest := rest) hf (.inl ⟨x, hx, k3⟩)) rfl
      exact ⟨Came.trans (T := (S.wEs (⟨x, hi S.es, c⟩ :: S.es)).wFresh rest) rfl rfl k2 m1, m2⟩
    · rw [h2, if_neg (by simp)]
      obtain ⟨m1, m2⟩ := fresh_spec rest (S.wFresh rest) (h.drop hf (.inr h1)) rfl
      exact ⟨Came.trans (T := S.wFresh rest) rfl rfl .refl m1, m2⟩

end Go.Proofs.Ythinopiobihmaaa

namespace Go.Proofs.Ythinopiobihmaaa
set_option maxRecDepth 100000

theorem WInv.setL {S : WS} (h : WInv S) {c : Nat} (hc : c < S.cl.length) (hf : c ∉ S.fresh) {l' : List Int} {b' : Int → List Nat} (hp : l'.Perm (S.ls.getD c [])) (hN : ∀ x, (b' x).Nodup)
    (hI : ∀ x i, i ∈ b' x ↔ i < S.cl.length ∧ x ∈ (if i = c then l' else S.ls.getD i []).take 2) (hw : ∀ a b r, l' = a :: b :: r → (seenE S.es S.done a → valE S.n S.es b = 1) ∧ (seenE S.es S.done b → valE S.n S.es a = 1)) :
    WInv ((S.wLs (S.ls.set c l')).wBy b') := by
  have hcl : c < S.ls.length := by rw [h.len]; exact hc
  have hg := getD_setL S.ls c l' hcl
  exact { h with
    len := by simp [h.len]
    nodup := fun i => by
      show ((S.ls.set c l').getD i []).Nodup
      rw [hg]
      split
      · exact hp.nodup_iff.2 (h.nodup c)
      · exact h.nodup i
    mem := fun i x => by
      show x ∈ (S.ls.set c l').getD i [] ↔ _
      rw [hg]
      split
      · next hi => subst hi; rw [hp.mem_iff]; exact h.mem i x
      · exact h.mem i x
    byN := hN
    byI := fun x i => by
      show _ ↔ _ ∧ x ∈ ((S.ls.set c l').getD i []).take 2
      rw [hg]
      exact hI x i
    empty := fun i hi hn => by
      show (S.ls.set c l').getD i [] ≠ []
      rw [hg]
      split
      · next hic =>
        subst hic
        intro he
        rw [he] at hp
        exact h.empty i hi hn (List.nil_perm.1 hp)
      · exact h.empty i hi hn
    single := fun i hn a ha => by
      have ha' : (S.ls.set c l').getD i [] = [a] := ha
      rw [hg] at ha'
      split at ha'
      · next hic =>
        subst hic
        rw [ha'] at hp
        exact h.single i hn a (List.singleton_perm.1 hp).symm
      · exact h.single i hn a ha'
    watch := fun i hn a b r hl => by
      have hl' : (S.ls.set c l').getD i [] = a :: b :: r := hl
      rw [hg] at hl'
      split at hl'
      · exact hw a b r hl'
      · exact h.watch i hn a b r hl'
    watchF := fun i a b r hl hi => by
      have hl' : (S.ls.set c l').getD i [] = a :: b :: r := hl
      rw [hg] at hl'
      split at hl'
      · next hic => subst hic; exact absurd hi hf
      · exact h.watchF i a b r hl' hi }

/-- In the midst of moves: rest is not gone over yet. -/
structure Mid (S : WS) (x0 : Int) (left rest : List Nat) : Prop where
  inv : WInv (S.wBy (updF S.by_ x0 (left ++ rest)))
  fresh : S.fresh = []
  neg : valE S.n S.es x0 = -1
  proc : ∀ i, i < S.cl.length → i ∉ rest → ∀ a b r, S.ls.getD i [] = a :: b :: r → (a = x0 → valE S.n S.es b = 1) ∧ (b = x0 → valE S.n S.es a = 1)

theorem take2_swap (p q : Int) (r : List Int) (x : Int) : x ∈ (p :: q :: r).take 2 ↔ x ∈ (q :: p :: r).take 2 := by
  simp only [List.take_succ_cons, List.take_zero, List.mem_cons, List.not_mem_nil, or_false]
  exact Or.comm

/-- The literal comes second. -/
theorem mvSwap_spec {x0 : Int} {l : List Int} (hx : x0 ∈ l.take 2) : (l = [x0] ∧ mvSwap x0 l = [x0]) ∨ ∃ p r, mvSwap x0 l = p :: x0 :: r ∧ (l = p :: x0 :: r ∨ l = x0 :: p :: r) := by
  match l, hx with
  | [], hx => simp at hx
  | [a], hx =>
    simp at hx
    subst hx
    exact .inl ⟨rfl, by simp [mvSwap]⟩
  | a :: b :: r, hx =>
    simp only [List.take_succ_cons, List.take_zero, List.mem_cons, List.not_mem_nil, or_false] at hx
    unfold mvSwap
    by_cases ha : a = x0
    · subst ha
      rw [if_pos ⟨rfl, by simp⟩]
      exact .inr ⟨b, r, rfl, .inr rfl⟩
    · rw [if_neg (fun h => ha h.1)]
      rcases hx with hx | hx
      · exact absurd hx.symm ha
      · subst hx
        exact .inr ⟨a, r, rfl, .inl rfl⟩

theorem Mid.head {S : WS} {x0 : Int} {left rest : List Nat} {c : Nat} (h : Mid S x0 left (c :: rest)) : c < S.cl.length ∧ x0 ∈ (S.ls.getD c []).take 2 ∧ (left ++ c :: rest).Nodup := by
  have h1 := (h.inv.byI x0 c).1 (by
    show c ∈ updF S.by_ x0 (left ++ c :: rest) x0
    rw [updF_same]
    simp)
  have h2 := h.inv.byN x0
  have h3 : updF S.by_ x0 (left ++ c :: rest) x0 = left ++ c :: rest := updF_same _ _ _
  exact ⟨h1.1, h1.2, by rw [← h3]; exact h2⟩

theorem set_perm {p y : Int} {r : List Int} {j : Nat} (hj : j < r.length) (hy : r.getD j 0 = y) (x0 : Int) : (p :: y :: r.set j x0).Perm (p :: x0 :: r) ∧ swapL (p :: x0 :: r) 1 (2 + j) = p :: y :: r.set j x0 := by
  have e : swapL (p :: x0 :: r) 1 (2 + j) = p :: y :: r.set j x0 := by
    have e1 : 2 + j = j + 1 + 1 := by omega
    unfold swapL
    rw [e1]
    simp only [List.getD_cons_succ, List.getD_cons_zero, List.set_cons_succ, List.set_cons_zero, hy]
  exact ⟨e ▸ swapL_perm (by simp) (by simp; omega), e⟩

/-- Another literal is watched in its place. -/
theorem mid_other {S : WS} {x0 : Int} {left rest : List Nat} {c : Nat} (h : Mid S x0 left (c :: rest)) {p y : Int} {r : List Int} {j : Nat} (hl : S.ls.getD c [] = p :: x0 :: r ∨ S.ls.getD c [] = x0 :: p :: r)
    (hj : j < r.length) (hy : r.getD j 0 = y) (hv : 0 ≤ valE S.n S.es y) :
    Mid ((S.wLs (S.ls.set c (p :: y :: r.set j x0))).wBy (updF S.by_ y (S.by_ y ++ [c]))) x0 left rest := by
  obtain ⟨hc, hx0, hnd⟩ := h.head
  have hcf : c ∉ S.fresh := by rw [h.fresh]; simp
  obtain ⟨hp, _⟩ := set_perm (p := p) hj hy x0
  have hperm : (p :: y :: r.set j x0).Perm (S.ls.getD c []) := by
    rcases hl with hl | hl
    · rw [hl]; exact hp
    · rw [hl]; exact hp.trans (List.Perm.swap _ _ _)
  have hlnd : (p :: x0 :: r).Nodup := by
    have h1 := h.inv.nodup c
    have h2 : (S.ls.getD c []).Nodup := h1
    rcases hl with hl | hl
    · rwa [hl] at h2
    · rw [hl] at h2; exact (List.Perm.swap x0 p r).nodup_iff.2 h2
  have ht2 : ∀ x, x ∈ (S.ls.getD c []).take 2 ↔ x = p ∨ x = x0 := fun x => by
    rcases hl with hl | hl
    · rw [hl]; simp
    · rw [hl, take2_swap]; simp
  have hyr : y ∈ r := by
    rw [← hy, List.getD_eq_getElem?_getD, List.getElem?_eq_getElem hj]
    exact List.getElem_mem hj
  have hyx : y ≠ x0 := by
    rintro rfl
    have := h.neg
    omega
  have hpx : p ≠ x0 := by
    rintro rfl
    exact (List.nodup_cons.1 hlnd).1 (List.mem_cons_self ..)
  have hyp : y ≠ p := by
    rintro rfl
    exact (List.nodup_cons.1 hlnd).1 (List.mem_cons_of_mem _ hyr)
  have hcl : c ∉ left ++ rest := by
    have h1 := hnd
    rw [List.nodup_append] at h1
    obtain ⟨_, h2, h3⟩ := h1
    intro hm
    rcases List.mem_append.1 hm with hm | hm
    · exact h3 c hm c (List.mem_cons_self ..) rfl
    · exact (List.nodup_cons.1 h2).1 hm
  have hnd2 : (left ++ rest).Nodup := hnd.sublist (List.Sublist.append_left (List.sublist_cons_self _ _) _)
  have hold : ∀ x, x ≠ x0 → ∀ i, i ∈ S.by_ x ↔ i < S.cl.length ∧ x ∈ (S.ls.getD i []).take 2 := fun x hx i => by
    have h1 := h.inv.byI x i
    have h2 : updF S.by_ x0 (left ++ c :: rest) x = S.by_ x := updF_ne _ _ hx
    rw [← h2]
    exact h1
  have hold0 : ∀ i, i ∈ left ++ c :: rest ↔ i < S.cl.length ∧ x0 ∈ (S.ls.getD i []).take 2 := fun i => by
    have h1 := h.inv.byI x0 i
    have h2 : updF S.by_ x0 (left ++ c :: rest) x0 = left ++ c :: rest := updF_same _ _ _
    rw [← h2]
    exact h1
  have hcy : c ∉ S.by_ y := fun hm => by
    have := ((hold y hyx c).1 hm).2
    rcases (ht2 y).1 this with h1 | h1
    · exact hyp h1
    · exact hyx h1
  have hseen : ∀ x, seenE S.es S.done x → valE S.n S.es x = -1 := fun x hs => seen_none h.inv.good hs
  have hnp : ¬ seenE S.es S.done p := fun hs => by
    have h1 := h.inv.watch c hcf
    rcases hl with hl | hl
    · have := (h1 p x0 r hl).1 hs
      have h2 := h.neg
      rw [h2] at this
      cases this
    · have := (h1 x0 p r hl).2 hs
      have h2 := h.neg
      rw [h2] at this
      cases this
  have hny : ¬ seenE S.es S.done y := fun hs => by have := hseen y hs; omega
  refine ⟨?_, h.fresh, h.neg, fun i hi hn a b q hq => ?_⟩
  · have key := WInv.setL h.inv (c := c) hc hcf (l' := p :: y :: r.set j x0) (b' := updF (updF S.by_ y (S.by_ y ++ [c])) x0 (left ++ rest)) hperm (fun x => ?_) (fun x i => ?_) (fun a b q hq => ?_)
    · exact key
    · by_cases hx : x = x0
      · subst hx
        rw [updF_same]
        exact hnd2
      · rw [updF_ne _ _ hx]
        by_cases hxy : x = y
        · subst hxy
          rw [updF_same, List.nodup_append]
          have h1 : (updF S.by_ x0 (left ++ c :: rest) x).Nodup := h.inv.byN x
          have h2 : updF S.by_ x0 (left ++ c :: rest) x = S.by_ x := updF_ne _ _ hx
          rw [h2] at h1
          exact ⟨h1, by simp, fun a ha b hb => by simp at hb; subst hb; rintro rfl; exact hcy ha⟩
        · rw [updF_ne _ _ hxy]
          have h1 : (updF S.by_ x0 (left ++ c :: rest) x).Nodup := h.inv.byN x
          have h2 : updF S.by_ x0 (left ++ c :: rest) x = S.by_ x := updF_ne _ _ hx
          rwa [h2] at h1
    · show i ∈ updF (updF S.by_ y (S.by_ y ++ [c])) x0 (left ++ rest) x ↔ i < S.cl.length ∧ x ∈ (if i = c then p :: y :: r.set j x0 else S.ls.getD i []).take 2
      by_cases hx : x = x0
      · subst hx
        rw [updF_same]
        by_cases hic : i = c
        · subst hic
          rw [if_pos rfl]
          constructor
          · intro hm; exact absurd hm hcl
          · rintro ⟨_, hm⟩
            simp only [List.take_succ_cons, List.take_zero, List.mem_cons, List.not_mem_nil, or_false] at hm
            rcases hm with hm | hm
            · exact absurd hm.symm hpx
            · exact absurd hm.symm hyx
        · rw [if_neg hic, ← hold0 i]
          simp only [List.mem_append, List.mem_cons]
          constructor
          · rintro (h | h)
            · exact .inl h
            · exact .inr (.inr h)
          · rintro (h | h | h)
            · exact .inl h
            · exact absurd h hic
            · exact .inr h
      · rw [updF_ne _ _ hx]
        by_cases hxy : x = y
        · subst hxy
          rw [updF_same, List.mem_append]
          by_cases hic : i = c
          · subst hic
            rw [if_pos rfl]
            simp [hc]
          · rw [if_neg hic, hold x hx i]
            simp [hic]
        · rw [updF_ne _ _ hxy]
          by_cases hic : i = c
          · subst hic
            rw [if_pos rfl, hold x hx i, ht2 x]
            simp [hx, hxy]
          · rw [if_neg hic]
            exact hold x hx i
    · simp only [List.cons.injEq] at hq
      obtain ⟨rfl, rfl, rfl⟩ := hq
      exact ⟨fun hs => absurd hs hnp, fun hs => absurd hs hny⟩
  · have hcl' : c < S.ls.length := by rw [show S.ls.length = S.cl.length from h.inv.len]; exact hc
    have hq' : (S.ls.set c (p :: y :: r.set j x0)).getD i [] = a :: b :: q := hq
    rw [getD_setL _ _ _ hcl'] at hq'
    split at hq'
    · simp only [List.cons.injEq] at hq'
      obtain ⟨rfl, rfl, rfl⟩ := hq'
      exact ⟨fun e => absurd e hpx, fun e => absurd e hyx⟩
    · next hic => exact h.proc i hi (fun hm => by
        rcases List.mem_cons.1 hm with hm | hm
        · exact hic hm
        · exact hn hm) a b q hq'

/-- The same two are watched, the literal second. -/
theorem mid_keep {S : WS} {x0 : Int} {left rest : List Nat} {c : Nat} (h : Mid S x0 left (c :: rest)) {l' : List Int} (hl : l' = S.ls.getD c [] ∨ ∃ p r, l' = p :: x0 :: r ∧ S.ls.getD c [] = x0 :: p :: r) :
    WInv ((S.wLs (S.ls.set c l')).wBy (updF S.by_ x0 (left ++ c :: rest))) := by
  obtain ⟨hc, hx0, hnd⟩ := h.head
  have hcf : c ∉ S.fresh := by rw [h.fresh]; simp
  have ht : ∀ x, x ∈ l'.take 2 ↔ x ∈ (S.ls.getD c []).take 2 := fun x => by
    rcases hl with rfl | ⟨p, r, rfl, e⟩
    · exact Iff.rfl
    · rw [e]; exact take2_swap _ _ _ _
  have hperm : l'.Perm (S.ls.getD c []) := by
    rcases hl with rfl | ⟨p, r, rfl, e⟩
    · exact List.Perm.refl _
    · rw [e]; exact List.Perm.swap _ _ _
  refine WInv.setL h.inv hc hcf hperm h.inv.byN (fun x i => ?_) (fun a b q hq => ?_)
  · rw [h.inv.byI x i]
    show i < S.cl.length ∧ x ∈ (S.ls.getD i []).take 2 ↔ i < S.cl.length ∧ x ∈ (if i = c then l' else S.ls.getD i []).take 2
    by_cases hic : i = c
    · subst hic
      rw [if_pos rfl, ht]
    · rw [if_neg hic]
  · have h1 := h.inv.watch c hcf
    rcases hl with rfl | ⟨p, r, rfl, e⟩
    · exact h1 a b q hq
    · simp only [List.cons.injEq] at hq
      obtain ⟨rfl, rfl, rfl⟩ := hq
      exact And.symm (h1 x0 p r e)

theorem look_by (S : WS) (b : Int → List Nat) (c : Nat) : lookS (S.wBy b) c = ((lookS S c).1.wBy b, (lookS S c).2) := by
  unfold lookS
  simp only [WS.wBy, WS.wEs]
  by_cases h : ((S.ls.getD c []).any fun x => valE S.n S.es x == 1) = true
  · rw [if_pos h, if_pos h]
  · rw [if_neg h, if_neg h]
    rcases openL S.n S.es (S.ls.getD c []) with _ | ⟨x, _ | ⟨y, r⟩⟩ <;> rfl

/-- One of them. -/
theorem mid_step {S : WS} {x0 : Int} {left rest : List Nat} {c : Nat} (h : Mid S x0 left (c :: rest)) :
    ((mvStep x0 S left rest c).2.2 = true ∧ WInv (mvStep x0 S left rest c).1 ∧ (mvStep x0 S left rest c).1.n = S.n ∧ (mvStep x0 S left rest c).1.cl = S.cl ∧ (mvStep x0 S left rest c).1.es = S.es ∧ c < S.cl.length ∧ FalseC S.n S.es (S.cl.getD c [])) ∨
    ((mvStep x0 S left rest c).2.2 = false ∧ Mid (mvStep x0 S left rest c).1 x0 (mvStep x0 S left rest c).2.1 rest ∧ (mvStep x0 S left rest c).1.n = S.n ∧ (mvStep x0 S left rest c).1.cl = S.cl ∧ Ext S.n S.cl S.es (mvStep x0 S left rest c).1.es ∧ (mvStep x0 S left rest c).1.done = S.done) := by
  obtain ⟨hc, hx0, hnd⟩ := h.head
  have hcl' : c < S.ls.length := by rw [show S.ls.length = S.cl.length from h.inv.len]; exact hc
  have hsw := mvSwap_spec hx0
  unfold mvStep
  by_cases hat : 0 ≤ mvAt S.n S.es (mvSwap x0 (S.ls.getD c []))
  · rw [if_pos hat]
    refine .inr ⟨rfl, ?_, rfl, rfl, .refl, rfl⟩
    rcases hsw with ⟨_, h2⟩ | ⟨p, r, h2, h3⟩
    · rw [h2] at hat
      simp [mvAt] at hat
    · rw [h2] at hat ⊢
      unfold mvAt at hat ⊢
      have e1 : (p :: x0 :: r).getD 0 0 = p := rfl
      have e2 : (p :: x0 :: r).drop 2 = r := rfl
      rw [e1, e2] at hat ⊢
      by_cases hp : valE S.n S.es p ≠ 1
      · rw [if_pos ⟨by simp, hp⟩] at hat ⊢
        rcases firstAt_spec (fun x => decide (0 ≤ valE S.n S.es x)) r 0 with ⟨h4, _⟩ | ⟨j, h4, h5, h6⟩
        · rw [h4] at hat
          exact absurd hat (by decide)
        · rw [h5]
          simp only [Nat.zero_add, Int.toNat_natCast]
          obtain ⟨_, h7⟩ := set_perm (p := p) h4 rfl x0
          rw [h7]
          exact mid_other h h3 h4 rfl (by simpa using h6)
      · rw [if_neg (fun h => hp h.2)] at hat
        exact absurd hat (by decide)
  · rw [if_neg hat]
    have hk : mvSwap x0 (S.ls.getD c []) = S.ls.getD c [] ∨ ∃ p r, mvSwap x0 (S.ls.getD c []) = p :: x0 :: r ∧ S.ls.getD c [] = x0 :: p :: r := by
      rcases hsw with ⟨h1, h2⟩ | ⟨p, r, h2, h3 | h3⟩
      · exact .inl (by rw [h2, h1])
      · exact .inl (by rw [h2, h3])
      · exact .inr ⟨p, r, h2, h3⟩
    have hW := mid_keep h hk
    have hgo : ∀ a b r, mvSwap x0 (S.ls.getD c []) = a :: b :: r → b = x0 ∧ (valE S.n S.es a = 1 ∨ ∀ x ∈ r, valE S.n S.es x = -1) := fun a b r he => by
      rcases hsw with ⟨_, h2⟩ | ⟨p, r', h2, _⟩
      · rw [h2] at he
        simp at he
      · rw [h2] at he
        simp only [List.cons.injEq] at he
        obtain ⟨rfl, rfl, rfl⟩ := he
        refine ⟨rfl, ?_⟩
        rw [h2] at hat
        unfold mvAt at hat
        have e1 : (p :: x0 :: r').getD 0 0 = p := rfl
        have e2 : (p :: x0 :: r').drop 2 = r' := rfl
        rw [e1, e2] at hat
        by_cases hp : valE S.n S.es p = 1
        · exact .inl hp
        · rw [if_pos ⟨by simp, hp⟩] at hat
          rcases firstAt_spec (fun x => decide (0 ≤ valE S.n S.es x)) r' 0 with ⟨_, h4⟩ | ⟨j, h4, h5, _⟩
          · refine .inr fun x hx => ?_
            have h5 := h4 x hx
            have h6 := val_range S.n S.es x
            simp only [decide_eq_false_iff_not] at h5
            omega
          · rw [h5] at hat
            exact absurd (by omega : (0 : Int) ≤ ((0 + j : Nat) : Int)) hat
    generalize mvSwap x0 (S.ls.getD c []) = l' at *
    -- the state ahead of look, with the whole row at the literal
    have hls : (S.ls.set c l').getD c [] = l' := by rw [getD_setL _ _ _ hcl', if_pos rfl]
    have hlook := look_cases hW c
    have e1 := look_by (S.wLs (S.ls.set c l')) (updF S.by_ x0 (left ++ c :: rest)) c
    rw [e1] at hlook
    have hls2 : (((S.wLs (S.ls.set c l')).wBy (updF S.by_ x0 (left ++ c :: rest))).ls.getD c []) = l' := hls
    rw [hls2] at hlook
    have happ : left ++ [c] ++ rest = left ++ c :: rest := by simp
    have hproc : ∀ (es' : List En), (∀ x, valE S.n S.es x = 1 → valE S.n es' x = 1) → (∀ a b r, l' = a :: b :: r → valE S.n es' a = 1) → ∀ i, i < S.cl.length → i ∉ rest → ∀ a b r, (S.ls.set c l').getD i [] = a :: b :: r → (a = x0 → valE S.n es' b = 1) ∧ (b = x0 → valE S.n es' a = 1) := by
      intro es' hup hone i hi hn a b r hq
      rw [getD_setL _ _ _ hcl'] at hq
      split at hq
      · obtain ⟨rfl, _⟩ := hgo a b r hq
        have h1 := hone a b r hq
        refine ⟨fun e => ?_, fun _ => h1⟩
        have hnd' : (a :: b :: r).Nodup := by
          have h2 := hW.nodup c
          rw [hls2, hq] at h2
          exact h2
        subst e
        exact absurd (List.mem_cons_self ..) (List.nodup_cons.1 hnd').1
      · next hic =>
        obtain ⟨h1, h2⟩ := h.proc i hi (fun hm => by
          rcases List.mem_cons.1 hm with hm | hm
          · exact hic hm
          · exact hn hm) a b r hq
        exact ⟨fun e => hup _ (h1 e), fun e => hup _ (h2 e)⟩
    have hstay : ∀ (st : WS) (k : Bool), lookS (S.wLs (S.ls.set c l')) c = (st, k) → k = false → st = S.wLs (S.ls.set c l') → (∀ a b r, l' = a :: b :: r → valE S.n S.es a = 1) →
        Mid st x0 (left ++ [c]) rest := by
      intro st k _ _ hst hone
      subst hst
      refine ⟨?_, h.fresh, h.neg, hproc S.es (fun _ h => h) hone⟩
      show WInv ((S.wLs (S.ls.set c l')).wBy (updF S.by_ x0 (left ++ [c] ++ rest)))
      rw [happ]
      exact hW
    rcases hL : lookS (S.wLs (S.ls.set c l')) c with ⟨st, k⟩
    rw [hL] at hlook
    simp only at hlook ⊢
    rcases hlook with ⟨⟨x, hx, hv⟩, h2⟩ | ⟨h1, h2⟩ | ⟨x, hx, hv, ho, h2⟩ | ⟨⟨x, hx, y, hy, hne, hv, hw⟩, h2⟩
    · simp only [Prod.mk.injEq] at h2
      obtain ⟨h2, rfl⟩ := h2
      have hst : st = S.wLs (S.ls.set c l') := by
        have h3 := congrArg Prod.fst hL
        unfold lookS at h3
        have h4 : (((S.wLs (S.ls.set c l')).ls.getD c []).any fun x => valE S.n S.es x == 1) = true := by
          show ((S.ls.set c l').getD c []).any _ = true
          rw [hls]
          exact List.any_eq_true.2 ⟨x, hx, by simpa using hv⟩
        rw [if_pos h4] at h3
        exact h3.symm
      refine .inr ⟨rfl, hstay st false hL rfl hst fun a b r he => ?_, by rw [hst]; rfl, by rw [hst]; rfl, by rw [hst]; exact .refl, by rw [hst]; rfl⟩
      obtain ⟨hbx, h3 | h3⟩ := hgo a b r he
      · exact h3
      · rw [he] at hx
        rcases List.mem_cons.1 hx with rfl | hx
        · exact hv
        · rcases List.mem_cons.1 hx with rfl | hx
          · rw [hbx] at hv
            have := h.neg
            have hv' : valE S.n S.es x0 = 1 := hv
            omega
          · have := h3 x hx
            have hv' : valE S.n S.es x = 1 := hv
            omega
    · simp only [Prod.mk.injEq] at h2
      obtain ⟨h2, rfl⟩ := h2
      have hst : st = S.wLs (S.ls.set c l') := by
        have h3 := congrArg Prod.fst hL
        have h5 := congrArg Prod.snd hL
        unfold lookS at h3 h5
        split at h3
        · exact h3.symm
        · next hnot =>
          rw [if_neg hnot] at h5
          split at h3
          · exact h3.symm
          · next hO => rw [hO] at h5; simp at h5
          · exact h3.symm
      refine .inl ⟨rfl, ?_, ?_, ?_, ?_, hc, fun x hx => ?_⟩
      · show WInv (if true = true then st.wBy (updF S.by_ x0 (left ++ [c] ++ rest)) else st)
        rw [if_pos rfl, hst, happ]
        exact hW
      · rw [if_pos rfl, hst]
      · rw [if_pos rfl, hst]
      · rw [if_pos rfl, hst]
      · refine h1 x ?_
        have h3 := (hW.mem c x).2 hx
        rwa [hls2] at h3
    · obtain ⟨k1, k2, k3⟩ := hW.unit (c := c) (x := x) (by rw [hls2]; exact hx) hv (by rw [hls2]; exact ho)
      simp only [Prod.mk.injEq] at h2
      obtain ⟨h2, rfl⟩ := h2
      have hes : st.es = ⟨x, hi S.es, c⟩ :: S.es := by have := congrArg WS.es h2; exact this
      have hby : st.by_ = S.by_ := by
        have h3 := congrArg Prod.fst hL
        unfold lookS at h3
        split at h3
        · exact (congrArg WS.by_ h3).symm
        · split at h3 <;> exact (congrArg WS.by_ h3).symm
      have hn : st.n = S.n := by have := congrArg WS.n h2; exact this
      have hcl2 : st.cl = S.cl := by have := congrArg WS.cl h2; exact this
      have hls3 : st.ls = S.ls.set c l' := by have := congrArg WS.ls h2; exact this
      have hdn : st.done = S.done := by have := congrArg WS.done h2; exact this
      have hfr : st.fresh = S.fresh := by have := congrArg WS.fresh h2; exact this
      have hst : st = (S.wLs (S.ls.set c l')).wEs (⟨x, hi S.es, c⟩ :: S.es) := by
        cases st
        simp only at hes hby hn hcl2 hls3 hdn hfr
        subst hes hby hn hcl2 hls3 hdn hfr
        rfl
      subst hst
      have hgood : Good S.n (⟨x, hi S.es, c⟩ :: S.es) := k1.good
      have hx0v : valE S.n (⟨x, hi S.es, c⟩ :: S.es) x0 = -1 := (val_push hgood x0 (by have := h.neg; omega)).trans h.neg
      have hup : ∀ z, valE S.n S.es z = 1 → valE S.n (⟨x, hi S.es, c⟩ :: S.es) z = 1 := fun z hz => (val_push hgood z (by omega)).trans hz
      refine .inr ⟨rfl, ⟨?_, h.fresh, hx0v, hproc _ hup fun a b r he => ?_⟩, rfl, rfl, k2, rfl⟩
      · show WInv (((S.wLs (S.ls.set c l')).wBy (updF S.by_ x0 (left ++ [c] ++ rest))).wEs (⟨x, hi S.es, c⟩ :: S.es))
        rw [happ]
        exact k1
      · obtain ⟨hbx, h3⟩ := hgo a b r he
        have hxa : x = a := by
          rw [he] at hx
          rcases List.mem_cons.1 hx with h4 | hx
          · exact h4
          · exfalso
            have hv' : valE S.n S.es x = 0 := hv
            rcases List.mem_cons.1 hx with rfl | hx
            · rw [hbx] at hv'
              have := h.neg
              omega
            · rcases h3 with h3 | h3
              · have hna : a ≠ x := by
                  rintro rfl
                  omega
                have h5 : valE S.n S.es a = -1 := ho a (by rw [he]; exact List.mem_cons_self ..) hna
                omega
              · have := h3 x hx
                omega
        rw [← hxa]
        exact k3
    · simp only [Prod.mk.injEq] at h2
      obtain ⟨h2, rfl⟩ := h2
      have hst : st = S.wLs (S.ls.set c l') := by
        have h3 := congrArg Prod.fst hL
        unfold lookS at h3
        split at h3
        · exact h3.symm
        · split at h3
          · exact h3.symm
          · next hO =>
            exfalso
            have hmem : ∀ z, z ∈ l' → valE S.n S.es z = 0 → z ∈ openL S.n S.es ((S.ls.set c l').getD c []) := fun z hz hz0 => by
              rw [hls]
              unfold openL
              rw [List.mem_filter]
              exact ⟨hz, by simpa using hz0⟩
            have m1 := hmem x hx hv
            have m2 := hmem y hy hw
            have hO' : openL S.n S.es ((S.ls.set c l').getD c []) = [_] := hO
            rw [hO'] at m1 m2
            simp at m1 m2
            exact hne (by rw [m1, m2])
          · exact h3.symm
      refine .inr ⟨rfl, hstay st false hL rfl hst fun a b r he => ?_, by rw [hst]; rfl, by rw [hst]; rfl, by rw [hst]; exact .refl, by rw [hst]; rfl⟩
      obtain ⟨hbx, h3⟩ := hgo a b r he
      have hv' : valE S.n S.es x = 0 := hv
      have hw' : valE S.n S.es y = 0 := hw
      rcases h3 with h3 | h3
      · exact h3
      · exfalso
        have hall : ∀ z ∈ l', valE S.n S.es z = 0 → z = a := fun z hz hz0 => by
          rw [he] at hz
          rcases List.mem_cons.1 hz with h4 | hz
          · exact h4
          · rcases List.mem_cons.1 hz with rfl | hz
            · rw [hbx] at hz0
              have := h.neg
              omega
            · have := h3 z hz
              omega
        exact hne ((hall x hx hv').trans (hall y hy hw').symm)

end Go.Proofs.Ythinopiobihmaaa

namespace Go.Proofs.Ythinopiobihmaaa
set_option maxRecDepth 100000

theorem ext_lits {n : Nat} {cl : List (List Int)} {a b : List En} (h : Ext n cl a b) : ∃ s, (b.map (·.lit)).reverse = (a.map (·.lit)).reverse ++ s := by
  induction h with
  | refl => exact ⟨[], by simp⟩
  | step e _ _ _ _ _ _ _ ih =>
    obtain ⟨s, hs⟩ := ih
    exact ⟨s ++ [e.lit], by simp only [List.map_cons, List.reverse_cons]; rw [hs, List.append_assoc]⟩
theorem ext_len {n : Nat} {cl : List (List Int)} {a b : List En} (h : Ext n cl a b) : a.length ≤ b.length := by
  obtain ⟨s, hs⟩ := ext_lits h
  have := congrArg List.length hs
  simp at this
  omega

theorem moves_spec (x0 : Int) : ∀ (rest : List Nat) (S : WS) (left : List Nat), Mid S x0 left rest → Came S (movesS x0 rest S left) ∧ ((movesS x0 rest S left).2 < 0 → (movesS x0 rest S left).1.fresh = [] ∧ (movesS x0 rest S left).1.done = S.done ∧
    ∀ i, i < S.cl.length → ∀ a b r, (movesS x0 rest S left).1.ls.getD i [] = a :: b :: r → (a = x0 → valE S.n (movesS x0 rest S left).1.es b = 1) ∧ (b = x0 → valE S.n (movesS x0 rest S left).1.es a = 1))
  | [], S, left, h => by
    have h1 := h.inv
    rw [List.append_nil] at h1
    exact ⟨⟨h1, rfl, rfl, .refl, fun h0 => by simp [movesS] at h0, by simp [movesS]⟩, fun _ => ⟨h.fresh, rfl, fun i hi a b r hq => h.proc i hi (by simp) a b r hq⟩⟩
  | c :: rest, S, left, h => by
    unfold movesS
    rcases mid_step h with ⟨h1, h2, h3, h4, h5, h6, h7⟩ | ⟨h1, h2, h3, h4, h5, h6⟩
    · rw [if_pos h1]
      refine ⟨⟨h2, h3, h4, by rw [h5]; exact .refl, fun _ => ⟨by show (c : Int) < (S.cl.length : Int); omega, ?_⟩, by show (-1 : Int) ≤ (c : Int); omega⟩, fun h0 => absurd h0 (by show ¬ (c : Int) < 0; omega)⟩
      simp only [Int.toNat_natCast]
      rw [h5]
      exact h7
    · rw [if_neg (by rw [h1]; simp)]
      obtain ⟨k1, k2⟩ := moves_spec x0 rest _ _ h2
      refine ⟨Came.trans h3 h4 h5 k1, fun h0 => ?_⟩
      obtain ⟨m1, m2, m3⟩ := k2 h0
      rw [h3, h4] at m3
      exact ⟨m1, m2.trans h6, m3⟩

theorem head_val {S : WS} (h : WInv S) (hd : S.done < S.es.length) : valE S.n S.es (headS S) = -1 := by
  unfold headS
  have hl : S.done < ((S.es.map (·.lit)).reverse).length := by simpa using hd
  rw [List.getD_eq_getElem?_getD, List.getElem?_eq_getElem hl]
  simp only [Option.getD_some]
  have hm := List.getElem_mem hl
  obtain ⟨e, he, h1⟩ := List.mem_map.1 (List.mem_reverse.1 hm)
  rw [← h1]
  exact (val_of h.good he).2

theorem mid_start {S : WS} (h : WInv S) (hf : S.fresh = []) {x0 : Int} (hv : valE S.n S.es x0 = -1) : Mid S x0 [] (S.by_ x0) := by
  refine ⟨?_, hf, hv, fun i hi hn a b r hq => ?_⟩
  · rw [List.nil_append, updF_self]
    exact h
  · have h1 : x0 ∉ (S.ls.getD i []).take 2 := fun hm => hn ((h.byI x0 i).2 ⟨hi, hm⟩)
    rw [hq] at h1
    simp only [List.take_succ_cons, List.take_zero, List.mem_cons, List.not_mem_nil, or_false, not_or] at h1
    exact ⟨fun e => absurd e.symm h1.1, fun e => absurd e.symm h1.2⟩

theorem done_spec : ∀ (k : Nat) (S : WS), WInv S → S.fresh = [] → S.n < k + S.done → Came S (doneS k S) ∧ ((doneS k S).2 < 0 → (doneS k S).1.fresh = [] ∧ (doneS k S).1.done = (doneS k S).1.es.length)
  | 0, S, h, _, hk => by
    have h1 := h.doneLe
    have h2 := h.good.len_le
    omega
  | k + 1, S, h, hf, hk => by
    unfold doneS
    by_cases hd : S.done < S.es.length
    · rw [if_pos hd]
      obtain ⟨k1, k2⟩ := moves_spec (headS S) (S.by_ (headS S)) S [] (mid_start h hf (head_val h hd))
      by_cases h0 : 0 ≤ (movesS (headS S) (S.by_ (headS S)) S []).2
      · rw [if_pos h0]
        exact ⟨k1, fun h1 => absurd h0 (by omega)⟩
      · rw [if_neg h0]
        obtain ⟨m1, m2, m3⟩ := k2 (by omega)
        obtain ⟨T, c⟩ : ∃ T, T = (movesS (headS S) (S.by_ (headS S)) S []).1 := ⟨_, rfl⟩
        rw [← c] at m1 m2 m3 ⊢
        have hT := k1.inv
        have hn := k1.n
        have hcl := k1.cl
        have hex := k1.ext
        rw [← c] at hT hn hcl hex
        have hlt : T.done < T.es.length := by rw [m2]; have := ext_len hex; omega
        have hx0 : ((T.es.map (·.lit)).reverse).getD T.done 0 = -headS S := by
          obtain ⟨s, hs⟩ := ext_lits hex
          unfold headS
          rw [Int.neg_neg, hs, m2, List.getD_eq_getElem?_getD, List.getD_eq_getElem?_getD, List.getElem?_append_left (by simpa using hd)]
        have hW : WInv (T.wDone (T.done + 1)) := { hT with
          doneLe := hlt
          watch := fun i hi a b r hq => by
            have hq' : T.ls.getD i [] = a :: b :: r := hq
            obtain ⟨w1, w2⟩ := hT.watch i hi a b r hq'
            have hil : i < S.cl.length := by
              rcases Nat.lt_or_ge i S.cl.length with h1 | h1
              · exact h1
              · have h2 := (hT.mem i a).1 (by rw [hq']; exact List.mem_cons_self ..)
                have := (getD_lt h2).1
                rw [hcl] at this
                exact this
            obtain ⟨p1, p2⟩ := m3 i hil a b r hq'
            rw [← hn] at p1 p2
            constructor
            · intro hs
              rcases (seen_succ hlt).1 hs with hs | hs
              · exact w1 hs
              · rw [hx0, Int.neg_neg] at hs
                exact p1 hs
            · intro hs
              rcases (seen_succ hlt).1 hs with hs | hs
              · exact w2 hs
              · rw [hx0, Int.neg_neg] at hs
                exact p2 hs
          watchF := fun i a b r hq hi => by
            have hi' : i ∈ T.fresh := hi
            rw [m1] at hi'
            cases hi' }
        obtain ⟨q1, q2⟩ := done_spec k (T.wDone (T.done + 1)) hW m1 (by show T.n < k + (T.done + 1); rw [hn, m2]; omega)
        exact ⟨Came.trans (T := T.wDone (T.done + 1)) hn hcl hex q1, q2⟩
    · rw [if_neg hd]
      have h1 := h.doneLe
      exact ⟨⟨h, rfl, rfl, .refl, fun h0 => by simp at h0, by simp⟩, fun _ => ⟨hf, by show S.done = S.es.length; omega⟩⟩

theorem settled_all {S : WS} (h : WInv S) (hf : S.fresh = []) (hd : S.done = S.es.length) {i : Nat} (hi : i < S.cl.length) : Settled S.n S.es (S.cl.getD i []) := by
  have hnf : i ∉ S.fresh := by rw [hf]; simp
  have hmem := h.mem i
  have hnd := h.nodup i
  have hsee : ∀ x, valE S.n S.es x = -1 → seenE S.es S.done x := fun x hx => by rw [hd]; exact seen_all hx
  suffices hs : Settled S.n S.es (S.ls.getD i []) by
    rcases hs with ⟨x, hx, hv⟩ | ⟨x, hx, y, hy, hne, hv, hw⟩
    · exact .inl ⟨x, (hmem x).1 hx, hv⟩
    · exact .inr ⟨x, (hmem x).1 hx, y, (hmem y).1 hy, hne, hv, hw⟩
  match hl : S.ls.getD i [] with
  | [] => exact absurd hl (h.empty i hi hnf)
  | [a] => exact .inl ⟨a, List.mem_cons_self .., h.single i hnf a hl⟩
  | a :: b :: r =>
    obtain ⟨w1, w2⟩ := h.watch i hnf a b r hl
    have ha : a ∈ a :: b :: r := List.mem_cons_self ..
    have hb : b ∈ a :: b :: r := List.mem_cons_of_mem _ (List.mem_cons_self ..)
    rw [hl] at hnd
    have hne : a ≠ b := by
      rintro rfl
      exact (List.nodup_cons.1 hnd).1 (List.mem_cons_self ..)
    rcases val_range S.n S.es a with h1 | h1 | h1
    · exact .inl ⟨b, hb, w1 (hsee a h1)⟩
    · rcases val_range S.n S.es b with h2 | h2 | h2
      · exact .inl ⟨a, ha, w2 (hsee b h2)⟩
      · exact .inr ⟨a, ha, b, hb, hne, h1, h2⟩
      · exact .inl ⟨b, hb, h2⟩
    · exact .inl ⟨a, ha, h1⟩

/-- Propagate. -/
theorem prop_spec {S : WS} (h : WInv S) : Came S (propS S) ∧ ((propS S).2 < 0 → (propS S).1.fresh = [] ∧ ∀ i, i < S.cl.length → Settled S.n (propS S).1.es (S.cl.getD i [])) := by
  obtain ⟨k1, k2⟩ := fresh_spec S.fresh S h rfl
  unfold propS
  by_cases h0 : 0 ≤ (freshS S.fresh S).2
  · rw [if_pos h0]
    exact ⟨k1, fun h1 => absurd h0 (by omega)⟩
  · rw [if_neg h0]
    have hfr := k2 (by omega)
    have hn := k1.n
    have hcl := k1.cl
    obtain ⟨m1, m2⟩ := done_spec (S.n + 1) _ k1.inv hfr (by rw [hn]; omega)
    refine ⟨Came.trans hn hcl k1.ext m1, fun h1 => ?_⟩
    obtain ⟨p1, p2⟩ := m2 h1
    refine ⟨p1, fun i hi => ?_⟩
    have h3 := m1.inv
    have h4 := m1.n
    have h5 := m1.cl
    have h6 := settled_all h3 p1 p2 (i := i) (by rw [h5, hcl]; exact hi)
    rw [h4, h5, hn, hcl] at h6
    exact h6

/-! ### What else is done -/
theorem just_more {n : Nat} {cl : List (List Int)} (c : List Int) : ∀ {es : List En}, Just n cl es → Just n (cl ++ [c]) es
  | [], _ => trivial
  | e :: es, h => by
    refine ⟨fun h0 => ?_, just_more c h.2⟩
    obtain ⟨h1, h2, h3⟩ := h.1 h0
    have e1 : (cl ++ [c]).getD e.reason.toNat [] = cl.getD e.reason.toNat [] := by rw [getD_snoc, if_pos (by omega)]
    rw [e1]
    exact ⟨by simp; omega, h2, h3⟩
theorem just_tail {n : Nat} {cl : List (List Int)} : ∀ {xs es : List En}, Just n cl (xs ++ es) → Just n cl es
  | [], _, h => h
  | _ :: _, _, h => just_tail h.2

theorem new_inv (n : Nat) : WInv (newS n) :=
  { good := trivial
    len := rfl
    known := fun c hc => by simp [newS] at hc
    nodup := fun i => by simp [newS]
    mem := fun i x => by simp [newS]
    byN := fun x => by simp [newS]
    byI := fun x i => by simp [newS]
    freshLt := fun i hi => by simp [newS] at hi
    doneLe := Nat.le_refl _
    empty := fun i hi => by simp [newS] at hi
    single := fun i _ a ha => by simp [newS] at ha
    watch := fun i _ a b r hl => by simp [newS] at hl
    watchF := fun i a b r hl => by simp [newS] at hl
    just := trivial }

theorem rank_hi {n : Nat} {es : List En} (hg : Good n es) {x y : Int} (hr : rankE n es y ≤ rankE n es x) (hx : valE n es x = -1) : valE n es y = -1 := by
  have h1 : rankE n es x = (ofE n es ((x.natAbs : Int) - 1)).level := by unfold rankE; rw [if_neg (by omega)]
  have h2 := lev_none hg hx
  rcases val_range n es y with h | h | h
  · exact h
  all_goals
    exfalso
    have h3 : rankE n es y = (n : Int) + 1 := by unfold rankE; rw [if_pos (by omega)]
    omega

theorem add_inv {S : WS} (h : WInv S) (c : List Int) : WInv (addS S c).1 := by
  unfold addS
  by_cases hk : knownS S.n c = true
  · rw [if_pos hk]
    obtain ⟨p1, p2, p3, p4⟩ := choose_spec (rankE S.n S.es) S.cl.length (dedL c) S.by_ (ded_nodup c)
    have hcb : ∀ x, (S.by_ x).Nodup ∧ S.cl.length ∉ S.by_ x := fun x => ⟨h.byN x, fun hm => by have := ((h.byI x _).1 hm).1; omega⟩
    have p3' := p3 hcb
    generalize chooseE (rankE S.n S.es) S.cl.length (dedL c) S.by_ = p at *
    have hls := h.len
    have hg : ∀ i, (S.ls ++ [p.1]).getD i [] = if i < S.cl.length then S.ls.getD i [] else if i = S.cl.length then p.1 else [] := fun i => by rw [getD_snoc, hls]
    have hgc : ∀ i, (S.cl ++ [c]).getD i [] = if i < S.cl.length then S.cl.getD i [] else if i = S.cl.length then c else [] := fun i => getD_snoc _ _ _
    have hpm : ∀ x, x ∈ p.1 ↔ x ∈ c := fun x => by rw [p1.mem_iff, ded_mem]
    have hnf : ∀ i, i ∉ S.fresh ++ [S.cl.length] → i ∉ S.fresh ∧ i ≠ S.cl.length := fun i hi => by
      simp only [List.mem_append, List.mem_cons, List.not_mem_nil, or_false, not_or] at hi
      exact hi
    exact
      { good := h.good
        len := by show (S.ls ++ [p.1]).length = (S.cl ++ [c]).length; simp [hls]
        known := fun d hd => by
          rcases List.mem_append.1 hd with hd | hd
          · exact h.known d hd
          · simp at hd; subst hd; exact hk
        nodup := fun i => by
          show ((S.ls ++ [p.1]).getD i []).Nodup
          rw [hg]
          split
          · exact h.nodup i
          · split
            · exact p1.nodup_iff.2 (ded_nodup c)
            · simp
        mem := fun i x => by
          show x ∈ (S.ls ++ [p.1]).getD i [] ↔ x ∈ (S.cl ++ [c]).getD i []
          rw [hg, hgc]
          split
          · exact h.mem i x
          · split
            · exact hpm x
            · exact Iff.rfl
        byN := p3'
        byI := fun x i => by
          show i ∈ p.2 x ↔ i < (S.cl ++ [c]).length ∧ x ∈ ((S.ls ++ [p.1]).getD i []).take 2
          rw [p2, hg, h.byI]
          simp only [List.length_append, List.length_singleton]
          by_cases h1 : i < S.cl.length
          · rw [if_pos h1]
            constructor
            · rintro (⟨_, h2⟩ | ⟨h2, _⟩)
              · exact ⟨by omega, h2⟩
              · omega
            · rintro ⟨_, h2⟩
              exact .inl ⟨h1, h2⟩
          · rw [if_neg h1]
            by_cases h2 : i = S.cl.length
            · rw [if_pos h2]
              constructor
              · rintro (⟨h3, _⟩ | ⟨_, h3⟩)
                · omega
                · exact ⟨by omega, h3⟩
              · rintro ⟨_, h3⟩
                exact .inr ⟨h2, h3⟩
            · rw [if_neg h2]
              constructor
              · rintro (⟨h3, _⟩ | ⟨h3, _⟩) <;> omega
              · rintro ⟨h3, _⟩
                omega
        freshLt := fun i hi => by
          show i < (S.cl ++ [c]).length
          simp only [List.length_append, List.length_singleton]
          rcases List.mem_append.1 hi with hi | hi
          · have := h.freshLt i hi; omega
          · simp at hi; omega
        doneLe := h.doneLe
        empty := fun i hi hn => by
          have hi' : i < (S.cl ++ [c]).length := hi
          simp only [List.length_append, List.length_singleton] at hi'
          obtain ⟨h1, h2⟩ := hnf i hn
          show (S.ls ++ [p.1]).getD i [] ≠ []
          rw [hg, if_pos (by omega)]
          exact h.empty i (by omega) h1
        single := fun i hn a ha => by
          obtain ⟨h1, h2⟩ := hnf i hn
          have ha' : (S.ls ++ [p.1]).getD i [] = [a] := ha
          rw [hg] at ha'
          split at ha'
          · exact h.single i h1 a ha'
          · cases ha'
        watch := fun i hn a b r hl => by
          obtain ⟨h1, h2⟩ := hnf i hn
          have hl' : (S.ls ++ [p.1]).getD i [] = a :: b :: r := hl
          rw [hg] at hl'
          split at hl'
          · exact h.watch i h1 a b r hl'
          · cases hl'
        watchF := fun i a b r hl hi => by
          have hl' : (S.ls ++ [p.1]).getD i [] = a :: b :: r := hl
          rw [hg] at hl'
          split at hl'
          · next h1 =>
            rcases List.mem_append.1 hi with hi | hi
            · exact h.watchF i a b r hl' hi
            · simp at hi; omega
          · split at hl'
            · obtain ⟨q1, q2⟩ := p4 a b r hl'
              exact ⟨fun hs x hx => rank_hi h.good (q2 x hx) (seen_none h.good hs), fun hs x hx => rank_hi h.good (q1 x hx) (seen_none h.good hs)⟩
            · cases hl'
        just := just_more c h.just }
  · rw [if_neg hk]
    exact h

theorem dec_inv {S : WS} (h : WInv S) (x : Int) : WInv (decS S x).1 := by
  unfold decS
  have hg := decC_good x h.good
  unfold decC at hg ⊢
  simp only at hg ⊢
  split at hg
  · next h0 =>
    rw [if_pos h0]
    exact h.push _ hg fun h1 => absurd h1 (by show ¬ (0 : Int) ≤ -1; decide)
  · next h0 =>
    rw [if_neg h0]
    exact h

theorem mem_singles {ls : List (List Int)} {i : Nat} : i ∈ singles ls ↔ i < ls.length ∧ (ls.getD i []).length = 1 := by
  unfold singles
  rw [List.mem_filter, List.mem_range]
  simp

theorem back_inv {S : WS} (h : WInv S) (lv : Int) : WInv (backS S lv).1 := by
  unfold backS
  by_cases h0 : (backC S.es lv).1 = 0
  · rw [if_pos h0]
    have hg := backC_good lv h.good
    have he : (backC S.es lv).2 = popE lv S.es := by
      unfold backC at h0 ⊢
      split at h0
      · cases h0
      · next h1 => rw [if_neg h1]
    have hj := h.just
    rw [← cut_pop lv S.es] at hj
    have hj2 := just_tail hj
    rw [he] at hg ⊢
    have hs0 : ∀ x, ¬ seenE (popE lv S.es) 0 x := fun x hx => by simp [seenE] at hx
    have hls := h.len
    exact { h with
      good := hg
      freshLt := fun i hi => by
        rcases List.mem_append.1 hi with hi | hi
        · exact h.freshLt i hi
        · have := (mem_singles.1 hi).1
          rw [hls] at this
          exact this
      doneLe := Nat.zero_le _
      empty := fun i hi hn => h.empty i hi fun hm => hn (List.mem_append_left _ hm)
      single := fun i hn a ha => by
        have ha' : S.ls.getD i [] = [a] := ha
        have hil : i < S.ls.length := by
          rcases Nat.lt_or_ge i S.ls.length with h1 | h1
          · exact h1
          · rw [List.getD_eq_getElem?_getD, List.getElem?_eq_none h1] at ha'
            simp at ha'
        exact absurd (List.mem_append_right _ (mem_singles.2 ⟨hil, by rw [ha']; rfl⟩)) hn
      watch := fun i hn a b r hl => ⟨fun hs => absurd hs (hs0 a), fun hs => absurd hs (hs0 b)⟩
      watchF := fun i a b r hl hi => ⟨fun hs => absurd hs (hs0 b), fun hs => absurd hs (hs0 a)⟩
      just := hj2 }
  · rw [if_neg h0]
    exact h

end Go.Proofs.Ythinopiobihmaaa

namespace Go.Proofs.Ythinopiobihmaaa
set_option maxRecDepth 100000

theorem val_cons (n : Nat) (e : En) (es : List En) (y : Int) : valE n (e :: es) y = if 1 ≤ y.natAbs ∧ y.natAbs ≤ n ∧ e.lit.natAbs = y.natAbs then (if e.lit = y then 1 else -1) else valE n es y := by
  unfold valE
  by_cases h : 1 ≤ y.natAbs ∧ y.natAbs ≤ n
  · rw [if_pos h]
    simp only [look]
    by_cases h2 : e.lit.natAbs = y.natAbs
    · rw [if_pos (by omega), if_pos ⟨h.1, h.2, h2⟩]
    · rw [if_neg (by omega), if_neg (fun hh => h2 hh.2.2), if_pos h]
  · rw [if_neg h, if_neg (fun hh => h ⟨hh.1, hh.2.1⟩), if_neg h]
theorem val_new {n : Nat} {e : En} {es : List En} {y : Int} (h : valE n (e :: es) y = 1) (h0 : valE n es y ≠ 1) : y = e.lit := by
  rw [val_cons] at h
  split at h
  · split at h
    · next h2 => exact h2.symm
    · cases h
  · exact absurd h h0
theorem openC_val (n : Nat) (es : List En) (x : Int) : openC n es x = if 1 ≤ x.natAbs ∧ x.natAbs ≤ n then (if valE n es x = 0 then 0 else 7) else 1 := by
  unfold openC valE
  by_cases h : 1 ≤ x.natAbs ∧ x.natAbs ≤ n
  · rw [if_pos h, if_pos h, if_pos h]
    cases look es (x.natAbs - 1) with
    | none => rfl
    | some e =>
      simp only [Option.isSome_some, if_true]
      split <;> rfl
  · rw [if_neg h, if_neg h]
theorem val_same {n : Nat} {a b : List En} (ga : Good n a) (gb : Good n b) (h : ∀ x, valE n a x = 1 ↔ valE n b x = 1) (x : Int) : valE n a x = valE n b x := by
  have h1 := h x
  have h2 := h (-x)
  rw [val_neg ga, val_neg gb] at h2
  rcases val_range n a x with h3 | h3 | h3 <;> rcases val_range n b x with h4 | h4 | h4 <;> rw [h3, h4] at h1 h2 ⊢ <;> simp at h1 h2

/-- The same clauses, in whatever row. -/
def Like (a b : List (List Int)) : Prop := ∀ i, i < a.length → ∃ j, j < b.length ∧ ∀ x, x ∈ a.getD i [] ↔ x ∈ b.getD j []
theorem Like.refl (a : List (List Int)) : Like a a := fun i hi => ⟨i, hi, fun _ => Iff.rfl⟩

theorem not_settled {n : Nat} {es b : List En} {c c' : List Int} {x : Int} (hg : Good n es) (gb : Good n b) (hv : ∀ y, valE n es y = 1 → valE n b y = 1) (hc : ∀ y, y ∈ c ↔ y ∈ c') (hx : ∀ y ∈ c, y ≠ x → valE n es y = -1) (hs : Settled n b c') : x ∈ c ∧ valE n b x = 1 := by
  have hneg : ∀ y, valE n es y = -1 → valE n b y = -1 := fun y hy => by
    have h1 := hv (-y) (by rw [val_neg hg, hy]; rfl)
    rw [val_neg gb] at h1
    omega
  rcases hs with ⟨y, hy, h1⟩ | ⟨y, hy, z, hz, hne, h1, h2⟩
  · have hyc := (hc y).2 hy
    by_cases hyx : y = x
    · subst hyx; exact ⟨hyc, h1⟩
    · have := hneg y (hx y hyc hyx); omega
  · exfalso
    by_cases hyx : y = x
    · have := hneg z (hx z ((hc z).2 hz) (fun e => hne (hyx.trans e.symm))); omega
    · have := hneg y (hx y ((hc y).2 hy) hyx); omega

theorem ext_in {n : Nat} {cl cl' : List (List Int)} {a a' b : List En} (hex : Ext n cl a a') (hk : ∀ c ∈ cl, knownS n c = true) (ga : Good n a) (gb : Good n b) (hv : ∀ x, valE n a x = 1 → valE n b x = 1) (hl : Like cl cl') (hs : ∀ j, j < cl'.length → Settled n b (cl'.getD j [])) :
    ∀ x, valE n a' x = 1 → valE n b x = 1 := by
  induction hex with
  | refl => exact hv
  | @step es1 e h0 h1 h2 h3 h4 h5 h6 ih =>
    intro x hx
    by_cases hx0 : valE n es1 x = 1
    · exact ih x hx0
    · obtain rfl := val_new hx hx0
      obtain ⟨j, hj, hm⟩ := hl e.reason.toNat (by omega)
      exact (not_settled (h0.good hk ga) gb ih hm h6 (hs j hj)).2

structure Twin (Sa Sb : WS) : Prop where
  n : Sb.n = Sa.n
  val : ∀ x, valE Sa.n Sa.es x = valE Sa.n Sb.es x
  ab : Like Sa.cl Sb.cl
  ba : Like Sb.cl Sa.cl
theorem Twin.symm {Sa Sb : WS} (h : Twin Sa Sb) : Twin Sb Sa := ⟨h.n.symm, fun x => by rw [h.n]; exact (h.val x).symm, h.ba, h.ab⟩

theorem prop_half {Sa Sb : WS} (h : Twin Sa Sb) (ha : WInv Sa) (hb : WInv Sb) (hc : (propS Sb).2 < 0) : (propS Sa).2 < 0 ∧ ∀ x, valE Sa.n (propS Sa).1.es x = 1 → valE Sa.n (propS Sb).1.es x = 1 := by
  obtain ⟨ka, _⟩ := prop_spec ha
  obtain ⟨kb, sb⟩ := prop_spec hb
  have hs := (sb hc).2
  have gb := kb.inv.good
  have ga' := ka.inv.good
  have hkb := hb.known
  rw [kb.n, h.n] at gb
  rw [ka.n] at ga'
  rw [h.n] at hs
  have hin : ∀ x, valE Sa.n (propS Sa).1.es x = 1 → valE Sa.n (propS Sb).1.es x = 1 := ext_in ka.ext ha.known ha.good gb (fun x hx => by
    rw [h.val x] at hx
    have hg := hb.good
    have he := kb.ext
    rw [h.n] at hg he hkb
    rw [he.keeps hkb hg (by rw [hx]; decide), hx]) h.ab hs
  refine ⟨?_, hin⟩
  by_cases h0 : (propS Sa).2 < 0
  · exact h0
  · exfalso
    obtain ⟨c1, c2⟩ := ka.conf (by omega)
    obtain ⟨j, hj, hm⟩ := h.ab (propS Sa).2.toNat (by omega)
    have h0c : ∀ y ∈ Sa.cl.getD (propS Sa).2.toNat [], y ≠ 0 → valE Sa.n (propS Sa).1.es y = -1 := fun y hy _ => c2 y hy
    obtain ⟨q1, q2⟩ := not_settled (x := 0) ga' gb hin hm h0c (hs j hj)
    unfold valE at q2
    simp at q2

theorem prop_twin {Sa Sb : WS} (h : Twin Sa Sb) (ha : WInv Sa) (hb : WInv Sb) : ((propS Sa).2 < 0 ↔ (propS Sb).2 < 0) ∧ ((propS Sa).2 < 0 → Twin (propS Sa).1 (propS Sb).1) := by
  have h1 := prop_half h ha hb
  have h2 := prop_half h.symm hb ha
  have hiff : (propS Sa).2 < 0 ↔ (propS Sb).2 < 0 := ⟨fun hc => (h2 hc).1, fun hc => (h1 hc).1⟩
  refine ⟨hiff, fun hc => ?_⟩
  obtain ⟨ka, _⟩ := prop_spec ha
  obtain ⟨kb, _⟩ := prop_spec hb
  have ga := ka.inv.good
  have gb := kb.inv.good
  rw [ka.n] at ga
  rw [kb.n, h.n] at gb
  have hb' := (h1 (hiff.1 hc)).2
  have ha' := (h2 hc).2
  rw [h.n] at ha'
  exact ⟨by rw [kb.n, ka.n, h.n], fun x => by rw [ka.n]; exact val_same ga gb (fun y => ⟨hb' y, ha' y⟩) x, by rw [ka.cl, kb.cl]; exact h.ab, by rw [ka.cl, kb.cl]; exact h.ba⟩

theorem dec_twin {Sa Sb : WS} (h : Twin Sa Sb) (x : Int) : (decS Sa x).2 = (decS Sb x).2 ∧ Twin (decS Sa x).1 (decS Sb x).1 := by
  have ho : openC Sa.n Sa.es x = openC Sa.n Sb.es x := by rw [openC_val, openC_val, h.val x]
  unfold decS decC
  rw [h.n]
  refine ⟨ho, h.n, fun y => ?_, h.ab, h.ba⟩
  show valE Sa.n _ y = valE Sa.n _ y
  simp only
  rw [← ho]
  split
  · rw [val_cons, val_cons, h.val y]
  · exact h.val y

/-! ### What Back to level 0 leaves -/
theorem ext_root {n : Nat} {cl : List (List Int)} {a a' es0 : List En} (hex : Ext n cl a a') (hk : ∀ c ∈ cl, knownS n c = true) (ga : Good n a) (hp : popE 0 a = es0) (hs : ∀ j, j < cl.length → Settled n es0 (cl.getD j [])) : popE 0 a' = es0 := by
  induction hex with
  | refl => exact hp
  | step e h0 h1 h2 h3 h4 h5 h6 ih =>
    have hg := h0.good hk ga
    have hnn := hi_nonneg hg
    simp only [popE]
    by_cases hl : 0 < e.level
    · rw [if_pos hl]; exact ih
    · exfalso
      have e1 := pop_eq 0 hg (by omega)
      have e2 := ih
      rw [e1] at e2
      rw [e2] at h5 h6 hg
      have := (not_settled hg hg (fun _ h => h) (fun _ => Iff.rfl) h6 (hs e.reason.toNat (by omega))).2
      omega
theorem dec_root {S : WS} {es0 : List En} (hg : Good S.n S.es) (x : Int) (hp : popE 0 S.es = es0) : popE 0 (decS S x).1.es = es0 := by
  have hnn := hi_nonneg hg
  unfold decS decC
  show popE 0 (if openC S.n S.es x = 0 then _ else S.es) = es0
  split
  · simp only [popE]
    rw [if_pos (by omega)]
    exact hp
  · exact hp
theorem prop_root {S : WS} {es0 : List En} (hI : WInv S) (hp : popE 0 S.es = es0) (hs : ∀ j, j < S.cl.length → Settled S.n es0 (S.cl.getD j [])) : popE 0 (propS S).1.es = es0 :=
  ext_root (prop_spec hI).1.ext hI.known hI.good hp hs
theorem back_root {S : WS} {es0 : List En} (hg : Good S.n S.es) (hp : popE 0 S.es = es0) : (backS S 0).2 = 0 ∧ (backS S 0).1.es = es0 ∧ (backS S 0).1.n = S.n ∧ (backS S 0).1.cl = S.cl := by
  have hnn := hi_nonneg hg
  have e : backC S.es 0 = (0, popE 0 S.es) := by
    unfold backC
    rw [if_neg (by omega)]
  unfold backS
  rw [e, if_pos rfl]
  exact ⟨rfl, hp, rfl, rfl⟩

end Go.Proofs.Ythinopiobihmaaa
