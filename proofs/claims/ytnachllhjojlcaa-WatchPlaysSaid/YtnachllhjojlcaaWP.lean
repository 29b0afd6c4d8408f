/- Watchers as data, in plain Lean with no program in sight: what is added, looked at, moved; what holds behind. -/
import Derived.Test.YtnachllhjojlcaaT13
namespace Go.Proofs.Ytnachllhjojlcaa
set_option maxRecDepth 100000

/-! ### Values -/
theorem val_range (n : Nat) (es : List En) (x : Int) : valE n es x = -1 ∨ valE n es x = 0 ∨ valE n es x = 1 := by
  unfold valE
  split
  · split
    · exact .inr (.inl rfl)
    · split
      · exact .inr (.inr rfl)
      · exact .inl rfl
  · exact .inr (.inl rfl)

theorem val_of {n : Nat} {es : List En} (hg : Good n es) {e : En} (he : e ∈ es) : valE n es e.lit = 1 ∧ valE n es (-e.lit) = -1 := by
  have h1 := hg.lit e he
  have h2 := look_mem hg e he
  unfold Lit at h1
  have e1 : (-e.lit).natAbs = e.lit.natAbs := by omega
  unfold valE
  rw [e1, if_pos h1, if_pos h1, h2]
  exact ⟨by simp, by simp; omega⟩

theorem val_true {n : Nat} {es : List En} {x : Int} (h : valE n es x = 1) : ∃ e ∈ es, e.lit = x := by
  unfold valE at h
  split at h
  · split at h
    · cases h
    · next e hl =>
      split at h
      · next he => exact ⟨e, (look_some hl).1, he⟩
      · cases h
  · cases h
theorem val_none {n : Nat} {es : List En} {x : Int} (h : valE n es x = -1) : ∃ e ∈ es, e.lit = -x := by
  unfold valE at h
  split at h
  · split at h
    · cases h
    · next e hl =>
      split at h
      · cases h
      · next he =>
        have := (look_some hl).2
        exact ⟨e, (look_some hl).1, by omega⟩
  · cases h
theorem val_neg {n : Nat} {es : List En} (hg : Good n es) (x : Int) : valE n es (-x) = - valE n es x := by
  rcases val_range n es x with h | h | h
  · obtain ⟨e, he, h1⟩ := val_none h
    rw [h, ← h1]
    exact (val_of hg he).1
  · rcases val_range n es (-x) with h2 | h2 | h2
    · obtain ⟨e, he, h1⟩ := val_none h2
      have h3 := (val_of hg he).1
      rw [show e.lit = x by omega] at h3
      rw [h] at h3
      cases h3
    · rw [h, h2]; rfl
    · obtain ⟨e, he, h1⟩ := val_true h2
      have h3 := (val_of hg he).2
      rw [h1, Int.neg_neg, h] at h3
      cases h3
  · obtain ⟨e, he, h1⟩ := val_true h
    rw [h, ← h1]
    exact (val_of hg he).2
theorem val_lit {n : Nat} {es : List En} {x : Int} (h : valE n es x ≠ 0) : 1 ≤ x.natAbs ∧ x.natAbs ≤ n := by
  unfold valE at h
  split at h
  · assumption
  · exact absurd rfl h

/-- What has a value keeps it. -/
theorem val_push {n : Nat} {es : List En} {e : En} (hg : Good n (e :: es)) (x : Int) (h : valE n es x ≠ 0) : valE n (e :: es) x = valE n es x := by
  have hg' := hg.2.2.2
  rcases val_range n es x with h1 | h1 | h1
  · obtain ⟨a, ha, h2⟩ := val_none h1
    have := (val_of hg (List.mem_cons_of_mem _ ha)).2
    rw [h1, ← this, h2, Int.neg_neg]
  · exact absurd h1 h
  · obtain ⟨a, ha, h2⟩ := val_true h1
    have := (val_of hg (List.mem_cons_of_mem _ ha)).1
    rw [h1, ← this, h2]

theorem lev_none {n : Nat} {es : List En} (hg : Good n es) {x : Int} (h : valE n es x = -1) : (ofE n es ((x.natAbs : Int) - 1)).level ≤ n := by
  have h1 := val_lit (n := n) (es := es) (x := x) (by omega)
  unfold ofE
  rw [if_neg (by omega)]
  have e1 : ((x.natAbs : Int) - 1).toNat = x.natAbs - 1 := by omega
  rw [e1]
  obtain ⟨e, he, h2⟩ := val_none h
  have h3 := look_mem hg e he
  have e2 : e.lit.natAbs = x.natAbs := by omega
  rw [e2] at h3
  rw [h3]
  have h4 := level_le hg e he
  have h5 := hi_le_len hg
  have h6 := hg.len_le
  simp only [knE]
  omega

/-! ### The model -/
structure WS where
  n : Nat
  es : List En
  cl : List (List Int)
  ls : List (List Int)
  by_ : Int → List Nat
  done : Nat
  fresh : List Nat

abbrev WS.wEs (S : WS) (x : List En) : WS := ⟨S.n, x, S.cl, S.ls, S.by_, S.done, S.fresh⟩
abbrev WS.wLs (S : WS) (x : List (List Int)) : WS := ⟨S.n, S.es, S.cl, x, S.by_, S.done, S.fresh⟩
abbrev WS.wBy (S : WS) (x : Int → List Nat) : WS := ⟨S.n, S.es, S.cl, S.ls, x, S.done, S.fresh⟩
abbrev WS.wDone (S : WS) (x : Nat) : WS := ⟨S.n, S.es, S.cl, S.ls, S.by_, x, S.fresh⟩
abbrev WS.wFresh (S : WS) (x : List Nat) : WS := ⟨S.n, S.es, S.cl, S.ls, S.by_, S.done, x⟩

def updF (f : Int → List Nat) (x : Int) (v : List Nat) : Int → List Nat := fun y => if y = x then v else f y
def swapL (l : List Int) (i k : Nat) : List Int := (l.set i (l.getD k 0)).set k (l.getD i 0)
def rankE (n : Nat) (es : List En) (x : Int) : Int := if 0 ≤ valE n es x then (n : Int) + 1 else (ofE n es ((x.natAbs : Int) - 1)).level
def innerC (r : Int → Int) (i : Nat) (l : List Int) (ks : List Nat) : List Int := ks.foldl (fun l k => if r (l.getD i 0) < r (l.getD k 0) then swapL l i k else l) l
def bestC (r : Int → Int) (l : List Int) (i : Nat) : List Int := innerC r i l (List.range' (i + 1) (l.length - (i + 1)))
def chStep (r : Int → Int) (c : Nat) (s : List Int × (Int → List Nat)) (i : Nat) : List Int × (Int → List Nat) :=
  (bestC r s.1 i, updF s.2 ((bestC r s.1 i).getD i 0) (s.2 ((bestC r s.1 i).getD i 0) ++ [c]))
def chooseE (r : Int → Int) (c : Nat) (l : List Int) (b : Int → List Nat) : List Int × (Int → List Nat) := (List.range (min 2 l.length)).foldl (chStep r c) (l, b)

def knownS (n : Nat) (c : List Int) : Bool := c.all fun x => decide (1 ≤ x.natAbs ∧ x.natAbs ≤ n)
def dedL (l : List Int) : List Int := l.foldl (fun a x => if a.any (fun y => y == x) then a else a ++ [x]) []
def addS (S : WS) (c : List Int) : WS × Int × Int :=
  if knownS S.n c = true then
    ({ S with cl := S.cl ++ [c], ls := S.ls ++ [(chooseE (rankE S.n S.es) S.cl.length (dedL c) S.by_).1], by_ := (chooseE (rankE S.n S.es) S.cl.length (dedL c) S.by_).2, fresh := S.fresh ++ [S.cl.length] }, S.cl.length, 0)
  else (S, 0, 1)
def decS (S : WS) (x : Int) : WS × Int := (S.wEs (decC S.n S.es x).2, (decC S.n S.es x).1)
def singles (ls : List (List Int)) : List Nat := (List.range ls.length).filter fun i => (ls.getD i []).length == 1
def backS (S : WS) (lv : Int) : WS × Int :=
  if (backC S.es lv).1 = 0 then ({ S with es := (backC S.es lv).2, done := 0, fresh := S.fresh ++ singles S.ls }, 0) else (S, (backC S.es lv).1)
def openL (n : Nat) (es : List En) (l : List Int) : List Int := l.filter fun x => valE n es x == 0
def lookS (S : WS) (c : Nat) : WS × Bool :=
  if (S.ls.getD c []).any (fun x => valE S.n S.es x == 1) = true then (S, false)
  else match openL S.n S.es (S.ls.getD c []) with
    | [] => (S, true)
    | [x] => (S.wEs (asnC S.n S.es x c).2, false)
    | _ => (S, false)
def firstAt (f : Int → Bool) : List Int → Nat → Int
  | [], _ => -1
  | x :: l, k => if f x = true then k else firstAt f l (k + 1)
def mvSwap (x0 : Int) (l : List Int) : List Int := if l.getD 0 0 = x0 ∧ 1 < l.length then swapL l 0 1 else l
def mvAt (n : Nat) (es : List En) (l : List Int) : Int := if 1 < l.length ∧ valE n es (l.getD 0 0) ≠ 1 then firstAt (fun x => decide (0 ≤ valE n es x)) (l.drop 2) 0 else -1
def mvStep (x0 : Int) (S : WS) (left rest : List Nat) (c : Nat) : WS × List Nat × Bool :=
  if 0 ≤ mvAt S.n S.es (mvSwap x0 (S.ls.getD c [])) then
    ((S.wLs (S.ls.set c (swapL (mvSwap x0 (S.ls.getD c [])) 1 (2 + (mvAt S.n S.es (mvSwap x0 (S.ls.getD c []))).toNat)))).wBy
              (updF S.by_ ((swapL (mvSwap x0 (S.ls.getD c [])) 1 (2 + (mvAt S.n S.es (mvSwap x0 (S.ls.getD c []))).toNat)).getD 1 0)
                (S.by_ ((swapL (mvSwap x0 (S.ls.getD c [])) 1 (2 + (mvAt S.n S.es (mvSwap x0 (S.ls.getD c []))).toNat)).getD 1 0) ++ [c])), left, false)
  else
    ((if (lookS (S.wLs (S.ls.set c (mvSwap x0 (S.ls.getD c [])))) c).2 = true then
        (lookS (S.wLs (S.ls.set c (mvSwap x0 (S.ls.getD c [])))) c).1.wBy (updF S.by_ x0 (left ++ [c] ++ rest))
      else (lookS (S.wLs (S.ls.set c (mvSwap x0 (S.ls.getD c [])))) c).1), left ++ [c], (lookS (S.wLs (S.ls.set c (mvSwap x0 (S.ls.getD c [])))) c).2)
def movesS (x0 : Int) : List Nat → WS → List Nat → WS × Int
  | [], S, left => (S.wBy (updF S.by_ x0 left), -1)
  | c :: rest, S, left => if (mvStep x0 S left rest c).2.2 = true then ((mvStep x0 S left rest c).1, c) else movesS x0 rest (mvStep x0 S left rest c).1 (mvStep x0 S left rest c).2.1
def freshS : List Nat → WS → WS × Int
  | [], S => (S, -1)
  | c :: rest, S => if (lookS S c).2 = true then ((lookS S c).1, c) else freshS rest ((lookS S c).1.wFresh rest)
def headS (S : WS) : Int := -(S.es.map (·.lit)).reverse.getD S.done 0
def doneS : Nat → WS → WS × Int
  | 0, S => (S, -1)
  | k + 1, S =>
    if S.done < S.es.length then
      if 0 ≤ (movesS (headS S) (S.by_ (headS S)) S []).2 then movesS (headS S) (S.by_ (headS S)) S []
      else doneS k ((movesS (headS S) (S.by_ (headS S)) S []).1.wDone ((movesS (headS S) (S.by_ (headS S)) S []).1.done + 1))
    else (S, -1)
def propS (S : WS) : WS × Int := if 0 ≤ (freshS S.fresh S).2 then freshS S.fresh S else doneS (S.n + 1) (freshS S.fresh S).1
def newS (n : Nat) : WS := ⟨n, [], [], [], fun _ => [], 0, []⟩

/-! ### What holds -/
def seenE (es : List En) (d : Nat) (x : Int) : Prop := -x ∈ ((es.map (·.lit)).reverse).take d
/-- Each literal that was assigned follows by its reason's clause. -/
def Just (n : Nat) (cl : List (List Int)) : List En → Prop
  | [] => True
  | e :: es => (0 ≤ e.reason → e.reason < cl.length ∧ e.lit ∈ cl.getD e.reason.toNat [] ∧ ∀ x ∈ cl.getD e.reason.toNat [], x ≠ e.lit → valE n es x = -1) ∧ Just n cl es

theorem seen_none {n : Nat} {es : List En} (hg : Good n es) {d : Nat} {x : Int} (h : seenE es d x) : valE n es x = -1 := by
  have h1 := List.mem_of_mem_take h
  simp only [List.mem_reverse, List.mem_map] at h1
  obtain ⟨e, he, h2⟩ := h1
  have := (val_of hg he).2
  rwa [h2, Int.neg_neg] at this
theorem seen_push {es : List En} {e : En} {d : Nat} {x : Int} (hd : d ≤ es.length) : seenE (e :: es) d x ↔ seenE es d x := by
  unfold seenE
  simp only [List.map_cons, List.reverse_cons]
  rw [List.take_append_of_le_length (by simpa using hd)]
theorem seen_all {n : Nat} {es : List En} {x : Int} (h : valE n es x = -1) : seenE es es.length x := by
  obtain ⟨e, he, h1⟩ := val_none h
  unfold seenE
  rw [List.take_of_length_le (by simp), List.mem_reverse, ← h1]
  exact List.mem_map_of_mem he
theorem seen_succ {es : List En} {d : Nat} {x : Int} (hd : d < es.length) : seenE es (d + 1) x ↔ seenE es d x ∨ x = -((es.map (·.lit)).reverse).getD d 0 := by
  unfold seenE
  have hl : d < ((es.map (·.lit)).reverse).length := by simpa using hd
  rw [List.take_succ_eq_append_getElem hl, List.mem_append, List.mem_singleton, List.getD_eq_getElem?_getD, List.getElem?_eq_getElem hl]
  simp only [Option.getD_some]
  constructor
  · rintro (h | h)
    · exact .inl h
    · exact .inr (by omega)
  · rintro (h | h)
    · exact .inl h
    · exact .inr (by omega)

structure WInv (S : WS) : Prop where
  good : Good S.n S.es
  len : S.ls.length = S.cl.length
  known : ∀ c ∈ S.cl, knownS S.n c = true
  nodup : ∀ i, (S.ls.getD i []).Nodup
  mem : ∀ i x, x ∈ S.ls.getD i [] ↔ x ∈ S.cl.getD i []
  byN : ∀ x, (S.by_ x).Nodup
  byI : ∀ x i, i ∈ S.by_ x ↔ i < S.cl.length ∧ x ∈ (S.ls.getD i []).take 2
  freshLt : ∀ i ∈ S.fresh, i < S.cl.length
  doneLe : S.done ≤ S.es.length
  empty : ∀ i, i < S.cl.length → i ∉ S.fresh → S.ls.getD i [] ≠ []
  single : ∀ i, i ∉ S.fresh → ∀ a, S.ls.getD i [] = [a] → valE S.n S.es a = 1
  watch : ∀ i, i ∉ S.fresh → ∀ a b r, S.ls.getD i [] = a :: b :: r → (seenE S.es S.done a → valE S.n S.es b = 1) ∧ (seenE S.es S.done b → valE S.n S.es a = 1)
  watchF : ∀ i a b r, S.ls.getD i [] = a :: b :: r → i ∈ S.fresh → (seenE S.es S.done b → ∀ x ∈ r, valE S.n S.es x = -1) ∧ (seenE S.es S.done a → ∀ x ∈ b :: r, valE S.n S.es x = -1)
  just : Just S.n S.cl S.es

/-- Satisfied, or two of its literals, unlike ones, are open. -/
def Settled (n : Nat) (es : List En) (c : List Int) : Prop := (∃ x ∈ c, valE n es x = 1) ∨ ∃ x ∈ c, ∃ y ∈ c, x ≠ y ∧ valE n es x = 0 ∧ valE n es y = 0
def FalseC (n : Nat) (es : List En) (c : List Int) : Prop := ∀ x ∈ c, valE n es x = -1

/-- What follows, one behind the other. -/
inductive Ext (n : Nat) (cl : List (List Int)) (es : List En) : List En → Prop
  | refl : Ext n cl es es
  | step {es' : List En} (e : En) : Ext n cl es es' → 0 ≤ e.reason → e.reason < cl.length → e.level = hi es' → e.lit ∈ cl.getD e.reason.toNat [] → valE n es' e.lit = 0 → (∀ x ∈ cl.getD e.reason.toNat [], x ≠ e.lit → valE n es' x = -1) → Ext n cl es (e :: es')

end Go.Proofs.Ytnachllhjojlcaa
