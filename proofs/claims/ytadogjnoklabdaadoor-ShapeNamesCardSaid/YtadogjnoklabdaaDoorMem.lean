/- Memory of a call's own, stated once for whatever program: blocks known whole, slices with a block of their own at whatever offset, what an append does to them, what stays. Conditions: as each theorem names them. -/
import Derived.WalkKit
import Derived.ProofKit
import Derived.OpenShut
import Derived.WalkLawsBesides
import Derived.WalkSpells
import Derived.Lib.Hide
import Derived.Outline
import Derived.Deep.AppendSrc
import Derived.Deep.Draws
import Derived.Deep.MidRow
import Derived.Laws.Tables
import Derived.Laws.Rows
import Derived.Laws.IdiomCopy
import Derived.Laws.IdiomStrings
import Derived.Deep.Upon
namespace Go.Proofs.YtadogjnoklabdaaDoor
open Go.ChangeShapes Go.WideShapes Go.ChangeAt Go.RowKit

/-! ### 1. Below -/
theorem bel_trans {a b c : World} (h : Below a.heap.size a b) (k : Below b.heap.size b c) : Below a.heap.size a c := h.trans (k.mono h.size)
theorem bel_new {B : Nat} {a b c : World} (h : Below B a b) (hB : B ≤ b.heap.size) (k : Below b.heap.size b c) : Below B a c := h.trans (k.mono hB)
theorem bel_setRow {B : Nat} {a w : World} (h : Below B a w) {g : Nat} (hg : B ≤ g) (cs : Array Value) : Below B a (w.setRow g cs) :=
  h.trans ⟨rfl, rfl, rfl, by simp, fun k hk => setRow_other w g k cs (by omega)⟩
theorem bel_drewN {B : Nat} {a w : World} (h : Below B a w) (n : Nat) : Below B a (w.drewN n) := ⟨h.os, h.tape, h.output, h.size, h.block⟩

/-! ### 2. What may have turned: the blocks of F, and what is new -/
structure Touch (F : Nat → Prop) (w w' : World) : Prop where
  os : w'.os = w.os
  tape : w'.tape = w.tape
  output : w'.output = w.output
  size : w.heap.size ≤ w'.heap.size
  block : ∀ k, k < w.heap.size → ¬ F k → w'.heap[k]? = w.heap[k]?

section
variable {F G : Nat → Prop} {a b c w w' : World}
theorem Touch.refl (F : Nat → Prop) (w : World) : Touch F w w := ⟨rfl, rfl, rfl, Nat.le_refl _, fun _ _ _ => rfl⟩
theorem Touch.trans (h : Touch F a b) (k : Touch G b c) (hG : ∀ x, x < a.heap.size → G x → F x) : Touch F a c :=
  ⟨k.os.trans h.os, k.tape.trans h.tape, k.output.trans h.output, Nat.le_trans h.size k.size,
    fun x hx hF => (k.block x (Nat.lt_of_lt_of_le hx h.size) fun g => hF (hG x hx g)).trans (h.block x hx hF)⟩
theorem Touch.mono (h : Touch F a b) (hG : ∀ x, x < a.heap.size → F x → G x) : Touch G a b :=
  ⟨h.os, h.tape, h.output, h.size, fun x hx hg => h.block x hx fun f => hg (hG x hx f)⟩
theorem Touch.below {B : Nat} (h : Touch F a b) (hB : B ≤ a.heap.size) (hF : ∀ x, x < B → ¬ F x) : Below B a b :=
  ⟨h.os, h.tape, h.output, h.size, fun k hk => h.block k (by omega) (hF k hk)⟩
theorem Touch.of_below (h : Below a.heap.size a b) (F : Nat → Prop) : Touch F a b := ⟨h.os, h.tape, h.output, h.size, fun k hk _ => h.block k hk⟩
theorem Touch.of_grown {row : Option Nat} (h : a.grownBy b row) (hF : ∀ k, row = some k → F k) : Touch F a b :=
  ⟨h.os, h.tape, h.output, h.size, fun k hk hf => h.block k hk fun e => hf (hF k e.symm)⟩
theorem Touch.drew (h : Touch F a w) : Touch F a w.drew := ⟨h.os, h.tape, h.output, h.size, h.block⟩
theorem Touch.drewN (h : Touch F a w) (n : Nat) : Touch F a (w.drewN n) := ⟨h.os, h.tape, h.output, h.size, h.block⟩
theorem Touch.alloc (h : Touch F a w) (o : Obj) : Touch F a (w.alloc o) :=
  h.trans (G := fun _ => False) ⟨rfl, rfl, rfl, by simp, fun k hk _ => Below.heap_alloc _ _ _ hk⟩ fun _ _ f => f.elim
theorem Touch.setCell (h : Touch F a w) {p : Addr} (hp : p.block < a.heap.size → F p.block) (u : Value) : Touch F a (w.setCell p u) :=
  h.trans (G := fun k => k = p.block) ⟨rfl, rfl, rfl, by simp [World.setCell], fun k _ hk => Below.heap_setCell _ _ _ _ hk⟩ fun x hx e => e ▸ hp (e ▸ hx)
theorem Touch.setRow (h : Touch F a w) {g : Nat} (hg : g < a.heap.size → F g) (cs : Array Value) : Touch F a (w.setRow g cs) :=
  h.trans (G := fun k => k = g) ⟨rfl, rfl, rfl, by simp, fun k _ hk => setRow_other w g k cs hk⟩ fun x hx e => e ▸ hg (e ▸ hx)
theorem Touch.cell (h : Touch F a b) {p : Addr} (hp : p.block < a.heap.size) (hF : ¬ F p.block) : b.cell? p = a.cell? p := World.cell?_of_block (w := a) (h.block p.block hp hF)
theorem Touch.frozen (h : Touch F a b) {p : Addr} (hp : p.block < a.heap.size) (hF : ¬ F p.block) : b.frozen? p = a.frozen? p := World.frozen?_of_block (w := a) (h.block p.block hp hF)
end

/-! ### 3. A block that is known whole -/
def Blk (w : World) (g : Nat) (t : TypeId) (cs : Array Value) : Prop := w.heap[g]? = some (.cells cs t (0, 0))

section
variable {w w' : World} {g : Nat} {t : TypeId} {cs : Array Value}
theorem Blk.lt (h : Blk w g t cs) : g < w.heap.size := by
  rcases Nat.lt_or_ge g w.heap.size with hlt | hge
  · exact hlt
  · unfold Blk at h; rw [Array.getElem?_eq_none hge] at h; cases h
theorem Blk.cell (h : Blk w g t cs) (i : Nat) : w.cell? ⟨g, i, none⟩ = cs[i]? := cell_of_row w g i cs t (0, 0) h
theorem Blk.frozen (h : Blk w g t cs) (i : Nat) : w.frozen? ⟨g, i, none⟩ = false := by
  unfold Blk at h
  simp [World.frozen?, h]
theorem Blk.new (w : World) (t : TypeId) (cs : Array Value) : Blk (w.alloc (.cells cs t)) w.heap.size t cs := heap_alloc_new w _
theorem Blk.drew (h : Blk w g t cs) : Blk w.drew g t cs := h
theorem Blk.drewN (h : Blk w g t cs) (n : Nat) : Blk (w.drewN n) g t cs := h
theorem Blk.alloc (h : Blk w g t cs) (o : Obj) : Blk (w.alloc o) g t cs := (Below.heap_alloc w o g h.lt).trans h
theorem Blk.set_ (h : Blk w g t cs) (i : Nat) (u : Value) : Blk (w.setCell ⟨g, i, none⟩ u) g t (cs.setIfInBounds i u) := by
  unfold Blk at h ⊢
  simp [World.setCell, Array.getElem?_modify, h]
theorem Blk.row (h : Blk w g t cs) (cs' : Array Value) : Blk (w.setRow g cs') g t cs' := setRow_heap w g cs _ t _ h
theorem Blk.far (h : Blk w g t cs) {p : Addr} (hp : g ≠ p.block) (u : Value) : Blk (w.setCell p u) g t cs := (Below.heap_setCell w p u g hp).trans h
theorem Blk.keep (h : Blk w g t cs) (hb : w'.heap[g]? = w.heap[g]?) : Blk w' g t cs := hb.trans h
theorem Blk.below {B : Nat} (h : Blk w g t cs) (hb : Below B w w') (hg : g < B) : Blk w' g t cs := (hb.block g hg).trans h
theorem Blk.grown {row : Option Nat} (h : Blk w g t cs) (hb : w.grownBy w' row) (hg : some g ≠ row) : Blk w' g t cs := (hb.block g h.lt hg).trans h
theorem Blk.touch {F : Nat → Prop} (h : Blk w g t cs) (hb : Touch F w w') (hg : ¬ F g) : Blk w' g t cs := (hb.block g h.lt hg).trans h
theorem Blk.ne_ {g' : Nat} {t' : TypeId} {cs' : Array Value} (h : Blk w g t cs) (h' : Blk w g' t' cs') (hne : t ≠ t') : g ≠ g' := by
  rintro rfl
  unfold Blk at h h'
  rw [h] at h'
  injection h' with h'
  injection h' with _ ht
  exact hne ht
theorem Blk.uniq {t' : TypeId} {cs' : Array Value} (h : Blk w g t cs) (h' : Blk w g t' cs') : t = t' ∧ cs = cs' := by
  unfold Blk at h h'
  rw [h] at h'
  injection h' with h'
  injection h' with hc ht
  exact ⟨ht, hc⟩
end

/-! ### 4. A slice that has its block to itself -/
/-- v, of n elements of type e (size cells each), reads the cells xs: it is nil, or it leads into a block whose cells from its start to its capacity may be written. -/
def Own (w : World) (e : TypeId) (size : Nat) (v : Value) (n : Nat) (xs : List Value) : Prop :=
  xs.length = n * size ∧ ((v = .slice none 0 0 ∧ n = 0) ∨
    ∃ g off cap cur, v = .slice (some ⟨g, off, none⟩) n cap ∧ Blk w g e cur ∧ n ≤ cap ∧ cap ≤ maxLen ∧ off + cap * size ≤ cur.size ∧ ∀ j, j < xs.length → cur[off + j]? = xs[j]?)

section
variable {w w' : World} {e : TypeId} {size : Nat} {v : Value} {n : Nat} {xs : List Value}
theorem Own.nil (w : World) (e : TypeId) (size : Nat) : Own w e size (.slice none 0 0) 0 [] := ⟨by simp, .inl ⟨rfl, rfl⟩⟩
theorem Own.lt (h : Own w e size v n xs) : ∀ k, v.ownBlock = some k → k < w.heap.size := by
  intro k hk
  rcases h.2 with ⟨rfl, _⟩ | ⟨g, off, cap, cur, rfl, hb, _⟩
  · simp [Value.ownBlock] at hk
  · simp only [Value.ownBlock, Option.some.injEq] at hk
    exact hk ▸ hb.lt
theorem Own.blk (h : Own w e size v n xs) {k : Nat} (hk : v.ownBlock = some k) : ∃ cur, Blk w k e cur := by
  rcases h.2 with ⟨rfl, _⟩ | ⟨g, off, cap, cur, rfl, hb, _⟩
  · simp [Value.ownBlock] at hk
  · simp only [Value.ownBlock, Option.some.injEq] at hk
    exact ⟨cur, hk ▸ hb⟩
theorem Own.keep (h : Own w e size v n xs) (hk : ∀ k, v.ownBlock = some k → w'.heap[k]? = w.heap[k]?) : Own w' e size v n xs := by
  obtain ⟨h1, h2⟩ := h
  refine ⟨h1, ?_⟩
  rcases h2 with h2 | ⟨g, off, cap, cur, rfl, hb, r⟩
  · exact .inl h2
  · exact .inr ⟨g, off, cap, cur, rfl, hb.keep (hk g rfl), r⟩
theorem Own.drew (h : Own w e size v n xs) : Own w.drew e size v n xs := h
theorem Own.drewN (h : Own w e size v n xs) (k : Nat) : Own (w.drewN k) e size v n xs := h
theorem Own.alloc (h : Own w e size v n xs) (o : Obj) : Own (w.alloc o) e size v n xs := h.keep fun k hk => Below.heap_alloc w o k (h.lt k hk)
theorem Own.far (h : Own w e size v n xs) {p : Addr} (hp : v.ownBlock ≠ some p.block) (u : Value) : Own (w.setCell p u) e size v n xs :=
  h.keep fun k hk => Below.heap_setCell w p u k fun e' => hp (e' ▸ hk)
theorem Own.below {B : Nat} (h : Own w e size v n xs) (hb : Below B w w') (hB : ∀ k, v.ownBlock = some k → k < B) : Own w' e size v n xs := h.keep fun k hk => hb.block k (hB k hk)
theorem Own.new (h : Own w e size v n xs) (hb : Below w.heap.size w w') : Own w' e size v n xs := h.below hb h.lt
theorem Own.grown {row : Option Nat} (h : Own w e size v n xs) (hb : w.grownBy w' row) (hg : v.ownBlock = none ∨ v.ownBlock ≠ row) : Own w' e size v n xs :=
  h.keep fun k hk => hb.block k (h.lt k hk) (by rcases hg with hg | hg <;> rw [hk] at hg; · cases hg
                                                exact hg)
theorem Own.touch {F : Nat → Prop} (h : Own w e size v n xs) (hb : Touch F w w') (hg : ∀ k, v.ownBlock = some k → ¬ F k) : Own w' e size v n xs := h.keep fun k hk => hb.block k (h.lt k hk) (hg k hk)
theorem Own.ne_blk {g : Nat} {t : TypeId} {cs : Array Value} (h : Own w e size v n xs) (hg : Blk w g t cs) (hne : e ≠ t) : v.ownBlock ≠ some g := by
  intro he
  obtain ⟨cur, hb⟩ := h.blk he
  exact hb.ne_ hg hne rfl
theorem Own.ne_own {e' : TypeId} {size' : Nat} {v' : Value} {n' : Nat} {xs' : List Value} (h : Own w e size v n xs) (h' : Own w e' size' v' n' xs') (hne : e ≠ e') : v.ownBlock = none ∨ v.ownBlock ≠ v'.ownBlock := by
  cases hk : v.ownBlock with
  | none => exact .inl rfl
  | some k =>
    refine .inr fun he => ?_
    obtain ⟨cur, hb⟩ := h.blk hk
    obtain ⟨cur', hb'⟩ := h'.blk he.symm
    exact hb.ne_ hb' hne rfl

/-- The value's form, and its cells. -/
theorem Own.form (h : Own w e size v n xs) : ∃ (ao : Option Addr) (cap : Nat), v = .slice ao n cap ∧ n ≤ cap ∧ cap ≤ maxLen ∧
    (0 < n → ∃ g off, ao = some ⟨g, off, none⟩ ∧ (∀ j, j < xs.length → w.cell? ⟨g, off + j, none⟩ = xs[j]?) ∧ (∀ j, w.frozen? ⟨g, j, none⟩ = false) ∧ g < w.heap.size) := by
  rcases h.2 with ⟨rfl, rfl⟩ | ⟨g, off, cap, cur, rfl, hb, hnc, hcm, _, hcell⟩
  · exact ⟨none, 0, rfl, Nat.le_refl _, Nat.zero_le _, fun h => absurd h (by omega)⟩
  · exact ⟨_, cap, rfl, hnc, hcm, fun _ => ⟨g, off, rfl, fun j hj => (hb.cell _).trans (hcell j hj), fun j => hb.frozen j, hb.lt⟩⟩

theorem Own.src {P : Program} {tx e' : TypeId} (h : Own w e size v n xs) (hk : P.underlying tx = some (.slice e')) (h1 : ∀ u ∈ xs, u.oneCell' = true) : Src P size tx v n xs w := by
  rcases h.2 with ⟨rfl, rfl⟩ | ⟨g, off, cap, cur, rfl, hb, hnc, hcm, _, hcell⟩
  · have hx : xs = [] := List.eq_nil_of_length_eq_zero (by simpa using h.1)
    subst hx
    exact Src.ofNil w hk 0
  · refine Src.ofSlice w hk ⟨g, off, none⟩ n cap xs h.1 (fun j u hu => ?_) h1
    have hj : j < xs.length := (List.getElem?_eq_some_iff.1 hu).1
    have ha : (⟨g, off, none⟩ : Addr).add j = ⟨g, off + j, none⟩ := by unfold Addr.add; split <;> simp_all
    rw [ha, hb.cell, hcell j hj, hu]

/-- A whole new row. -/
theorem Own.made (w : World) (e : TypeId) (size : Nat) (cur : Array Value) (n : Nat) (hs : cur.size = n * size) (hm : n ≤ maxLen) : Own (w.alloc (.cells cur e)) e size (.slice (some ⟨w.heap.size, 0, none⟩) n n) n cur.toList :=
  ⟨by simpa using hs, .inr ⟨_, 0, n, cur, rfl, Blk.new w e cur, Nat.le_refl _, hm, by omega, fun j hj => by simp⟩⟩
theorem Own.of_blk {g : Nat} {cur : Array Value} (hb : Blk w g e cur) (n : Nat) (hs : cur.size = n * size) (hm : n ≤ maxLen) : Own w e size (.slice (some ⟨g, 0, none⟩) n n) n cur.toList :=
  ⟨by simpa using hs, .inr ⟨_, 0, n, cur, rfl, hb, Nat.le_refl _, hm, by omega, fun j hj => by simp⟩⟩
theorem Own.of_kit {base : Nat} (h : w.ownsRow base e size v n xs) : Own w e size v n xs := by
  obtain ⟨h1, h2⟩ := h
  refine ⟨h1, ?_⟩
  rcases h2 with h2 | ⟨g, cap, cur, rfl, _, hh, hnc, hcm, hcs, htake⟩
  · exact .inl h2
  · refine .inr ⟨g, 0, cap, cur, rfl, hh, hnc, hcm, by omega, fun j hj => ?_⟩
    subst htake
    have hj' : j < n * size := by have := hj; simp at this; omega
    simp [hj']

/-- A store into one of its cells. -/
theorem Own.stored {g off cap : Nat} (h : Own w e size (.slice (some ⟨g, off, none⟩) n cap) n xs) (j : Nat) (u : Value) : Own (w.setCell ⟨g, off + j, none⟩ u) e size (.slice (some ⟨g, off, none⟩) n cap) n (xs.set j u) := by
  obtain ⟨h1, h2⟩ := h
  refine ⟨by simpa using h1, ?_⟩
  rcases h2 with ⟨h2, _⟩ | ⟨g', off', cap', cur, hv, hb, hnc, hcm, hsz, hcell⟩
  · cases h2
  · injection hv with ha _ hc
    injection ha with ha
    injection ha with hg ho
    subst hg ho hc
    refine .inr ⟨g, off, cap, _, rfl, hb.set_ (off + j) u, hnc, hcm, by simpa using hsz, fun i hi => ?_⟩
    have hi' : i < xs.length := by simpa using hi
    by_cases hij : j = i
    · subst hij
      have hlt : off + j < cur.size := by
        have := hcell j hi'
        rw [List.getElem?_eq_getElem hi'] at this
        exact (Array.getElem?_eq_some_iff.1 this).1
      simp [hlt, hi']
    · rw [Array.getElem?_setIfInBounds_ne (by omega), List.getElem?_set_ne hij]
      exact hcell i hi'

/-- A piece of it: v[lo:hi:max]. -/
theorem Own.piece {g off cap : Nat} (h : Own w e size (.slice (some ⟨g, off, none⟩) n cap) n xs) (lo hi mx : Nat) (h1 : lo ≤ hi) (h2 : hi ≤ n) (h3 : hi ≤ mx) (h4 : mx ≤ cap) :
    Own w e size (.slice (some ⟨g, off + lo * size, none⟩) (hi - lo) (mx - lo)) (hi - lo) ((xs.drop (lo * size)).take ((hi - lo) * size)) := by
  obtain ⟨k1, k2⟩ := h
  have hlen : ((xs.drop (lo * size)).take ((hi - lo) * size)).length = (hi - lo) * size := by
    rw [List.length_take, List.length_drop, k1, ← Nat.sub_mul]
    exact Nat.min_eq_left (Nat.mul_le_mul_right _ (by omega))
  refine ⟨hlen, ?_⟩
  rcases k2 with ⟨k2, _⟩ | ⟨g', off', cap', cur, hv, hb, hnc, hcm, hsz, hcell⟩
  · cases k2
  · injection hv with ha _ hc
    injection ha with ha
    injection ha with hg ho
    subst hg ho hc
    have e1 : lo * size + (mx - lo) * size = mx * size := by rw [← Nat.add_mul]; congr 1; omega
    have e2 : mx * size ≤ cap * size := Nat.mul_le_mul_right _ h4
    refine .inr ⟨g, off + lo * size, mx - lo, cur, rfl, hb, by omega, by omega, by omega, fun j hj => ?_⟩
    rw [hlen] at hj
    have e3 : lo * size + (hi - lo) * size = hi * size := by rw [← Nat.add_mul]; congr 1; omega
    have e4 : hi * size ≤ n * size := Nat.mul_le_mul_right _ h2
    rw [List.getElem?_take, if_pos hj, List.getElem?_drop, Nat.add_assoc]
    exact hcell _ (by omega)
end

/-- Where the value behind an append lies. -/
theorem at_append {B H : Nat} {u v' : Value} {w' : World} {Q : Nat → Prop} (hv : ∀ k, u.ownBlock = some k → B ≤ k ∧ Q k) (hat : v'.ownBlock = u.ownBlock ∨ v'.ownBlock = some H) (hH : B ≤ H) (hlt : ∀ k, v'.ownBlock = some k → k < w'.heap.size) :
    ∀ k, v'.ownBlock = some k → B ≤ k ∧ k < w'.heap.size := fun k hk => ⟨by
  rcases hat with e | e
  · exact (hv k (e ▸ hk)).1
  · rw [e] at hk
    injection hk with hk
    omega, hlt k hk⟩

/-! ### 4b. A slice that is only read -/
/-- v has n cells to read, xs, in a block of which Pb holds. -/
def Rd (w : World) (Pb : Nat → Prop) (v : Value) (n : Nat) (xs : List Value) : Prop :=
  xs.length = n ∧ ∃ ao cap, v = .slice ao n cap ∧ n ≤ cap ∧ cap ≤ maxLen ∧ (0 < n → ∃ g off, ao = some ⟨g, off, none⟩ ∧ Pb g ∧ g < w.heap.size ∧ ∀ j, j < n → w.cell? ⟨g, off + j, none⟩ = xs[j]?)

section
variable {w w' : World} {Pb Qb : Nat → Prop} {v : Value} {n : Nat} {xs : List Value}
theorem Rd.keep (h : Rd w Pb v n xs) (hs : w.heap.size ≤ w'.heap.size) (hk : ∀ g, Pb g → g < w.heap.size → ∀ j, w'.cell? ⟨g, j, none⟩ = w.cell? ⟨g, j, none⟩) : Rd w' Pb v n xs := by
  obtain ⟨h1, ao, cap, rfl, h2, h3, h4⟩ := h
  refine ⟨h1, ao, cap, rfl, h2, h3, fun hn => ?_⟩
  obtain ⟨g, off, rfl, hp, hg, hc⟩ := h4 hn
  exact ⟨g, off, rfl, hp, by omega, fun j hj => (hk g hp hg _).trans (hc j hj)⟩
theorem Rd.touch {F : Nat → Prop} (h : Rd w Pb v n xs) (ht : Touch F w w') (hF : ∀ g, Pb g → ¬ F g) : Rd w' Pb v n xs :=
  h.keep ht.size fun g hp hg j => ht.cell (p := ⟨g, j, none⟩) hg (hF g hp)
theorem Rd.mono (h : Rd w Pb v n xs) (hq : ∀ g, Pb g → g < w.heap.size → Qb g) : Rd w Qb v n xs := by
  obtain ⟨h1, ao, cap, rfl, h2, h3, h4⟩ := h
  refine ⟨h1, ao, cap, rfl, h2, h3, fun hn => ?_⟩
  obtain ⟨g, off, rfl, hp, hg, hc⟩ := h4 hn
  exact ⟨g, off, rfl, hq g hp hg, hg, hc⟩
theorem Own.rd {e : TypeId} (h : Own w e 1 v n xs) (hp : ∀ k, v.ownBlock = some k → Pb k) : Rd w Pb v n xs := by
  have hl : xs.length = n := by simpa using h.1
  obtain ⟨ao, cap, rfl, h1, h2, h3⟩ := h.form
  refine ⟨hl, ao, cap, rfl, h1, h2, fun hn => ?_⟩
  obtain ⟨g, off, rfl, hc, _, hg⟩ := h3 hn
  exact ⟨g, off, rfl, hp g rfl, hg, fun j hj => hc j (by omega)⟩
theorem Rd.src {P : Program} {tx e' : TypeId} (h : Rd w Pb v n xs) (hk : P.underlying tx = some (.slice e')) (h1 : ∀ u ∈ xs, u.oneCell' = true) : Src P 1 tx v n xs w := by
  obtain ⟨hl, ao, cap, rfl, _, _, h4⟩ := h
  rcases Nat.eq_zero_or_pos n with h0 | h0
  · subst h0
    have hx : xs = [] := List.eq_nil_of_length_eq_zero hl
    subst hx
    cases ao with
    | none => exact Src.ofNil w hk cap
    | some a => exact Src.ofSlice w hk a 0 cap [] rfl (fun j u hu => by simp at hu) h1
  · obtain ⟨g, off, rfl, _, _, hc⟩ := h4 h0
    refine Src.ofSlice w hk ⟨g, off, none⟩ n cap xs (by simpa using hl) (fun j u hu => ?_) h1
    have hj : j < xs.length := (List.getElem?_eq_some_iff.1 hu).1
    have ha : (⟨g, off, none⟩ : Addr).add j = ⟨g, off + j, none⟩ := by unfold Addr.add; split <;> simp_all
    rw [ha, hc j (by omega), hu]
end

/-! ### 5. append -/
section
variable {P : Program} (w : World)

theorem size_setCells (g : Nat) : ∀ (vs : List Value) (o : Nat) (w : World), (w.setCells g o vs).heap.size = w.heap.size
  | [], _, _ => rfl
  | v :: r, o, w => by rw [World.setCells, size_setCells g r]; simp [World.setCell]
theorem tape_setCells (g : Nat) : ∀ (vs : List Value) (o : Nat) (w : World), (w.setCells g o vs).tape = w.tape
  | [], _, _ => rfl
  | v :: r, o, w => by rw [World.setCells, tape_setCells g r]; rfl

/-- Cells written in a row. -/
def putCells (cur : Array Value) : Nat → List Value → Array Value
  | _, [] => cur
  | o, v :: r => putCells (cur.setIfInBounds o v) (o + 1) r
theorem size_putCells : ∀ (vs : List Value) (o : Nat) (cur : Array Value), (putCells cur o vs).size = cur.size
  | [], _, _ => rfl
  | v :: r, o, cur => by rw [putCells, size_putCells r]; simp
theorem get_putCells : ∀ (vs : List Value) (o : Nat) (cur : Array Value) (i : Nat), o + vs.length ≤ cur.size → (putCells cur o vs)[i]? = if o ≤ i ∧ i < o + vs.length then vs[i - o]? else cur[i]?
  | [], o, cur, i, _ => by
    rw [if_neg (by simp only [List.length_nil]; omega)]
    rfl
  | v :: r, o, cur, i, h => by
    simp only [List.length_cons] at h
    rw [putCells, get_putCells r (o + 1) _ i (by simp; omega)]
    by_cases h1 : o = i
    · subst h1
      have hlt : o < cur.size := by omega
      rw [if_neg (by omega), if_pos (by simp only [List.length_cons]; omega)]
      simp [hlt]
    · by_cases h2 : o + 1 ≤ i ∧ i < o + 1 + r.length
      · rw [if_pos h2, if_pos (by simp only [List.length_cons]; omega)]
        have : i - o = (i - (o + 1)) + 1 := by omega
        rw [this, List.getElem?_cons_succ]
      · rw [if_neg h2, if_neg (by simp only [List.length_cons]; omega), Array.getElem?_setIfInBounds_ne h1]
theorem Blk.setCells {g : Nat} {t : TypeId} : ∀ (vs : List Value) (o : Nat) {w : World} {cs : Array Value}, Blk w g t cs → Blk (w.setCells g o vs) g t (putCells cs o vs)
  | [], _, _, _, h => h
  | v :: r, o, _, _, h => Blk.setCells r (o + 1) (h.set_ o v)

theorem run_append_O (t tx ty e : TypeId) (i : TypeInfo) (z : Value) (size bytes : Nat) (ht : P.underlying t = some (.slice e)) (hi : P.info? e = some i) (hz : i.zero = some z)
    (hsize : i.size = size) (hby : i.bytes = bytes) (hzs : z.cells.size = size) (hsz : 0 < size)
    (v : Value) (n : Nat) (xs : List Value) (hown : Own w e size v n xs) (h0 : ∀ u ∈ xs, u.oneCell' = true)
    (x : Value) (m : Nat) (news : List Value) (hs : Src P size tx x m news w)
    (h63 : n + m ≤ maxLen) (hbytes : (n + m) * bytes ≤ 140737488355328) :
    ∃ v' w', (Builtin.append_ #[t, tx] ty #[v, x]).run P w = .ok v' w' ∧ Own w' e size v' (n + m) (xs ++ news) ∧ w.grownBy w' v.ownBlock ∧ (v'.ownBlock = v.ownBlock ∨ v'.ownBlock = some w.heap.size) ∧
      (∀ k, v'.ownBlock = some k → k < w'.heap.size) := by
  subst hsize
  subst hby
  have hsmall : n + m ≤ 9223372036854775807 := by simp only [maxLen] at h63; omega
  have hlen : (xs ++ news).length = (n + m) * i.size := by rw [List.length_append, hown.1, hs.newsLen, Nat.add_mul]
  have grown : ∀ old : Nat, old < n + m →
      Own (w.drew.alloc (.cells ((xs ++ news).toArray ++ Builtin.zeroCells z.cells (grownCap w (n + m) old e - (n + m))) e)) e i.size
        (.slice (some ⟨w.heap.size, 0, none⟩) (n + m) (grownCap w (n + m) old e)) (n + m) (xs ++ news) := by
    intro old ho
    have hge := grownCap_ge w (n + m) old e
    have hcm : grownCap w (n + m) old e ≤ maxLen := grownCap_le_maxLen w (n + m) old e h63
    refine ⟨hlen, .inr ⟨w.heap.size, 0, _, _, rfl, Blk.new w.drew e _, hge, hcm, ?_, fun j hj => ?_⟩⟩
    · simp only [Array.size_append, List.size_toArray, size_zeroCells, hzs, hlen, ← Nat.add_mul, Nat.zero_add]
      exact Nat.mul_le_mul_right _ (by omega)
    · simp only [Nat.zero_add]
      rw [Array.getElem?_append_left (by simpa using hj)]
      simp
  rcases hown.2 with ⟨rfl, rfl⟩ | ⟨g, off, cap, cur, rfl, hb, hnc, hcm, hcs, hcell⟩
  · have hx : xs = [] := List.eq_nil_of_length_eq_zero (by simpa using hown.1)
    subst hx
    by_cases hm : m = 0
    · subst hm
      have hn : news = [] := List.eq_nil_of_length_eq_zero (by simpa using hs.newsLen)
      subst hn
      refine ⟨.slice none 0 0, w, ?_, Own.nil w e i.size, ⟨rfl, rfl, rfl, Nat.le_refl _, fun _ _ _ => rfl⟩, .inl rfl, fun k hk => by simp [Value.ownBlock] at hk⟩
      rcases hs.kind with ⟨e', hk⟩ | hk <;> simp [Builtin.append_, run_underlying ht, run_underlying hk, sizeOf, typeInfo, hi, hs.len, hs.cells]
    · have hold : (Builtin.firstCells i.size 0 (.slice none 0 0)).run P w.drew = .ok ([] : List Value).toArray w.drew := run_firstCells_none w.drew i.size 0 0 0
      have hr := run_append_grow_src (P := P) w t tx ty e i z ht hi hz none 0 0 [] hold x m news hs (by omega) (by omega) (growslice_fits (by omega) hbytes)
      have hgr := grown 0 (by omega)
      refine ⟨_, _, hr, hgr, ⟨rfl, rfl, rfl, by simp, fun k hk _ => Below.heap_alloc w.drew _ k hk⟩, .inr rfl, fun k hk => ?_⟩
      simp only [Value.ownBlock, Option.some.injEq] at hk
      subst hk
      simp
  · by_cases hroom : n + m ≤ cap
    · have e1 : n * i.size + m * i.size ≤ cap * i.size := by rw [← Nat.add_mul]; exact Nat.mul_le_mul_right _ hroom
      have hnl := hs.newsLen
      have hr := run_append_room_src (P := P) w t tx ty e i ht hi g off n cap x m news hs hroom
        (fun j hj => by rw [hb.cell, Array.getElem?_eq_getElem (by omega)]; rfl) (fun j _ => hb.frozen _)
      refine ⟨_, _, hr, ⟨hlen, .inr ⟨g, off, cap, _, rfl, hb.setCells news (off + n * i.size), hroom, hcm, by rw [size_putCells]; exact hcs, fun j hj => ?_⟩⟩,
        ⟨World.os_setCells w g _ news, tape_setCells g news _ w, World.output_setCells w g _ news, by rw [size_setCells]; exact Nat.le_refl _, fun k hk hne => World.heap_setCells_other w g _ news hk (fun e => hne (by rw [e]; rfl))⟩, .inl rfl, fun k hk => ?_⟩
      · rw [get_putCells news _ cur _ (by omega)]
        rw [hlen, Nat.add_mul] at hj
        have hx := hown.1
        by_cases hj2 : j < xs.length
        · rw [if_neg (by omega), List.getElem?_append_left hj2]
          exact hcell j hj2
        · rw [if_pos (by omega), List.getElem?_append_right (by omega)]
          congr 1
          omega
      · simp only [Value.ownBlock, Option.some.injEq] at hk
        subst hk
        rw [size_setCells]
        exact hb.lt
    · have hold : (Builtin.firstCells i.size n (.slice (some ⟨g, off, none⟩) n cap)).run P w.drew = .ok xs.toArray w.drew :=
        (Own.src (P := P) (tx := t) (w := w.drew) hown.drew ht h0).cells
      have hr := run_append_grow_src (P := P) w t tx ty e i z ht hi hz (some ⟨g, off, none⟩) n cap xs hold x m news hs (by omega) (by omega) (growslice_fits (by omega) hbytes)
      have hgr := grown cap (by omega)
      refine ⟨_, _, hr, hgr, ⟨rfl, rfl, rfl, by simp, fun k hk _ => Below.heap_alloc w.drew _ k hk⟩, .inr rfl, fun k hk => ?_⟩
      simp only [Value.ownBlock, Option.some.injEq] at hk
      subst hk
      simp

/-- One element laid in a block of its own ('append(out, x)'). -/
theorem src_new {tx e' : TypeId} (hk : P.underlying tx = some (.slice e')) (e : TypeId) (u : Value) (h1 : u.oneCell' = true) : Src P 1 tx (.slice (some ⟨w.heap.size, 0, none⟩) 1 1) 1 [u] (w.alloc (.cells #[u] e)) := by
  refine Src.ofSlice _ hk _ 1 1 [u] rfl (fun j v hj => ?_) (fun x hx => ?_)
  · cases j with
    | zero =>
      have hb := Blk.new w e #[u]
      have ha : (⟨w.heap.size, 0, none⟩ : Addr).add 0 = ⟨w.heap.size, 0, none⟩ := rfl
      rw [ha, hb.cell]
      simpa using hj
    | succ j => simp at hj
  · simp only [List.mem_singleton] at hx
    exact hx ▸ h1

theorem wp_append_O {o : Oper} {a : Act} {K : Act → World → Prop} {Q : Exit → Act → World → Prop} (s sx : Operand) (t tx : TypeId)
    (ho : o.op = .call { callee := .builtin .append, args := #[s, sx], argTypes := #[t, tx] })
    (e : TypeId) (i : TypeInfo) (z : Value) (size bytes : Nat) (ht : P.underlying t = some (.slice e)) (hi : P.info? e = some i) (hz : i.zero = some z)
    (hsize : i.size = size) (hby : i.bytes = bytes) (hzs : z.cells.size = size) (hsz : 0 < size)
    (v : Value) (n : Nat) (xs : List Value) (hv : a.eval s = v) (hown : Own w e size v n xs) (h0 : ∀ u ∈ xs, u.oneCell' = true)
    (x : Value) (m : Nat) (news : List Value) (hx : a.eval sx = x) (hs : Src P size tx x m news w)
    (h63 : n + m ≤ maxLen) (hbytes : (n + m) * bytes ≤ 140737488355328)
    (h : ∀ v' w', Own w' e size v' (n + m) (xs ++ news) → w.grownBy w' v.ownBlock → (v'.ownBlock = v.ownBlock ∨ v'.ownBlock = some w.heap.size) → (∀ k, v'.ownBlock = some k → k < w'.heap.size) → K (a.put o.dst v') w') : o.wp P a w K Q := by
  obtain ⟨v', w', hrun, h2, h3, h4, h5⟩ := run_append_O (P := P) w t tx o.type e i z size bytes ht hi hz hsize hby hzs hsz v n xs hown h0 x m news hs h63 hbytes
  unfold Oper.wp execOp
  simp only [ho, resolve, invoke, builtin, Sem.run_bind, Sem.run_pure, Result.andThen_ok, List.map_toArray, List.map_cons, List.map_nil, hv, hx, hrun]
  exact h v' w' h2 h3 h4 h5

theorem wpList_append_O {ops : Array Oper} {rest : List Oper} {o : Oper} {a : Act} {Q : Exit → Act → World → Prop} (hgd : o.guard = none) (s sx : Operand) (t tx : TypeId)
    (ho : o.op = .call { callee := .builtin .append, args := #[s, sx], argTypes := #[t, tx] })
    (e : TypeId) (i : TypeInfo) (z : Value) (size bytes : Nat) (ht : P.underlying t = some (.slice e)) (hi : P.info? e = some i) (hz : i.zero = some z)
    (hsize : i.size = size) (hby : i.bytes = bytes) (hzs : z.cells.size = size) (hsz : 0 < size)
    (v : Value) (n : Nat) (xs : List Value) (hv : a.eval s = v) (hown : Own w e size v n xs) (h0 : ∀ u ∈ xs, u.oneCell' = true)
    (x : Value) (m : Nat) (news : List Value) (hx : a.eval sx = x) (hs : Src P size tx x m news w)
    (h63 : n + m ≤ maxLen) (hbytes : (n + m) * bytes ≤ 140737488355328)
    (h : ∀ v' w', Own w' e size v' (n + m) (xs ++ news) → w.grownBy w' v.ownBlock → (v'.ownBlock = v.ownBlock ∨ v'.ownBlock = some w.heap.size) → (∀ k, v'.ownBlock = some k → k < w'.heap.size) → wpList P ops Q rest (a.put o.dst v') w') :
    wpList P ops Q (o :: rest) a w :=
  wpList_plain hgd fun _ hK => wp_append_O w s sx t tx ho e i z size bytes ht hi hz hsize hby hzs hsz v n xs hv hown h0 x m news hx hs h63 hbytes fun v' w' h2 h3 h4 h5 => hK _ _ (h v' w' h2 h3 h4 h5)

/-- The same, the new value's form written out. -/
theorem wp_append_S {o : Oper} {a : Act} {K : Act → World → Prop} {Q : Exit → Act → World → Prop} (s sx : Operand) (t tx : TypeId)
    (ho : o.op = .call { callee := .builtin .append, args := #[s, sx], argTypes := #[t, tx] })
    (e : TypeId) (i : TypeInfo) (z : Value) (size bytes : Nat) (ht : P.underlying t = some (.slice e)) (hi : P.info? e = some i) (hz : i.zero = some z)
    (hsize : i.size = size) (hby : i.bytes = bytes) (hzs : z.cells.size = size) (hsz : 0 < size)
    (v : Value) (n : Nat) (xs : List Value) (hv : a.eval s = v) (hown : Own w e size v n xs) (h0 : ∀ u ∈ xs, u.oneCell' = true)
    (x : Value) (m : Nat) (news : List Value) (hx : a.eval sx = x) (hs : Src P size tx x m news w)
    (h63 : n + m ≤ maxLen) (hbytes : (n + m) * bytes ≤ 140737488355328)
    (h : ∀ ao' cap' w', n + m ≤ cap' → cap' ≤ maxLen → Own w' e size (.slice ao' (n + m) cap') (n + m) (xs ++ news) → w.grownBy w' v.ownBlock → ((Value.slice ao' (n + m) cap').ownBlock = v.ownBlock ∨ (Value.slice ao' (n + m) cap').ownBlock = some w.heap.size) → (∀ k, (Value.slice ao' (n + m) cap').ownBlock = some k → k < w'.heap.size) → K (a.put o.dst (.slice ao' (n + m) cap')) w') : o.wp P a w K Q := by
  refine wp_append_O w s sx t tx ho e i z size bytes ht hi hz hsize hby hzs hsz v n xs hv hown h0 x m news hx hs h63 hbytes fun v' w' h2 h3 h4 h5 => ?_
  obtain ⟨ao', cap', rfl, h6, h7, _⟩ := h2.form
  exact h ao' cap' w' h6 h7 h2 h3 h4 h5

theorem wpList_append_S {ops : Array Oper} {rest : List Oper} {o : Oper} {a : Act} {Q : Exit → Act → World → Prop} (hgd : o.guard = none) (s sx : Operand) (t tx : TypeId)
    (ho : o.op = .call { callee := .builtin .append, args := #[s, sx], argTypes := #[t, tx] })
    (e : TypeId) (i : TypeInfo) (z : Value) (size bytes : Nat) (ht : P.underlying t = some (.slice e)) (hi : P.info? e = some i) (hz : i.zero = some z)
    (hsize : i.size = size) (hby : i.bytes = bytes) (hzs : z.cells.size = size) (hsz : 0 < size)
    (v : Value) (n : Nat) (xs : List Value) (hv : a.eval s = v) (hown : Own w e size v n xs) (h0 : ∀ u ∈ xs, u.oneCell' = true)
    (x : Value) (m : Nat) (news : List Value) (hx : a.eval sx = x) (hs : Src P size tx x m news w)
    (h63 : n + m ≤ maxLen) (hbytes : (n + m) * bytes ≤ 140737488355328)
    (h : ∀ ao' cap' w', n + m ≤ cap' → cap' ≤ maxLen → Own w' e size (.slice ao' (n + m) cap') (n + m) (xs ++ news) → w.grownBy w' v.ownBlock → ((Value.slice ao' (n + m) cap').ownBlock = v.ownBlock ∨ (Value.slice ao' (n + m) cap').ownBlock = some w.heap.size) → (∀ k, (Value.slice ao' (n + m) cap').ownBlock = some k → k < w'.heap.size) → wpList P ops Q rest (a.put o.dst (.slice ao' (n + m) cap')) w') :
    wpList P ops Q (o :: rest) a w :=
  wpList_plain hgd fun _ hK => wp_append_S w s sx t tx ho e i z size bytes ht hi hz hsize hby hzs hsz v n xs hv hown h0 x m news hx hs h63 hbytes fun ao' cap' w' h1 h2 h3 h4 h5 h6 => hK _ _ (h ao' cap' w' h1 h2 h3 h4 h5 h6)

theorem step_append_O {ops : Array Oper} {o : Oper} {a : Act} {K : Act → World → Prop} {Q : Exit → Act → World → Prop} {E : Prop} (hgd : o.guard = none) (s sx : Operand) (t tx : TypeId)
    (ho : o.op = .call { callee := .builtin .append, args := #[s, sx], argTypes := #[t, tx] })
    (e : TypeId) (i : TypeInfo) (z : Value) (size bytes : Nat) (ht : P.underlying t = some (.slice e)) (hi : P.info? e = some i) (hz : i.zero = some z)
    (hsize : i.size = size) (hby : i.bytes = bytes) (hzs : z.cells.size = size) (hsz : 0 < size)
    (v : Value) (n : Nat) (xs : List Value) (hv : a.eval s = v) (hown : Own w e size v n xs) (h0 : ∀ u ∈ xs, u.oneCell' = true)
    (x : Value) (m : Nat) (news : List Value) (hx : a.eval sx = x) (hs : Src P size tx x m news w)
    (h63 : n + m ≤ maxLen) (hbytes : (n + m) * bytes ≤ 140737488355328)
    (h : ∀ v' w', Own w' e size v' (n + m) (xs ++ news) → w.grownBy w' v.ownBlock → (v'.ownBlock = v.ownBlock ∨ v'.ownBlock = some w.heap.size) → (∀ k, v'.ownBlock = some k → k < w'.heap.size) → K (a.put o.dst v') w') :
    if Region.wanted o (yielded ops a.tmps) = true then Oper.wp P o a w K Q else E := by
  have hw : Region.wanted o (yielded ops a.tmps) = true := by simp [Region.wanted, hgd]
  rw [if_pos hw]
  exact wp_append_O w s sx t tx ho e i z size bytes ht hi hz hsize hby hzs hsz v n xs hv hown h0 x m news hx hs h63 hbytes h
end

end Go.Proofs.YtadogjnoklabdaaDoor
