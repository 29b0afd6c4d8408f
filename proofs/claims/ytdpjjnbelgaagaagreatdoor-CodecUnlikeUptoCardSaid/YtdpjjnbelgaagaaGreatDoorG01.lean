/- The library's strings.IndexByte and strings.HasPrefix at this dump (laid by the shelf's tool in plain words). Conditions: none. -/
import Derived.Shelf.Small.Strs
import Derived.Shelf.Strings.Search1
import Derived.Shelf.Strings.Prefix
import Derived.Test.YtdpjjnbelgaagaaGreatDoorRows
import Derived.WalkKit
import Derived.ProofKit
import Derived.OpenShut
import Derived.WalkLawsBesides
import Derived.WalkSpells
import Derived.Lib.Hide
import Derived.Outline
import Derived.Deep.AppendSrc
import Derived.Deep.Draws
import Derived.Deep.MidRow
import Derived.Laws.Tables
import Derived.Laws.Rows
import Derived.Laws.IdiomCopy
import Derived.Laws.IdiomStrings
import Derived.Deep.Upon
import Derived.Lib.IndexAny
import Derived.Deep.Slices
import Derived.WalkMore
import Derived.Lib.OthersKept
import Derived.Laws.RangeAny
import Derived.LoopTactic
import Derived.Maps.OwnOps
import Derived.Maps.OwnSet
import Derived.Maps.RangeWalk
import Derived.RangeFuncNested
import Derived.RangeFuncBound
import Derived.RangeFuncCalls
import Derived.RangeFuncLeaves
import Derived.Shelf.Abstract
import Derived.Shelf.RegionOpen
import Derived.OwnWalkIn
import Derived.TacticsInMore
import Derived.LoopNIn
import Derived.LoopIn
namespace Go.Proofs.YtdpjjnbelgaagaaGreatDoor
open Go.Shelf
def lays137_ren : Go.Shelf.Ren := ⟨fun | 137 => 113 | 217 => 157 | 266 => 178 | n => n, fun | 9 => 9 | 5 => 5 | 3 => 3 | n => n, fun | n => n⟩
theorem lays137 : Go.Proofs.Lays.n137 Tryz.prog lays137_ren := {
  mixed := by kernel_rfl
  f137 := Tryz.func113.trans (congrArg some (by kernel_rfl))
  f217 := Tryz.func157.trans (congrArg some (by kernel_rfl))
  f266 := Tryz.func178.trans (congrArg some (by kernel_rfl))
  t3 := Tryz.underlying3
  a3 := Tryz.isAgg3
  z3 := Tryz.sizeOf3
  v3 := Tryz.zeroValue3
  t5 := Tryz.underlying5
  a5 := Tryz.isAgg5
  z5 := Tryz.sizeOf5
  v5 := Tryz.zeroValue5
  t9 := Tryz.underlying9
  a9 := Tryz.isAgg9
  z9 := Tryz.sizeOf9
  v9 := Tryz.zeroValue9 }
open Go.RowKit in
/-- strings.IndexByte: "IndexByte returns the index of the first instance of c in s, or -1 if c is not present in s.": IT RETURNS 'Lib.indexByte s c'; the world is as it was. (LAID: no walk: one application.) -/
theorem strings_IndexByte (s : ByteArray) (c : Int) (w : World) :
    Calls Tryz.prog 113 #[.string s, .int .u8 c] w fun e w' => e = .returned (.int .i64 (Lib.indexByte s.data.toList c.toNat.toUInt8)) ∧ w' = w := Any.strings_IndexByte lays137 s c w
open Go.RowKit Go.Lib in
open Go.RowKit Go.Lib in
def lays99_ren : Go.Shelf.Ren := ⟨fun | 99 => 114 | 206 => 158 | n => n, fun | 9 => 9 | 4 => 4 | 3 => 3 | n => n, fun | n => n⟩
theorem lays99 : Go.Proofs.Lays.n99 Tryz.prog lays99_ren := {
  mixed := by kernel_rfl
  f99 := Tryz.func114.trans (congrArg some (by kernel_rfl))
  f206 := Tryz.func158.trans (congrArg some (by kernel_rfl))
  t3 := Tryz.underlying3
  a3 := Tryz.isAgg3
  z3 := Tryz.sizeOf3
  v3 := Tryz.zeroValue3
  t4 := Tryz.underlying4
  a4 := Tryz.isAgg4
  z4 := Tryz.sizeOf4
  v4 := Tryz.zeroValue4
  t9 := Tryz.underlying9
  a9 := Tryz.isAgg9
  z9 := Tryz.sizeOf9
  v9 := Tryz.zeroValue9 }
open Go.RowKit Go.Lib in
/-- strings.HasPrefix: "HasPrefix reports whether the string s begins with prefix.": IT RETURNS 'Lib.hasPrefix s prefix'; the world is as it was. (LAID: no walk: one application.) -/
theorem strings_HasPrefix (s p : ByteArray) (w : World) :
    Calls Tryz.prog 114 #[.string s, .string p] w fun e w' => e = .returned (.bool (Lib.hasPrefix s.data.toList p.data.toList)) ∧ w' = w := Any.strings_HasPrefix lays99 s p w
end Go.Proofs.YtdpjjnbelgaagaaGreatDoor

namespace Go.Proofs.YtdpjjnbelgaagaaGreatDoor
open Go.ChangeShapes Go.WideShapes Go.ChangeAt Go.RowKit

/-! ### 1. Below -/
theorem bel_setRow {B : Nat} {a w : World} (h : Below B a w) {g : Nat} (hg : B ≤ g) (cs : Array Value) : Below B a (w.setRow g cs) :=
  h.trans ⟨rfl, rfl, rfl, by simp, fun k hk => setRow_other w g k cs (by omega)⟩
theorem bel_drewN {B : Nat} {a w : World} (h : Below B a w) (n : Nat) : Below B a (w.drewN n) := ⟨h.os, h.tape, h.output, h.size, h.block⟩
/-! ### 2. What may have turned: the blocks of F, and what is new -/
structure Touch (F : Nat → Prop) (w w' : World) : Prop where
  os : w'.os = w.os
  tape : w'.tape = w.tape
  output : w'.output = w.output
  size : w.heap.size ≤ w'.heap.size
  block : ∀ k, k < w.heap.size → ¬ F k → w'.heap[k]? = w.heap[k]?
section
variable {F G : Nat → Prop} {a b c w w' : World}
theorem Touch.refl (F : Nat → Prop) (w : World) : Touch F w w := ⟨rfl, rfl, rfl, Nat.le_refl _, fun _ _ _ => rfl⟩
theorem Touch.trans (h : Touch F a b) (k : Touch G b c) (hG : ∀ x, x < a.heap.size → G x → F x) : Touch F a c :=
  ⟨k.os.trans h.os, k.tape.trans h.tape, k.output.trans h.output, Nat.le_trans h.size k.size,
    fun x hx hF => (k.block x (Nat.lt_of_lt_of_le hx h.size) fun g => hF (hG x hx g)).trans (h.block x hx hF)⟩
theorem Touch.mono (h : Touch F a b) (hG : ∀ x, x < a.heap.size → F x → G x) : Touch G a b :=
  ⟨h.os, h.tape, h.output, h.size, fun x hx hg => h.block x hx fun f => hg (hG x hx f)⟩
theorem Touch.below {B : Nat} (h : Touch F a b) (hB : B ≤ a.heap.size) (hF : ∀ x, x < B → ¬ F x) : Below B a b :=
  ⟨h.os, h.tape, h.output, h.size, fun k hk => h.block k (by omega) (hF k hk)⟩
theorem Touch.of_below (h : Below a.heap.size a b) (F : Nat → Prop) : Touch F a b := ⟨h.os, h.tape, h.output, h.size, fun k hk _ => h.block k hk⟩
theorem Touch.of_grown {row : Option Nat} (h : a.grownBy b row) (hF : ∀ k, row = some k → F k) : Touch F a b :=
  ⟨h.os, h.tape, h.output, h.size, fun k hk hf => h.block k hk fun e => hf (hF k e.symm)⟩
theorem Touch.drew (h : Touch F a w) : Touch F a w.drew := ⟨h.os, h.tape, h.output, h.size, h.block⟩
theorem Touch.drewN (h : Touch F a w) (n : Nat) : Touch F a (w.drewN n) := ⟨h.os, h.tape, h.output, h.size, h.block⟩
theorem Touch.alloc (h : Touch F a w) (o : Obj) : Touch F a (w.alloc o) :=
  h.trans (G := fun _ => False) ⟨rfl, rfl, rfl, by simp, fun k hk _ => Below.heap_alloc _ _ _ hk⟩ fun _ _ f => f.elim
theorem Touch.setCell (h : Touch F a w) {p : Addr} (hp : p.block < a.heap.size → F p.block) (u : Value) : Touch F a (w.setCell p u) :=
  h.trans (G := fun k => k = p.block) ⟨rfl, rfl, rfl, by simp [World.setCell], fun k _ hk => Below.heap_setCell _ _ _ _ hk⟩ fun x hx e => e ▸ hp (e ▸ hx)
theorem Touch.setRow (h : Touch F a w) {g : Nat} (hg : g < a.heap.size → F g) (cs : Array Value) : Touch F a (w.setRow g cs) :=
  h.trans (G := fun k => k = g) ⟨rfl, rfl, rfl, by simp, fun k _ hk => setRow_other w g k cs hk⟩ fun x hx e => e ▸ hg (e ▸ hx)
theorem Touch.cell (h : Touch F a b) {p : Addr} (hp : p.block < a.heap.size) (hF : ¬ F p.block) : b.cell? p = a.cell? p := World.cell?_of_block (w := a) (h.block p.block hp hF)
theorem Touch.frozen (h : Touch F a b) {p : Addr} (hp : p.block < a.heap.size) (hF : ¬ F p.block) : b.frozen? p = a.frozen? p := World.frozen?_of_block (w := a) (h.block p.block hp hF)
end

/-! ### 3. A block that is known whole -/
def Blk (w : World) (g : Nat) (t : TypeId) (cs : Array Value) : Prop := w.heap[g]? = some (.cells cs t (0, 0))
section
variable {w w' : World} {g : Nat} {t : TypeId} {cs : Array Value}
theorem Blk.lt (h : Blk w g t cs) : g < w.heap.size := by
  rcases Nat.lt_or_ge g w.heap.size with hlt | hge
  · exact hlt
  · unfold Blk at h; rw [Array.getElem?_eq_none hge] at h; cases h
theorem Blk.cell (h : Blk w g t cs) (i : Nat) : w.cell? ⟨g, i, none⟩ = cs[i]? := cell_of_row w g i cs t (0, 0) h
theorem Blk.frozen (h : Blk w g t cs) (i : Nat) : w.frozen? ⟨g, i, none⟩ = false := by
  unfold Blk at h
  simp [World.frozen?, h]
theorem Blk.new (w : World) (t : TypeId) (cs : Array Value) : Blk (w.alloc (.cells cs t)) w.heap.size t cs := heap_alloc_new w _
theorem Blk.drew (h : Blk w g t cs) : Blk w.drew g t cs := h
theorem Blk.drewN (h : Blk w g t cs) (n : Nat) : Blk (w.drewN n) g t cs := h
theorem Blk.alloc (h : Blk w g t cs) (o : Obj) : Blk (w.alloc o) g t cs := (Below.heap_alloc w o g h.lt).trans h
theorem Blk.set_ (h : Blk w g t cs) (i : Nat) (u : Value) : Blk (w.setCell ⟨g, i, none⟩ u) g t (cs.setIfInBounds i u) := by
  unfold Blk at h ⊢
  simp [World.setCell, Array.getElem?_modify, h]
theorem Blk.row (h : Blk w g t cs) (cs' : Array Value) : Blk (w.setRow g cs') g t cs' := setRow_heap w g cs _ t _ h
theorem Blk.far (h : Blk w g t cs) {p : Addr} (hp : g ≠ p.block) (u : Value) : Blk (w.setCell p u) g t cs := (Below.heap_setCell w p u g hp).trans h
theorem Blk.keep (h : Blk w g t cs) (hb : w'.heap[g]? = w.heap[g]?) : Blk w' g t cs := hb.trans h
theorem Blk.below {B : Nat} (h : Blk w g t cs) (hb : Below B w w') (hg : g < B) : Blk w' g t cs := (hb.block g hg).trans h
theorem Blk.grown {row : Option Nat} (h : Blk w g t cs) (hb : w.grownBy w' row) (hg : some g ≠ row) : Blk w' g t cs := (hb.block g h.lt hg).trans h
theorem Blk.touch {F : Nat → Prop} (h : Blk w g t cs) (hb : Touch F w w') (hg : ¬ F g) : Blk w' g t cs := (hb.block g h.lt hg).trans h
theorem Blk.ne_ {g' : Nat} {t' : TypeId} {cs' : Array Value} (h : Blk w g t cs) (h' : Blk w g' t' cs') (hne : t ≠ t') : g ≠ g' := by
  rintro rfl
  unfold Blk at h h'
  rw [h] at h'
  injection h' with h'
  injection h' with _ ht
  exact hne ht
theorem Blk.uniq {t' : TypeId} {cs' : Array Value} (h : Blk w g t cs) (h' : Blk w g t' cs') : t = t' ∧ cs = cs' := by
  unfold Blk at h h'
  rw [h] at h'
  injection h' with h'
  injection h' with hc ht
  exact ⟨ht, hc⟩
end

/-! ### 4. A slice that has its block to itself -/
/-- v, of n elements of type e (size cells each), reads the cells xs: it is nil, or it leads into a block whose cells from its start to its capacity may be written. -/
def Own (w : World) (e : TypeId) (size : Nat) (v : Value) (n : Nat) (xs : List Value) : Prop :=
  xs.length = n * size ∧ ((v = .slice none 0 0 ∧ n = 0) ∨
    ∃ g off cap cur, v = .slice (some ⟨g, off, none⟩) n cap ∧ Blk w g e cur ∧ n ≤ cap ∧ cap ≤ maxLen ∧ off + cap * size ≤ cur.size ∧ ∀ j, j < xs.length → cur[off + j]? = xs[j]?)
section
variable {w w' : World} {e : TypeId} {size : Nat} {v : Value} {n : Nat} {xs : List Value}
theorem Own.nil (w : World) (e : TypeId) (size : Nat) : Own w e size (.slice none 0 0) 0 [] := ⟨by simp, .inl ⟨rfl, rfl⟩⟩
theorem Own.lt (h : Own w e size v n xs) : ∀ k, v.ownBlock = some k → k < w.heap.size := by
  intro k hk
  rcases h.2 with ⟨rfl, _⟩ | ⟨g, off, cap, cur, rfl, hb, _⟩
  · simp [Value.ownBlock] at hk
  · simp only [Value.ownBlock, Option.some.injEq] at hk
    exact hk ▸ hb.lt
theorem Own.blk (h : Own w e size v n xs) {k : Nat} (hk : v.ownBlock = some k) : ∃ cur, Blk w k e cur := by
  rcases h.2 with ⟨rfl, _⟩ | ⟨g, off, cap, cur, rfl, hb, _⟩
  · simp [Value.ownBlock] at hk
  · simp only [Value.ownBlock, Option.some.injEq] at hk
    exact ⟨cur, hk ▸ hb⟩
theorem Own.keep (h : Own w e size v n xs) (hk : ∀ k, v.ownBlock = some k → w'.heap[k]? = w.heap[k]?) : Own w' e size v n xs := by
  obtain ⟨h1, h2⟩ := h
  refine ⟨h1, ?_⟩
  rcases h2 with h2 | ⟨g, off, cap, cur, rfl, hb, r⟩
  · exact .inl h2
  · exact .inr ⟨g, off, cap, cur, rfl, hb.keep (hk g rfl), r⟩
theorem Own.drew (h : Own w e size v n xs) : Own w.drew e size v n xs := h
theorem Own.drewN (h : Own w e size v n xs) (k : Nat) : Own (w.drewN k) e size v n xs := h
theorem Own.alloc (h : Own w e size v n xs) (o : Obj) : Own (w.alloc o) e size v n xs := h.keep fun k hk => Below.heap_alloc w o k (h.lt k hk)
theorem Own.far (h : Own w e size v n xs) {p : Addr} (hp : v.ownBlock ≠ some p.block) (u : Value) : Own (w.setCell p u) e size v n xs :=
  h.keep fun k hk => Below.heap_setCell w p u k fun e' => hp (e' ▸ hk)
theorem Own.below {B : Nat} (h : Own w e size v n xs) (hb : Below B w w') (hB : ∀ k, v.ownBlock = some k → k < B) : Own w' e size v n xs := h.keep fun k hk => hb.block k (hB k hk)
theorem Own.new (h : Own w e size v n xs) (hb : Below w.heap.size w w') : Own w' e size v n xs := h.below hb h.lt
theorem Own.grown {row : Option Nat} (h : Own w e size v n xs) (hb : w.grownBy w' row) (hg : v.ownBlock = none ∨ v.ownBlock ≠ row) : Own w' e size v n xs :=
  h.keep fun k hk => hb.block k (h.lt k hk) (by rcases hg with hg | hg <;> rw [hk] at hg; · cases hg
                                                exact hg)
theorem Own.touch {F : Nat → Prop} (h : Own w e size v n xs) (hb : Touch F w w') (hg : ∀ k, v.ownBlock = some k → ¬ F k) : Own w' e size v n xs := h.keep fun k hk => hb.block k (h.lt k hk) (hg k hk)
theorem Own.ne_blk {g : Nat} {t : TypeId} {cs : Array Value} (h : Own w e size v n xs) (hg : Blk w g t cs) (hne : e ≠ t) : v.ownBlock ≠ some g := by
  intro he
  obtain ⟨cur, hb⟩ := h.blk he
  exact hb.ne_ hg hne rfl
/-- The value's form, and its cells. -/
theorem Own.form (h : Own w e size v n xs) : ∃ (ao : Option Addr) (cap : Nat), v = .slice ao n cap ∧ n ≤ cap ∧ cap ≤ maxLen ∧
    (0 < n → ∃ g off, ao = some ⟨g, off, none⟩ ∧ (∀ j, j < xs.length → w.cell? ⟨g, off + j, none⟩ = xs[j]?) ∧ (∀ j, w.frozen? ⟨g, j, none⟩ = false) ∧ g < w.heap.size) := by
  rcases h.2 with ⟨rfl, rfl⟩ | ⟨g, off, cap, cur, rfl, hb, hnc, hcm, _, hcell⟩
  · exact ⟨none, 0, rfl, Nat.le_refl _, Nat.zero_le _, fun h => absurd h (by omega)⟩
  · exact ⟨_, cap, rfl, hnc, hcm, fun _ => ⟨g, off, rfl, fun j hj => (hb.cell _).trans (hcell j hj), fun j => hb.frozen j, hb.lt⟩⟩
theorem Own.src {P : Program} {tx e' : TypeId} (h : Own w e size v n xs) (hk : P.underlying tx = some (.slice e')) (h1 : ∀ u ∈ xs, u.oneCell' = true) : Src P size tx v n xs w := by
  rcases h.2 with ⟨rfl, rfl⟩ | ⟨g, off, cap, cur, rfl, hb, hnc, hcm, _, hcell⟩
  · have hx : xs = [] := List.eq_nil_of_length_eq_zero (by simpa using h.1)
    subst hx
    exact Src.ofNil w hk 0
  · refine Src.ofSlice w hk ⟨g, off, none⟩ n cap xs h.1 (fun j u hu => ?_) h1
    have hj : j < xs.length := (List.getElem?_eq_some_iff.1 hu).1
    have ha : (⟨g, off, none⟩ : Addr).add j = ⟨g, off + j, none⟩ := by unfold Addr.add; split <;> simp_all
    rw [ha, hb.cell, hcell j hj, hu]
/-- A whole new row. -/
theorem Own.made (w : World) (e : TypeId) (size : Nat) (cur : Array Value) (n : Nat) (hs : cur.size = n * size) (hm : n ≤ maxLen) : Own (w.alloc (.cells cur e)) e size (.slice (some ⟨w.heap.size, 0, none⟩) n n) n cur.toList :=
  ⟨by simpa using hs, .inr ⟨_, 0, n, cur, rfl, Blk.new w e cur, Nat.le_refl _, hm, by omega, fun j hj => by simp⟩⟩
theorem Own.of_blk {g : Nat} {cur : Array Value} (hb : Blk w g e cur) (n : Nat) (hs : cur.size = n * size) (hm : n ≤ maxLen) : Own w e size (.slice (some ⟨g, 0, none⟩) n n) n cur.toList :=
  ⟨by simpa using hs, .inr ⟨_, 0, n, cur, rfl, hb, Nat.le_refl _, hm, by omega, fun j hj => by simp⟩⟩
end

/-- Where the value behind an append lies. -/
theorem at_append {B H : Nat} {u v' : Value} {w' : World} {Q : Nat → Prop} (hv : ∀ k, u.ownBlock = some k → B ≤ k ∧ Q k) (hat : v'.ownBlock = u.ownBlock ∨ v'.ownBlock = some H) (hH : B ≤ H) (hlt : ∀ k, v'.ownBlock = some k → k < w'.heap.size) :
    ∀ k, v'.ownBlock = some k → B ≤ k ∧ k < w'.heap.size := fun k hk => ⟨by
  rcases hat with e | e
  · exact (hv k (e ▸ hk)).1
  · rw [e] at hk
    injection hk with hk
    omega, hlt k hk⟩
/-! ### 4b. A slice that is only read -/
/-- v has n cells to read, xs, in a block of which Pb holds. -/
def Rd (w : World) (Pb : Nat → Prop) (v : Value) (n : Nat) (xs : List Value) : Prop :=
  xs.length = n ∧ ∃ ao cap, v = .slice ao n cap ∧ n ≤ cap ∧ cap ≤ maxLen ∧ (0 < n → ∃ g off, ao = some ⟨g, off, none⟩ ∧ Pb g ∧ g < w.heap.size ∧ ∀ j, j < n → w.cell? ⟨g, off + j, none⟩ = xs[j]?)
section
variable {w w' : World} {Pb Qb : Nat → Prop} {v : Value} {n : Nat} {xs : List Value}
theorem Rd.keep (h : Rd w Pb v n xs) (hs : w.heap.size ≤ w'.heap.size) (hk : ∀ g, Pb g → g < w.heap.size → ∀ j, w'.cell? ⟨g, j, none⟩ = w.cell? ⟨g, j, none⟩) : Rd w' Pb v n xs := by
  obtain ⟨h1, ao, cap, rfl, h2, h3, h4⟩ := h
  refine ⟨h1, ao, cap, rfl, h2, h3, fun hn => ?_⟩
  obtain ⟨g, off, rfl, hp, hg, hc⟩ := h4 hn
  exact ⟨g, off, rfl, hp, by omega, fun j hj => (hk g hp hg _).trans (hc j hj)⟩
theorem Rd.touch {F : Nat → Prop} (h : Rd w Pb v n xs) (ht : Touch F w w') (hF : ∀ g, Pb g → ¬ F g) : Rd w' Pb v n xs :=
  h.keep ht.size fun g hp hg j => ht.cell (p := ⟨g, j, none⟩) hg (hF g hp)
theorem Rd.mono (h : Rd w Pb v n xs) (hq : ∀ g, Pb g → g < w.heap.size → Qb g) : Rd w Qb v n xs := by
  obtain ⟨h1, ao, cap, rfl, h2, h3, h4⟩ := h
  refine ⟨h1, ao, cap, rfl, h2, h3, fun hn => ?_⟩
  obtain ⟨g, off, rfl, hp, hg, hc⟩ := h4 hn
  exact ⟨g, off, rfl, hq g hp hg, hg, hc⟩
theorem Own.rd {e : TypeId} (h : Own w e 1 v n xs) (hp : ∀ k, v.ownBlock = some k → Pb k) : Rd w Pb v n xs := by
  have hl : xs.length = n := by simpa using h.1
  obtain ⟨ao, cap, rfl, h1, h2, h3⟩ := h.form
  refine ⟨hl, ao, cap, rfl, h1, h2, fun hn => ?_⟩
  obtain ⟨g, off, rfl, hc, _, hg⟩ := h3 hn
  exact ⟨g, off, rfl, hp g rfl, hg, fun j hj => hc j (by omega)⟩
theorem Rd.src {P : Program} {tx e' : TypeId} (h : Rd w Pb v n xs) (hk : P.underlying tx = some (.slice e')) (h1 : ∀ u ∈ xs, u.oneCell' = true) : Src P 1 tx v n xs w := by
  obtain ⟨hl, ao, cap, rfl, _, _, h4⟩ := h
  rcases Nat.eq_zero_or_pos n with h0 | h0
  · subst h0
    have hx : xs = [] := List.eq_nil_of_length_eq_zero hl
    subst hx
    cases ao with
    | none => exact Src.ofNil w hk cap
    | some a => exact Src.ofSlice w hk a 0 cap [] rfl (fun j u hu => by simp at hu) h1
  · obtain ⟨g, off, rfl, _, _, hc⟩ := h4 h0
    refine Src.ofSlice w hk ⟨g, off, none⟩ n cap xs (by simpa using hl) (fun j u hu => ?_) h1
    have hj : j < xs.length := (List.getElem?_eq_some_iff.1 hu).1
    have ha : (⟨g, off, none⟩ : Addr).add j = ⟨g, off + j, none⟩ := by unfold Addr.add; split <;> simp_all
    rw [ha, hc j (by omega), hu]
end

/-! ### 5. append -/
section
variable {P : Program} (w : World)

theorem size_setCells (g : Nat) : ∀ (vs : List Value) (o : Nat) (w : World), (w.setCells g o vs).heap.size = w.heap.size
  | [], _, _ => rfl
  | v :: r, o, w => by rw [World.setCells, size_setCells g r]; simp [World.setCell]
theorem tape_setCells (g : Nat) : ∀ (vs : List Value) (o : Nat) (w : World), (w.setCells g o vs).tape = w.tape
  | [], _, _ => rfl
  | v :: r, o, w => by rw [World.setCells, tape_setCells g r]; rfl
/-- Cells written in a row. -/
def putCells (cur : Array Value) : Nat → List Value → Array Value
  | _, [] => cur
  | o, v :: r => putCells (cur.setIfInBounds o v) (o + 1) r
theorem size_putCells : ∀ (vs : List Value) (o : Nat) (cur : Array Value), (putCells cur o vs).size = cur.size
  | [], _, _ => rfl
  | v :: r, o, cur => by rw [putCells, size_putCells r]; simp
theorem get_putCells : ∀ (vs : List Value) (o : Nat) (cur : Array Value) (i : Nat), o + vs.length ≤ cur.size → (putCells cur o vs)[i]? = if o ≤ i ∧ i < o + vs.length then vs[i - o]? else cur[i]?
  | [], o, cur, i, _ => by
    rw [if_neg (by simp only [List.length_nil]; omega)]
    rfl
  | v :: r, o, cur, i, h => by
    simp only [List.length_cons] at h
    rw [putCells, get_putCells r (o + 1) _ i (by simp; omega)]
    by_cases h1 : o = i
    · subst h1
      have hlt : o < cur.size := by omega
      rw [if_neg (by omega), if_pos (by simp only [List.length_cons]; omega)]
      simp [hlt]
    · by_cases h2 : o + 1 ≤ i ∧ i < o + 1 + r.length
      · rw [if_pos h2, if_pos (by simp only [List.length_cons]; omega)]
        have : i - o = (i - (o + 1)) + 1 := by omega
        rw [this, List.getElem?_cons_succ]
      · rw [if_neg h2, if_neg (by simp only [List.length_cons]; omega), Array.getElem?_setIfInBounds_ne h1]
theorem Blk.setCells {g : Nat} {t : TypeId} : ∀ (vs : List Value) (o : Nat) {w : World} {cs : Array Value}, Blk w g t cs → Blk (w.setCells g o vs) g t (putCells cs o vs)
  | [], _, _, _, h => h
  | v :: r, o, _, _, h => Blk.setCells r (o + 1) (h.set_ o v)
theorem run_append_O (t tx ty e : TypeId) (i : TypeInfo) (z : Value) (size bytes : Nat) (ht : P.underlying t = some (.slice e)) (hi : P.info? e = some i) (hz : i.zero = some z)
    (hsize : i.size = size) (hby : i.bytes = bytes) (hzs : z.cells.size = size) (hsz : 0 < size)
    (v : Value) (n : Nat) (xs : List Value) (hown : Own w e size v n xs) (h0 : ∀ u ∈ xs, u.oneCell' = true)
    (x : Value) (m : Nat) (news : List Value) (hs : Src P size tx x m news w)
    (h63 : n + m ≤ maxLen) (hbytes : (n + m) * bytes ≤ 140737488355328) :
    ∃ v' w', (Builtin.append_ #[t, tx] ty #[v, x]).run P w = .ok v' w' ∧ Own w' e size v' (n + m) (xs ++ news) ∧ w.grownBy w' v.ownBlock ∧ (v'.ownBlock = v.ownBlock ∨ v'.ownBlock = some w.heap.size) ∧
      (∀ k, v'.ownBlock = some k → k < w'.heap.size) := by
  subst hsize
  subst hby
  have hsmall : n + m ≤ 9223372036854775807 := by simp only [maxLen] at h63; omega
  have hlen : (xs ++ news).length = (n + m) * i.size := by rw [List.length_append, hown.1, hs.newsLen, Nat.add_mul]
  have grown : ∀ old : Nat, old < n + m →
      Own (w.drew.alloc (.cells ((xs ++ news).toArray ++ Builtin.zeroCells z.cells (grownCap w (n + m) old e - (n + m))) e)) e i.size
        (.slice (some ⟨w.heap.size, 0, none⟩) (n + m) (grownCap w (n + m) old e)) (n + m) (xs ++ news) := by
    intro old ho
    have hge := grownCap_ge w (n + m) old e
    have hcm : grownCap w (n + m) old e ≤ maxLen := grownCap_le_maxLen w (n + m) old e h63
    refine ⟨hlen, .inr ⟨w.heap.size, 0, _, _, rfl, Blk.new w.drew e _, hge, hcm, ?_, fun j hj => ?_⟩⟩
    · simp only [Array.size_append, List.size_toArray, size_zeroCells, hzs, hlen, ← Nat.add_mul, Nat.zero_add]
      exact Nat.mul_le_mul_right _ (by omega)
    · simp only [Nat.zero_add]
      rw [Array.getElem?_append_left (by simpa using hj)]
      simp
  rcases hown.2 with ⟨rfl, rfl⟩ | ⟨g, off, cap, cur, rfl, hb, hnc, hcm, hcs, hcell⟩
  · have hx : xs = [] := List.eq_nil_of_length_eq_zero (by simpa using hown.1)
    subst hx
    by_cases hm : m = 0
    · subst hm
      have hn : news = [] := List.eq_nil_of_length_eq_zero (by simpa using hs.newsLen)
      subst hn
      refine ⟨.slice none 0 0, w, ?_, Own.nil w e i.size, ⟨rfl, rfl, rfl, Nat.le_refl _, fun _ _ _ => rfl⟩, .inl rfl, fun k hk => by simp [Value.ownBlock] at hk⟩
      rcases hs.kind with ⟨e', hk⟩ | hk <;> simp [Builtin.append_, run_underlying ht, run_underlying hk, sizeOf, typeInfo, hi, hs.len, hs.cells]
    · have hold : (Builtin.firstCells i.size 0 (.slice none 0 0)).run P w.drew = .ok ([] : List Value).toArray w.drew := run_firstCells_none w.drew i.size 0 0 0
      have hr := run_append_grow_src (P := P) w t tx ty e i z ht hi hz none 0 0 [] hold x m news hs (by omega) (by omega) (growslice_fits (by omega) hbytes)
      have hgr := grown 0 (by omega)
      refine ⟨_, _, hr, hgr, ⟨rfl, rfl, rfl, by simp, fun k hk _ => Below.heap_alloc w.drew _ k hk⟩, .inr rfl, fun k hk => ?_⟩
      simp only [Value.ownBlock, Option.some.injEq] at hk
      subst hk
      simp
  · by_cases hroom : n + m ≤ cap
    · have e1 : n * i.size + m * i.size ≤ cap * i.size := by rw [← Nat.add_mul]; exact Nat.mul_le_mul_right _ hroom
      have hnl := hs.newsLen
      have hr := run_append_room_src (P := P) w t tx ty e i ht hi g off n cap x m news hs hroom
        (fun j hj => by rw [hb.cell, Array.getElem?_eq_getElem (by omega)]; rfl) (fun j _ => hb.frozen _)
      refine ⟨_, _, hr, ⟨hlen, .inr ⟨g, off, cap, _, rfl, hb.setCells news (off + n * i.size), hroom, hcm, by rw [size_putCells]; exact hcs, fun j hj => ?_⟩⟩,
        ⟨World.os_setCells w g _ news, tape_setCells g news _ w, World.output_setCells w g _ news, by rw [size_setCells]; exact Nat.le_refl _, fun k hk hne => World.heap_setCells_other w g _ news hk (fun e => hne (by rw [e]; rfl))⟩, .inl rfl, fun k hk => ?_⟩
      · rw [get_putCells news _ cur _ (by omega)]
        rw [hlen, Nat.add_mul] at hj
        have hx := hown.1
        by_cases hj2 : j < xs.length
        · rw [if_neg (by omega), List.getElem?_append_left hj2]
          exact hcell j hj2
        · rw [if_pos (by omega), List.getElem?_append_right (by omega)]
          congr 1
          omega
      · simp only [Value.ownBlock, Option.some.injEq] at hk
        subst hk
        rw [size_setCells]
        exact hb.lt
    · have hold : (Builtin.firstCells i.size n (.slice (some ⟨g, off, none⟩) n cap)).run P w.drew = .ok xs.toArray w.drew :=
        (Own.src (P := P) (tx := t) (w := w.drew) hown.drew ht h0).cells
      have hr := run_append_grow_src (P := P) w t tx ty e i z ht hi hz (some ⟨g, off, none⟩) n cap xs hold x m news hs (by omega) (by omega) (growslice_fits (by omega) hbytes)
      have hgr := grown cap (by omega)
      refine ⟨_, _, hr, hgr, ⟨rfl, rfl, rfl, by simp, fun k hk _ => Below.heap_alloc w.drew _ k hk⟩, .inr rfl, fun k hk => ?_⟩
      simp only [Value.ownBlock, Option.some.injEq] at hk
      subst hk
      simp
/-- One element laid in a block of its own ('append(out, x)'). -/
theorem src_new {tx e' : TypeId} (hk : P.underlying tx = some (.slice e')) (e : TypeId) (u : Value) (h1 : u.oneCell' = true) : Src P 1 tx (.slice (some ⟨w.heap.size, 0, none⟩) 1 1) 1 [u] (w.alloc (.cells #[u] e)) := by
  refine Src.ofSlice _ hk _ 1 1 [u] rfl (fun j v hj => ?_) (fun x hx => ?_)
  · cases j with
    | zero =>
      have hb := Blk.new w e #[u]
      have ha : (⟨w.heap.size, 0, none⟩ : Addr).add 0 = ⟨w.heap.size, 0, none⟩ := rfl
      rw [ha, hb.cell]
      simpa using hj
    | succ j => simp at hj
  · simp only [List.mem_singleton] at hx
    exact hx ▸ h1
theorem wp_append_O {o : Oper} {a : Act} {K : Act → World → Prop} {Q : Exit → Act → World → Prop} (s sx : Operand) (t tx : TypeId)
    (ho : o.op = .call { callee := .builtin .append, args := #[s, sx], argTypes := #[t, tx] })
    (e : TypeId) (i : TypeInfo) (z : Value) (size bytes : Nat) (ht : P.underlying t = some (.slice e)) (hi : P.info? e = some i) (hz : i.zero = some z)
    (hsize : i.size = size) (hby : i.bytes = bytes) (hzs : z.cells.size = size) (hsz : 0 < size)
    (v : Value) (n : Nat) (xs : List Value) (hv : a.eval s = v) (hown : Own w e size v n xs) (h0 : ∀ u ∈ xs, u.oneCell' = true)
    (x : Value) (m : Nat) (news : List Value) (hx : a.eval sx = x) (hs : Src P size tx x m news w)
    (h63 : n + m ≤ maxLen) (hbytes : (n + m) * bytes ≤ 140737488355328)
    (h : ∀ v' w', Own w' e size v' (n + m) (xs ++ news) → w.grownBy w' v.ownBlock → (v'.ownBlock = v.ownBlock ∨ v'.ownBlock = some w.heap.size) → (∀ k, v'.ownBlock = some k → k < w'.heap.size) → K (a.put o.dst v') w') : o.wp P a w K Q := by
  obtain ⟨v', w', hrun, h2, h3, h4, h5⟩ := run_append_O (P := P) w t tx o.type e i z size bytes ht hi hz hsize hby hzs hsz v n xs hown h0 x m news hs h63 hbytes
  unfold Oper.wp execOp
  simp only [ho, resolve, invoke, builtin, Sem.run_bind, Sem.run_pure, Result.andThen_ok, List.map_toArray, List.map_cons, List.map_nil, hv, hx, hrun]
  exact h v' w' h2 h3 h4 h5
theorem wpList_append_O {ops : Array Oper} {rest : List Oper} {o : Oper} {a : Act} {Q : Exit → Act → World → Prop} (hgd : o.guard = none) (s sx : Operand) (t tx : TypeId)
    (ho : o.op = .call { callee := .builtin .append, args := #[s, sx], argTypes := #[t, tx] })
    (e : TypeId) (i : TypeInfo) (z : Value) (size bytes : Nat) (ht : P.underlying t = some (.slice e)) (hi : P.info? e = some i) (hz : i.zero = some z)
    (hsize : i.size = size) (hby : i.bytes = bytes) (hzs : z.cells.size = size) (hsz : 0 < size)
    (v : Value) (n : Nat) (xs : List Value) (hv : a.eval s = v) (hown : Own w e size v n xs) (h0 : ∀ u ∈ xs, u.oneCell' = true)
    (x : Value) (m : Nat) (news : List Value) (hx : a.eval sx = x) (hs : Src P size tx x m news w)
    (h63 : n + m ≤ maxLen) (hbytes : (n + m) * bytes ≤ 140737488355328)
    (h : ∀ v' w', Own w' e size v' (n + m) (xs ++ news) → w.grownBy w' v.ownBlock → (v'.ownBlock = v.ownBlock ∨ v'.ownBlock = some w.heap.size) → (∀ k, v'.ownBlock = some k → k < w'.heap.size) → wpList P ops Q rest (a.put o.dst v') w') :
    wpList P ops Q (o :: rest) a w :=
  wpList_plain hgd fun _ hK => wp_append_O w s sx t tx ho e i z size bytes ht hi hz hsize hby hzs hsz v n xs hv hown h0 x m news hx hs h63 hbytes fun v' w' h2 h3 h4 h5 => hK _ _ (h v' w' h2 h3 h4 h5)
/-- The same, the new value's form written out. -/
theorem wp_append_S {o : Oper} {a : Act} {K : Act → World → Prop} {Q : Exit → Act → World → Prop} (s sx : Operand) (t tx : TypeId)
    (ho : o.op = .call { callee := .builtin .append, args := #[s, sx], argTypes := #[t, tx] })
    (e : TypeId) (i : TypeInfo) (z : Value) (size bytes : Nat) (ht : P.underlying t = some (.slice e)) (hi : P.info? e = some i) (hz : i.zero = some z)
    (hsize : i.size = size) (hby : i.bytes = bytes) (hzs : z.cells.size = size) (hsz : 0 < size)
    (v : Value) (n : Nat) (xs : List Value) (hv : a.eval s = v) (hown : Own w e size v n xs) (h0 : ∀ u ∈ xs, u.oneCell' = true)
    (x : Value) (m : Nat) (news : List Value) (hx : a.eval sx = x) (hs : Src P size tx x m news w)
    (h63 : n + m ≤ maxLen) (hbytes : (n + m) * bytes ≤ 140737488355328)
    (h : ∀ ao' cap' w', n + m ≤ cap' → cap' ≤ maxLen → Own w' e size (.slice ao' (n + m) cap') (n + m) (xs ++ news) → w.grownBy w' v.ownBlock → ((Value.slice ao' (n + m) cap').ownBlock = v.ownBlock ∨ (Value.slice ao' (n + m) cap').ownBlock = some w.heap.size) → (∀ k, (Value.slice ao' (n + m) cap').ownBlock = some k → k < w'.heap.size) → K (a.put o.dst (.slice ao' (n + m) cap')) w') : o.wp P a w K Q := by
  refine wp_append_O w s sx t tx ho e i z size bytes ht hi hz hsize hby hzs hsz v n xs hv hown h0 x m news hx hs h63 hbytes fun v' w' h2 h3 h4 h5 => ?_
  obtain ⟨ao', cap', rfl, h6, h7, _⟩ := h2.form
  exact h ao' cap' w' h6 h7 h2 h3 h4 h5
theorem wpList_append_S {ops : Array Oper} {rest : List Oper} {o : Oper} {a : Act} {Q : Exit → Act → World → Prop} (hgd : o.guard = none) (s sx : Operand) (t tx : TypeId)
    (ho : o.op = .call { callee := .builtin .append, args := #[s, sx], argTypes := #[t, tx] })
    (e : TypeId) (i : TypeInfo) (z : Value) (size bytes : Nat) (ht : P.underlying t = some (.slice e)) (hi : P.info? e = some i) (hz : i.zero = some z)
    (hsize : i.size = size) (hby : i.bytes = bytes) (hzs : z.cells.size = size) (hsz : 0 < size)
    (v : Value) (n : Nat) (xs : List Value) (hv : a.eval s = v) (hown : Own w e size v n xs) (h0 : ∀ u ∈ xs, u.oneCell' = true)
    (x : Value) (m : Nat) (news : List Value) (hx : a.eval sx = x) (hs : Src P size tx x m news w)
    (h63 : n + m ≤ maxLen) (hbytes : (n + m) * bytes ≤ 140737488355328)
    (h : ∀ ao' cap' w', n + m ≤ cap' → cap' ≤ maxLen → Own w' e size (.slice ao' (n + m) cap') (n + m) (xs ++ news) → w.grownBy w' v.ownBlock → ((Value.slice ao' (n + m) cap').ownBlock = v.ownBlock ∨ (Value.slice ao' (n + m) cap').ownBlock = some w.heap.size) → (∀ k, (Value.slice ao' (n + m) cap').ownBlock = some k → k < w'.heap.size) → wpList P ops Q rest (a.put o.dst (.slice ao' (n + m) cap')) w') :
    wpList P ops Q (o :: rest) a w :=
  wpList_plain hgd fun _ hK => wp_append_S w s sx t tx ho e i z size bytes ht hi hz hsize hby hzs hsz v n xs hv hown h0 x m news hx hs h63 hbytes fun ao' cap' w' h1 h2 h3 h4 h5 h6 => hK _ _ (h ao' cap' w' h1 h2 h3 h4 h5 h6)
end

end Go.Proofs.YtdpjjnbelgaagaaGreatDoor

namespace Go.Proofs.YtdpjjnbelgaagaaGreatDoor
open Go.ChangeShapes Go.WideShapes Go.ChangeAt Go.RowKit Go.Deep
set_option maxRecDepth 100000

/-- May a byte stand in a version? -/
def wordB (c : UInt8) : Bool := (decide (97 ≤ c.toNat) && decide (c.toNat ≤ 122)) || (decide (65 ≤ c.toNat) && decide (c.toNat ≤ 90)) || (decide (48 ≤ c.toNat) && decide (c.toNat ≤ 57)) || ([46, 95, 43, 126, 94] : List UInt8).contains c
def wordE (s : ByteArray) : Bool := decide (1 ≤ s.size) && decide (s.size ≤ 64) && s.data.toList.all wordB
theorem u8_back (c : UInt8) : ((c.toNat : Int)).toNat.toUInt8 = c := by
  rw [Int.toNat_natCast]
  exact UInt8.ofNat_toNat
/-- Where a byte is met, by strings.IndexByte. -/
theorem ix_at (l : List UInt8) (c : UInt8) (w : World) : Calls Tryz.prog 113 #[.string ⟨l.toArray⟩, .int .u8 (c.toNat : Int)] w fun e w' => e = .returned (.int .i64 (Lib.indexByte l c)) ∧ w = w' := by
  refine (strings_IndexByte ⟨l.toArray⟩ (c.toNat : Int) w).mono ?_
  rintro e w' ⟨rfl, rfl⟩
  rw [u8_back]
  exact ⟨rfl, rfl⟩
theorem ix_yes (l : List UInt8) (c : UInt8) : decide (0 ≤ Lib.indexByte l c) = l.contains c := (Lib.contains_iff_indexByte l c).symm
theorem all_drop {s : ByteArray} {p : UInt8 → Bool} {k : Nat} (h : k < s.size) : (s.data.toList.drop k).all p = (p s[k] && (s.data.toList.drop (k + 1)).all p) := by
  rw [List.drop_eq_getElem_cons (by simpa using h)]
  rfl
theorem all_end {s : ByteArray} {p : UInt8 → Bool} : (s.data.toList.drop s.size).all p = true := by
  rw [List.drop_of_length_le (by simp)]
  rfl
theorem list_nil {s : ByteArray} (h : s.size = 0) : s.toList = [] := by
  rw [ByteArray.toList_eq]
  exact List.eq_nil_of_length_eq_zero (by simpa using h)
theorem list_some {s : ByteArray} (h : 0 < s.size) : s.toList.isEmpty = false ∧ ¬ s.toList = [] := by
  rw [ByteArray.toList_eq]
  have h1 : s.data.toList ≠ [] := fun e => by
    have h2 : s.data.toList.length = 0 := by rw [e]; rfl
    have h3 : s.data.toList.length = s.size := by simp
    omega
  exact ⟨by simpa using h1, h1⟩
theorem word_in {c : UInt8} {J : Int} (hJ : decide (0 ≤ J) = ([46, 95, 43, 126, 94] : List UInt8).contains c) (h : (97 ≤ c.toNat ∧ c.toNat ≤ 122) ∨ (65 ≤ c.toNat ∧ c.toNat ≤ 90) ∨ (48 ≤ c.toNat ∧ c.toNat ≤ 57) ∨ 0 ≤ J) : wordB c = true := by
  unfold wordB
  rw [← hJ]
  simp only [Bool.or_eq_true, Bool.and_eq_true, decide_eq_true_eq]
  omega
theorem word_out {c : UInt8} {J : Int} (hJ : decide (0 ≤ J) = ([46, 95, 43, 126, 94] : List UInt8).contains c) (h : ¬ (97 ≤ c.toNat ∧ c.toNat ≤ 122) ∧ ¬ (65 ≤ c.toNat ∧ c.toNat ≤ 90) ∧ ¬ (48 ≤ c.toNat ∧ c.toNat ≤ 57) ∧ J < 0) : wordB c = false := by
  rw [← Bool.not_eq_true]
  unfold wordB
  rw [← hJ]
  simp only [Bool.or_eq_true, Bool.and_eq_true, decide_eq_true_eq]
  omega
set_option maxHeartbeats 1000000 in
theorem word_any (s : ByteArray) (w : World) (hs : s.size ≤ 9223372036854775807) : Calls Tryz.prog 115 #[.string s] w fun e w' => e = .returned (.bool (wordE s)) ∧ w = w' := by
  obtain ⟨T, hT⟩ : ∃ T, T = wordE s := ⟨_, rfl⟩
  rw [← hT]
  unfold wordE at hT
  by_cases h0 : s.size = 0
  · have h1 := list_nil h0
    have h2 : s.toList.isEmpty = true := by rw [h1]; rfl
    obtain rfl : T = false := by rw [hT, h0]; rfl
    clear hT
    go_enter Tryz.func115, Tryz.ntmps115
    go_wp2_with fail
    go_ret
    exact ⟨rfl, rfl⟩
  · obtain ⟨hne, hne2⟩ := list_some (show 0 < s.size by omega)
    by_cases h64 : (64 : Int) < (s.size : Int)
    · obtain rfl : T = false := by rw [hT, decide_eq_false (show ¬ s.size ≤ 64 by omega)]; simp
      have hd : decide ((64 : Int) < (s.size : Int)) = true := by simpa using h64
      clear hT
      go_enter Tryz.func115, Tryz.ntmps115
      go_wp2_with fail
      go_ret
      exact ⟨rfl, rfl⟩
    · have hd : decide ((64 : Int) < (s.size : Int)) = false := by simpa using h64
      have HT := Lib.hid (show T = (s.data.toList.drop 0).all wordB by rw [hT, decide_eq_true (show s.size ≤ 64 by omega), decide_eq_true (show 1 ≤ s.size by omega)]; rfl)
      clear hT h0
      go_enter Tryz.func115, Tryz.ntmps115
      go_wp2_with fail
      go_loop [14] (fun i => ∃ k : Nat, k ≤ s.size ∧ i = .int .i64 k ∧ Hid (T = (s.data.toList.drop k).all wordB)) (fun i => s.size - (intOf i).toNat)
      case atStart => exact ⟨0, by omega, rfl, HT⟩
      case round =>
        obtain ⟨k, hk, rfl, HK⟩ := hrel
        by_cases hlt : k < s.size
        · have hki : (k : Int) < (s.size : Int) := by omega
          have hTk := HK.out
          rw [all_drop hlt] at hTk
          have HI := Lib.hid (fun w => ix_at [46, 95, 43, 126, 94] s[k] w)
          have HIy := Lib.hid (ix_yes [46, 95, 43, 126, 94] s[k])
          obtain ⟨J, hJ⟩ : ∃ J, J = Lib.indexByte [46, 95, 43, 126, 94] s[k] := ⟨_, rfl⟩
          rw [← hJ] at HI HIy
          have HTk := Lib.hid hTk
          clear hJ HK hTk
          go_wp2_with (first
            | (go_at_call 113; (with_reducible refine (HI.out _).mono ?_); rintro e w1 ⟨rfl, rfl⟩)
            | fail)
          all_goals
            first
              | (go_round
                 case rel => exact ⟨k + 1, by omega, by go_num, Lib.hid (by rw [HTk.out, word_in HIy.out (by omega)]; rfl)⟩
                 case measure => simp [intOf]; omega)
              | (go_ret
                 rw [HTk.out, word_out HIy.out (by omega)]
                 exact ⟨rfl, rfl⟩)
              | fail
        · obtain rfl : k = s.size := by omega
          have hTk := HK.out
          rw [all_end] at hTk
          subst hTk
          clear HK HT
          go_wp2_with fail
          go_ret
          exact ⟨rfl, rfl⟩
end Go.Proofs.YtdpjjnbelgaagaaGreatDoor

namespace Go.Proofs.YtdpjjnbelgaagaaGreatDoor
open Go.ChangeShapes Go.WideShapes Go.ChangeAt Go.RowKit Go.Deep
set_option maxRecDepth 100000

/-! ### May -/
def evrE (ep : Int) (ver rel : ByteArray) (dep : Bool) : Bool := decide (0 ≤ ep) && decide (ep ≤ 2147483647) && wordE ver && (wordE rel || (dep && decide (rel.size = 0)))
set_option maxHeartbeats 2000000 in
theorem evr_any (ep : Int) (ver rel : ByteArray) (dep : Bool) (w : World) (h1 : ver.size ≤ 9223372036854775807) (h2 : rel.size ≤ 9223372036854775807) :
    Calls Tryz.prog 71 #[.agg #[.int .i64 ep, .string ver, .string rel], .bool dep] w fun e w' => e = .returned (.bool (evrE ep ver rel dep)) ∧ Below w.heap.size w w' := by
  obtain ⟨T, hT⟩ : ∃ T, T = evrE ep ver rel dep := ⟨_, rfl⟩
  rw [← hT]
  have HV := Lib.hid (fun w => word_any ver w h1)
  have HR := Lib.hid (fun w => word_any rel w h2)
  unfold evrE at hT
  have hB : Below w.heap.size w (w.alloc (.cells #[.int .i64 ep, .string ver, .string rel] 24)) := (Below.refl _ _).alloc (Nat.le_refl _) _
  by_cases ha : 0 ≤ ep
  · rw [decide_eq_true ha] at hT
    by_cases hb : ep ≤ 2147483647
    · rw [decide_eq_true hb] at hT
      cases hv : wordE ver with
      | true =>
        rw [hv] at HV hT
        cases hr : wordE rel with
        | true =>
          rw [hr] at HR hT
          obtain rfl : T = true := by rw [hT]; rfl
          clear hT hv hr h1 h2
          go_enter Tryz.func71, Tryz.ntmps71
          go_wp2_with (first
            | (go_at_call 115; (with_reducible refine (HV.out _).mono ?_); rintro e w1 ⟨rfl, rfl⟩)
            | (go_at_call 115; (with_reducible refine (HR.out _).mono ?_); rintro e w1 ⟨rfl, rfl⟩)
            | fail)
          go_ret
          exact ⟨rfl, hB⟩
        | false =>
          rw [hr] at HR hT
          cases dep with
          | false =>
            obtain rfl : T = false := by rw [hT]; rfl
            clear hT hv hr h1 h2
            go_enter Tryz.func71, Tryz.ntmps71
            go_wp2_with (first
              | (go_at_call 115; (with_reducible refine (HV.out _).mono ?_); rintro e w1 ⟨rfl, rfl⟩)
              | (go_at_call 115; (with_reducible refine (HR.out _).mono ?_); rintro e w1 ⟨rfl, rfl⟩)
              | fail)
            go_ret
            exact ⟨rfl, hB⟩
          | true =>
            by_cases h0 : rel.size = 0
            · have k1 := list_nil h0
              have k2 : rel.toList.isEmpty = true := by rw [k1]; rfl
              obtain rfl : T = true := by rw [hT, h0]; rfl
              clear hT hv hr h1 h2 h0
              go_enter Tryz.func71, Tryz.ntmps71
              go_wp2_with (first
                | (go_at_call 115; (with_reducible refine (HV.out _).mono ?_); rintro e w1 ⟨rfl, rfl⟩)
                | (go_at_call 115; (with_reducible refine (HR.out _).mono ?_); rintro e w1 ⟨rfl, rfl⟩)
                | fail)
              go_ret
              exact ⟨rfl, hB⟩
            · obtain ⟨k1, k2⟩ := list_some (show 0 < rel.size by omega)
              obtain rfl : T = false := by rw [hT, decide_eq_false h0]; rfl
              clear hT hv hr h1 h2 h0
              go_enter Tryz.func71, Tryz.ntmps71
              go_wp2_with (first
                | (go_at_call 115; (with_reducible refine (HV.out _).mono ?_); rintro e w1 ⟨rfl, rfl⟩)
                | (go_at_call 115; (with_reducible refine (HR.out _).mono ?_); rintro e w1 ⟨rfl, rfl⟩)
                | fail)
              go_ret
              exact ⟨rfl, hB⟩
      | false =>
        rw [hv] at HV hT
        obtain rfl : T = false := by rw [hT]; rfl
        clear hT hv h1 h2
        go_enter Tryz.func71, Tryz.ntmps71
        go_wp2_with (first
          | (go_at_call 115; (with_reducible refine (HV.out _).mono ?_); rintro e w1 ⟨rfl, rfl⟩)
          | fail)
        go_ret
        exact ⟨rfl, hB⟩
    · obtain rfl : T = false := by rw [hT, decide_eq_false hb]; rfl
      have hd : decide (ep ≤ 2147483647) = false := by simpa using hb
      clear hT h1 h2
      go_enter Tryz.func71, Tryz.ntmps71
      go_wp2_with fail
      go_ret
      exact ⟨rfl, hB⟩
  · obtain rfl : T = false := by rw [hT, decide_eq_false ha]; rfl
    have hd : decide (0 ≤ ep) = false := by simpa using ha
    clear hT h1 h2
    go_enter Tryz.func71, Tryz.ntmps71
    go_wp2_with fail
    go_ret
    exact ⟨rfl, hB⟩
end Go.Proofs.YtdpjjnbelgaagaaGreatDoor

namespace Go.Proofs.YtdpjjnbelgaagaaGreatDoor
open Go.ChangeShapes Go.WideShapes Go.ChangeAt Go.RowKit Go.Deep
set_option maxRecDepth 100000

def signN (n : Nat) : Prop := (97 ≤ n ∧ n ≤ 122) ∨ (65 ≤ n ∧ n ≤ 90) ∨ (48 ≤ n ∧ n ≤ 57) ∨ n = 46 ∨ n = 95 ∨ n = 43 ∨ n = 45 ∨ n = 47 ∨ n = 58 ∨ n = 64 ∨ n = 126 ∨ n = 94
instance (n : Nat) : Decidable (signN n) := by unfold signN; infer_instance
def signB (c : UInt8) : Bool := decide (signN c.toNat)
def signsL : List UInt8 := [97, 98, 99, 100, 101, 102, 103, 104, 105, 106, 107, 108, 109, 110, 111, 112, 113, 114, 115, 116, 117, 118, 119, 120, 121, 122, 65, 66, 67, 68, 69, 70, 71, 72, 73, 74, 75, 76, 77, 78, 79, 80, 81, 82, 83, 84, 85, 86, 87, 88, 89, 90, 48, 49, 50, 51, 52, 53, 54, 55, 56, 57, 46, 95, 43, 45, 47, 58, 64, 126, 94]
theorem sign_all : ∀ n : Fin 256, signsL.contains (UInt8.ofNat n.val) = decide (signN n.val) := by decide +kernel
theorem sign_list (c : UInt8) : signsL.contains c = signB c := by
  have h := sign_all ⟨c.toNat, c.toNat_lt⟩
  simp only at h
  rw [UInt8.ofNat_toNat] at h
  exact h
theorem ret_bool {a b : Bool} (h : a = b) : Ending.returned (.bool a) = .returned (.bool b) := by rw [h]
/-! ### Name -/
def wordsL : List (List UInt8) := [[97, 110, 100], [111, 114], [105, 102], [101, 108, 115, 101], [117, 110, 108, 101, 115, 115], [119, 105, 116, 104], [119, 105, 116, 104, 111, 117, 116]]
def nameE (s : ByteArray) : Bool := (decide (1 ≤ s.size) && decide (s.size ≤ 64)) && (!(wordsL.contains s.toList) && s.data.toList.all signB)
end Go.Proofs.YtdpjjnbelgaagaaGreatDoor

namespace Go.Proofs.YtdpjjnbelgaagaaGreatDoor
open Go.ChangeShapes Go.WideShapes Go.ChangeAt Go.RowKit Go.Deep
set_option maxRecDepth 100000

def wordV (j : Nat) : ByteArray := ⟨(wordsL.getD j []).toArray⟩
/-- The words as start-up lays them. -/
structure Words (w : World) : Prop where
  lt : 0 < w.heap.size
  cell : ∀ j, j < 7 → w.cell? ⟨0, j, none⟩ = some (.string (wordV j))
theorem Words.below {w w' : World} (h : Words w) (hb : Below w.heap.size w w') : Words w' :=
  ⟨Nat.lt_of_lt_of_le h.lt hb.size, fun j hj => (World.cell?_of_block (w := w) (hb.block 0 h.lt)).trans (h.cell j hj)⟩
theorem decode_low {s : ByteArray} {pos : Nat} (h : pos < s.size) (ha : s[pos].toNat < 128) : Utf8.decode s pos = (s[pos].toNat, 1) := decode_ascii s pos h ha
theorem sign_ascii {c : UInt8} (h : signB c = true) : c.toNat ≤ 126 := by
  have h2 : signN c.toNat := of_decide_eq_true h
  unfold signN at h2
  omega
abbrev signsA : ByteArray := { data := #[97, 98, 99, 100, 101, 102, 103, 104, 105, 106, 107, 108, 109, 110, 111, 112, 113, 114, 115, 116, 117, 118, 119, 120, 121, 122, 65, 66, 67, 68, 69, 70, 71, 72, 73, 74, 75, 76, 77, 78, 79, 80, 81, 82, 83, 84, 85, 86, 87, 88, 89, 90, 48, 49, 50, 51, 52, 53, 54, 55, 56, 57, 46, 95, 43, 45, 47, 58, 64, 126, 94] }
theorem ix_signs (c : UInt8) (w : World) : Calls Tryz.prog 113 #[.string signsA, .int .u8 (c.toNat : Int)] w fun e w' => e = .returned (.int .i64 (Lib.indexByte signsL c)) ∧ w = w' := ix_at signsL c w
theorem words_yes {l : List UInt8} {j : Nat} (hj : j < 7) (h : (l == (wordV j).toList) = true) : wordsL.contains l = true := by
  have h2 : l = wordsL.getD j [] := by
    have := eq_of_beq h
    rw [this, ByteArray.toList_eq]
    rfl
  rw [h2, List.contains_iff_mem, List.getD_eq_getElem?_getD, List.getElem?_eq_getElem (show j < wordsL.length from hj)]
  exact List.getElem_mem _
theorem words_none {l : List UInt8} (h : ∀ j, j < 7 → (l == (wordV j).toList) = false) : wordsL.contains l = false := by
  cases hc : wordsL.contains l
  · rfl
  · obtain ⟨j, hj, e⟩ := List.getElem_of_mem (List.contains_iff_mem.1 hc)
    have h2 := h j hj
    rw [show (wordV j).toList = l by
      rw [ByteArray.toList_eq]
      show wordsL.getD j [] = l
      rw [List.getD_eq_getElem?_getD, List.getElem?_eq_getElem hj, ← e]
      rfl] at h2
    simp at h2
theorem words_step {l : List UInt8} {k : Nat} (h : ∀ j, j < k → (l == (wordV j).toList) = false) (h2 : (l == (wordV k).toList) = false) : ∀ j, j < k + 1 → (l == (wordV j).toList) = false := fun j hj => by
  by_cases e : j = k
  · rw [e]; exact h2
  · exact h j (by omega)
set_option maxHeartbeats 2000000 in
theorem name_any (s : ByteArray) (w : World) (hs : s.size ≤ 9223372036854775807) (hW : Words w) : Calls Tryz.prog 69 #[.string s] w fun e w' => e = .returned (.bool (nameE s)) ∧ Below w.heap.size w w' := by
  obtain ⟨T, hT⟩ : ∃ T, T = nameE s := ⟨_, rfl⟩
  rw [← hT]
  unfold nameE at hT
  by_cases h1 : (s.size : Int) < 1
  · obtain rfl : T = false := by rw [hT, decide_eq_false (show ¬ 1 ≤ s.size by omega)]; rfl
    have hd : decide ((s.size : Int) < 1) = true := by simpa using h1
    clear hT hW
    go_enter Tryz.func69, Tryz.ntmps69
    go_wp2_with fail
    go_ret
    exact ⟨rfl, Below.refl _ _⟩
  · rw [decide_eq_true (show 1 ≤ s.size by omega)] at hT
    have hd1 : decide ((s.size : Int) < 1) = false := by simpa using h1
    by_cases h2 : (64 : Int) < (s.size : Int)
    · obtain rfl : T = false := by rw [hT, decide_eq_false (show ¬ s.size ≤ 64 by omega)]; rfl
      have hd2 : decide ((64 : Int) < (s.size : Int)) = true := by simpa using h2
      clear hT hW
      go_enter Tryz.func69, Tryz.ntmps69
      go_wp2_with fail
      go_ret
      exact ⟨rfl, Below.refl _ _⟩
    · rw [decide_eq_true (show s.size ≤ 64 by omega)] at hT
      have hd2 : decide ((64 : Int) < (s.size : Int)) = false := by simpa using h2
      have HT := Lib.hid (show T = (!(wordsL.contains s.toList) && (s.data.toList.drop 0).all signB) from hT)
      have HW := Lib.hid hW
      clear hT hW
      go_enter Tryz.func69, Tryz.ntmps69
      go_wp2_with fail
      go_loopw [4] (fun _ wr => ∃ pos : Nat, pos ≤ s.size ∧ Hid (wr.heap[w.heap.size]? = some (.stringIter s pos)) ∧ Hid (Below w.heap.size w wr) ∧ Hid (T = (!(wordsL.contains s.toList) && (s.data.toList.drop pos).all signB))) (fun _ wr => s.size - wr.iterPos w.heap.size)
      case atStart => exact ⟨0, by omega, Lib.hid (World.iter_heap w s 0), Lib.hid ((Below.refl _ w).alloc (Nat.le_refl _) _), HT⟩
      case round =>
        obtain ⟨pos, hp, HIt, HB, HK⟩ := hrel
        by_cases hlt : pos < s.size
        · have hTk := HK.out
          rw [all_drop hlt] at hTk
          by_cases hasc : s[pos].toNat ≤ 126
          · have hnx := fun ty => Lib.run_next_ascii_at (P := Tryz.prog) wr w.heap.size s pos ty HIt.out hlt (by omega)
            have hsz : w.heap.size < wr.heap.size := (Array.getElem?_eq_some_iff.1 HIt.out).1
            have HI := Lib.hid (fun w => ix_signs s[pos] w)
            have HJy := Lib.hid (show decide (0 ≤ Lib.indexByte signsL s[pos]) = signB s[pos] by rw [ix_yes, sign_list])
            obtain ⟨J, hJ⟩ : ∃ J, J = Lib.indexByte signsL s[pos] := ⟨_, rfl⟩
            rw [← hJ] at HI HJy
            have hwr : IntKind.u8.wrap (s[pos].toNat : Int) = (s[pos].toNat : Int) := by rw [IntKind.wrap_u8]; omega
            have hgt : decide ((126 : Int) < (s[pos].toNat : Int)) = false := by simp; omega
            cases hb : signB s[pos] with
            | true =>
              rw [hb] at HJy hTk
              have hJ0 : decide (J < 0) = false := by have h := of_decide_eq_true HJy.out; exact decide_eq_false (by omega)
              have HTk := Lib.hid (show T = (!(wordsL.contains s.toList) && (s.data.toList.drop (pos + 1)).all signB) from hTk)
              have HIt2 := Lib.hid (Lib.iterAt_heap wr w.heap.size s pos (pos + 1) HIt.out)
              have HB2 := Lib.hid (Lib.below_iterAt HB.out (k := w.heap.size) (Nat.le_refl _) s (pos + 1))
              clear HK hTk hb hJ
              go_wp2_with (first
                | (go_at_call 113; (with_reducible refine (HI.out _).mono ?_); rintro e w1 ⟨rfl, rfl⟩)
                | fail)
              go_roundw
              case rel => exact ⟨pos + 1, by omega, HIt2, HB2, HTk⟩
              case measure =>
                simp only [World.iterPos, HIt2.out, HIt.out]
                omega
            | false =>
              rw [hb] at HJy hTk
              have hJ0 : decide (J < 0) = true := by have h := of_decide_eq_false HJy.out; exact decide_eq_true (by omega)
              obtain rfl : T = false := by rw [hTk, Bool.false_and, Bool.and_false]
              clear hTk
              have HB2 := Lib.hid (Lib.below_iterAt HB.out (k := w.heap.size) (Nat.le_refl _) s (pos + 1))
              clear HK HT hb hJ
              go_wp2_with (first
                | (go_at_call 113; (with_reducible refine (HI.out _).mono ?_); rintro e w1 ⟨rfl, rfl⟩)
                | fail)
              go_ret
              exact ⟨rfl, HB2.out⟩
          · have hnx := fun ty => Lib.run_next_any_at (P := Tryz.prog) wr w.heap.size s pos ty HIt.out hlt
            have hdec : 126 < (Utf8.decode s pos).1 := by
              by_cases h128 : s[pos].toNat < 128
              · rw [decode_low hlt h128]
                show 126 < s[pos].toNat
                omega
              · have := (decode_high s pos hlt (by omega)).1
                omega
            have hb : signB s[pos] = false := by
              cases h : signB s[pos]
              · rfl
              · exact absurd (sign_ascii h) hasc
            obtain rfl : T = false := by rw [hTk, hb, Bool.false_and, Bool.and_false]
            have HB2 := Lib.hid (Lib.below_iterAt HB.out (k := w.heap.size) (Nat.le_refl _) s (pos + (Utf8.decode s pos).2))
            obtain ⟨D, hD⟩ : ∃ D, D = Utf8.decode s pos := ⟨_, rfl⟩
            rw [← hD] at hnx hdec HB2
            have hgt : decide ((126 : Int) < (D.1 : Int)) = true := by simp; omega
            clear HK HT hTk hD hb
            go_wp2_with fail
            go_ret
            exact ⟨rfl, HB2.out⟩
        · obtain rfl : pos = s.size := by omega
          have hTk := HK.out
          rw [all_end, Bool.and_true] at hTk
          have HTk := Lib.hid hTk
          have hnx := fun ty => Lib.run_next_end_at (P := Tryz.prog) wr w.heap.size s s.size ty HIt.out hlt
          have hw := HW.out.below HB.out
          have c0 := hw.cell 0 (by omega)
          have c1 := hw.cell 1 (by omega)
          have c2 := hw.cell 2 (by omega)
          have c3 := hw.cell 3 (by omega)
          have c4 := hw.cell 4 (by omega)
          have c5 := hw.cell 5 (by omega)
          have c6 := hw.cell 6 (by omega)
          have HB3 := Lib.hid HB.out
          clear HK hTk HT hw HIt HB
          have HV := Lib.hid (show ∀ j, j < 7 → ((s.toList == (wordV j).toList) = true → wordsL.contains s.toList = true) from fun j hj h => words_yes hj h)
          have HVn := Lib.hid (show (∀ j, j < 7 → (s.toList == (wordV j).toList) = false) → wordsL.contains s.toList = false from words_none)
          obtain ⟨v0, hv0⟩ : ∃ v, v = wordV 0 := ⟨_, rfl⟩
          obtain ⟨v1, hv1⟩ : ∃ v, v = wordV 1 := ⟨_, rfl⟩
          obtain ⟨v2, hv2⟩ : ∃ v, v = wordV 2 := ⟨_, rfl⟩
          obtain ⟨v3, hv3⟩ : ∃ v, v = wordV 3 := ⟨_, rfl⟩
          obtain ⟨v4, hv4⟩ : ∃ v, v = wordV 4 := ⟨_, rfl⟩
          obtain ⟨v5, hv5⟩ : ∃ v, v = wordV 5 := ⟨_, rfl⟩
          obtain ⟨v6, hv6⟩ : ∃ v, v = wordV 6 := ⟨_, rfl⟩
          rw [← hv0] at c0
          rw [← hv1] at c1
          rw [← hv2] at c2
          rw [← hv3] at c3
          rw [← hv4] at c4
          rw [← hv5] at c5
          rw [← hv6] at c6
          have HVv := Lib.hid (show (v0 = wordV 0 ∧ v1 = wordV 1 ∧ v2 = wordV 2) ∧ v3 = wordV 3 ∧ v4 = wordV 4 ∧ v5 = wordV 5 ∧ v6 = wordV 6 from ⟨⟨hv0, hv1, hv2⟩, hv3, hv4, hv5, hv6⟩)
          have i0 : ∀ w, (Instr.index 155 (.agg #[.string v0, .string v1, .string v2, .string v3, .string v4, .string v5, .string v6]) (.int .i64 0)).run Tryz.prog w = .ok (.string v0) w := fun _ => by kernel_rfl
          have i1 : ∀ w, (Instr.index 155 (.agg #[.string v0, .string v1, .string v2, .string v3, .string v4, .string v5, .string v6]) (.int .i64 1)).run Tryz.prog w = .ok (.string v1) w := fun _ => by kernel_rfl
          have i2 : ∀ w, (Instr.index 155 (.agg #[.string v0, .string v1, .string v2, .string v3, .string v4, .string v5, .string v6]) (.int .i64 2)).run Tryz.prog w = .ok (.string v2) w := fun _ => by kernel_rfl
          have i3 : ∀ w, (Instr.index 155 (.agg #[.string v0, .string v1, .string v2, .string v3, .string v4, .string v5, .string v6]) (.int .i64 3)).run Tryz.prog w = .ok (.string v3) w := fun _ => by kernel_rfl
          have i4 : ∀ w, (Instr.index 155 (.agg #[.string v0, .string v1, .string v2, .string v3, .string v4, .string v5, .string v6]) (.int .i64 4)).run Tryz.prog w = .ok (.string v4) w := fun _ => by kernel_rfl
          have i5 : ∀ w, (Instr.index 155 (.agg #[.string v0, .string v1, .string v2, .string v3, .string v4, .string v5, .string v6]) (.int .i64 5)).run Tryz.prog w = .ok (.string v5) w := fun _ => by kernel_rfl
          have i6 : ∀ w, (Instr.index 155 (.agg #[.string v0, .string v1, .string v2, .string v3, .string v4, .string v5, .string v6]) (.int .i64 6)).run Tryz.prog w = .ok (.string v6) w := fun _ => by kernel_rfl
          clear hv0 hv1 hv2 hv3 hv4 hv5 hv6
          go_wp2_with fail
          go_loop [29] (fun i => ∃ k : Nat, k ≤ 7 ∧ i = .int .i64 k ∧ Hid (∀ j, j < k → (s.toList == (wordV j).toList) = false)) (fun i => 7 - (intOf i).toNat)
          case atStart => exact ⟨0, by omega, rfl, Lib.hid (fun j hj => absurd hj (Nat.not_lt_zero _))⟩
          case round =>
            obtain ⟨k, hk, rfl, HJ⟩ := hrel
            match k, hk with
            | 0, _ =>
              cases he : (s.toList == v0.toList) with
              | true =>
                obtain rfl : T = false := by rw [HTk.out, HV.out 0 (by omega) (by rw [← HVv.out.1.1]; exact he)]; rfl
                clear HTk HV HVn
                go_wp2_with fail
                go_ret
                exact ⟨rfl, HB3.out⟩
              | false =>
                have HJ2 := Lib.hid (words_step HJ.out (by rw [← HVv.out.1.1]; exact he))
                clear HJ
                go_wp2_with fail
                go_round
                case rel => exact ⟨1, by omega, rfl, HJ2⟩
                case measure => simp [intOf]
            | 1, _ =>
              cases he : (s.toList == v1.toList) with
              | true =>
                obtain rfl : T = false := by rw [HTk.out, HV.out 1 (by omega) (by rw [← HVv.out.1.2.1]; exact he)]; rfl
                clear HTk HV HVn
                go_wp2_with fail
                go_ret
                exact ⟨rfl, HB3.out⟩
              | false =>
                have HJ2 := Lib.hid (words_step HJ.out (by rw [← HVv.out.1.2.1]; exact he))
                clear HJ
                go_wp2_with fail
                go_round
                case rel => exact ⟨2, by omega, rfl, HJ2⟩
                case measure => simp [intOf]
            | 2, _ =>
              cases he : (s.toList == v2.toList) with
              | true =>
                obtain rfl : T = false := by rw [HTk.out, HV.out 2 (by omega) (by rw [← HVv.out.1.2.2]; exact he)]; rfl
                clear HTk HV HVn
                go_wp2_with fail
                go_ret
                exact ⟨rfl, HB3.out⟩
              | false =>
                have HJ2 := Lib.hid (words_step HJ.out (by rw [← HVv.out.1.2.2]; exact he))
                clear HJ
                go_wp2_with fail
                go_round
                case rel => exact ⟨3, by omega, rfl, HJ2⟩
                case measure => simp [intOf]
            | 3, _ =>
              cases he : (s.toList == v3.toList) with
              | true =>
                obtain rfl : T = false := by rw [HTk.out, HV.out 3 (by omega) (by rw [← HVv.out.2.1]; exact he)]; rfl
                clear HTk HV HVn
                go_wp2_with fail
                go_ret
                exact ⟨rfl, HB3.out⟩
              | false =>
                have HJ2 := Lib.hid (words_step HJ.out (by rw [← HVv.out.2.1]; exact he))
                clear HJ
                go_wp2_with fail
                go_round
                case rel => exact ⟨4, by omega, rfl, HJ2⟩
                case measure => simp [intOf]
            | 4, _ =>
              cases he : (s.toList == v4.toList) with
              | true =>
                obtain rfl : T = false := by rw [HTk.out, HV.out 4 (by omega) (by rw [← HVv.out.2.2.1]; exact he)]; rfl
                clear HTk HV HVn
                go_wp2_with fail
                go_ret
                exact ⟨rfl, HB3.out⟩
              | false =>
                have HJ2 := Lib.hid (words_step HJ.out (by rw [← HVv.out.2.2.1]; exact he))
                clear HJ
                go_wp2_with fail
                go_round
                case rel => exact ⟨5, by omega, rfl, HJ2⟩
                case measure => simp [intOf]
            | 5, _ =>
              cases he : (s.toList == v5.toList) with
              | true =>
                obtain rfl : T = false := by rw [HTk.out, HV.out 5 (by omega) (by rw [← HVv.out.2.2.2.1]; exact he)]; rfl
                clear HTk HV HVn
                go_wp2_with fail
                go_ret
                exact ⟨rfl, HB3.out⟩
              | false =>
                have HJ2 := Lib.hid (words_step HJ.out (by rw [← HVv.out.2.2.2.1]; exact he))
                clear HJ
                go_wp2_with fail
                go_round
                case rel => exact ⟨6, by omega, rfl, HJ2⟩
                case measure => simp [intOf]
            | 6, _ =>
              cases he : (s.toList == v6.toList) with
              | true =>
                obtain rfl : T = false := by rw [HTk.out, HV.out 6 (by omega) (by rw [← HVv.out.2.2.2.2]; exact he)]; rfl
                clear HTk HV HVn
                go_wp2_with fail
                go_ret
                exact ⟨rfl, HB3.out⟩
              | false =>
                have HJ2 := Lib.hid (words_step HJ.out (by rw [← HVv.out.2.2.2.2]; exact he))
                clear HJ
                go_wp2_with fail
                go_round
                case rel => exact ⟨7, by omega, rfl, HJ2⟩
                case measure => simp [intOf]
            | 7, _ =>
              obtain rfl : T = true := by rw [HTk.out, HVn.out HJ.out]; rfl
              clear HTk HV HVn HJ
              go_wp2_with fail
              go_ret
              exact ⟨rfl, HB3.out⟩
end Go.Proofs.YtdpjjnbelgaagaaGreatDoor

namespace Go.Proofs.YtdpjjnbelgaagaaGreatDoor
open Go.ChangeShapes Go.WideShapes Go.ChangeAt Go.RowKit Go.Deep Go.Maps
set_option maxRecDepth 100000

def opsL : List (List UInt8 × Int) := [([], 0), ([60], 1), ([60, 61], 3), ([61], 2), ([62], 4), ([62, 61], 6)]
def opsD {H : Type} : DataW H := .map (opsL.map fun p => (.string p.1, .lit (.int .u8 p.2)))
def textL (op : Int) : List UInt8 := ((opsL.find? fun p => p.2 == op).map (·.1)).getD []
def mayOp (op : Int) : Bool := op == 0 || op == 1 || op == 2 || op == 3 || op == 4 || op == 6
/-- The Ops as start-up lays them. -/
def Ops (w : World) : Prop := 1 < w.heap.size ∧ ∃ (H : Type) (bm m : Nat), w.cell? ⟨1, 0, none⟩ = some (.map (some bm)) ∧ w.ownsMap (H := H) Tryz.prog 9 (plainElem Tryz.prog 5) bm m opsD
theorem owns_lt {H : Type} {w : World} {bm m : Nat} {D : DataW H} {R : Value → Option (DataW H × List MemPlace)} (h : w.ownsMap Tryz.prog 9 R bm m D) : bm < w.heap.size := by
  obtain ⟨es, clock, hb, _⟩ := h
  exact (Array.getElem?_eq_some_iff.1 hb).1
theorem Ops.below {w w' : World} (h : Ops w) (hb : Below w.heap.size w w') : Ops w' := by
  obtain ⟨h1, H, bm, m, h2, h3⟩ := h
  have hl := owns_lt h3
  obtain ⟨es, clock, hm, r⟩ := h3
  exact ⟨Nat.lt_of_lt_of_le h1 hb.size, H, bm, m, (World.cell?_of_block (w := w) (hb.block 1 h1)).trans h2, es, clock, (hb.block bm hl).trans hm, r⟩
theorem skey (a b : List UInt8) : (Lit.string a).sameKey (.string b) = decide (a = b) := by
  by_cases h : a = b
  · subst h
    rw [decide_eq_true rfl]
    exact WideAt.sameKey_self (by simp [WideAt.IsKeyLit])
  · rw [decide_eq_false h]
    cases hs : (Lit.string a).sameKey (.string b)
    · rfl
    · have := WideAt.sameKey_eq hs
      injection this with this
      exact absurd this h
theorem ops_has {H : Type} {l : List UInt8} (h : Maps.has (opsD (H := H)) (.string l) = true) : ∃ v, (l, v) ∈ opsL ∧ ∀ zd, (opsD (H := H)).atKey (.string l) zd = .lit (.int .u8 v) := by
  unfold Maps.has opsD at h
  simp only [List.any_map, List.any_eq_true, Function.comp, skey, decide_eq_true_eq] at h
  obtain ⟨p, hp, rfl⟩ := h
  refine ⟨p.2, hp, fun zd => ?_⟩
  unfold opsL at hp
  simp only [List.mem_cons, List.not_mem_nil, or_false] at hp
  rcases hp with rfl | rfl | rfl | rfl | rfl | rfl <;> (unfold opsD opsL DataW.atKey; simp [skey])
theorem text_of {l : List UInt8} {v : Int} (h : (l, v) ∈ opsL) : textL v = l := by
  unfold opsL at h
  simp only [List.mem_cons, List.not_mem_nil, or_false, Prod.mk.injEq] at h
  rcases h with ⟨rfl, rfl⟩ | ⟨rfl, rfl⟩ | ⟨rfl, rfl⟩ | ⟨rfl, rfl⟩ | ⟨rfl, rfl⟩ | ⟨rfl, rfl⟩ <;> rfl
theorem text_none {op : Int} (h : ∀ p ∈ opsL, p.2 ≠ op) : textL op = [] := by
  unfold textL
  rw [List.find?_eq_none.2 (fun p hp => by simpa using h p hp)]
  rfl
theorem ops_uniq : ∀ p ∈ opsL, ∀ q ∈ opsL, p.1 = q.1 → p.2 = q.2 := by decide
theorem ops_in {H : Type} : ∀ p ∈ opsL, Maps.has (opsD (H := H)) (.string p.1) = true := fun p hp => by
  unfold Maps.has opsD
  simp only [List.any_map, List.any_eq_true, Function.comp, skey, decide_eq_true_eq]
  exact ⟨p, hp, rfl⟩
theorem text_may (op : Int) (h : op ≠ 0) : mayOp op = !(textL op).isEmpty := by
  unfold textL opsL mayOp
  simp only [List.find?_cons, List.find?_nil]
  by_cases h1 : op = 1
  · subst h1; rfl
  · by_cases h3 : op = 3
    · subst h3; rfl
    · by_cases h2 : op = 2
      · subst h2; rfl
      · by_cases h4 : op = 4
        · subst h4; rfl
        · by_cases h6 : op = 6
          · subst h6; rfl
          · have e0 : ((0 : Int) == op) = false := by simpa using fun e => h e.symm
            have e1 : ((1 : Int) == op) = false := by simpa using fun e => h1 e.symm
            have e2 : ((2 : Int) == op) = false := by simpa using fun e => h2 e.symm
            have e3 : ((3 : Int) == op) = false := by simpa using fun e => h3 e.symm
            have e4 : ((4 : Int) == op) = false := by simpa using fun e => h4 e.symm
            have e6 : ((6 : Int) == op) = false := by simpa using fun e => h6 e.symm
            simp [e0, e1, e2, e3, e4, e6, h, h1, h2, h3, h4, h6]
set_option maxHeartbeats 2000000 in
theorem text_any (op : Int) (w : World) (hO : Ops w) : Calls Tryz.prog 160 #[.int .u8 op] w fun e w' => e = .returned (.string ⟨(textL op).toArray⟩) ∧ Below w.heap.size w w' := by
  obtain ⟨h1, H, bm, m, hc, hown⟩ := hO
  obtain ⟨T, hT⟩ : ∃ T : ByteArray, T = ⟨(textL op).toArray⟩ := ⟨_, rfl⟩
  rw [← hT]
  have HT := Lib.hid hT
  have hbml := owns_lt hown
  clear hT
  go_enter Tryz.func160, Tryz.ntmps160
  go_wp2_with (first
    | (at_range; refine wpList_range_own _ rfl _ 206 rfl 9 5 (string_keyed Tryz.underlying9) Tryz.underlying206 _ bm m _ rfl hown ?_; intro wr0 hrg0 hg0 hs0)
    | fail)
  go_frame
  go_loopw [] (fun wr => ∃ (left : Go.Lit → Bool) (cnt : Nat), wr.ranges (H := H) Tryz.prog 9 (plainElem Tryz.prog 5) bm w.heap.size m opsD left cnt ∧ Hid (∀ kl, left kl = true → Maps.has (opsD (H := H)) kl = true) ∧ Hid (∀ p ∈ opsL, left (.string p.1) = false → p.2 ≠ op) ∧ Hid (Below w.heap.size w wr))
    (fun wr => wr.rangeLeft bm w.heap.size)
  case atStart => exact ⟨_, _, hrg0, Lib.hid (fun _ h => h), Lib.hid (fun p hp h => by rw [ops_in p hp] at h; cases h), Lib.hid ⟨hg0.os, hg0.tape, hg0.output, hg0.size, fun k hk => hg0.block k hk (by simp)⟩⟩
  case round =>
    obtain ⟨left, cnt, hrg, HLs, HNo, HB⟩ := hrel
    go_wp2_with (first
      | (at_next; go_loud (refine wpList_next_ranges _ rfl _ rfl 9 (string_keyed Tryz.underlying9) (plainElem Tryz.prog 5) Value.string (Value.int .u8) (fun key kl h => by obtain ⟨s, h1, _⟩ := WideMaps.string_of_keyOf Tryz.underlying9 h; exact ⟨s, h1⟩) (fun v y h => by obtain ⟨a, h1, _⟩ := plainElem_int_inv Tryz.underlying5 h; exact ⟨a, h1⟩) bm w.heap.size m _ _ _ rfl hrg ?_ ?_))
      | fail)
    · intro hc0 hl0
      have ht : T = ⟨#[]⟩ := by rw [HT.out, text_none fun p hp => HNo.out p hp (hl0 _)]
      subst ht
      clear HT hl0 hrg HNo HLs
      go_wp2_with fail
      go_ret
      exact ⟨rfl, HB.out⟩
    · intro s c kl y1 y2 wr2 cnt' hkey hlx hy hat hrg2 hlt hgr hsz hen
      obtain ⟨s', es, rfl, _⟩ := WideMaps.string_of_keyOf Tryz.underlying9 hkey
      injection es with es
      subst es
      obtain ⟨v, hv, hat2⟩ := ops_has (HLs.out _ hlx)
      obtain ⟨c', ec, hc2, _⟩ := plainElem_int_inv Tryz.underlying5 hy
      injection ec with _ ec
      subst ec
      have hcv : c = v := by
        have h5 := (hat (.lit (.int .u8 0))).symm.trans (hat2 (.lit (.int .u8 0)))
        simp only [Prod.mk.injEq] at hc2
        rw [hc2.1] at h5
        injection h5 with h5
        injection h5 with _ h5
      subst hcv
      have hm0 : wr.rangeLeft bm w.heap.size = cnt := hrg.left_eq
      have hm1 : wr2.rangeLeft bm w.heap.size = cnt' := hrg2.left_eq
      have HB2 := Lib.hid (show Below w.heap.size w wr2 from HB.out.trans ⟨hgr.os, hgr.tape, hgr.output, hgr.size, fun k hk => hgr.block k (by have := HB.out.size; omega) (by simp; omega)⟩)
      have HLs2 : Hid (∀ kl, (left kl && !kl.sameKey (.string s.data.toList)) = true → Maps.has (opsD (H := H)) kl = true) := Lib.hid fun kl h => HLs.out kl (by simp only [Bool.and_eq_true] at h; exact h.1)
      have HV := Lib.hid hv
      have HRg := Lib.hid hrg2
      have HM := Lib.hid (show wr2.rangeLeft bm w.heap.size < wr.rangeLeft bm w.heap.size by omega)
      clear hkey hlx hy hat hat2 hc2 hrg hrg2 hlt hgr hsz hm0 hm1 HLs hv
      by_cases he : c = op
      · subst he
        have ht : T = s := by
          rw [HT.out, text_of HV.out]
        subst ht
        have hcc : (c == c) = true := by simp
        clear HT
        go_wp2_with fail
        go_ret
        exact ⟨rfl, HB2.out⟩
      · have hcc : (c == op) = false := by simpa using he
        have HNo2 : Hid (∀ p ∈ opsL, (left (.string p.1) && !(Lit.string p.1).sameKey (.string s.data.toList)) = false → p.2 ≠ op) := Lib.hid fun p hp h => by
          rw [skey] at h
          cases hl : left (.string p.1) with
          | false => exact HNo.out p hp hl
          | true =>
            rw [hl] at h
            have h2 : p.1 = s.data.toList := by simpa using h
            rw [ops_uniq p hp _ HV.out h2]
            exact he
        clear HNo he
        go_wp2_with fail
        go_roundw
        case rel => exact ⟨_, _, HRg.out, HLs2, HNo2, HB2⟩
        case measure => exact HM.out
end Go.Proofs.YtdpjjnbelgaagaaGreatDoor

namespace Go.Proofs.YtdpjjnbelgaagaaGreatDoor
open Go.ChangeShapes Go.WideShapes Go.ChangeAt Go.RowKit Go.Deep
set_option maxRecDepth 100000

theorem spanmay_any (op : Int) (w : World) (hO : Ops w) : Calls Tryz.prog 120 #[.int .u8 op] w fun e w' => e = .returned (.bool (mayOp op)) ∧ Below w.heap.size w w' := by
  obtain ⟨T, hT⟩ : ∃ T, T = mayOp op := ⟨_, rfl⟩
  rw [← hT]
  have HB0 := Below.refl w.heap.size w
  by_cases h0 : op = 0
  · subst h0
    obtain rfl : T = true := hT
    clear hO
    go_enter Tryz.func120, Tryz.ntmps120
    go_wp2_with fail
    go_ret
    exact ⟨rfl, HB0⟩
  · have hd : decide (op = 0) = false := by simpa using h0
    have hd2 : (op == 0) = false := by simpa using h0
    have HC := Lib.hid (text_any op w hO)
    rw [text_may op h0] at hT
    obtain ⟨S, hS⟩ : ∃ S : ByteArray, S = ⟨(textL op).toArray⟩ := ⟨_, rfl⟩
    have hS2 : S.toList = textL op := by rw [hS, ByteArray.toList_eq]
    rw [← hS] at HC
    rw [← hS2] at hT
    cases hl : S.toList with
    | nil =>
      rw [hl] at hT
      obtain rfl : T = false := hT
      have he : S.toList.isEmpty = true := by rw [hl]; rfl
      clear hO hS hS2 HB0
      go_enter Tryz.func120, Tryz.ntmps120
      go_wp2_with (first
        | (go_at_call 160; (with_reducible refine (HC.out).mono ?_); rintro e w1 ⟨rfl, HB⟩)
        | fail)
      go_ret
      exact ⟨rfl, HB⟩
    | cons x xs =>
      rw [hl] at hT
      obtain rfl : T = true := hT
      have he : S.toList.isEmpty = false := by rw [hl]; rfl
      have he2 : ¬ S.toList = [] := by rw [hl]; simp
      clear hO hS hS2 HB0 hl
      go_enter Tryz.func120, Tryz.ntmps120
      go_wp2_with (first
        | (go_at_call 160; (with_reducible refine (HC.out).mono ?_); rintro e w1 ⟨rfl, HB⟩)
        | fail)
      go_ret
      exact ⟨rfl, HB⟩
def fileE (s : ByteArray) : Bool := nameE s && Lib.hasPrefix s.data.toList [47]
theorem file_any (s : ByteArray) (w : World) (hs : s.size ≤ 9223372036854775807) (hW : Words w) : Calls Tryz.prog 70 #[.string s] w fun e w' => e = .returned (.bool (fileE s)) ∧ Below w.heap.size w w' := by
  obtain ⟨T, hT⟩ : ∃ T, T = fileE s := ⟨_, rfl⟩
  rw [← hT]
  have HN := Lib.hid (name_any s w hs hW)
  unfold fileE at hT
  cases hn : nameE s with
  | false =>
    rw [hn] at hT HN
    obtain rfl : T = false := hT
    clear hn hW hs
    go_enter Tryz.func70, Tryz.ntmps70
    go_wp2_with (first
      | (go_at_call 69; (with_reducible refine (HN.out).mono ?_); rintro e w1 ⟨rfl, HB⟩)
      | fail)
    go_ret
    exact ⟨rfl, HB⟩
  | true =>
    rw [hn] at hT HN
    have HP := Lib.hid (fun w => strings_HasPrefix s ⟨#[47]⟩ w)
    obtain rfl : T = Lib.hasPrefix s.data.toList [47] := hT
    clear hn hW hs
    go_enter Tryz.func70, Tryz.ntmps70
    go_wp2_with (first
      | (go_at_call 69; (with_reducible refine (HN.out).mono ?_); rintro e w1 ⟨rfl, HB⟩)
      | (go_at_call 114; (with_reducible refine (HP.out _).mono ?_); rintro e w2 ⟨rfl, rfl⟩)
      | fail)
    go_ret
    exact ⟨rfl, HB⟩
end Go.Proofs.YtdpjjnbelgaagaaGreatDoor

namespace Go.Proofs.YtdpjjnbelgaagaaGreatDoor
open Go.ChangeShapes Go.WideShapes Go.ChangeAt Go.RowKit Go.Deep
set_option maxRecDepth 100000

/-- A dependency in plain words. -/
structure DepD where
  name : ByteArray
  op : Int
  ep : Int
  ver : ByteArray
  rel : ByteArray
def DepD.zero (d : DepD) : Bool := decide (d.ep = 0) && (d.ver.toList.isEmpty && d.rel.toList.isEmpty)
def DepD.fit (d : DepD) : Prop := d.name.size ≤ 9223372036854775807 ∧ d.ver.size ≤ 9223372036854775807 ∧ d.rel.size ≤ 9223372036854775807
def depE (d : DepD) : Bool := nameE d.name && (mayOp d.op && (if d.op = 0 then d.zero else !fileE d.name && evrE d.ep d.ver d.rel true))
/-- A dependency's value. -/
abbrev DepD.val (d : DepD) : Value := .agg #[.string d.name, .int .u8 d.op, .int .i64 d.ep, .string d.ver, .string d.rel]
/-- The parameter's block stands at n. -/
structure DepAt (n : Nat) (d : DepD) (w : World) : Prop where
  c0 : w.cell? ⟨n, 0, none⟩ = some (.string d.name)
  c1 : w.cell? ⟨n, 1, none⟩ = some (.int .u8 d.op)
  c2 : w.cell? ⟨n, 2, none⟩ = some (.int .i64 d.ep)
  c3 : w.cell? ⟨n, 3, none⟩ = some (.string d.ver)
  c4 : w.cell? ⟨n, 4, none⟩ = some (.string d.rel)
  lt : n < w.heap.size
theorem DepAt.below {n : Nat} {d : DepD} {w w' : World} (h : DepAt n d w) (hb : Below w.heap.size w w') : DepAt n d w' := by
  have k : ∀ c, w'.cell? ⟨n, c, none⟩ = w.cell? ⟨n, c, none⟩ := fun c => World.cell?_of_block (w := w) (hb.block n h.lt)
  exact ⟨(k _).trans h.c0, (k _).trans h.c1, (k _).trans h.c2, (k _).trans h.c3, (k _).trans h.c4, Nat.lt_of_lt_of_le h.lt hb.size⟩
theorem zero_yes {d : DepD} (h1 : d.ep = 0) (h2 : d.ver.toList = []) (h3 : d.rel.toList = []) : d.zero = true := by unfold DepD.zero; rw [h1, h2, h3]; rfl
theorem zero_ep {d : DepD} (h1 : ¬ d.ep = 0) : d.zero = false := by unfold DepD.zero; rw [decide_eq_false h1]; rfl
theorem zero_ver {d : DepD} (h1 : ¬ d.ver.toList = []) : d.zero = false := by
  unfold DepD.zero
  have : d.ver.toList.isEmpty = false := by cases h : d.ver.toList with | nil => exact absurd h h1 | cons => rfl
  rw [this]; simp
theorem zero_rel {d : DepD} (h1 : ¬ d.rel.toList = []) : d.zero = false := by
  unfold DepD.zero
  have : d.rel.toList.isEmpty = false := by cases h : d.rel.toList with | nil => exact absurd h h1 | cons => rfl
  rw [this]; simp
set_option maxHeartbeats 4000000 in
theorem depmay_any (d : DepD) (w : World) (hf : d.fit) (hW : Words w) (hO : Ops w) : Calls Tryz.prog 74 #[d.val] w fun e w' => e = .returned (.bool (depE d)) ∧ Below w.heap.size w w' := by
  obtain ⟨T, hT⟩ : ∃ T, T = depE d := ⟨_, rfl⟩
  rw [← hT]
  rcases d with ⟨s, op, ep, ver, rel⟩
  obtain ⟨f1, f2, f3⟩ := hf
  have HB0 := Lib.hid (show Below w.heap.size w (w.alloc (.cells #[.string s, .int .u8 op, .int .i64 ep, .string ver, .string rel] 32)) from (Below.refl _ _).alloc (Nat.le_refl _) _)
  have HA0 := Lib.hid (show DepAt w.heap.size ⟨s, op, ep, ver, rel⟩ (w.alloc (.cells #[.string s, .int .u8 op, .int .i64 ep, .string ver, .string rel] 32)) from ⟨by simp, by simp, by simp, by simp, by simp, by simp⟩)
  have HW0 := Lib.hid (hW.below HB0.out)
  have HO0 := Lib.hid (hO.below HB0.out)
  have HN := Lib.hid (fun w (h : Words w) => name_any s w f1 h)
  have HM := Lib.hid (fun w (h : Ops w) => spanmay_any op w h)
  have HF := Lib.hid (fun w (h : Words w) => file_any s w f1 h)
  have HE := Lib.hid (fun w => evr_any ep ver rel true w f2 f3)
  unfold depE at hT
  clear hW hO f1 f2 f3
  cases hn : nameE s with
  | false =>
    simp only [hn, Bool.false_and] at hT HN
    subst hT
    clear hn
    go_enter Tryz.func74, Tryz.ntmps74
    go_wp2_with (first
      | (go_at_call 69; (with_reducible refine (HN.out _ HW0.out).mono ?_); rintro e w1 ⟨rfl, HBc1⟩; have HB1 := Lib.hid (HB0.out.trans (HBc1.mono HB0.out.size)); clear HBc1)
      | fail)
    go_ret
    exact ⟨rfl, HB1.out⟩
  | true =>
    simp only [hn, Bool.true_and] at hT HN
    cases hm : mayOp op with
    | false =>
      simp only [hm, Bool.false_and] at hT HM
      subst hT
      clear hn hm
      go_enter Tryz.func74, Tryz.ntmps74
      go_wp2_with (first
        | (go_at_call 69; (with_reducible refine (HN.out _ HW0.out).mono ?_); rintro e w1 ⟨rfl, HBc1⟩; have HB1 := Lib.hid (HB0.out.trans (HBc1.mono HB0.out.size)); have HA1 := Lib.hid (HA0.out.below HBc1); have HO1 := Lib.hid (HO0.out.below HBc1); have HW1 := Lib.hid (HW0.out.below HBc1); obtain ⟨c10, c11, c12, c13, c14, _⟩ := HA1.out; clear HBc1)
        | (go_at_call 120; (with_reducible refine (HM.out _ HO1.out).mono ?_); rintro e w2 ⟨rfl, HBc2⟩; have HB2 := Lib.hid (HB1.out.trans (HBc2.mono HB1.out.size)); clear HBc2)
        | fail)
      go_ret
      exact ⟨rfl, HB2.out⟩
    | true =>
      simp only [hm, Bool.true_and] at hT HM
      by_cases ho : op = 0
      · rw [if_pos ho] at hT
        subst ho
        have HT := Lib.hid hT
        clear hn hm hT
        go_enter Tryz.func74, Tryz.ntmps74
        go_wp2_with (first
          | (go_at_call 69; (with_reducible refine (HN.out _ HW0.out).mono ?_); rintro e w1 ⟨rfl, HBc1⟩; have HB1 := Lib.hid (HB0.out.trans (HBc1.mono HB0.out.size)); have HA1 := Lib.hid (HA0.out.below HBc1); have HO1 := Lib.hid (HO0.out.below HBc1); have HW1 := Lib.hid (HW0.out.below HBc1); obtain ⟨c10, c11, c12, c13, c14, _⟩ := HA1.out; clear HBc1)
          | (go_at_call 120; (with_reducible refine (HM.out _ HO1.out).mono ?_); rintro e w2 ⟨rfl, HBc2⟩; have HB2 := Lib.hid (HB1.out.trans (HBc2.mono HB1.out.size)); have HA2 := Lib.hid (HA1.out.below HBc2); have HO2 := Lib.hid (HO1.out.below HBc2); have HW2 := Lib.hid (HW1.out.below HBc2); obtain ⟨c20, c21, c22, c23, c24, _⟩ := HA2.out; clear HBc2)
          | fail)
        all_goals
          go_ret
          first | exact ⟨ret_bool (HT.out.trans (zero_yes (by assumption) (by assumption) (by assumption))).symm, HB2.out⟩ | exact ⟨ret_bool (HT.out.trans (zero_ep (by assumption))).symm, HB2.out⟩ | exact ⟨ret_bool (HT.out.trans (zero_ver (by assumption))).symm, HB2.out⟩ | exact ⟨ret_bool (HT.out.trans (zero_rel (by assumption))).symm, HB2.out⟩
      · rw [if_neg ho] at hT
        have hd : (op == 0) = false := by simpa using ho
        cases hfl : fileE s with
        | true =>
          simp only [hfl, Bool.not_true, Bool.false_and] at hT HF
          subst hT
          clear hn hm ho hfl
          go_enter Tryz.func74, Tryz.ntmps74
          go_wp2_with (first
            | (go_at_call 69; (with_reducible refine (HN.out _ HW0.out).mono ?_); rintro e w1 ⟨rfl, HBc1⟩; have HB1 := Lib.hid (HB0.out.trans (HBc1.mono HB0.out.size)); have HA1 := Lib.hid (HA0.out.below HBc1); have HO1 := Lib.hid (HO0.out.below HBc1); have HW1 := Lib.hid (HW0.out.below HBc1); obtain ⟨c10, c11, c12, c13, c14, _⟩ := HA1.out; clear HBc1)
            | (go_at_call 120; (with_reducible refine (HM.out _ HO1.out).mono ?_); rintro e w2 ⟨rfl, HBc2⟩; have HB2 := Lib.hid (HB1.out.trans (HBc2.mono HB1.out.size)); have HA2 := Lib.hid (HA1.out.below HBc2); have HO2 := Lib.hid (HO1.out.below HBc2); have HW2 := Lib.hid (HW1.out.below HBc2); obtain ⟨c20, c21, c22, c23, c24, _⟩ := HA2.out; clear HBc2)
            | (go_at_call 70; (with_reducible refine (HF.out _ HW2.out).mono ?_); rintro e w3 ⟨rfl, HBc3⟩; have HB3 := Lib.hid (HB2.out.trans (HBc3.mono HB2.out.size)); clear HBc3)
            | fail)
          go_ret
          exact ⟨rfl, HB3.out⟩
        | false =>
          simp only [hfl, Bool.not_false, Bool.true_and] at hT HF
          subst hT
          clear hn hm ho hfl
          go_enter Tryz.func74, Tryz.ntmps74
          go_wp2_with (first
            | (go_at_call 69; (with_reducible refine (HN.out _ HW0.out).mono ?_); rintro e w1 ⟨rfl, HBc1⟩; have HB1 := Lib.hid (HB0.out.trans (HBc1.mono HB0.out.size)); have HA1 := Lib.hid (HA0.out.below HBc1); have HO1 := Lib.hid (HO0.out.below HBc1); have HW1 := Lib.hid (HW0.out.below HBc1); obtain ⟨c10, c11, c12, c13, c14, _⟩ := HA1.out; clear HBc1)
            | (go_at_call 120; (with_reducible refine (HM.out _ HO1.out).mono ?_); rintro e w2 ⟨rfl, HBc2⟩; have HB2 := Lib.hid (HB1.out.trans (HBc2.mono HB1.out.size)); have HA2 := Lib.hid (HA1.out.below HBc2); have HO2 := Lib.hid (HO1.out.below HBc2); have HW2 := Lib.hid (HW1.out.below HBc2); obtain ⟨c20, c21, c22, c23, c24, _⟩ := HA2.out; clear HBc2)
            | (go_at_call 70; (with_reducible refine (HF.out _ HW2.out).mono ?_); rintro e w3 ⟨rfl, HBc3⟩; have HB3 := Lib.hid (HB2.out.trans (HBc3.mono HB2.out.size)); have HA3 := Lib.hid (HA2.out.below HBc3); have HO3 := Lib.hid (HO2.out.below HBc3); have HW3 := Lib.hid (HW2.out.below HBc3); obtain ⟨c30, c31, c32, c33, c34, _⟩ := HA3.out; clear HBc3)
            | (go_at_call 71; (with_reducible refine (HE.out _).mono ?_); rintro e w4 ⟨rfl, HBc4⟩; have HB4 := Lib.hid (HB3.out.trans (HBc4.mono HB3.out.size)); clear HBc4)
            | fail)
          go_ret
          exact ⟨rfl, HB4.out⟩
end Go.Proofs.YtdpjjnbelgaagaaGreatDoor

namespace Go.Proofs.YtdpjjnbelgaagaaGreatDoor
open Go.ChangeShapes Go.WideShapes Go.ChangeAt Go.RowKit Go.Deep
set_option maxRecDepth 100000

/-- A rich dependency in plain words. -/
inductive RichD where
  | nil
  | node (kind : Int) (dep : DepD) (n : Nat) (args : Nat → RichD)
abbrev noDep : DepD := ⟨⟨#[]⟩, 0, 0, ⟨#[]⟩, ⟨#[]⟩⟩
def RichD.kind : RichD → Int | .nil => 0 | .node k _ _ _ => k
def RichD.dep : RichD → DepD | .nil => noDep | .node _ d _ _ => d
def RichD.n : RichD → Nat | .nil => 0 | .node _ _ n _ => n
def RichD.args : RichD → Nat → RichD | .nil => fun _ => .nil | .node _ _ _ f => f
/-- A rich dependency's value, its Args' slice being s. -/
abbrev richV (k : Int) (d : DepD) (s : Value) : Value := .agg #[.int .u8 k, .string d.name, .int .u8 d.op, .int .i64 d.ep, .string d.ver, .string d.rel, s]
abbrev RichD.val (r : RichD) (s : Value) : Value := richV r.kind r.dep s
/-- A rich dependency's cells at a place. -/
structure RichAt (w : World) (b o : Nat) (r : RichD) (s : Value) : Prop where
  c0 : w.cell? ⟨b, o, none⟩ = some (.int .u8 r.kind)
  c1 : w.cell? ⟨b, o + 1, none⟩ = some (.string r.dep.name)
  c2 : w.cell? ⟨b, o + 2, none⟩ = some (.int .u8 r.dep.op)
  c3 : w.cell? ⟨b, o + 3, none⟩ = some (.int .i64 r.dep.ep)
  c4 : w.cell? ⟨b, o + 4, none⟩ = some (.string r.dep.ver)
  c5 : w.cell? ⟨b, o + 5, none⟩ = some (.string r.dep.rel)
  c6 : w.cell? ⟨b, o + 6, none⟩ = some s
  lt : b < w.heap.size
theorem RichAt.below {w w' : World} {b o : Nat} {r : RichD} {s : Value} (h : RichAt w b o r s) (hb : Below w.heap.size w w') : RichAt w' b o r s := by
  have k : ∀ c, w'.cell? ⟨b, c, none⟩ = w.cell? ⟨b, c, none⟩ := fun c => World.cell?_of_block (w := w) (hb.block b h.lt)
  exact ⟨(k _).trans h.c0, (k _).trans h.c1, (k _).trans h.c2, (k _).trans h.c3, (k _).trans h.c4, (k _).trans h.c5, (k _).trans h.c6, Nat.lt_of_lt_of_le h.lt hb.size⟩
def fitR (k : Int) (d : DepD) : Prop := d.fit ∧ 0 ≤ k ∧ k < 256
/-- A slice's value holds a rich dependency's Args. -/
inductive IsArgs (w : World) : RichD → Value → Prop
  | mk (r : RichD) (a : Option Addr) (c : Nat) (S : Nat → Value) (hd : fitR r.kind r.dep) (hn : r.n ≤ 9223372036854775807)
      (hA : ∀ j, j < r.n → ∃ b o, a = some ⟨b, o, none⟩ ∧ RichAt w b (o + j * 7) (r.args j) (S j))
      (hS : ∀ j, j < r.n → IsArgs w (r.args j) (S j)) : IsArgs w r (.slice a r.n c)
theorem IsArgs.kept {w w' : World} {r : RichD} {s : Value} (h : IsArgs w r s) (hb : Below w.heap.size w w') : IsArgs w' r s := by
  induction h with
  | mk r a c S hd hn hA hS ih =>
    refine .mk r a c S hd hn (fun j hj => ?_) ih
    obtain ⟨b, o, h1, h2⟩ := hA j hj
    exact ⟨b, o, h1, h2.below hb⟩
def sumN (f : Nat → Nat) : Nat → Nat | 0 => 0 | k + 1 => sumN f k + f k
def maxN (f : Nat → Nat) : Nat → Nat | 0 => 0 | k + 1 => max (maxN f k) (f k)
def RichD.count : RichD → Nat | .nil => 1 | .node _ _ n f => 1 + sumN (fun j => (f j).count) n
def RichD.depth : RichD → Nat | .nil => 1 | .node k _ n f => if k = 1 then 0 else maxN (fun j => (f j).depth) n + 1
theorem sumN_mono {f : Nat → Nat} {k n : Nat} (h : k ≤ n) : sumN f k ≤ sumN f n := by
  induction h with
  | refl => exact Nat.le_refl _
  | step _ ih => exact Nat.le_trans ih (Nat.le_add_right _ _)
theorem count_eq (r : RichD) : r.count = 1 + sumN (fun j => (r.args j).count) r.n := by
  cases r <;> rfl
theorem depth_eq (r : RichD) : r.depth = if r.kind = 1 then 0 else maxN (fun j => (r.args j).depth) r.n + 1 := by
  cases r <;> rfl
theorem ret_int {a b : Int} (h : a = b) : Ending.returned (.int .i64 a) = .returned (.int .i64 b) := by rw [h]
/-- The parameter's block. -/
theorem rich_new (w : World) (r : RichD) (s : Value) : RichAt (w.alloc (.cells #[.int .u8 r.kind, .string r.dep.name, .int .u8 r.dep.op, .int .i64 r.dep.ep, .string r.dep.ver, .string r.dep.rel, s] 34)) w.heap.size 0 r s :=
  ⟨by simp, by simp, by simp, by simp, by simp, by simp, by simp, by simp⟩
end Go.Proofs.YtdpjjnbelgaagaaGreatDoor

namespace Go.Proofs.YtdpjjnbelgaagaaGreatDoor
open Go.ChangeShapes Go.WideShapes Go.ChangeAt Go.RowKit Go.Deep
set_option maxRecDepth 100000

theorem maxN_le {f : Nat → Nat} {g : Nat → Nat} : ∀ n, (∀ j, j < n → f j ≤ g j) → maxN f n ≤ sumN g n
  | 0, _ => Nat.le_refl _
  | n + 1, h => by
    have h1 := maxN_le n (fun j hj => h j (by omega))
    have h2 := h n (by omega)
    simp only [maxN, sumN]
    omega
theorem depth_le : (r : RichD) → r.depth ≤ r.count
  | .nil => Nat.le_refl _
  | .node k d n f => by
    have h := maxN_le (f := fun j => (f j).depth) (g := fun j => (f j).count) n (fun j _ => depth_le (f j))
    simp only [RichD.depth, RichD.count]
    split <;> omega
end Go.Proofs.YtdpjjnbelgaagaaGreatDoor

namespace Go.Proofs.YtdpjjnbelgaagaaGreatDoor
open Go.ChangeShapes Go.WideShapes Go.ChangeAt Go.RowKit Go.Deep
set_option maxRecDepth 100000

theorem IsArgs.form {w : World} {r : RichD} {s : Value} (h : IsArgs w r s) : ∃ a c, s = .slice a r.n c := by
  cases h
  exact ⟨_, _, rfl⟩
abbrev richObj (r : RichD) (s : Value) : Obj := .cells #[.int .u8 r.kind, .string r.dep.name, .int .u8 r.dep.op, .int .i64 r.dep.ep, .string r.dep.ver, .string r.dep.rel, s] 34
theorem below_new (w : World) (o : Obj) : Below w.heap.size w (w.alloc o) := (Below.refl _ _).alloc (Nat.le_refl _) _
set_option maxHeartbeats 4000000 in
theorem depth_any (W : World) (r : RichD) (s : Value) (hs : IsArgs W r s) (w : World) (hB : Below W.heap.size W w) (hc : r.count ≤ 4611686018427387904) : Calls Tryz.prog 127 #[r.val s] w fun e w' => e = .returned (.int .i64 r.depth) ∧ Below w.heap.size w w' := by
  induction hs generalizing w with
  | mk r a c S hd hn hA hS ih =>
    obtain ⟨T, hT⟩ : ∃ T : Int, T = r.depth := ⟨_, rfl⟩
    rw [← hT]
    have HR0 := Lib.hid (rich_new w r (.slice a r.n c))
    have HB0 := Lib.hid (show Below w.heap.size w (w.alloc (.cells #[.int .u8 r.kind, .string r.dep.name, .int .u8 r.dep.op, .int .i64 r.dep.ep, .string r.dep.ver, .string r.dep.rel, .slice a r.n c] 34)) from (Below.refl _ _).alloc (Nat.le_refl _) _)
    have HA := Lib.hid (show ∀ w', Below W.heap.size W w' → ∀ j, j < r.n → ∃ b o, a = some ⟨b, o, none⟩ ∧ RichAt w' b (o + j * 7) (r.args j) (S j) from fun w' h j hj => by
      obtain ⟨b, o, h1, h2⟩ := hA j hj
      exact ⟨b, o, h1, h2.below h⟩)
    have HI := Lib.hid ih
    have HSf := Lib.hid (show ∀ j, j < r.n → ∃ a' c', S j = .slice a' (r.args j).n c' from fun j hj => (hS j hj).form)
    have HBW := Lib.hid hB
    have HC := Lib.hid (show ∀ j, j < r.n → (r.args j).depth ≤ 4611686018427387904 ∧ (r.args j).count ≤ 4611686018427387904 from fun j hj => by
      have h1 := sumN_mono (f := fun j => (r.args j).count) (show j + 1 ≤ r.n by omega)
      simp only [sumN] at h1
      have h2 := count_eq r
      have h3 := depth_le (r.args j)
      omega)
    have HD := Lib.hid (show maxN (fun j => (r.args j).depth) r.n ≤ 4611686018427387904 from by
      have h1 := maxN_le (f := fun j => (r.args j).depth) (g := fun j => (r.args j).count) r.n (fun j _ => depth_le _)
      have h2 := count_eq r
      omega)
    rw [depth_eq] at hT
    by_cases hk1 : r.kind = 1
    · rw [if_pos hk1] at hT
      obtain rfl : T = 0 := hT
      have hkd : (r.kind == 1) = true := by simpa using hk1
      clear hA hS ih hd hc hB hk1
      unfold RichD.val richV
      go_enter Tryz.func127, Tryz.ntmps127
      go_wp2_with fail
      go_ret
      exact ⟨rfl, HB0.out⟩
    · rw [if_neg hk1] at hT
      have HT := Lib.hid hT
      have hkd : (r.kind == 1) = false := by simpa using hk1
      clear hT hA hS ih hd hc hB
      unfold RichD.val richV
      go_enter Tryz.func127, Tryz.ntmps127
      go_wp2_with fail
      go_loopw [3, 12] (fun x i wr => ∃ k q : Nat, k ≤ r.n ∧ Hid (q = maxN (fun j => (r.args j).depth) k) ∧ x = .int .i64 (q : Int) ∧ i = .int .i64 k ∧ Hid (RichAt wr w.heap.size 0 r (.slice a r.n c)) ∧ Hid (Below w.heap.size w wr)) (fun x i wr => r.n - (intOf i).toNat)
      case atStart => exact ⟨0, 0, by omega, Lib.hid rfl, rfl, rfl, HR0, HB0⟩
      case round =>
        obtain ⟨k, q, hk, HQ, rfl, rfl, HRk, HBk⟩ := hrel
        obtain ⟨d0, d1, d2, d3, d4, d5, d6, d7⟩ := HRk.out
        by_cases hlt : k < r.n
        · have hki : (k : Int) < (r.n : Int) := by omega
          have HB2 := Lib.hid (HBW.out.trans (HBk.out.mono HBW.out.size))
          obtain ⟨b, o, ha, ⟨e0, e1, e2, e3, e4, e5, e6, e7⟩⟩ := HA.out _ HB2.out k hlt
          subst ha
          obtain ⟨m, hm⟩ : ∃ m, m = (r.args k).depth := ⟨_, rfl⟩
          obtain ⟨a', c', hS'⟩ := HSf.out k hlt
          have HB3 := Lib.hid (HBk.out.trans ((below_new wr (richObj (r.args k) (S k))).mono HBk.out.size))
          have HR3 := Lib.hid (HRk.out.below (below_new wr (richObj (r.args k) (S k))))
          have HM := Lib.hid (HI.out k hlt (wr.alloc (richObj (r.args k) (S k))) (HB2.out.trans ((below_new _ _).mono HB2.out.size)) (HC.out k hlt).2)
          rw [← hm] at HM
          simp only [hS'] at HM HB3 HR3 e6
          have HMm := Lib.hid hm
          clear hm
          by_cases hmq : q < m
          · have hmq' : decide ((q : Int) < (m : Int)) = true := by rw [decide_eq_true]; omega
            go_wp2_with (first
              | (go_at_call 127; (with_reducible refine (HM.out).mono ?_); rintro e w1 ⟨rfl, HBc⟩; have HB1 := Lib.hid (HB3.out.trans (HBc.mono HB3.out.size)); have HR1 := Lib.hid (HR3.out.below HBc); clear HBc)
              | fail)
            go_roundw
            case rel => exact ⟨k + 1, m, by omega, Lib.hid (by have := HQ.out; have := HMm.out; simp only [maxN]; omega), by go_num, by go_num, HR1, HB1⟩
            case measure => simp [intOf]; omega
          · have hmq' : decide ((q : Int) < (m : Int)) = false := by rw [decide_eq_false]; omega
            go_wp2_with (first
              | (go_at_call 127; (with_reducible refine (HM.out).mono ?_); rintro e w1 ⟨rfl, HBc⟩; have HB1 := Lib.hid (HB3.out.trans (HBc.mono HB3.out.size)); have HR1 := Lib.hid (HR3.out.below HBc); clear HBc)
              | fail)
            go_roundw
            case rel => exact ⟨k + 1, q, by omega, Lib.hid (by have := HQ.out; have := HMm.out; simp only [maxN]; omega), by go_num, by go_num, HR1, HB1⟩
            case measure => simp [intOf]; omega
        · obtain rfl : k = r.n := by omega
          have hq2 : q ≤ 4611686018427387904 := by have := HD.out; have := HQ.out; omega
          go_wp2_with fail
          go_ret
          exact ⟨ret_int (by rw [HT.out, ← HQ.out]; rfl), HBk.out⟩
end Go.Proofs.YtdpjjnbelgaagaaGreatDoor

namespace Go.Proofs.YtdpjjnbelgaagaaGreatDoor
open Go.ChangeShapes Go.WideShapes Go.ChangeAt Go.RowKit Go.Deep Go.Shelf
set_option maxRecDepth 100000
attribute [local go_sem] Oper.semAt_some

/-- A block of Deps. -/
def depB : Obj → Bool | .cells _ t _ => t == 32 | _ => false
/-- What a round keeps: every cell but block B's, and those of blocks of Deps. -/
structure KC (B : Nat) (W W' : World) : Prop where
  size : W.heap.size ≤ W'.heap.size
  cells : ∀ k o, k ≠ B → W.heap[k]? = some o → o.isCells = true → depB o = false → W'.heap[k]? = some o
theorem KC.refl (B : Nat) (W : World) : KC B W W := ⟨Nat.le_refl _, fun _ _ _ h _ _ => h⟩
theorem KC.trans {B : Nat} {W W' W'' : World} (h : KC B W W') (k : KC B W' W'') : KC B W W'' := ⟨Nat.le_trans h.size k.size, fun i o hi ho hc hd => k.cells i o hi (h.cells i o hi ho hc hd) hc hd⟩
theorem KC.blk {B : Nat} {W W' : World} (h : KC B W W') {k : Nat} {t : TypeId} {cs : Array Value} (hk : k ≠ B) (hv : Blk W k t cs) (ht : (t == 32) = false) : Blk W' k t cs := h.cells k _ hk hv rfl ht
theorem KC.of_below {B : Nat} {W W' : World} (h : Below W.heap.size W W') : KC B W W' := ⟨h.size, fun k _ _ ho _ _ => (h.block k (Array.getElem?_eq_some_iff.1 ho).1).trans ho⟩
/-- What a round keeps, whole: every cell but B's; all that lies below n0. -/
structure Kp (B n0 : Nat) (W W' : World) : Prop where
  kc : KC B W W'
  bl : Below n0 W W'
theorem Kp.refl (B n0 : Nat) (W : World) : Kp B n0 W W := ⟨KC.refl _ _, Below.refl _ _⟩
theorem Kp.t {B n0 : Nat} {W W' W'' : World} (h : Kp B n0 W W') (k : Kp B n0 W' W'') : Kp B n0 W W'' := ⟨h.kc.trans k.kc, h.bl.trans k.bl⟩
theorem Kp.of_below {B n0 : Nat} {W W' : World} (hn : n0 ≤ W.heap.size) (h : Below W.heap.size W W') : Kp B n0 W W' := ⟨KC.of_below h, h.mono hn⟩
theorem Kp.b {B n0 : Nat} {w : World} (hn : n0 ≤ w.heap.size) (W : World) (l : Nat) (o o' : Obj) (hl : w.heap.size ≤ l) (hlo : W.heap[l]? = some o) (hc : o.isCells = false) (_ : o.isWalk = false) : Kp B n0 W (W.putObj l o') := by
  have hg := grownBy_putObj' W l o'
  refine ⟨⟨hg.size, fun k o2 _ ho hc2 _ => ?_⟩, hg.os, hg.tape, hg.output, hg.size, fun k hk => ?_⟩
  · by_cases e : k = l
    · subst e
      rw [hlo] at ho
      injection ho with ho
      subst ho
      rw [hc] at hc2
      cases hc2
    · exact (hg.block k (Array.getElem?_eq_some_iff.1 ho).1 (fun h => e (by injection h))).trans ho
  · by_cases hkW : k < W.heap.size
    · exact hg.block k hkW (fun h => by injection h with h; omega)
    · have := (Array.getElem?_eq_some_iff.1 hlo).1
      omega
/-- A rich dependency's own block. -/
def RichB (W : World) (b : Nat) (r : RichD) (s : Value) : Prop := Blk W b 34 #[.int .u8 r.kind, .string r.dep.name, .int .u8 r.dep.op, .int .i64 r.dep.ep, .string r.dep.ver, .string r.dep.rel, s]
theorem RichB.kc {B : Nat} {W W' : World} {b : Nat} {r : RichD} {s : Value} (h : RichB W b r s) (hk : KC B W W') (hb : b ≠ B) : RichB W' b r s := hk.blk hb h rfl
theorem RichB.at_ {W : World} {b : Nat} {r : RichD} {s : Value} (h : RichB W b r s) : RichAt W b 0 r s := ⟨h.cell 0, h.cell 1, h.cell 2, h.cell 3, h.cell 4, h.cell 5, h.cell 6, h.lt⟩
theorem RichB.new (w : World) (r : RichD) (s : Value) : RichB (w.alloc (richObj r s)) w.heap.size r s := Blk.new _ _ _
theorem RichB.below {W W' : World} {b : Nat} {r : RichD} {s : Value} (h : RichB W b r s) (hb : Below W.heap.size W W') : RichB W' b r s := Blk.below h hb h.lt
/-- One part, as a round is handed it. -/
structure PartD where
  kind : Int
  dep : DepD
  n : Nat
  a : Option Addr
  c : Nat
  alone : Bool
  fit : fitR kind dep
  hn : n ≤ 9223372036854775807
abbrev encP (x : PartD) : Array Value := #[richV x.kind x.dep (.slice x.a x.n x.c), .bool x.alone]
abbrev KeyD := Int × DepD × Nat × Bool
def PartD.key (x : PartD) : KeyD := (x.kind, x.dep, x.n, x.alone)
def catN {α : Type} (f : Nat → List α) : Nat → List α | 0 => [] | k + 1 => catN f k ++ f k
def aloneE (k : Int) (al : Bool) : Bool := al || k == 6 || k == 7
def RichD.parts : RichD → Bool → List KeyD
  | .nil, al => [(0, noDep, 0, al)]
  | .node k d n f, al => (k, d, n, al) :: catN (fun j => (f j).parts (al || k == 6 || k == 7)) n
theorem parts_eq (r : RichD) (al : Bool) : r.parts al = (r.kind, r.dep, r.n, al) :: catN (fun j => (r.args j).parts (aloneE r.kind al)) r.n := by
  cases r <;> rfl
theorem catN_len {α : Type} {f : Nat → List α} {g : Nat → Nat} : ∀ n, (∀ j, j < n → (f j).length = g j) → (catN f n).length = sumN g n
  | 0, _ => rfl
  | n + 1, h => by
    simp only [catN, sumN, List.length_append]
    rw [catN_len n (fun j hj => h j (by omega)), h n (by omega)]
theorem parts_len : (r : RichD) → (al : Bool) → (r.parts al).length = r.count
  | .nil, _ => rfl
  | .node k d n f, al => by
    simp only [RichD.parts, RichD.count, List.length_cons]
    rw [catN_len n (fun j _ => parts_len (f j) _)]
    omega
theorem catN_pre {α : Type} {f : Nat → List α} {k n : Nat} (h : k ≤ n) : catN f k <+: catN f n := by
  induction h with
  | refl => exact List.prefix_refl _
  | step _ ih => exact ih.trans (List.prefix_append _ _)
end Go.Proofs.YtdpjjnbelgaagaaGreatDoor
