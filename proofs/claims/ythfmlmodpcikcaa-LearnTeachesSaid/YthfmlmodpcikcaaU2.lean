/- A map of places to literals; known; the lesson as it lies. -/
import Derived.Test.YthfmlmodpcikcaaU1
import Derived.Maps.OwnSet
import Derived.Maps.OwnOps
import Derived.Maps.RangeWalk
namespace Go.Proofs.Ythfmlmodpcikcaa
open Go.ChangeShapes Go.WideShapes Go.ChangeAt Go.RowKit Go.Maps
set_option maxRecDepth 100000

theorem keyI (x : Int) : WideAt.IsKeyLit (.int .i64 x) := by simp [WideAt.IsKeyLit]

/-- At bm lies a map: at the keys below len of which hp holds it has f; at no others. -/
def HeldM (w : World) (bm M len : Nat) (f : Nat → Int) (hp : Nat → Bool) : Prop :=
  ∃ (m : Nat) (D : DataW Unit), w.ownsMap Try.prog 3 (plainElem Try.prog 3) bm m D ∧ m ≤ M ∧ (∀ x : Int, Maps.has D (.int .i64 x) = (decide (0 ≤ x ∧ x < (len : Int)) && hp x.toNat)) ∧
    ∀ k : Nat, k < len → hp k = true → ∀ zd, D.atKey (.int .i64 k) zd = .lit (.int .i64 (f k))

theorem owns_isMap {w : World} {b n : Nat} {D : DataW Unit} (h : w.ownsMap Try.prog 3 (plainElem Try.prog 3) b n D) : IsMap D := by
  obtain ⟨es, clock, _, _, _, hD⟩ := h
  exact ⟨_, hD⟩

theorem held_new (w : World) (len : Nat) (f : Nat → Int) : HeldM (w.alloc (.map #[] 0)) w.heap.size 0 len f (fun _ => false) :=
  ⟨0, .map [], World.ownsMap_made w _ _ _, Nat.le_refl _, fun x => by simp [Maps.has], fun k _ h => by cases h⟩

theorem HeldM.kept {w w' : World} {bm M len : Nat} {f : Nat → Int} {hp : Nat → Bool} {row : Option Nat} (h : HeldM w bm M len f hp) (hg : w.grownBy w' row) (hne : some bm ≠ row) : HeldM w' bm M len f hp := by
  obtain ⟨m, D, h1, h2⟩ := h
  exact ⟨m, D, h1.kept hg hne, h2⟩
theorem HeldM.below {w w' : World} {bm M len : Nat} {f : Nat → Int} {hp : Nat → Bool} (h : HeldM w bm M len f hp) (hb : Below w.heap.size w w') : HeldM w' bm M len f hp :=
  h.kept (row := none) ⟨hb.os, hb.tape, hb.output, hb.size, fun k hk _ => hb.block k hk⟩ (by simp)
theorem HeldM.lt {w : World} {bm M len : Nat} {f : Nat → Int} {hp : Nat → Bool} (h : HeldM w bm M len f hp) : bm < w.heap.size := by
  obtain ⟨m, D, h1, _⟩ := h
  exact h1.lt

theorem held_put {w' : World} {bm m M len : Nat} {f : Nat → Int} {hp : Nat → Bool} {D : DataW Unit} (k : Nat) (hD : IsMap D) (h : w'.ownsMap Try.prog 3 (plainElem Try.prog 3) bm (m + 1) (D.put (.int .i64 k) (.lit (.int .i64 (f k))))) (hm : m ≤ M) (hk : k < len)
    (h1 : ∀ x : Int, Maps.has D (.int .i64 x) = (decide (0 ≤ x ∧ x < (len : Int)) && hp x.toNat)) (h2 : ∀ k : Nat, k < len → hp k = true → ∀ zd, D.atKey (.int .i64 k) zd = .lit (.int .i64 (f k))) :
    HeldM w' bm (M + 1) len f (fun j => decide (j = k) || hp j) := by
  refine ⟨m + 1, _, h, by omega, fun x => ?_, fun j hj hhp zd => ?_⟩
  · by_cases hx : x = (k : Int)
    · subst hx
      rw [has_put_same hD (keyI _)]
      simp
      omega
    · rw [has_put_other (by simpa using hx), h1]
      by_cases h0 : 0 ≤ x ∧ x < (len : Int)
      · have : ¬ x.toNat = k := by omega
        simp [h0, this]
      · simp [h0]
  · by_cases hjk : j = k
    · subst hjk
      exact atKey_put_same hD (keyI _) _ _
    · rw [atKey_put_other (by intro e; injection e with _ e; exact hjk (by omega))]
      exact h2 j hj (by simpa [hjk] using hhp) zd

theorem held_del {w' : World} {bm m M len : Nat} {f : Nat → Int} {hp : Nat → Bool} {D : DataW Unit} (k : Nat) (h : w'.ownsMap Try.prog 3 (plainElem Try.prog 3) bm m (D.del (.int .i64 k))) (hm : m ≤ M)
    (h1 : ∀ x : Int, Maps.has D (.int .i64 x) = (decide (0 ≤ x ∧ x < (len : Int)) && hp x.toNat)) (h2 : ∀ k : Nat, k < len → hp k = true → ∀ zd, D.atKey (.int .i64 k) zd = .lit (.int .i64 (f k))) :
    HeldM w' bm M len f (fun j => hp j && !decide (j = k)) := by
  refine ⟨m, _, h, hm, fun x => ?_, fun j hj hhp zd => ?_⟩
  · by_cases hx : x = (k : Int)
    · subst hx
      rw [has_del_same]
      simp
    · rw [has_del_other (by simpa using hx), h1]
      by_cases h0 : 0 ≤ x ∧ x < (len : Int)
      · have : ¬ x.toNat = k := by omega
        simp [h0, this]
      · simp [h0]
  · simp only [Bool.and_eq_true, Bool.not_eq_true', decide_eq_false_iff_not] at hhp
    rw [atKey_del_other (by intro e; injection e with _ e; exact hhp.2 (by omega))]
    exact h2 j hj hhp.1 zd

/-! ### Places -/
/-- Where a variable's literal stands; 0: nowhere. -/
def posV : List En → Nat → Nat
  | [], _ => 0
  | e :: es, v => if e.lit.natAbs = v + 1 then es.length else posV es v
def placesE (n : Nat) (es : List En) : List Int := (List.range n).map fun v => (posV es v : Int)
theorem placesE_len (n : Nat) (es : List En) : (placesE n es).length = n := by simp [placesE]
theorem placesE_get (n : Nat) (es : List En) (v : Nat) (h : v < n) : (inC (placesE n es))[v]? = some (.int .i64 (posV es v)) := by simp [placesE, inC, h]
theorem placesE_set (n : Nat) (es : List En) (e : En) (h : Lit n e.lit) : (inC (placesE n es)).set (e.lit.natAbs - 1) (.int .i64 es.length) = inC (placesE n (e :: es)) := by
  have h1 := h.1
  apply List.ext_getElem?
  intro v
  by_cases hv : v < n
  · rw [placesE_get _ _ v hv]
    by_cases hev : e.lit.natAbs - 1 = v
    · have h2 : e.lit.natAbs = v + 1 := by omega
      rw [hev]
      simp [posV, h2, inC, placesE, hv]
    · have h3 : ¬ e.lit.natAbs = v + 1 := by omega
      rw [List.getElem?_set_ne hev, placesE_get _ _ v hv]
      simp only [posV, if_neg h3]
  · rw [List.getElem?_eq_none (by simp [inC, placesE_len]; omega), List.getElem?_eq_none (by simp [inC, placesE_len]; omega)]

theorem posV_lt {es : List En} {v : Nat} {e : En} (h : look es v = some e) : posV es v < es.length := by
  induction es with
  | nil => cases h
  | cons a es ih =>
    simp only [look] at h
    simp only [posV, List.length_cons]
    split
    · omega
    · next hne =>
      rw [if_neg hne] at h
      have := ih h
      omega

theorem posV_at {es : List En} {v : Nat} {e : En} (h : look es v = some e) : es.reverse[posV es v]? = some e := by
  induction es with
  | nil => cases h
  | cons a es ih =>
    simp only [look] at h
    simp only [posV, List.reverse_cons]
    by_cases hne : a.lit.natAbs = v + 1
    · rw [if_pos hne] at h ⊢
      cases h
      rw [List.getElem?_append_right (by simp)]
      simp
    · rw [if_neg hne] at h ⊢
      have h1 := posV_lt h
      rw [List.getElem?_append_left (by simpa using h1)]
      exact ih h

/-- A lesson at p over the trail at g. -/
structure IsLes (w : World) (p g bp bm M n : Nat) (es : List En) (cv : Value) (hp : Nat → Bool) : Prop where
  blk : Blk w p 66 #[.pointer (some ⟨g, 0, none⟩), cv, .slice (some ⟨bp, 0, none⟩) n n, .map (some bm)]
  places : Own w 3 1 (.slice (some ⟨bp, 0, none⟩) n n) n (inC (placesE n es))
  held : HeldM w bm M es.length (fun k => -atE es k) hp

theorem IsLes.below {w w' : World} {p g bp bm M n : Nat} {es : List En} {cv : Value} {hp : Nat → Bool} (h : IsLes w p g bp bm M n es cv hp) (hb : Below w.heap.size w w') : IsLes w' p g bp bm M n es cv hp :=
  ⟨h.blk.below hb h.blk.lt, h.places.new hb, h.held.below hb⟩

theorem lknown_any {w0 w : World} {X : Nat → Prop} {L : List (Nat × TrD)} {g n p bp bm M : Nat} {es : List En} {cv : Value} {hp : Nat → Bool} (l : List Int) (ao : Option Addr) (cap : Nat) (hT : Trails w0 w X L) (i : Nat) (hL : L[i]? = some (g, trE n es)) (hn : n ≤ 5000)
    (hS : IsLes w p g bp bm M n es cv hp) (hl : l.length ≤ 4611686018427387904)
    (hc : 0 < l.length → ∃ b off, ao = some ⟨b, off, none⟩ ∧ b < w.heap.size ∧ ∀ j (h : j < l.length), w.cell? ⟨b, off + j, none⟩ = some (.int .i64 l[j])) :
    Calls Try.prog 48 #[.pointer (some ⟨p, 0, none⟩), .slice ao l.length cap] w fun e w' => e = .returned (.bool (l.all fun x => decide (1 ≤ x.natAbs ∧ x.natAbs ≤ n))) ∧ Below w.heap.size w w' := by
  have hmf : ∀ (fn : Fn) (first cap : Array Value) (w : World), (Instr.makeFunc fn first cap).run Try.prog w = .ok (.func fn first cap) w := fun _ _ _ _ => rfl
  obtain ⟨W, hW⟩ : ∃ W, W = w.alloc (.cells #[.pointer (some ⟨p, 0, none⟩)] 63) := ⟨_, rfl⟩
  have hb : Below w.heap.size w W := by rw [hW]; exact (Below.refl _ _).alloc (Nat.le_refl _) _
  have hcp : W.cell? ⟨w.heap.size, 0, none⟩ = some (.pointer (some ⟨p, 0, none⟩)) := by rw [hW]; exact (Blk.new w _ _).cell 0
  have HC := containsFunc_any (fun x => !decide (1 ≤ x.natAbs ∧ x.natAbs ≤ n)) w.heap.size l ao cap W hl (fun h => by
    obtain ⟨b, off, e, hbl, hcell⟩ := hc h
    exact ⟨b, off, e, fun j hj => (World.cell?_of_block (w := w) (hb.block b hbl)).trans (hcell j hj)⟩) (fun x _ => known1_any x (hT.below hb) i hL hn (hS.below hb).blk hcp)
  rw [hW] at HC
  have hall : (!(l.any fun x => !decide (1 ≤ x.natAbs ∧ x.natAbs ≤ n))) = l.all fun x => decide (1 ≤ x.natAbs ∧ x.natAbs ≤ n) := by
    rw [List.not_any_eq_all_not]
    simp
  rw [← hall]
  generalize (l.any fun x => !decide (1 ≤ x.natAbs ∧ x.natAbs ≤ n)) = r at *
  have HC := Lib.hid HC
  rw [hW] at hb
  have HB := Lib.hid hb
  clear hall hcp hW hb hT hS hc
  go_enter Try.func48, Try.ntmps48
  go_wp2_with (go_at_call 52; refine HC.out.mono ?_; rintro e w' ⟨rfl, rfl⟩)
  go_ret
  exact ⟨rfl, HB.out⟩

end Go.Proofs.Ythfmlmodpcikcaa
