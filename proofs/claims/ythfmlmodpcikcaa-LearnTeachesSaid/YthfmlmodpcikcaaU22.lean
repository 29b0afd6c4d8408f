/- LearnTeaches: the walk. -/
import Derived.Test.YthfmlmodpcikcaaU21
import Derived.Test.YthfmlmodpcikcaaU14
import Derived.StillTailTactics
import Derived.Deep.QuietTactic
import Derived.BigQuiet
namespace Go.Proofs.Ythfmlmodpcikcaa
open Go.ChangeShapes Go.WideShapes Go.ChangeAt Go.RowKit Go.Maps Go.Deep
set_option maxRecDepth 100000

/-- The other blocks are written, and grow. -/
theorem Trails.ref {w0 w w' : World} {X X' : Nat → Prop} {L : List (Nat × TrD)} (h : Trails w0 w X L) (ht : Touch X w w') (hX : ∀ k, X k → w0.heap.size ≤ k) (hX' : ∀ k, X' k → X k ∨ (w.heap.size ≤ k ∧ k < w'.heap.size)) : Trails w0 w' X' L := by
  have h1 := h.foreign ht hX
  have h2 := h.xlt
  have hb := h1.bel
  obtain ⟨_, _, o, a3, a4, a5, a6, a7⟩ := h
  refine ⟨hb, fun k hk => ?_, o, fun i g T hi => (a3 i g T hi).other ht (a7 i), a4, a5, fun i k hk => Nat.lt_of_lt_of_le (a6 i k hk) ht.size, fun i k hk hx => ?_⟩
  · rcases hX' k hk with h | h
    · exact Nat.lt_of_lt_of_le (h2 k h) ht.size
    · exact h.2
  · rcases hX' k hx with h | h
    · exact a7 i k hk h
    · have := a6 i k hk; omega

section
variable {w0 w : World} {X : Nat → Prop} {L : List (Nat × TrD)} {g n x : Nat} {es : List En}
theorem rdecide_eq (hR : RefA w X x n es) (hg : Good n es) (hn : n ≤ 5000) (y : Int) (hy : I64 y) (c : Int) (es' : List En) (hc : decC n es y = (c, es')) :
    Calls Try.prog 15 #[.pointer (some ⟨x, 0, none⟩), .int .i64 y] w fun e w' => e = .returned (.int .i64 c) ∧ RefUp w w' X x n es' := by
  have := rdecide_any X x n es y w hR hg hn hy
  rwa [hc] at this
theorem rassign_eq (hR : RefA w X x n es) (hg : Good n es) (hn : n ≤ 5000) (y r : Int) (hy : I64 y) (c : Int) (es' : List En) (hc : asnC n es y r = (c, es')) :
    Calls Try.prog 17 #[.pointer (some ⟨x, 0, none⟩), .int .i64 y, .int .i64 r] w fun e w' => e = .returned (.int .i64 c) ∧ RefUp w w' X x n es' := by
  have := rassign_any X x n es y r w hR hg hn hy
  rwa [hc] at this
theorem RefA.keep {w' : World} (h : RefA w X x n es) (ht : Touch (fun k => ¬ X k) w w') : RefA w' X x n es := h.touch ht fun _ hk hn => hn hk
end

/-- Numbers only reads. -/
theorem numbers_quiet (a b : List Int) (ao bo : Option Addr) (ca cb : Nat) (w : World) (ha : Ints w ao a) (hb : Ints w bo b) (hab : a = b) (hl : a.length ≤ 9223372036854775807) :
    Calls Try.prog 20 #[.slice ao a.length ca, .slice bo b.length cb] w fun e w' => e = .returned (.bool true) ∧ ∃ m, w' = w.drewN m := by
  subst hab
  have HA := Lib.hid ha
  have HB := Lib.hid hb
  clear ha hb
  go_enter Try.func20, Try.ntmps20
  go_wp2_with fail
  go_loopw [5] (fun x wr => ∃ k m : Nat, k ≤ a.length ∧ x = .int .i64 k ∧ Hid (wr = w.drewN m)) (fun x _ => a.length - (intOf x).toNat)
  case atStart => exact ⟨0, 0, by omega, rfl, Lib.hid rfl⟩
  case round =>
    obtain ⟨k, m, hk, rfl, HW⟩ := hrel
    have hBr : Below w.heap.size w wr := by rw [HW.out]; exact bel_drewN (Below.refl _ _) m
    by_cases hlt : k < a.length
    · obtain ⟨b1, o1, rfl, hbl1, hc1⟩ := HA.out.below hBr (by omega)
      obtain ⟨b2, o2, rfl, hbl2, hc2⟩ := HB.out.below hBr (by omega)
      have hc1k := hc1 k hlt
      have hc2k := hc2 k hlt
      have hki : (k : Int) < (a.length : Int) := by omega
      generalize a[k] = x at *
      clear hc1 hc2 hBr
      go_wp2_with fail
      go_region
      go_wp2_with fail
      go_roundw
      case rel => exact ⟨k + 1, m + 1, by omega, by go_num, Lib.hid (by rw [HW.out]; rfl)⟩
      case measure => simp [intOf]; omega
    · obtain rfl : k = a.length := by omega
      clear hBr
      go_wp2_with fail
      go_ret
      exact ⟨rfl, m, HW.out⟩

theorem ints_src {w : World} {ao : Option Addr} {l : List Int} (c : Nat) (h : Ints w ao l) : Src Try.prog 1 30 (.slice ao l.length c) l.length (inC l) w := by
  rcases Nat.eq_zero_or_pos l.length with h0 | h0
  · have hx : l = [] := List.eq_nil_of_length_eq_zero h0
    subst hx
    cases ao with
    | none => exact Src.ofNil w Try.underlying30 c
    | some a => exact Src.ofSlice w Try.underlying30 a 0 c [] rfl (fun j u hu => by simp at hu) (by simp)
  · obtain ⟨g, off, rfl, _, hc⟩ := h h0
    refine Src.ofSlice w Try.underlying30 ⟨g, off, none⟩ l.length c (inC l) (by simp [inC]) (fun j u hu => ?_) (in_one l)
    have hj : j < l.length := by have := (List.getElem?_eq_some_iff.1 hu).1; simpa [inC] using this
    have ha : (⟨g, off, none⟩ : Addr).add j = ⟨g, off + j, none⟩ := by unfold Addr.add; split <;> simp_all
    rw [ha, hc j hj, ← hu]
    simp [inC, hj]

/-- Copies of rows, made since a block. -/
def RowsOf (B : Nat) (w : World) (vs : List Value) (cls : List (List Int)) : Prop :=
  ∀ j (h : j < vs.length), ∃ a c, vs[j] = .slice a (cls.getD j []).length c ∧ NewInts B w a c (cls.getD j [])
theorem RowsOf.below {B : Nat} {w w' : World} {vs : List Value} {cls : List (List Int)} (h : RowsOf B w vs cls) (hb : Below w.heap.size w w') : RowsOf B w' vs cls := fun j hj => by
  obtain ⟨a, c, h1, h2⟩ := h j hj
  exact ⟨a, c, h1, h2.below hb⟩
theorem RowsOf.one {B : Nat} {w : World} {vs : List Value} {cls : List (List Int)} (h : RowsOf B w vs cls) : ∀ u ∈ vs, u.oneCell' = true := fun u hu => by
  obtain ⟨j, hj, rfl⟩ := List.getElem_of_mem hu
  obtain ⟨a, c, h1, _⟩ := h j hj
  rw [h1]
  rfl
theorem RowsOf.grown {B : Nat} {w w' : World} {vs : List Value} {cls : List (List Int)} {v : Value} {n : Nat} {xs : List Value} (h : RowsOf B w vs cls) (ho : Own w 30 1 v n xs) (hg : w.grownBy w' v.ownBlock) : RowsOf B w' vs cls := fun j hj => by
  obtain ⟨a, c, h1, h2⟩ := h j hj
  exact ⟨a, c, h1, h2.1.grown hg (Own.ne_own h2.1 ho (by decide)), h2.2⟩
theorem RowsOf.push {B : Nat} {w : World} {vs : List Value} {cls : List (List Int)} (h : RowsOf B w vs cls) (hl : vs.length < cls.length) {a : Option Addr} {c : Nat} (hn : NewInts B w a c cls[vs.length]) : RowsOf B w (vs ++ [.slice a cls[vs.length].length c]) cls := fun j hj => by
  by_cases hjl : j < vs.length
  · rw [List.getElem_append_left hjl]
    exact h j hjl
  · have e : j = vs.length := by simp at hj; omega
    subst e
    have e2 : cls.getD vs.length [] = cls[vs.length] := by rw [List.getD_eq_getElem?_getD, List.getElem?_eq_getElem hl]; rfl
    rw [e2]
    exact ⟨a, c, by simp, hn⟩
theorem RowsOf.cls {B : Nat} {w : World} {vs : List Value} {cls : List (List Int)} (h : RowsOf B w vs cls) (hl : vs.length = cls.length) {a : Option Addr} {c : Nat} (ho : Own w 30 1 (.slice a vs.length c) vs.length vs) : IsCls w a cls := fun h0 => by
  obtain ⟨ao, cap, e, _, _, hf⟩ := ho.form
  injection e with e1 _ _
  subst e1
  obtain ⟨g, off, rfl, hc, _, hg⟩ := hf (by omega)
  refine ⟨g, off, rfl, hg, fun j hj => ?_⟩
  have hj2 : j < vs.length := by omega
  obtain ⟨a', c', h1, h2⟩ := h j hj2
  have e2 : cls.getD j [] = cls[j] := by rw [List.getD_eq_getElem?_getD, List.getElem?_eq_getElem hj]; rfl
  rw [e2] at h1 h2
  refine ⟨a', c', ?_, h2.ints⟩
  rw [hc j hj2, List.getElem?_eq_getElem hj2, h1]

end Go.Proofs.Ythfmlmodpcikcaa
