/- The document's trail: New, Decide, Assign, Back. -/
import Derived.Test.YthfmlmodpcikcaaT24
namespace Go.Proofs.Ythfmlmodpcikcaa
open Go.ChangeShapes Go.WideShapes Go.ChangeAt Go.RowKit
set_option maxRecDepth 100000

def RefUp (w w' : World) (X : Nat → Prop) (x n : Nat) (es : List En) : Prop :=
  ∃ X', RefA w' X' x n es ∧ Touch X w w' ∧ ∀ k, X' k → X k ∨ (w.heap.size ≤ k ∧ k < w'.heap.size)

theorem RefA.up {w : World} {X : Nat → Prop} {x n : Nat} {es : List En} (h : RefA w X x n es) : RefUp w w X x n es := ⟨X, h, Touch.refl _ _, fun _ hk => .inl hk⟩

theorem rnew_any (n : Nat) (w : World) (hn : n ≤ 5000) :
    Calls Try.prog 13 #[.int .i64 n] w fun e w' => ∃ x, e = .returned (.tuple #[.pointer (some ⟨x, 0, none⟩), .int .i64 0]) ∧ RefA w' (fun k => k = x) x n [] ∧ Below w.heap.size w w' ∧ w.heap.size ≤ x ∧ x < w'.heap.size := by
  have h1 : decide ((n : Int) < 0) = false := by simp
  have h2 : decide ((2097152 : Int) < (n : Int)) = false := by simp; omega
  go_enter Try.func13, Try.ntmps13
  go_wp2_with fail
  go_ret2
  exact ⟨w.heap.size, rfl, ⟨.slice none 0 0, Blk.new w _ _, Own.nil _ _ 3, rfl, fun k hk => by simp [Value.ownBlock] at hk⟩, (Below.refl _ _).alloc (Nat.le_refl _) _, Nat.le_refl _, by simp⟩
theorem rnew_bad (n : Int) (w : World) (hn : n < 0) :
    Calls Try.prog 13 #[.int .i64 n] w fun e w' => e = .returned (.tuple #[.pointer none, .int .i64 1]) ∧ w = w' := by
  go_enter Try.func13, Try.ntmps13
  go_wp2_with fail
  go_ret2
  exact ⟨rfl, rfl⟩

theorem openC_val {n : Nat} {es : List En} {x : Int} (h : Lit n x) : (valE n es x = 0 ∧ openC n es x = 0) ∨ (valE n es x ≠ 0 ∧ openC n es x = 7) := by
  unfold Lit at h
  unfold valE openC
  rw [if_pos h, if_pos h]
  cases look es (x.natAbs - 1) with
  | none => exact .inl ⟨rfl, rfl⟩
  | some e =>
    refine .inr ⟨?_, rfl⟩
    simp only
    split <;> decide

/-- An entry is put: what is left. -/
theorem put_up {X : Nat → Prop} {x n : Nat} {es : List En} {hv : Int} {w : World} {v : Value} (d : En) (hX : X x) (_hvX : ∀ k, v.ownBlock = some k → X k) (hd : d.level = hv)
    (hb : Blk w x 48 #[.int .i64 n, v, .int .i64 hv]) (hO : Own w 62 3 v es.length (enC es.reverse)) (hl : es.length ≤ 5000) :
    Calls Try.prog 34 #[.pointer (some ⟨x, 0, none⟩), .agg #[.int .i64 d.lit, .int .i64 d.level, .int .i64 d.reason]] w fun e' w' => e' = .returned (.tuple #[]) ∧ RefUp w w' X x n (d :: es) := by
  have hlr : es.reverse.length = es.length := List.length_reverse
  refine (put_any x n hv v es.reverse d w hb (by rw [hlr]; exact hO) (by omega)).mono ?_
  rintro e' w' ⟨he, v', h1, h2, h3, h4⟩
  refine ⟨he, fun k => X k ∨ v'.ownBlock = some k, ⟨v', ?_, ?_, .inl hX, fun k hk => .inr hk⟩, h3.mono fun k _ hk => hk ▸ hX, fun k hk => ?_⟩
  · show Blk w' x 48 #[.int .i64 n, v', .int .i64 d.level]
    rw [hd]
    exact h1
  · rw [List.reverse_cons, List.length_cons, ← hlr]
    exact h2
  · rcases hk with hk | hk
    · exact .inl hk
    · exact .inr ⟨h4 k hk, h2.lt k hk⟩

theorem RefUp.trans {w w1 w2 : World} {X : Nat → Prop} {x n : Nat} {es : List En} (hT : Touch X w w1) (hs : w1.heap.size = w.heap.size) (h : RefUp w1 w2 X x n es) : RefUp w w2 X x n es := by
  obtain ⟨X', h1, h2, h3⟩ := h
  exact ⟨X', h1, hT.trans h2 fun _ _ h => h, fun k hk => by rw [← hs]; exact h3 k hk⟩

set_option maxHeartbeats 1000000 in
theorem rdecide_any (X : Nat → Prop) (x n : Nat) (es : List En) (lit : Int) (w : World) (hR : RefA w X x n es) (hg : Good n es) (hn : n ≤ 5000) (hlit : I64 lit) :
    Calls Try.prog 15 #[.pointer (some ⟨x, 0, none⟩), .int .i64 lit] w fun e w' => e = .returned (.int .i64 (decC n es lit).1) ∧ RefUp w w' X x n (decC n es lit).2 := by
  have hlen := hg.len_le
  have hhi : 0 ≤ hi es ∧ hi es ≤ 5000 := by
    have h1 := hi_nonneg hg
    have h2 := hi_le_len hg
    omega
  have HVal := Lib.hid (rvalue_any X x n es lit w hR hg hn hlit)
  obtain ⟨v, hb, hO, hX, hvX⟩ := hR
  have HI := Lib.hid (is_any x n v _ lit w hb hn hlit)
  have hR : RefA w X x n es := ⟨v, hb, hO, hX, hvX⟩
  have HR := Lib.hid hR.up
  clear hR
  by_cases hx : Lit n lit
  · have hd : decide (1 ≤ lit.natAbs ∧ lit.natAbs ≤ n) = true := by unfold Lit at hx; simpa using hx
    rw [hd] at HI
    rcases openC_val (es := es) hx with ⟨h1, h2⟩ | ⟨h1, h2⟩
    · have hdc : decC n es lit = (0, ⟨lit, hi es + 1, -1⟩ :: es) := by simp only [decC, h2, if_true]
      rw [h1] at HVal
      have HP := Lib.hid (put_up (X := X) (n := n) (es := es) (w := w.setCell ⟨x, 2, none⟩ (.int .i64 (hi es + 1))) ⟨lit, hi es + 1, -1⟩ hX hvX rfl (hb.set_ 2 _) (hO.far (p := ⟨x, 2, none⟩) (hO.ne_blk hb (by decide)) _) (by omega))
      simp only at HP
      have hT : Touch X w (w.setCell ⟨x, 2, none⟩ (.int .i64 (hi es + 1))) := (Touch.refl X w).setCell (p := ⟨x, 2, none⟩) (fun _ => hX) _
      have HT := Lib.hid hT
      have hs : (w.setCell ⟨x, 2, none⟩ (.int .i64 (hi es + 1))).heap.size = w.heap.size := by simp [World.setCell]
      have HS := Lib.hid hs
      rw [hdc]
      have hc2 := hb.cell 2
      have hf2 := hb.frozen 2
      simp at hc2
      generalize hi es = hh at *
      simp only
      generalize (⟨lit, hh + 1, -1⟩ :: es : List En) = es2 at *
      clear hd hdc h1 h2 hx hT hs hO hb
      go_enter Try.func15, Try.ntmps15
      go_wp2_with (first
        | (go_at_call 32; refine HI.out.mono ?_; rintro e w' ⟨rfl, rfl⟩)
        | (go_at_call 33; refine HVal.out.mono ?_; rintro e w' ⟨rfl, rfl⟩)
        | (go_at_call 34; refine HP.out.mono ?_; rintro e w1 ⟨rfl, hu⟩))
      go_ret
      exact ⟨rfl, RefUp.trans HT.out HS.out hu⟩
    · have hdc : decC n es lit = (7, es) := by simp only [decC, h2]; rfl
      rw [hdc]
      simp only
      generalize valE n es lit = z at *
      have hz : (z != 0) = true := by simpa using h1
      have hz2 : (z == 0) = false := by simpa using h1
      clear hd hdc h1 h2 hx hO hb
      go_enter Try.func15, Try.ntmps15
      go_wp2_with (first
        | (go_at_call 32; refine HI.out.mono ?_; rintro e w' ⟨rfl, rfl⟩)
        | (go_at_call 33; refine HVal.out.mono ?_; rintro e w' ⟨rfl, rfl⟩))
      go_ret
      exact ⟨rfl, HR.out⟩
  · have hd : decide (1 ≤ lit.natAbs ∧ lit.natAbs ≤ n) = false := by unfold Lit at hx; simp; omega
    rw [hd] at HI
    have hop : openC n es lit = 1 := by unfold Lit at hx; unfold openC; rw [if_neg hx]
    have hdc : decC n es lit = (1, es) := by simp only [decC, hop]; rfl
    rw [hdc]
    simp only
    clear hd hdc hop hx hO hb
    go_enter Try.func15, Try.ntmps15
    go_wp2_with (first
      | (go_at_call 32; refine HI.out.mono ?_; rintro e w' ⟨rfl, rfl⟩))
    go_ret
    exact ⟨rfl, HR.out⟩

set_option maxHeartbeats 1000000 in
theorem rassign_any (X : Nat → Prop) (x n : Nat) (es : List En) (lit reason : Int) (w : World) (hR : RefA w X x n es) (hg : Good n es) (hn : n ≤ 5000) (hlit : I64 lit) :
    Calls Try.prog 17 #[.pointer (some ⟨x, 0, none⟩), .int .i64 lit, .int .i64 reason] w fun e w' => e = .returned (.int .i64 (asnC n es lit reason).1) ∧ RefUp w w' X x n (asnC n es lit reason).2 := by
  have hlen := hg.len_le
  have HVal := Lib.hid (rvalue_any X x n es lit w hR hg hn hlit)
  obtain ⟨v, hb, hO, hX, hvX⟩ := hR
  have HI := Lib.hid (is_any x n v _ lit w hb hn hlit)
  have hR : RefA w X x n es := ⟨v, hb, hO, hX, hvX⟩
  have HR := Lib.hid hR.up
  clear hR
  by_cases hr : reason < 0
  · have hdc : asnC n es lit reason = (1, es) := by simp only [asnC, if_pos hr]
    rw [hdc]
    simp only
    clear hdc hO hb
    go_enter Try.func17, Try.ntmps17
    go_wp2_with fail
    go_ret
    exact ⟨rfl, HR.out⟩
  · have hr' : decide (reason < 0) = false := by simpa using hr
    by_cases hx : Lit n lit
    · have hd : decide (1 ≤ lit.natAbs ∧ lit.natAbs ≤ n) = true := by unfold Lit at hx; simpa using hx
      rw [hd] at HI
      rcases openC_val (es := es) hx with ⟨h1, h2⟩ | ⟨h1, h2⟩
      · have hdc : asnC n es lit reason = (0, ⟨lit, hi es, reason⟩ :: es) := by simp only [asnC, if_neg hr, h2, if_true]
        rw [h1] at HVal
        have HP := Lib.hid (put_up (X := X) (n := n) (es := es) (w := w) ⟨lit, hi es, reason⟩ hX hvX rfl hb hO (by omega))
        simp only at HP
        rw [hdc]
        have hc2 := hb.cell 2
        simp at hc2
        generalize hi es = hh at *
        simp only
        generalize (⟨lit, hh, reason⟩ :: es : List En) = es2 at *
        clear hd hdc h1 h2 hx hO hb
        go_enter Try.func17, Try.ntmps17
        go_wp2_with (first
          | (go_at_call 32; refine HI.out.mono ?_; rintro e w' ⟨rfl, rfl⟩)
          | (go_at_call 33; refine HVal.out.mono ?_; rintro e w' ⟨rfl, rfl⟩)
          | (go_at_call 34; refine HP.out.mono ?_; rintro e w1 ⟨rfl, hu⟩))
        go_ret
        exact ⟨rfl, hu⟩
      · have hdc : asnC n es lit reason = (7, es) := by simp only [asnC, if_neg hr, h2]; rfl
        rw [hdc]
        simp only
        generalize valE n es lit = z at *
        have hz : (z != 0) = true := by simpa using h1
        have hz2 : (z == 0) = false := by simpa using h1
        clear hd hdc h1 h2 hx hO hb
        go_enter Try.func17, Try.ntmps17
        go_wp2_with (first
          | (go_at_call 32; refine HI.out.mono ?_; rintro e w' ⟨rfl, rfl⟩)
          | (go_at_call 33; refine HVal.out.mono ?_; rintro e w' ⟨rfl, rfl⟩))
        go_ret
        exact ⟨rfl, HR.out⟩
    · have hd : decide (1 ≤ lit.natAbs ∧ lit.natAbs ≤ n) = false := by unfold Lit at hx; simp; omega
      rw [hd] at HI
      have hop : openC n es lit = 1 := by unfold Lit at hx; unfold openC; rw [if_neg hx]
      have hdc : asnC n es lit reason = (1, es) := by simp only [asnC, if_neg hr, hop]; rfl
      rw [hdc]
      simp only
      clear hd hdc hop hx hO hb
      go_enter Try.func17, Try.ntmps17
      go_wp2_with (first
        | (go_at_call 32; refine HI.out.mono ?_; rintro e w' ⟨rfl, rfl⟩))
      go_ret
      exact ⟨rfl, HR.out⟩

theorem filter_pop {n : Nat} (lv : Int) : ∀ {es : List En}, Good n es → es.filter (fun e => decide (e.level ≤ lv)) = popE lv es
  | [], _ => rfl
  | e :: es, h => by
    simp only [popE]
    by_cases hl : lv < e.level
    · rw [if_pos hl, List.filter_cons_of_neg (by simp; omega)]
      exact filter_pop lv h.2.2.2
    · rw [if_neg hl, List.filter_eq_self.2 fun a ha => ?_]
      have := (level_le h a ha).2
      simp only [hi] at this
      simp
      omega

end Go.Proofs.Ythfmlmodpcikcaa
