/- The document's trail, as it lies; is, Value, Of. -/
import Derived.Test.YtnachllhjojlcaaR17
namespace Go.Proofs.Ytnachllhjojlcaa
open Go.ChangeShapes Go.WideShapes Go.ChangeAt Go.RowKit
set_option maxRecDepth 100000

def En.cells (e : En) : List Value := [.int .i64 e.lit, .int .i64 e.level, .int .i64 e.reason]
def enC (l : List En) : List Value := l.flatMap En.cells
theorem enC_len (l : List En) : (enC l).length = 3 * l.length := by
  induction l with
  | nil => rfl
  | cons a l ih => simp [enC, En.cells] at ih ⊢; omega
theorem enC_app (l m : List En) : enC (l ++ m) = enC l ++ enC m := by simp [enC]
theorem enC_one (l : List En) : ∀ u ∈ enC l, u.oneCell' = true := by
  intro u hu
  obtain ⟨k, _, h⟩ := List.mem_flatMap.1 hu
  simp only [En.cells, List.mem_cons, List.not_mem_nil, or_false] at h
  rcases h with rfl | rfl | rfl <;> rfl
theorem enC_get (l : List En) : ∀ (i : Nat) (e : En), l[i]? = some e → (enC l)[i * 3]? = some (.int .i64 e.lit) ∧ (enC l)[i * 3 + 1]? = some (.int .i64 e.level) ∧ (enC l)[i * 3 + 2]? = some (.int .i64 e.reason) := by
  induction l with
  | nil => intro i e h; simp at h
  | cons a l ih =>
    intro i e h
    have he : enC (a :: l) = .int .i64 a.lit :: .int .i64 a.level :: .int .i64 a.reason :: enC l := rfl
    rw [he]
    cases i with
    | zero =>
      simp only [List.getElem?_cons_zero, Option.some.injEq] at h
      subst h
      exact ⟨rfl, rfl, rfl⟩
    | succ i =>
      obtain ⟨h1, h2, h3⟩ := ih i e (by simpa using h)
      have e : (i + 1) * 3 = i * 3 + 1 + 1 + 1 := by omega
      rw [e]
      simp only [List.getElem?_cons_succ]
      exact ⟨h1, h2, h3⟩

theorem older_rev (es : List En) (k : Nat) (h : k < es.length) : ∃ e, e ∈ es ∧ older es (k + 1) = e :: older es k ∧ es.reverse[k]? = some e ∧ atE es k = e.lit := by
  have hj : es.length - (k + 1) < es.length := by omega
  obtain ⟨e, he, h1, h2⟩ := older_succ es k h
  refine ⟨e, he, h1, ?_, h2⟩
  have h3 : older es (k + 1) = es[es.length - (k + 1)] :: older es k := by
    unfold older
    rw [List.drop_eq_getElem_cons hj]
    congr 2
    omega
  rw [h1] at h3
  injection h3 with h3 _
  rw [List.getElem?_reverse h]
  have e1 : es.length - 1 - k = es.length - (k + 1) := by omega
  rw [e1, List.getElem?_eq_getElem hj, h3]

/-- The document's trail at x, its blocks among X. -/
def RefA (w : World) (X : Nat → Prop) (x n : Nat) (es : List En) : Prop :=
  ∃ v, Blk w x 50 #[.int .i64 n, v, .int .i64 (hi es)] ∧ Own w 75 3 v es.length (enC es.reverse) ∧ X x ∧ ∀ k, v.ownBlock = some k → X k

theorem RefA.below {w w' : World} {X : Nat → Prop} {x n : Nat} {es : List En} (h : RefA w X x n es) (hb : Below w.heap.size w w') : RefA w' X x n es := by
  obtain ⟨v, h1, h2, h3, h4⟩ := h
  exact ⟨v, h1.below hb h1.lt, h2.new hb, h3, h4⟩
theorem RefA.touch {w w' : World} {X F : Nat → Prop} {x n : Nat} {es : List En} (h : RefA w X x n es) (hb : Touch F w w') (hF : ∀ k, X k → ¬ F k) : RefA w' X x n es := by
  obtain ⟨v, h1, h2, h3, h4⟩ := h
  exact ⟨v, h1.touch hb (hF x h3), h2.touch hb fun k hk => hF k (h4 k hk), h3, h4⟩

/-- One entry's cells. -/
theorem ref_at {w : World} {v : Value} {es : List En} (h : Own w 75 3 v es.length (enC es.reverse)) (k : Nat) (e : En) (hk : k < es.length) (he : es.reverse[k]? = some e) :
    ∃ bl off cap, v = .slice (some ⟨bl, off, none⟩) es.length cap ∧ w.cell? ⟨bl, off + k * 3, none⟩ = some (.int .i64 e.lit) ∧ w.cell? ⟨bl, off + k * 3 + 1, none⟩ = some (.int .i64 e.level) ∧ w.cell? ⟨bl, off + k * 3 + 2, none⟩ = some (.int .i64 e.reason) ∧ bl < w.heap.size := by
  obtain ⟨ao, cap, rfl, _, _, hf⟩ := h.form
  obtain ⟨bl, off, rfl, hc, _, hbl⟩ := hf (by omega)
  obtain ⟨h1, h2, h3⟩ := enC_get _ k e he
  have hl := enC_len es.reverse
  rw [List.length_reverse] at hl
  refine ⟨bl, off, cap, rfl, ?_, ?_, ?_, hbl⟩
  · rw [hc (k * 3) (by omega)]; exact h1
  · rw [Nat.add_assoc, hc (k * 3 + 1) (by omega)]; exact h2
  · rw [Nat.add_assoc, hc (k * 3 + 2) (by omega)]; exact h3

theorem val_nil {n : Nat} {es : List En} {x : Int} (h : look es (x.natAbs - 1) = none) : valE n es x = 0 := by
  unfold valE
  split
  · rw [h]
  · rfl

theorem is_any (x n : Nat) (v u : Value) (lit : Int) (w : World) (hb : Blk w x 50 #[.int .i64 n, v, u]) (hn : n ≤ 5000) (_hlit : I64 lit) :
    Calls Try.prog 48 #[.pointer (some ⟨x, 0, none⟩), .int .i64 lit] w fun e w' => e = .returned (.bool (decide (1 ≤ lit.natAbs ∧ lit.natAbs ≤ n))) ∧ w = w' := by
  have hc := hb.cell 0
  simp at hc
  by_cases h1 : 1 ≤ lit
  · have h2 : ¬ lit ≤ -1 := by omega
    have h3 : decide (lit ≤ -1) = false := by simpa using h2
    by_cases h4 : lit ≤ (n : Int)
    · have h5 : decide (1 ≤ lit.natAbs ∧ lit.natAbs ≤ n) = true := by simp; omega
      rw [h5]
      go_enter Try.func48, Try.ntmps48
      go_wp2_with fail
      go_ret
      exact ⟨rfl, rfl⟩
    · have h5 : decide (1 ≤ lit.natAbs ∧ lit.natAbs ≤ n) = false := by simp; omega
      have h6 : decide (lit ≤ (n : Int)) = false := by simpa using h4
      rw [h5]
      go_enter Try.func48, Try.ntmps48
      go_wp2_with fail
      go_ret
      exact ⟨rfl, rfl⟩
  · have h2 : decide (1 ≤ lit) = false := by simpa using h1
    by_cases h3 : lit ≤ -1
    · by_cases h4 : -(n : Int) ≤ lit
      · have h5 : decide (1 ≤ lit.natAbs ∧ lit.natAbs ≤ n) = true := by simp; omega
        rw [h5]
        go_enter Try.func48, Try.ntmps48
        go_wp2_with fail
        go_ret
        exact ⟨rfl, rfl⟩
      · have h5 : decide (1 ≤ lit.natAbs ∧ lit.natAbs ≤ n) = false := by simp; omega
        have h6 : decide (-(n : Int) ≤ lit) = false := by simpa using h4
        rw [h5]
        go_enter Try.func48, Try.ntmps48
        go_wp2_with fail
        go_ret
        exact ⟨rfl, rfl⟩
    · have h4 : decide (lit ≤ -1) = false := by simpa using h3
      have h5 : decide (1 ≤ lit.natAbs ∧ lit.natAbs ≤ n) = false := by simp; omega
      rw [h5]
      go_enter Try.func48, Try.ntmps48
      go_wp2_with fail
      go_ret
      exact ⟨rfl, rfl⟩

set_option maxHeartbeats 1000000 in
theorem rvalue_any (X : Nat → Prop) (x n : Nat) (es : List En) (lit : Int) (w : World) (hR : RefA w X x n es) (hg : Good n es) (hn : n ≤ 5000) (hlit : I64 lit) :
    Calls Try.prog 26 #[.pointer (some ⟨x, 0, none⟩), .int .i64 lit] w fun e w' => e = .returned (.int .i64 (valE n es lit)) ∧ w = w' := by
  obtain ⟨v, hb, hO, _, _⟩ := hR
  have HI := Lib.hid (is_any x n v _ lit w hb hn hlit)
  have hc1 := hb.cell 1
  simp at hc1
  have hlen := hg.len_le
  have HG := Lib.hid hg
  have HL := Lib.hid hlit
  obtain ⟨ao, cap, rfl, _, _, _⟩ := hO.form
  clear hg hlit
  generalize hT : valE n es lit = T
  have HT := Lib.hid hT
  clear hT
  by_cases hx : Lit n lit
  · have hd : decide (1 ≤ lit.natAbs ∧ lit.natAbs ≤ n) = true := by unfold Lit at hx; simpa using hx
    rw [hd] at HI
    have HX := Lib.hid hx
    have hneg : IntKind.i64.wrap (-lit) = -lit := by unfold Lit at hx; rw [IntKind.wrap_i64]; omega
    clear hd hx
    go_enter Try.func26, Try.ntmps26
    go_wp2_with (go_at_call 48; refine HI.out.mono ?_; rintro e w' ⟨rfl, rfl⟩)
    go_loop [5] (fun i => ∃ k : Nat, k ≤ es.length ∧ i = .int .i64 k ∧ look (older es k) (lit.natAbs - 1) = none) (fun i => es.length - (intOf i).toNat)
    case atStart => exact ⟨0, by omega, rfl, by rw [older_zero]; rfl⟩
    case round =>
      obtain ⟨k, hk, rfl, hnone⟩ := hrel
      by_cases hlt : k < es.length
      · obtain ⟨e, he, hold, hrev, _⟩ := older_rev es k hlt
        obtain ⟨bl, off, cap', ev, hce, _, _, _⟩ := ref_at hO k e hlt hrev
        injection ev with e1 e2 e3
        subst e1 e3
        have hki : (k : Int) < (es.length : Int) := by omega
        have hlm := look_mem HG.out e he
        by_cases h1 : e.lit = lit
        · have hv1 : valE n es lit = 1 := by
            unfold valE
            have := HX.out
            unfold Lit at this
            rw [if_pos this, ← h1, hlm]
            simp
          obtain rfl : T = 1 := HT.out.symm.trans hv1
          have h1' : (e.lit == lit) = true := by simpa using h1
          clear h1 hlm hold hrev he hnone e2
          generalize e.lit = el at *
          go_wp2_with fail
          go_ret
          exact ⟨rfl, rfl⟩
        · have h1' : (e.lit == lit) = false := by simpa using h1
          by_cases h2 : e.lit = -lit
          · have hv1 : valE n es lit = -1 := by
              unfold valE
              have := HX.out
              unfold Lit at this
              have e5 : lit.natAbs - 1 = e.lit.natAbs - 1 := by omega
              rw [if_pos this, e5, hlm]
              simp only
              rw [if_neg h1]
            obtain rfl : T = -1 := HT.out.symm.trans hv1
            have h2' : (e.lit == -lit) = true := by simpa using h2
            clear h1 h2 hlm hold hrev he hnone e2
            generalize e.lit = el at *
            go_wp2_with fail
            go_ret
            exact ⟨rfl, rfl⟩
          · have h2' : (e.lit == -lit) = false := by simpa using h2
            have hnext : look (older es (k + 1)) (lit.natAbs - 1) = none := by
              rw [hold]
              simp only [look]
              have := HX.out.1
              rw [if_neg (by omega)]
              exact hnone
            have HN := Lib.hid hnext
            clear h1 h2 hlm hold hrev he hnone hnext e2
            generalize e.lit = el at *
            go_wp2_with fail
            go_round
            case rel => exact ⟨k + 1, by omega, by go_num, HN.out⟩
            case measure => simp [intOf]; omega
      · obtain rfl : k = es.length := by omega
        rw [older_all] at hnone
        obtain rfl : T = 0 := HT.out.symm.trans (val_nil hnone)
        clear hnone
        go_wp2_with fail
        go_ret
        exact ⟨rfl, rfl⟩
  · have hd : decide (1 ≤ lit.natAbs ∧ lit.natAbs ≤ n) = false := by unfold Lit at hx; simp; omega
    rw [hd] at HI
    have hv1 : valE n es lit = 0 := by unfold Lit at hx; unfold valE; rw [if_neg hx]
    obtain rfl : T = 0 := HT.out.symm.trans hv1
    clear hd hx
    go_enter Try.func26, Try.ntmps26
    go_wp2_with (go_at_call 48; refine HI.out.mono ?_; rintro e w' ⟨rfl, rfl⟩)
    go_ret
    exact ⟨rfl, rfl⟩


end Go.Proofs.Ytnachllhjojlcaa
