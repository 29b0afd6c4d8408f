/- The law's same, plain laws for TrailBack. -/
import Derived.Test.YtiejdladmoncaaaT19
namespace Go.Proofs.Ytiejdladmoncaaa
open Go.ChangeShapes Go.WideShapes Go.ChangeAt Go.RowKit
set_option maxRecDepth 100000

theorem older_app (xs es : List En) (k : Nat) (h : k ≤ es.length) : older (xs ++ es) k = older es k := by
  unfold older
  have e : (xs ++ es).length - k = xs.length + (es.length - k) := by rw [List.length_append]; omega
  rw [e, List.drop_append]
  simp
theorem at_app (xs es : List En) (k : Nat) (h : k < es.length) : atE (xs ++ es) k = atE es k := by
  unfold atE
  rw [if_neg (by omega), if_neg (by omega)]
  simp only [Int.toNat_natCast, List.map_append, List.reverse_append]
  rw [List.getD_eq_getElem?_getD, List.getD_eq_getElem?_getD, List.getElem?_append_left (by simpa using h)]

set_option maxHeartbeats 1000000 in
theorem same_any {w0 : World} {X : Nat → Prop} {L : List (Nat × TrD)} (i j ga gb n : Nat) (xs es : List En) (w : World) (hT : Trails w0 w X L) (hi : L[i]? = some (ga, trE n es)) (hj : L[j]? = some (gb, trE n (xs ++ es))) (hg : Good n (xs ++ es)) (hn : n ≤ 5000) :
    Calls Try.prog 19 #[.pointer (some ⟨ga, 0, none⟩), .pointer (some ⟨gb, 0, none⟩), .int .i64 es.length] w fun e w' => e = .returned (.bool true) ∧ Below w.heap.size w w' := by
  have hg' := hg.tail
  have hlen := hg'.len_le
  have HG := Lib.hid hg
  have HG' := Lib.hid hg'
  have hT0 := Trails.below hT (Below.refl _ _)
  clear hg hg' hT
  go_enter Try.func19, Try.ntmps19
  go_wp2_with fail
  go_loopw [7] (fun x wr => ∃ k : Nat, k ≤ es.length ∧ x = .int .i64 k ∧ Trails w0 wr X L ∧ Below w.heap.size w wr) (fun x _ => es.length - (intOf x).toNat)
  case atStart => exact ⟨0, by omega, rfl, hT0, Below.refl _ _⟩
  case round =>
    obtain ⟨k, hk, rfl, hT, hB⟩ := hrel
    by_cases hlt : k < es.length
    · obtain ⟨e, he, hold, hat⟩ := older_succ es k hlt
      have hat2 := (at_app xs es k hlt).trans hat
      have hlit := HG'.out.lit e he
      obtain ⟨_, hof1⟩ := on_trail HG'.out he
      obtain ⟨hval, hof2⟩ := on_trail HG.out (List.mem_append_right xs he)
      have HA := Lib.hid (at_eq hT i hi (k : Int) e.lit hat)
      have HA2 := Lib.hid (at_eq hT j hj (k : Int) e.lit hat2)
      unfold Lit at hlit
      have hki : (k : Int) < (es.length : Int) := by omega
      obtain ⟨u, hu⟩ : ∃ u, u = e.lit.natAbs - 1 := ⟨_, rfl⟩
      rw [← hu] at hof1 hof2
      have HL1 : Hid (∀ w3, Trails w0 w3 X L → Calls Try.prog 11 #[.pointer (some ⟨ga, 0, none⟩), .int .i64 (u : Int)] w3 fun e' w' => e' = .returned (.int .i64 e.level) ∧ Below w3.heap.size w3 w' ∧ Trails w0 w' X L) := Lib.hid fun w3 h => levelOf_eq h i hi hn (u : Int) e.level (by rw [hof1])
      have HL2 : Hid (∀ w3, Trails w0 w3 X L → Calls Try.prog 11 #[.pointer (some ⟨gb, 0, none⟩), .int .i64 (u : Int)] w3 fun e' w' => e' = .returned (.int .i64 e.level) ∧ Below w3.heap.size w3 w' ∧ Trails w0 w' X L) := Lib.hid fun w3 h => levelOf_eq h j hj hn (u : Int) e.level (by rw [hof2])
      have HR1 : Hid (∀ w3, Trails w0 w3 X L → Calls Try.prog 14 #[.pointer (some ⟨ga, 0, none⟩), .int .i64 (u : Int)] w3 fun e' w' => e' = .returned (.int .i64 e.reason) ∧ Below w3.heap.size w3 w' ∧ Trails w0 w' X L) := Lib.hid fun w3 h => reason_eq h i hi hn (u : Int) e.reason (by rw [hof1])
      have HR2 : Hid (∀ w3, Trails w0 w3 X L → Calls Try.prog 14 #[.pointer (some ⟨gb, 0, none⟩), .int .i64 (u : Int)] w3 fun e' w' => e' = .returned (.int .i64 e.reason) ∧ Below w3.heap.size w3 w' ∧ Trails w0 w' X L) := Lib.hid fun w3 h => reason_eq h j hj hn (u : Int) e.reason (by rw [hof2])
      have HV : Hid (∀ w3, Trails w0 w3 X L → Calls Try.prog 10 #[.pointer (some ⟨gb, 0, none⟩), .int .i64 e.lit] w3 fun e' w' => e' = .returned (.int .i64 1) ∧ w3 = w') := Lib.hid fun w3 h => value_eq h j hj hn e.lit ⟨by omega, by omega⟩ 1 hval
      have HT := Lib.hid hT
      have HB := Lib.hid hB
      clear hof1 hof2 hval hat hat2 hold hT hB
      generalize e.level = lv at *
      generalize e.reason = rs at *
      generalize hx : e.lit = x at *
      by_cases hneg : x < 0
      · have hxu : -x - 1 = (u : Int) := by omega
        have hm1 : x < -x := by omega
        have hm2 : ¬ -x < x := by omega
        have hb1 : -5001 ≤ x := by omega
        have hx0 : (x == 0) = false := by simp; omega
        clear hlit hu hx
        go_wp2_with (first
          | (go_at_call 13; (with_reducible refine HA.out.mono ?_); rintro e' w' ⟨rfl, rfl⟩)
          | (go_at_call 13; (with_reducible refine HA2.out.mono ?_); rintro e' w' ⟨rfl, rfl⟩)
          | (go_at_call 11; (with_reducible refine (HL1.out _ HT.out).mono ?_); rintro e' w1 ⟨rfl, b1, t1⟩)
          | (go_at_call 11; (with_reducible refine (HL2.out _ t1).mono ?_); rintro e' w2 ⟨rfl, b2, t2⟩)
          | (go_at_call 14; (with_reducible refine (HR1.out _ t2).mono ?_); rintro e' w3 ⟨rfl, b3, t3⟩)
          | (go_at_call 14; (with_reducible refine (HR2.out _ t3).mono ?_); rintro e' w4 ⟨rfl, b4, t4⟩)
          | (go_at_call 10; (with_reducible refine (HV.out _ t4).mono ?_); rintro e' w5 ⟨rfl, rfl⟩))
        go_roundw
        case rel => exact ⟨k + 1, by omega, by go_num, t4, bel_trans (bel_trans (bel_trans (bel_trans HB.out b1) b2) b3) b4⟩
        case measure => simp [intOf]; omega
      · have hxu : x - 1 = (u : Int) := by omega
        have hm1 : -x < x := by omega
        have hm2 : ¬ x < -x := by omega
        have hb1 : x ≤ 5001 := by omega
        have hx0 : (x == 0) = false := by simp; omega
        clear hlit hu hx
        go_wp2_with (first
          | (go_at_call 13; (with_reducible refine HA.out.mono ?_); rintro e' w' ⟨rfl, rfl⟩)
          | (go_at_call 13; (with_reducible refine HA2.out.mono ?_); rintro e' w' ⟨rfl, rfl⟩)
          | (go_at_call 11; (with_reducible refine (HL1.out _ HT.out).mono ?_); rintro e' w1 ⟨rfl, b1, t1⟩)
          | (go_at_call 11; (with_reducible refine (HL2.out _ t1).mono ?_); rintro e' w2 ⟨rfl, b2, t2⟩)
          | (go_at_call 14; (with_reducible refine (HR1.out _ t2).mono ?_); rintro e' w3 ⟨rfl, b3, t3⟩)
          | (go_at_call 14; (with_reducible refine (HR2.out _ t3).mono ?_); rintro e' w4 ⟨rfl, b4, t4⟩)
          | (go_at_call 10; (with_reducible refine (HV.out _ t4).mono ?_); rintro e' w5 ⟨rfl, rfl⟩))
        go_roundw
        case rel => exact ⟨k + 1, by omega, by go_num, t4, bel_trans (bel_trans (bel_trans (bel_trans HB.out b1) b2) b3) b4⟩
        case measure => simp [intOf]; omega
    · obtain rfl : k = es.length := by omega
      have HB := Lib.hid hB
      go_wp2_with fail
      go_ret
      exact ⟨rfl, HB.out⟩

/-! ### Plain laws for TrailBack -/
theorem pop_app (lv : Int) (d : En) (es : List En) (h : ¬ lv < d.level) : ∀ xs, ∃ xs', popE lv (xs ++ d :: es) = xs' ++ d :: es
  | [] => ⟨[], by simp only [List.nil_append, popE]; rw [if_neg h]⟩
  | x :: xs => by
    simp only [List.cons_append, popE]
    split
    · exact pop_app lv d es h xs
    · exact ⟨x :: xs, rfl⟩

theorem do_keep (n : Nat) (xs : List En) (d : En) (es : List En) (s : StepD) (hd : d.level = hi es + 1) (hs : s.wf) (h : s.kind ≤ 1 ∨ hi es < s.lit) : ∃ xs', (doC n (xs ++ d :: es) s).2 = xs' ++ d :: es := by
  unfold doC
  split
  · simp only [decC]
    split
    · exact ⟨_ :: xs, rfl⟩
    · exact ⟨xs, rfl⟩
  · split
    · simp only [asnC]
      split
      · exact ⟨xs, rfl⟩
      · by_cases ho : openC n (xs ++ d :: es) s.lit = 0
        · simp only [if_pos ho]
          exact ⟨_ :: xs, rfl⟩
        · simp only [if_neg ho]
          exact ⟨xs, rfl⟩
    · next h0 h1 =>
      have := hs.kind
      simp only [backC]
      split
      · exact ⟨xs, rfl⟩
      · exact pop_app _ _ _ (by omega) xs

theorem hi_app {n : Nat} (es : List En) : ∀ xs, Good n (xs ++ es) → hi es ≤ hi (xs ++ es)
  | [], _ => Int.le_refl _
  | x :: xs, h => by
    obtain ⟨_, _, h3, h4⟩ := h
    have := hi_app es xs h4
    show hi es ≤ x.level
    rw [List.append_eq] at *
    omega

theorem pop_all {n : Nat} (d : En) (es : List En) (hd : d.level = hi es + 1) : ∀ xs, Good n (xs ++ d :: es) → popE (hi es) (xs ++ d :: es) = es
  | [], h => by
    simp only [List.nil_append, popE]
    rw [if_pos (by omega)]
    exact pop_eq _ h.2.2.2 (Int.le_refl _)
  | x :: xs, h => by
    have h1 := hi_app (d :: es) (x :: xs) h
    have h2 : hi (d :: es) = d.level := rfl
    have h3 : hi (x :: xs ++ d :: es) = x.level := rfl
    simp only [List.cons_append, popE]
    rw [if_pos (by omega)]
    exact pop_all d es hd xs h.2.2.2

theorem back_all {n : Nat} (d : En) (es xs : List En) (hd : d.level = hi es + 1) (h : Good n (xs ++ d :: es)) : backC (xs ++ d :: es) (hi es) = (0, es) := by
  have h1 := hi_app (d :: es) xs h
  have h2 : hi (d :: es) = d.level := rfl
  have h3 := hi_nonneg (h.tail).2.2.2
  simp only [backC]
  rw [if_neg (by omega), pop_all d es hd xs h]

end Go.Proofs.Ytiejdladmoncaaa
