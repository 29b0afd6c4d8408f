/- The walks of SatHolds, SatBudget. -/
import Derived.Test.YtoainmkebdpikaaGp
namespace Go.Proofs.Ytoainmkebdpikaa
open Go.ChangeShapes Go.WideShapes Go.ChangeAt Go.RowKit Go.Maps Go.Deep
set_option maxRecDepth 100000

theorem bool_eq_self (b : Bool) : (b == b) = true := by cases b <;> rfl

set_option maxHeartbeats 1000000 in
theorem holds_walk (ao : Option Addr) (st : List Bool) (cap : Nat) (aoc : Option Addr) (cl : List (List Int)) (capc : Nat) (av : Nat → Option Addr) (cv : Nat → Nat) (vars : Int) (w : World) (hs : Bools w ao st) (hc : IsRows w aoc cl av cv) (hI : ∀ c ∈ cl, ∀ x ∈ c, I64 x) :
    Calls Try.prog 4 #[.slice ao st.length cap, .slice aoc cl.length capc, .int .i64 vars] w fun e w' => e = .returned (.bool true) ∧ Below w.heap.size w w' := by
  have HL := Lib.hid (long_any 0 cl aoc capc av cv w hc)
  by_cases hlong : longE 0 cl = true
  · rw [hlong] at HL
    clear hs hc hI
    go_enter Try.func4, Try.ntmps4
    go_wp2_with (first
      | (go_at_call 10; (with_reducible refine HL.out.mono ?_); rintro e w1 ⟨rfl, rfl⟩)
      | (go_at_call 11; (with_reducible refine (awake_any _).mono ?_); rintro e w1 ⟨rfl, hb1⟩))
    go_ret
    exact ⟨rfl, hb1⟩
  have hlong' : longE 0 cl = false := by simpa using hlong
  rw [hlong'] at HL
  obtain ⟨_, k2, k3⟩ := longE_no hlong'
  by_cases h1 : (1000 : Int) < (st.length : Int)
  · have h1d : decide ((1000 : Int) < (st.length : Int)) = true := by simpa using h1
    clear hs hc hI k3 hlong hlong'
    go_enter Try.func4, Try.ntmps4
    go_wp2_with (first
      | (go_at_call 10; (with_reducible refine HL.out.mono ?_); rintro e w1 ⟨rfl, rfl⟩)
      | (go_at_call 11; (with_reducible refine (awake_any _).mono ?_); rintro e w1 ⟨rfl, hb1⟩))
    go_ret
    exact ⟨rfl, hb1⟩
  have h1d : decide ((1000 : Int) < (st.length : Int)) = false := by simpa using h1
  by_cases h2 : (1099511627776 : Int) < vars
  · have h2d : decide ((1099511627776 : Int) < vars) = true := by simpa using h2
    clear hs hc hI k3 hlong hlong'
    go_enter Try.func4, Try.ntmps4
    go_wp2_with (first
      | (go_at_call 10; (with_reducible refine HL.out.mono ?_); rintro e w1 ⟨rfl, rfl⟩)
      | (go_at_call 11; (with_reducible refine (awake_any _).mono ?_); rintro e w1 ⟨rfl, hb1⟩))
    go_ret
    exact ⟨rfl, hb1⟩
  have h2d : decide ((1099511627776 : Int) < vars) = false := by simpa using h2
  have hl1 : st.length ≤ 1000000 := by omega
  have hl2 : ∀ c ∈ cl, c.length ≤ 1000000 := fun c hc => by have := k3 c hc; omega
  have HS := Lib.hid (sholds_any st ao cap cl aoc capc av cv w hs hl1 hc (by omega) hl2 hI)
  have HR : Hid (∀ w', Below w.heap.size w w' → Calls Try.prog 16 #[.slice ao st.length cap, .slice aoc cl.length capc] w' fun e w'' => e = .returned (.bool (holdsCl st cl)) ∧ w' = w'') := Lib.hid fun w' hb => rholds_any st ao cap cl aoc capc av cv w' (hs.below hb) hl1 (hc.below hb) (by omega) hl2 hI
  obtain ⟨E, hE⟩ : ∃ E : Int, (∀ w', Calls Try.prog 18 #[.int .i64 vars] w' fun e w'' => e = .returned (.int .i64 E) ∧ w' = w'') ∧ ∀ w', Calls Try.prog 14 #[.int .i64 vars] w' fun e w'' => e = .returned (.int .i64 E) ∧ w' = w'' := by
    by_cases h0 : vars < 0
    · exact ⟨0, fun w' => senough_neg vars h0 w', fun w' => renough_neg vars h0 w'⟩
    · obtain ⟨v, rfl⟩ := Int.eq_ofNat_of_zero_le (by omega : 0 ≤ vars)
      exact ⟨enoughE v, fun w' => senough_any v (by omega) w', fun w' => renough_any v (by omega) w'⟩
  have HE1 := Lib.hid hE.1
  have HE2 := Lib.hid hE.2
  have heq := bool_eq_self (holdsCl st cl)
  generalize holdsCl st cl = b at *
  clear hs hc hI k3 hlong hlong' hE hl2
  go_enter Try.func4, Try.ntmps4
  go_wp2_with (first
    | (go_at_call 10; (with_reducible refine HL.out.mono ?_); rintro e w1 ⟨rfl, rfl⟩)
    | (go_at_call 17; (with_reducible refine HS.out.mono ?_); rintro e w1 ⟨rfl, hb1⟩)
    | (go_at_call 16; (with_reducible refine (HR.out _ hb1).mono ?_); rintro e w2 ⟨rfl, rfl⟩)
    | (go_at_call 18; (with_reducible refine (HE1.out _).mono ?_); rintro e w2 ⟨rfl, rfl⟩)
    | (go_at_call 14; (with_reducible refine (HE2.out _).mono ?_); rintro e w2 ⟨rfl, rfl⟩)
    | (go_at_call 11; (with_reducible refine (awake_any _).mono ?_); rintro e w3 ⟨rfl, hb3⟩))
  go_ret
  exact ⟨rfl, bel_trans hb1 hb3⟩

theorem enough_bounds (n : Nat) (hn : n ≤ 12) : 0 ≤ enoughE n ∧ enoughE n ≤ 1099511627776 := by
  rw [enough_small (by omega)]
  have : (0 : Int) ≤ ((n : Int) + 1) * 2 ^ (n + 1) := Int.mul_nonneg (by omega) (by exact_mod_cast Nat.zero_le _)
  omega
theorem state_len (n : Nat) {cl : List (List Int)} (h : cl.all (knownS n) = true) : (solveE n cl).state.length ≤ n := by
  have h1 := (solve_ok n cl (List.all_eq_true.1 h)).2
  cases hy : (solveE n cl).yes with
  | true => exact Nat.le_of_eq (h1.yes hy).1
  | false => rw [(h1.no hy).1]; exact Nat.zero_le _
/-- Solve, at whatever world behind this one. -/
abbrev GoodAt (w : World) (n : Nat) (ao : Option Addr) (cl : List (List Int)) (cap : Nat) (A : Ans) : Prop :=
  ∀ w' (budget : Int), Below w.heap.size w w' → (A.steps : Int) ≤ budget ∧ budget ≤ 1099511627776 → Calls Try.prog 13 #[.int .i64 n, .slice ao cl.length cap, .int .i64 budget] w' fun e w'' => Below w'.heap.size w' w'' ∧ ∃ a1 c1 a2 c2 a3 c3, e = .returned (.tuple #[.agg (ansV A a1 c1 a2 c2 a3 c3), .int .i64 0]) ∧ AnsAt w' w'' A (.slice a1 A.state.length c1) (.slice a2 A.bonds.length c2) (.slice a3 A.last.length c3)
abbrev LessAt (w : World) (n : Nat) (ao : Option Addr) (cl : List (List Int)) (cap : Nat) (A : Ans) : Prop :=
  ∀ w' (budget : Int), Below w.heap.size w w' → budget < A.steps ∧ 0 ≤ budget ∧ budget ≤ 1099511627776 → Calls Try.prog 13 #[.int .i64 n, .slice ao cl.length cap, .int .i64 budget] w' fun e w'' => Below w'.heap.size w' w'' ∧ e = .returned (.tuple #[.agg #[.bool false, .slice none 0 0, .int .i64 0, .slice none 0 0, .slice none 0 0], .int .i64 44])
theorem ans_state {w w' : World} {A : Ans} {a1 : Option Addr} {c1 : Nat} {fv lv : Value} (h : AnsAt w w' A (.slice a1 A.state.length c1) fv lv) : Bools w' a1 A.state := by
  obtain ⟨ao, cap, e, hb⟩ := h.state.bools
  injection e with e1 _ _
  subst e1
  exact hb

set_option maxHeartbeats 2000000 in
theorem budget_walk (vars : Int) (aoc : Option Addr) (cl : List (List Int)) (capc : Nat) (av : Nat → Option Addr) (cv : Nat → Nat) (w : World) (hc : IsRows w aoc cl av cv) :
    Calls Try.prog 7 #[.int .i64 vars, .slice aoc cl.length capc] w fun e w' => e = .returned (.bool true) ∧ Below w.heap.size w w' := by
  have HM : Hid (∀ w', Below w.heap.size w w' → Calls Try.prog 19 #[.int .i64 vars, .slice aoc cl.length capc] w' fun e w'' => e = .returned (.bool (mayE vars cl)) ∧ w' = w'') := Lib.hid fun w' hb => may_any vars cl aoc capc av cv w' (hc.below hb)
  by_cases hm : mayE vars cl = false
  · rw [hm] at HM
    clear hc hm
    go_enter Try.func7, Try.ntmps7
    go_wp2_with (first
      | (go_at_call 19; (with_reducible refine (HM.out _ hb1).mono ?_); rintro e w2 ⟨rfl, rfl⟩; have Hd := Lib.hid hb1; clear hb1)
      | (go_at_call 11; (with_reducible refine (awake_any _).mono ?_); rintro e w1 ⟨rfl, hb1⟩))
    go_ret
    exact ⟨rfl, bel_trans Hd.out hb1⟩
  · have hm' : mayE vars cl = true := by simpa using hm
    obtain ⟨n, rfl, hn, k2, k3, hk⟩ := mayE_yes hm'
    rw [hm'] at HM
    have HE := Lib.hid (fun w' => senough_any n (by omega) w')
    obtain ⟨e0, e1⟩ := enough_bounds n hn
    have hst : ((solveE n cl).steps : Int) ≤ enoughE n := by
      rcases solve_steps n hk with h | h
      · exact h
      · omega
    have HG : Hid (GoodAt w n aoc cl capc (solveE n cl)) := Lib.hid fun w' budget hb h => solve_good hn (hc.below hb) (by omega) k3 hk budget h
    have HL : Hid (LessAt w n aoc cl capc (solveE n cl)) := Lib.hid fun w' budget hb h => solve_less hn (hc.below hb) (by omega) k3 hk budget h
    have hsl := state_len n hk
    generalize enoughE n = E at *
    generalize solveE n cl = A at *
    have hd1 : decide (E < (A.steps : Int)) = false := by simp; omega
    clear hc hm hm' k3 hk
    go_enter Try.func7, Try.ntmps7
    go_upto_region 5 with (first
      | (go_at_call 11; (with_reducible refine (awake_any _).mono ?_); rintro e w1 ⟨rfl, hb1⟩)
      | (go_at_call 19; (with_reducible refine (HM.out _ hb1).mono ?_); rintro e w2 ⟨rfl, rfl⟩)
      | (go_at_call 18; (with_reducible refine (HE.out _).mono ?_); rintro e w2 ⟨rfl, rfl⟩)
      | (go_at_call 13; (with_reducible refine (HG.out _ E hb1 ⟨hst, e1⟩).mono ?_); rintro e w3 ⟨hb3, a1, c1, a2, c2, a3, c3, rfl, hA⟩))
    obtain ⟨w4, hw4⟩ : ∃ w4, w4 = w3.alloc (.cells (ansV A a1 c1 a2 c2 a3 c3) 30) := ⟨_, rfl⟩
    have hb4 : Below w3.heap.size w3 w4 := by rw [hw4]; exact (Below.refl _ _).alloc (Nat.le_refl _) _
    have kA : Blk w4 w3.heap.size 30 (ansV A a1 c1 a2 c2 a3 c3) := by rw [hw4]; exact Blk.new ..
    rw [← hw4]
    obtain ⟨g3, hg3⟩ : ∃ g3, g3 = w3.heap.size := ⟨_, rfl⟩
    rw [← hg3] at kA ⊢
    have hb14 := bel_trans (bel_trans hb1 hb3) hb4
    have hs4 := (ans_state hA).below hb4
    have KA : Hid (∀ w', Below w4.heap.size w4 w' → w'.cell? ⟨g3, 0, none⟩ = some (.bool A.yes) ∧ w'.cell? ⟨g3, 1, none⟩ = some (.slice a1 A.state.length c1) ∧ w'.cell? ⟨g3, 2, none⟩ = some (.int .i64 A.steps) ∧ w'.cell? ⟨g3, 3, none⟩ = some (.slice a2 A.bonds.length c2)) := Lib.hid fun w' hb => by
      have k := kA.below hb kA.lt
      exact ⟨k.cell 0, k.cell 1, k.cell 2, k.cell 3⟩
    have HB4 := Lib.hid hb14
    have HS4 := Lib.hid hs4
    obtain ⟨p0, p1, p2, p3⟩ := KA.out w4 (Below.refl _ _)
    clear hw4 hb4 kA hg3 hb14 hs4 hA hb1 hb3
    have hst2 : (A.steps : Int) ≤ A.steps ∧ (A.steps : Int) ≤ 1099511627776 := ⟨Int.le_refl _, by omega⟩
    have HG2 := Lib.hid (HG.out w4 A.steps HB4.out hst2)
    clear hst2
    go_upto_region 8 with (go_at_call 13; (with_reducible refine HG2.out.mono ?_); rintro e w5 ⟨hb5, d1, f1, d2, f2, d3, f3, rfl, hA⟩)
    obtain ⟨w6, hw6⟩ : ∃ w6, w6 = w5.alloc (.cells (ansV A d1 f1 d2 f2 d3 f3) 30) := ⟨_, rfl⟩
    have hb6 : Below w5.heap.size w5 w6 := by rw [hw6]; exact (Below.refl _ _).alloc (Nat.le_refl _) _
    have kB : Blk w6 w5.heap.size 30 (ansV A d1 f1 d2 f2 d3 f3) := by rw [hw6]; exact Blk.new ..
    rw [← hw6]
    obtain ⟨g5, hg5⟩ : ∃ g5, g5 = w5.heap.size := ⟨_, rfl⟩
    rw [← hg5] at kB ⊢
    have hb46 := bel_trans hb5 hb6
    have KC : Hid (∀ w', Below w6.heap.size w6 w' → (w'.cell? ⟨g3, 0, none⟩ = some (.bool A.yes) ∧ w'.cell? ⟨g3, 1, none⟩ = some (.slice a1 A.state.length c1) ∧ w'.cell? ⟨g3, 2, none⟩ = some (.int .i64 A.steps) ∧ w'.cell? ⟨g3, 3, none⟩ = some (.slice a2 A.bonds.length c2)) ∧
        w'.cell? ⟨g5, 0, none⟩ = some (.bool A.yes) ∧ w'.cell? ⟨g5, 1, none⟩ = some (.slice d1 A.state.length f1) ∧ w'.cell? ⟨g5, 2, none⟩ = some (.int .i64 A.steps) ∧ w'.cell? ⟨g5, 3, none⟩ = some (.slice d2 A.bonds.length f2)) := Lib.hid fun w' hb => by
      have k := kB.below hb kB.lt
      exact ⟨KA.out w' (bel_new hb46 hb46.size hb), k.cell 0, k.cell 1, k.cell 2, k.cell 3⟩
    have HSa := Lib.hid (HS4.out.below hb46)
    have HSb := Lib.hid ((ans_state hA).below hb6)
    have HB6 := Lib.hid (bel_trans HB4.out hb46)
    obtain ⟨⟨p0, p1, p2, p3⟩, q0, q1, q2, q3⟩ := KC.out w6 (Below.refl _ _)
    have hy : (A.yes != A.yes) = false := by cases A.yes <;> rfl
    clear hw6 hb6 kB hg5 hb46 hA hb5 HS4 HB4
    go_wp2_with fail
    go_loopw [10] (fun i wr => ∃ k : Nat, k ≤ A.state.length ∧ i = .int .i64 k ∧ Hid (Below w6.heap.size w6 wr)) (fun i _ => A.state.length - (intOf i).toNat)
    case atStart => exact ⟨0, by omega, rfl, Lib.hid (Below.refl _ _)⟩
    case round =>
      obtain ⟨k, hk, rfl, HBr⟩ := hrel
      obtain ⟨⟨p0, p1, p2, p3⟩, q0, q1, q2, q3⟩ := KC.out wr HBr.out
      by_cases hlt : k < A.state.length
      · have hki : (k : Int) < (A.state.length : Int) := by omega
        obtain ⟨b1, o1, rfl, _, hc1⟩ := HSa.out.below HBr.out (by omega)
        obtain ⟨b2, o2, rfl, _, hc2⟩ := HSb.out.below HBr.out (by omega)
        have hck1 := hc1 k hlt
        have hck2 := hc2 k hlt
        generalize A.state[k] = b at *
        have hbb : (b != b) = false := by cases b <;> rfl
        have HBr2 : Hid (∀ m, Below w6.heap.size w6 (wr.drewN m)) := Lib.hid fun m => bel_drewN HBr.out m
        clear hc1 hc2
        go_upto_region 13 with fail
        go_quiet (fail)
        go_wp2_with fail
        go_roundw
        case rel => exact ⟨k + 1, by omega, by go_num, Lib.hid (HBr2.out _)⟩
        case measure => simp [intOf]; omega
      · obtain rfl : k = A.state.length := by omega
        by_cases hs0 : A.steps = 0
        · have hsd : ((A.steps : Int) == 0) = true := by simp [hs0]
          have HB' := Lib.hid (bel_new HB6.out HB6.out.size HBr.out)
          go_wp2_with fail
          go_ret
          exact ⟨rfl, HB'.out⟩
        · have hsd : ((A.steps : Int) == 0) = false := by simp [hs0]
          have hw1 : IntKind.i64.wrap ((A.steps : Int) - 1) = (A.steps : Int) - 1 := by rw [IntKind.wrap_i64]; omega
          have hb' := bel_new HB6.out HB6.out.size HBr.out
          have hl2 : (A.steps : Int) - 1 < A.steps ∧ 0 ≤ (A.steps : Int) - 1 ∧ (A.steps : Int) - 1 ≤ 1099511627776 := by omega
          have HL2 := Lib.hid (HL.out wr ((A.steps : Int) - 1) hb' hl2)
          have HB' := Lib.hid hb'
          clear hl2 hb'
          go_wp2_with (go_at_call 13; (with_reducible refine HL2.out.mono ?_); rintro e w7 ⟨hb7, rfl⟩)
          go_ret
          exact ⟨rfl, (bel_trans HB'.out hb7).alloc (bel_trans HB'.out hb7).size _⟩

end Go.Proofs.Ytoainmkebdpikaa
