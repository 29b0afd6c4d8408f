/- The walk of MusTells. Conditions: as each theorem names them. -/
import Derived.Test.YthinopiobihmaaaGz
namespace Go.Proofs.Ythinopiobihmaaa
open Go.ChangeShapes Go.WideShapes Go.ChangeAt Go.RowKit Go.Maps Go.Deep
set_option maxRecDepth 100000

/-- A number written into a row of one's own. -/
theorem own_put {w : World} {a : Option Addr} {m c : Nat} {L : List Int} (h : Own w 3 1 (.slice a m c) m (inC L)) (hl : L.length = m) {j : Nat} (hj : j < m) :
    ∃ g off, a = some ⟨g, off, none⟩ ∧ (∃ x, w.cell? ⟨g, off + j, none⟩ = some (.int .i64 x)) ∧ w.frozen? ⟨g, off + j, none⟩ = false ∧ ∀ y : Int, Own (w.setCell ⟨g, off + j, none⟩ (.int .i64 y)) 3 1 (.slice a m c) m (inC (L.set j y)) := by
  obtain ⟨ao, cap, e, _, _, hf⟩ := h.form
  injection e with e1 e2 e3
  subst e1
  obtain ⟨g, off, rfl, hc, hz, _⟩ := hf (by omega)
  refine ⟨g, off, rfl, ⟨L[j], ?_⟩, hz _, fun y => ?_⟩
  · rw [hc j (by simp [inC]; omega)]
    simp [inC, show j < L.length by omega]
  · have := Own.stored h j (.int .i64 y)
    rw [show inC (L.set j y) = (inC L).set j (.int .i64 y) by simp [inC]]
    exact this

/-- How what Least tells stands to what the document tells. -/
theorem tells_least {n : Nat} {base : List (List Int)} {items : List (List (List Int))} (hf : Fine n base items) (budget : Int) :
    (leastE n base items budget = ⟨[], 0, 44⟩ ∧ budget < enoughM items.length n) ∨
    ((leastE n base items budget).l = (rleastE n base items).l ∧ (leastE n base items budget).e = (rleastE n base items).e ∧ 0 ≤ (leastE n base items budget).steps ∧ (leastE n base items budget).steps ≤ budget) := by
  have hu := (used_enough hf.known hf.ok.n12 (by have := hf.il; omega)).1
  have h0 := ls_le (n := n) (base := base) (items := items) (Nat.zero_le items.length)
  have h2 : (lsRun n base items 0).used = (solveE n (allE base items (everyS items))).steps := rfl
  by_cases h1 : budget < (solveE n (allE base items (everyS items))).steps
  · left
    refine ⟨?_, by omega⟩
    unfold leastE
    rw [if_pos h1]
  · cases hy : (solveE n (allE base items (everyS items))).yes with
    | true =>
      right
      unfold leastE rleastE
      rw [if_neg h1, hy]
      exact ⟨rfl, rfl, Int.natCast_nonneg _, by show ((solveE n (allE base items (everyS items))).steps : Int) ≤ budget; omega⟩
    | false =>
      by_cases h3 : budget < (lsRun n base items items.length).used
      · left
        refine ⟨?_, by omega⟩
        unfold leastE
        rw [if_neg h1, hy, if_neg (by decide), if_pos h3]
      · right
        obtain ⟨a1, a2, a3, a4⟩ := (least_full hf.known (B := budget) (by omega)).2 hy
        have hr : rleastE n base items = ⟨natsE (kept n base items), 0⟩ := by
          unfold rleastE
          rw [hy]
          rfl
        rw [hr]
        exact ⟨a1, a2, a4, a3⟩
theorem rleast_e (n : Nat) (base : List (List Int)) (items : List (List (List Int))) : ((rleastE n base items).e = 0 ∨ (rleastE n base items).e = 5) ∧ (rleastE n base items).l.length ≤ items.length := by
  unfold rleastE
  split
  · exact ⟨.inr rfl, Nat.zero_le _⟩
  · refine ⟨.inl rfl, ?_⟩
    rw [natsE_len]
    exact keepR_len _
theorem bad_post {w : World} {e : Ending} {w' : World} {s r : Int} (h : LeastPost w ⟨[], s, r⟩ e w') : Below w.heap.size w w' ∧ ∃ a c, e = .returned (.tuple #[.slice a 0 c, .int .i64 s, .int .i64 r]) := by
  obtain ⟨h1, a, c, h2, _⟩ := h
  exact ⟨h1, a, c, h2⟩
theorem rleast_ints {w : World} {o : ROut} {e : Ending} {w' : World} (h : RLeastPost w o e w') : Below w.heap.size w w' ∧ ∃ a c, e = .returned (.tuple #[.slice a o.l.length c, .int .i64 o.e]) ∧ Ints w' a o.l := by
  obtain ⟨h1, a, c, h2, h3, _⟩ := h
  exact ⟨h1, a, c, h2, least_ints h3⟩

/-- What a call of Least can tell MusTells. -/
def TellsCase (w : World) (vars budget : Int) (ab ai : Option Addr) (nb cb ni ci : Nat) (o : ROut) : Prop :=
  (((o.e == 1) = true ∨ ((o.e == 1) = false ∧ decide (budget < 0) = true) ∨ ((o.e == 1) = false ∧ decide (budget < 0) = false ∧ decide (1099511627776 < budget) = true)) ∧
    ∀ w', Below w.heap.size w w' → Calls Try.prog 12 #[.int .i64 vars, .slice ab nb cb, .slice ai ni ci, .int .i64 budget] w' fun e w'' => Below w'.heap.size w' w'' ∧ ∃ a c, e = .returned (.tuple #[.slice a 0 c, .int .i64 0, .int .i64 1])) ∨
  ((o.e == 1) = false ∧ decide (budget < 0) = false ∧ decide (1099511627776 < budget) = false ∧
    ((∃ E : Int, budget < E ∧ (∀ w', Calls Try.prog 13 #[.int .i64 ni, .int .i64 vars] w' fun e w'' => e = .returned (.int .i64 E) ∧ w' = w'') ∧
        ∀ w', Below w.heap.size w w' → Calls Try.prog 12 #[.int .i64 vars, .slice ab nb cb, .slice ai ni ci, .int .i64 budget] w' fun e w'' => Below w'.heap.size w' w'' ∧ ∃ a c, e = .returned (.tuple #[.slice a 0 c, .int .i64 0, .int .i64 44])) ∨
      ((o.e == 44) = false ∧ ∀ w', Below w.heap.size w w' → Calls Try.prog 12 #[.int .i64 vars, .slice ab nb cb, .slice ai ni ci, .int .i64 budget] w' fun e w'' => Below w'.heap.size w' w'' ∧ ∃ a c s, 0 ≤ s ∧ s ≤ budget ∧ e = .returned (.tuple #[.slice a o.l.length c, .int .i64 s, .int .i64 o.e]) ∧ Own w'' 3 1 (.slice a o.l.length c) o.l.length (inC o.l) ∧ ∀ k, (Value.slice a o.l.length c).ownBlock = some k → w'.heap.size ≤ k)))

set_option maxHeartbeats 4000000 in
theorem mtells_walk (vars budget : Int) (base : List (List Int)) (items : List (List (List Int))) (ab ai : Option Addr) (cb ci : Nat) (av : Nat → Option Addr) (cv : Nat → Nat) (aI : Nat → Option Addr) (cI : Nat → Nat) (avI : Nat → Nat → Option Addr) (cvI : Nat → Nat → Nat) (w : World)
    (hR : IsRows w ab base av cv) (hI : IsItems w ai items aI cI avI cvI) (hB6 : ∀ c ∈ base, ∀ x ∈ c, I64 x) (hI6 : ∀ it ∈ items, ∀ c ∈ it, ∀ x ∈ c, I64 x) :
    Calls Try.prog 3 #[.int .i64 vars, .slice ab base.length cb, .slice ai items.length ci, .int .i64 budget] w fun e w' => e = .returned (.bool true) ∧ Below w.heap.size w w' := by
  have HLg := Lib.hid (long_any vars base items ab ai cb ci av cv aI cI avI cvI w hR hI)
  cases hl : longM vars base items with
  | true =>
    rw [hl] at HLg
    clear hR hI hB6 hI6 hl
    go_enter Try.func3, Try.ntmps3
    go_wp2_with (first
      | (go_at_call 9; (with_reducible refine HLg.out.mono ?_); rintro e w1 ⟨rfl, rfl⟩)
      | (go_at_call 10; (with_reducible refine (awake_any _).mono ?_); rintro e w1 ⟨rfl, hb1⟩)
      | fail)
    go_ret
    exact ⟨rfl, hb1⟩
  | false =>
    obtain ⟨b1, b2, b3, b4, b5⟩ := longM_no hl
    rw [hl] at HLg
    have hok : ItOk 0 base items := it_ok (M := 20) (by omega) (by omega) (by omega) (fun c hc => Nat.le_trans (b4 c hc) (by decide)) fun it hit => ⟨(b5 it hit).1, fun c hc => Nat.le_trans ((b5 it hit).2 c hc) (by decide)⟩
    have h6 : ∀ c ∈ allE base items (everyS items), ∀ x ∈ c, I64 x := fun c hc => by
      rcases mem_all.1 hc with h1 | ⟨i, h1, _, h2⟩
      · exact hB6 c h1
      · rw [List.getD_eq_getElem?_getD, List.getElem?_eq_getElem h1] at h2
        exact hI6 _ (List.getElem_mem h1) c h2
    have hfine : (∃ n : Nat, vars = n ∧ Fine n base items) ∨ (checkE vars (allE base items (everyS items)) 0 = 1 ∧ (vars < 0 ∨ (allE base items (everyS items)).all (knownS vars.toNat) = false)) := by
      by_cases h0 : vars < 0
      · exact .inr ⟨by unfold checkE; rw [if_pos (.inl h0)], .inl h0⟩
      · obtain ⟨n, rfl⟩ := Int.eq_ofNat_of_zero_le (show 0 ≤ vars by omega)
        cases hk : (allE base items (everyS items)).all (knownS n) with
        | true =>
          left
          refine ⟨n, rfl, by omega, b2, b3, b4, b5, known_mem.2 ⟨List.all_eq_true.2 fun c hc => List.all_eq_true.1 hk c (mem_all.2 (.inl hc)), fun it hit => List.all_eq_true.2 fun c hc => ?_⟩⟩
          obtain ⟨i, hi, rfl⟩ := List.getElem_of_mem hit
          refine List.all_eq_true.1 hk c (mem_all.2 (.inr ⟨i, hi, by simp [everyS, hi], ?_⟩))
          rw [List.getD_eq_getElem?_getD, List.getElem?_eq_getElem hi]
          exact hc
        | false => exact .inr ⟨by rw [checkE_known n _ _ (by omega) (by omega), if_neg (by rw [hk]; decide)], .inr (by simpa using hk)⟩
    have hbad : ((checkE vars (allE base items (everyS items)) 0 = 1 ∧ (vars < 0 ∨ (allE base items (everyS items)).all (knownS vars.toNat) = false)) ∨ budget < 0 ∨ 1099511627776 < budget) → ∀ w', Below w.heap.size w w' → Calls Try.prog 12 #[.int .i64 vars, .slice ab base.length cb, .slice ai items.length ci, .int .i64 budget] w' fun e w'' => Below w'.heap.size w' w'' ∧ ∃ a c, e = .returned (.tuple #[.slice a 0 c, .int .i64 0, .int .i64 1]) := fun h w' hb =>
      (least_bad vars budget (by omega) hok (hR.below hb) (hI.below hb) h6 (by
        rcases h with ⟨_, h | h⟩ | h | h
        · exact .inl h
        · exact .inr (.inr (.inr h))
        · exact .inr (.inl h)
        · exact .inr (.inr (.inl h)))).mono fun e w'' h => bad_post h
    -- what the document tells
    obtain ⟨o, ho⟩ : ∃ o : ROut, (checkE vars (allE base items (everyS items)) 0 = 1 ∧ o = ⟨[], 1⟩) ∨ (∃ n : Nat, vars = n ∧ n ≤ 12 ∧ KnownAll n base items ∧ o = rleastE n base items) := by
      rcases hfine with ⟨n, rfl, hf⟩ | ⟨h1, _⟩
      · exact ⟨_, .inr ⟨n, rfl, hf.ok.n12, hf.known, rfl⟩⟩
      · exact ⟨_, .inl ⟨h1, rfl⟩⟩
    have HRl := Lib.hid ((rleast_any vars o base items ab ai cb ci av cv aI cI avI cvI w hR hI hok ho).mono fun e w' h => rleast_ints h)
    have hcases : TellsCase w vars budget ab ai base.length cb items.length ci o := by
      by_cases hP : (checkE vars (allE base items (everyS items)) 0 = 1 ∧ (vars < 0 ∨ (allE base items (everyS items)).all (knownS vars.toNat) = false)) ∨ budget < 0 ∨ 1099511627776 < budget
      · refine .inl ⟨?_, hbad hP⟩
        by_cases hr : o.e = 1
        · exact .inl (by simp [hr])
        · have hr2 : (o.e == 1) = false := by simpa using hr
          by_cases hb : budget < 0
          · exact .inr (.inl ⟨hr2, by simpa using hb⟩)
          · refine .inr (.inr ⟨hr2, by simpa using hb, ?_⟩)
            rcases hP with ⟨h1, _⟩ | h1 | h1
            · rcases ho with ⟨_, rfl⟩ | ⟨n, rfl, hn, hkn, _⟩
              · exact absurd rfl hr
              · rw [checkE_known n _ _ (by omega) (by omega), if_pos (all_known hkn)] at h1
                cases h1
            · exact absurd h1 hb
            · simpa using h1
      · have hb0 : 0 ≤ budget ∧ budget ≤ 1099511627776 := by
          constructor
          · exact Int.not_lt.1 fun h => hP (.inr (.inl h))
          · exact Int.not_lt.1 fun h => hP (.inr (.inr h))
        rcases hfine with ⟨n, rfl, hf⟩ | h
        · have ho2 : o = rleastE n base items := by
            rcases ho with ⟨h1, _⟩ | ⟨m, hm, _, _, h⟩
            · rw [checkE_known n _ _ (by have := hf.n9; omega) (by omega), if_pos (all_known hf.known)] at h1
              cases h1
            · obtain rfl : n = m := by omega
              exact h
          obtain ⟨h05, _⟩ := rleast_e n base items
          rw [← ho2] at h05
          have h1 : (o.e == 1) = false ∧ (o.e == 44) = false := by rcases h05 with h | h <;> rw [h] <;> decide
          refine .inr ⟨h1.1, by simp; omega, by simp; omega, ?_⟩
          have hle := fun w' (hb : Below w.heap.size w w') => least_good (cb := cb) (ci := ci) hf.ok hf.known (hR.below hb) (hI.below hb) budget hb0
          rcases tells_least hf budget with ⟨h2, h3⟩ | ⟨h2, h3, h4, h5⟩
          · refine .inl ⟨enoughM items.length n, h3, fun w' => ?_, fun w' hb => ?_⟩
            · have h := rmenough_any items.length n (by have := hf.il; omega) (by have := hf.n9; omega) w'
              rwa [Int.toNat_natCast, Int.toNat_natCast] at h
            · have h := hle w' hb
              rw [h2] at h
              exact h.mono fun e w'' h => bad_post h
          · refine .inr ⟨h1.2, fun w' hb => (hle w' hb).mono fun e w'' h => ?_⟩
            obtain ⟨g1, a, c, g2, g3, g4⟩ := h
            rw [h2, ← ho2] at g2 g3 g4
            rw [h3, ← ho2] at g2
            exact ⟨g1, a, c, _, h4, h5, g2, g3, g4⟩
        · exact absurd (.inl h) hP
    have hol : o.l.length ≤ 24 := by
      rcases ho with ⟨_, rfl⟩ | ⟨n, _, _, _, rfl⟩
      · exact Nat.zero_le _
      · exact Nat.le_trans (rleast_e n base items).2 b3
    unfold TellsCase at hcases
    obtain ⟨Lw, r⟩ := o
    simp only at hcases hol HRl
    obtain ⟨m, hm⟩ : ∃ m, m = Lw.length := ⟨_, rfl⟩
    rw [← hm] at hcases hol HRl
    have HM := Lib.hid hm
    have HCase := Lib.hid hcases
    clear hcases hm hR hI hB6 hI6 hl b1 b2 b3 b4 b5 hok h6 hfine hbad ho
    go_enter Try.func3, Try.ntmps3
    go_wp2_with (first
      | (go_at_call 9; (with_reducible refine HLg.out.mono ?_); rintro e w1 ⟨rfl, rfl⟩)
      | (go_at_call 11; (with_reducible refine HRl.out.mono ?_); rintro e w1 ⟨hb1, aw, cw, rfl, hiw⟩)
      | fail)
    have HB1 := Lib.hid hb1
    have HIw := Lib.hid hiw
    clear hb1 hiw HRl HLg
    go_loopw [11] (fun i wr => ∃ k : Nat, k ≤ 2 ∧ i = .int .i64 k ∧ Hid (Below w1.heap.size w1 wr)) (fun i _ => 2 - (intOf i).toNat)
    case atStart => exact ⟨0, by omega, rfl, Lib.hid (Below.refl _ _)⟩
    case round =>
      obtain ⟨k, hk, rfl, HBk⟩ := hrel
      obtain ⟨w2, rfl⟩ : ∃ w2, w2 = wr := ⟨_, rfl⟩
      by_cases hkt : k < 2
      · have hki : (k : Int) < 2 := by omega
        have hbw := bel_trans HB1.out HBk.out
        rcases HCase.out with ⟨hcond, hle⟩ | ⟨h1, h2, h3, ⟨E, hE, hen, hle⟩ | ⟨h4, hle⟩⟩
        · have HLe := Lib.hid (hle w2 hbw)
          clear hle hbw
          rcases hcond with h1 | ⟨h1, h2⟩ | ⟨h1, h2, h3⟩
          all_goals
            go_wp2_with (first
              | (go_at_call 12; (with_reducible refine HLe.out.mono ?_); rintro e w3 ⟨hb3, a3, c3, rfl⟩)
              | fail)
            go_roundw
            case rel => exact ⟨k + 1, by omega, by go_num, Lib.hid (bel_new HBk.out HBk.out.size hb3)⟩
            case measure => simp [intOf]; omega
        · have HLe := Lib.hid (hle w2 hbw)
          have HEn := Lib.hid hen
          have hEd : decide (budget < E) = true := by simpa using hE
          clear hle hbw hen hE
          go_wp2_with (first
            | (go_at_call 12; (with_reducible refine HLe.out.mono ?_); rintro e w3 ⟨hb3, a3, c3, rfl⟩)
            | (go_at_call 13; (with_reducible refine (HEn.out _).mono ?_); rintro e w4 ⟨rfl, rfl⟩)
            | fail)
          go_roundw
          case rel => exact ⟨k + 1, by omega, by go_num, Lib.hid (bel_new HBk.out HBk.out.size hb3)⟩
          case measure => simp [intOf]; omega
        · have HLe := Lib.hid (hle w2 hbw)
          have hrr : (r != r) = false := by simp
          clear hle hbw
          go_upto_region 8 with (first
            | (go_at_call 12; (with_reducible refine HLe.out.mono ?_); rintro e w3 ⟨hb3, a3, c3, s3, hs0, hs1, rfl, ho3, hn3⟩)
            | fail)
          have hd0 : decide (s3 < 0) = false := by simp; omega
          have hd1 : decide (budget < s3) = false := by simp; omega
          have hnu := numbers_any Lw Lw a3 aw c3 cw w3 (least_ints (by rw [← HM.out]; exact ho3)) (HIw.out.below (bel_trans HBk.out hb3)) (by rw [← HM.out]; omega)
          rw [decide_eq_true (rfl : Lw = Lw), ← HM.out] at hnu
          have HNu := Lib.hid hnu
          have HO3 := Lib.hid ho3
          have HN3 := Lib.hid hn3
          have HB3 := Lib.hid hb3
          clear hnu ho3 hn3 hb3
          go_wp2_with (first
            | (go_at_call 14; (with_reducible refine HNu.out.mono ?_); rintro e w4 ⟨rfl, hb4⟩; have HB4 := Lib.hid hb4; clear hb4)
            | fail)
          have HB24 := Lib.hid (bel_trans HB3.out HB4.out)
          have HO4 := Lib.hid (HO3.out.new HB4.out)
          go_loopw [15] (fun i wr => ∃ (j : Nat) (L : List Int), j ≤ m ∧ i = .int .i64 j ∧ Hid (L.length = m ∧ Own wr 3 1 (.slice a3 m c3) m (inC L)) ∧ Hid (Below w2.heap.size w2 wr)) (fun i _ => m - (intOf i).toNat)
          case atStart => exact ⟨0, Lw, by omega, rfl, Lib.hid ⟨HM.out.symm, HO4.out⟩, HB24⟩
          case round =>
            obtain ⟨j, L, hj, rfl, HOj, HBj⟩ := hrel
            by_cases hjt : j < m
            · have hji : (j : Int) < (m : Int) := by omega
              obtain ⟨g, off, rfl, ⟨x, hcx⟩, hfx, hput⟩ := own_put HOj.out.2 HOj.out.1 hjt
              have HPut := Lib.hid (hput (-7))
              have HGn := Lib.hid (show w2.heap.size ≤ g from HN3.out g rfl)
              clear hput
              go_wp2_with fail
              go_roundw
              case rel => exact ⟨j + 1, _, by omega, by go_num, Lib.hid ⟨by rw [List.length_set]; exact HOj.out.1, HPut.out⟩, Lib.hid (bel_setCell HBj.out HGn.out _)⟩
              case measure => simp [intOf]; omega
            · obtain rfl : j = m := by omega
              go_wp2_with fail
              go_roundw
              case rel => exact ⟨k + 1, by omega, by go_num, Lib.hid (bel_new HBk.out HBk.out.size HBj.out)⟩
              case measure => simp [intOf]; omega
      · obtain rfl : k = 2 := by omega
        go_wp2_with (first
          | (go_at_call 10; (with_reducible refine (awake_any _).mono ?_); rintro e w5 ⟨rfl, hb5⟩)
          | fail)
        go_ret
        exact ⟨rfl, bel_trans (bel_trans HB1.out HBk.out) hb5⟩

end Go.Proofs.Ythinopiobihmaaa
