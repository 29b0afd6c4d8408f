/- SatBonds: plain: what is marked, what is kept. -/
import Derived.Test.YtoainmkebdpikaaGt
namespace Go.Proofs.Ytoainmkebdpikaa
open Go.ChangeShapes Go.WideShapes Go.ChangeAt Go.RowKit Go.Maps Go.Deep
set_option maxRecDepth 100000

theorem mark_get (R : List Bool) (b j : Nat) : (R.set b true).getD j false = (R.getD j false || decide (j = b ∧ b < R.length)) := by
  by_cases h : j = b
  · subst h
    by_cases hl : j < R.length
    · simp [List.getD_eq_getElem?_getD, hl]
    · simp [List.getD_eq_getElem?_getD, hl]
  · simp [List.getD_eq_getElem?_getD, Ne.symm h, h]
theorem mark_mono {R : List Bool} {b j : Nat} (h : R.getD j false = true) : (R.set b true).getD j false = true := by rw [mark_get, h]; rfl
theorem mark_self {R : List Bool} {b : Nat} (h : b < R.length) : (R.set b true).getD b false = true := by rw [mark_get]; simp [h]

structure Marks (n0 : Nat) (last : List Int) (bonds : List (List Int)) (q : Nat) (R : List Bool) : Prop where
  len : R.length = n0 + bonds.length
  last : ∀ b ∈ last, R.getD b.toNat false = true
  bonds : ∀ k, q ≤ k → k < bonds.length → R.getD (n0 + k) false = true → ∀ b ∈ bonds.getD k [], R.getD b.toNat false = true
section
variable {n0 q : Nat} {last : List Int} {bonds : List (List Int)} {R : List Bool}
theorem Marks.start (h1 : R.length = n0 + bonds.length) (h2 : ∀ b ∈ last, R.getD b.toNat false = true) : Marks n0 last bonds bonds.length R := ⟨h1, h2, fun k h3 h4 => absurd h4 (by omega)⟩
theorem Marks.mark (h : Marks n0 last bonds q R) {b : Nat} (hb : b < n0 + q) : Marks n0 last bonds q (R.set b true) := by
  refine ⟨by simpa using h.len, fun c hc => mark_mono (h.last c hc), fun k h1 h2 h3 c hc => mark_mono (h.bonds k h1 h2 ?_ c hc)⟩
  rw [mark_get] at h3
  have : decide (n0 + k = b ∧ b < R.length) = false := by simp; omega
  rwa [this, Bool.or_false] at h3
theorem Marks.step (h : Marks n0 last bonds (q + 1) R) (hk : R.getD (n0 + q) false = true → ∀ b ∈ bonds.getD q [], R.getD b.toNat false = true) : Marks n0 last bonds q R := by
  refine ⟨h.len, h.last, fun k h1 h2 h3 => ?_⟩
  by_cases hkq : k = q
  · subst hkq
    exact hk h3
  · exact h.bonds k (by omega) h2 h3
end

def keepE (R : List Bool) (cl : List (List Int)) (i : Nat) : List (List Int) := ((List.range i).filter fun j => R.getD j false).map fun j => cl.getD j []
theorem keep_succ (R : List Bool) (cl : List (List Int)) (i : Nat) : keepE R cl (i + 1) = keepE R cl i ++ if R.getD i false = true then [cl.getD i []] else [] := by
  unfold keepE
  rw [List.range_succ, List.filter_append, List.map_append]
  congr 1
  by_cases h : R.getD i false = true
  · rw [if_pos h]
    simp only [List.filter_cons, h, if_true, List.filter_nil, List.map_cons, List.map_nil]
  · rw [if_neg h]
    simp only [List.filter_cons, h, List.filter_nil]
    simp
theorem keep_mem {R : List Bool} {cl : List (List Int)} {i : Nat} (hi : i ≤ cl.length) : ∀ c ∈ keepE R cl i, c ∈ cl := fun c hc => by
  unfold keepE at hc
  obtain ⟨j, hj, rfl⟩ := List.mem_map.1 hc
  have := List.mem_range.1 (List.mem_filter.1 hj).1
  exact getD_mem (by omega)
theorem mem_keep {R : List Bool} {cl : List (List Int)} {j : Nat} (hj : j < cl.length) (h : R.getD j false = true) : cl.getD j [] ∈ keepE R cl cl.length :=
  List.mem_map.2 ⟨j, List.mem_filter.2 ⟨List.mem_range.2 hj, h⟩, rfl⟩
theorem keep_len (R : List Bool) (cl : List (List Int)) (i : Nat) : (keepE R cl i).length ≤ i := by
  unfold keepE
  rw [List.length_map]
  have := List.length_filter_le (fun j => R.getD j false) (List.range i)
  rwa [List.length_range] at this

theorem bonds_end {n : Nat} {cl : List (List Int)} {R : List Bool} (hk : cl.all (knownS n) = true) (hy : (solveE n cl).yes = false) (h : Marks cl.length (solveE n cl).last (solveE n cl).bonds 0 R) :
    (solveE n (keepE R cl cl.length)).yes = false ∧ 0 < (keepE R cl cl.length).length := by
  have hok := (solve_ok n cl (List.all_eq_true.1 hk)).2
  obtain ⟨_, _, hr⟩ := hok.no hy
  obtain ⟨clx, hb, hno⟩ := hok.bonds
  have hks : (keepE R cl cl.length).all (knownS n) = true := known_sub (keep_mem (Nat.le_refl _)) hk
  have h1 : (solveE n (keepE R cl cl.length)).yes = false := by
    cases h2 : (solveE n (keepE R cl cl.length)).yes with
    | false => rfl
    | true =>
      exfalso
      obtain ⟨A, hA⟩ := (sat_state hks).2 ((solve_yes hks).1 h2)
      refine hno hy A fun b hb' => ?_
      have h3 := hr b hb'
      have hl := hb.len
      exact no_unsat hb (fun j => R.getD j false = true) (fun j hj hp => hA _ (mem_keep hj hp)) (fun k hkl hp c hc => h.bonds k (Nat.zero_le _) hkl hp c hc) b.toNat (by omega) (h.last b hb')
  refine ⟨h1, ?_⟩
  cases hl : keepE R cl cl.length with
  | cons c l => simp
  | nil =>
    exfalso
    rw [hl] at h1
    have := (solve_yes (n := n) (cl := []) rfl).2 ⟨List.replicate n false, by simp, rfl⟩
    rw [h1] at this
    cases this

/-- The bonds' own facts. -/
theorem bonds_facts {n : Nat} {cl : List (List Int)} (hk : cl.all (knownS n) = true) : (∀ k, k < (solveE n cl).bonds.length → (solveE n cl).bonds.getD k [] ≠ [] ∧ ∀ b ∈ (solveE n cl).bonds.getD k [], 0 ≤ b ∧ b < (cl.length : Int) + k) ∧
    ((solveE n cl).yes = true → (solveE n cl).last.length = 0) ∧ ((solveE n cl).yes = false → ∀ b ∈ (solveE n cl).last, 0 ≤ b ∧ b < (cl.length : Int) + (solveE n cl).bonds.length) := by
  have hok := (solve_ok n cl (List.all_eq_true.1 hk)).2
  obtain ⟨clx, hb, _⟩ := hok.bonds
  exact ⟨fun k h => ⟨hb.ne k h, hb.range k h⟩, fun hy => by rw [(hok.yes hy).2.2.1]; rfl, fun hy => (hok.no hy).2.2⟩

end Go.Proofs.Ytoainmkebdpikaa

namespace Go.Proofs.Ytoainmkebdpikaa
open Go.ChangeShapes Go.WideShapes Go.ChangeAt Go.RowKit Go.Maps Go.Deep
set_option maxRecDepth 100000

theorem next_bonds (q : Q) : (∀ a, nextQ q = .done a → a.bonds.length ≤ q.bonds.length) ∧ ∀ q', nextQ q = .go q' → q'.bonds.length ≤ q.bonds.length + 1 := by
  unfold nextQ
  by_cases h1 : 0 ≤ (propS q.S).2
  · rw [if_pos h1]
    by_cases h2 : (confQ q).2.1 < 0
    · rw [if_pos h2]
      exact ⟨fun a e => (by injection e with e; rw [← e]; exact Nat.le_refl _), fun q' e => (by cases e)⟩
    · rw [if_neg h2]
      exact ⟨fun a e => (by cases e), fun q' e => (by injection e with e; rw [← e]; simp)⟩
  · rw [if_neg h1]
    by_cases h2 : varQ q < (propS q.S).1.n
    · rw [if_pos h2]
      exact ⟨fun a e => (by cases e), fun q' e => (by injection e with e; rw [← e]; exact Nat.le_succ _)⟩
    · rw [if_neg h2]
      exact ⟨fun a e => (by injection e with e; rw [← e]; exact Nat.le_refl _), fun q' e => (by cases e)⟩
theorem run_bonds : ∀ (k : Nat) (q : Q) (a : Ans), runQ k q = some a → a.bonds.length ≤ q.bonds.length + k
  | 0, _, _, h => by cases h
  | k + 1, q, a, h => by
    obtain ⟨h1, h2⟩ := next_bonds q
    unfold runQ at h
    cases hn : nextQ q with
    | done a' =>
      rw [hn] at h
      injection h with h
      have := h1 a' hn
      rw [h] at this
      omega
    | go q' =>
      rw [hn] at h
      have := h2 q' hn
      have := run_bonds k q' a h
      omega
theorem bonds_len {n : Nat} {cl : List (List Int)} (hn : n ≤ 12) (hk : cl.all (knownS n) = true) : (solveE n cl).bonds.length ≤ 53249 := by
  have h1 := run_bonds _ _ _ (solve_ok n cl (List.all_eq_true.1 hk)).1
  have h2 : (2 : Nat) ^ n * (n + 1) ≤ 2 ^ 12 * 13 := Nat.mul_le_mul (Nat.pow_le_pow_right (by decide) hn) (by omega)
  have h3 : (startQ n cl).bonds.length = 0 := rfl
  omega

theorem own_small {w : World} {e : TypeId} {n : Nat} {v : Value} {xs : List Value} (h : Own w e 1 v n xs) : n ≤ 9223372036854775807 := by
  obtain ⟨_, cap, _, h1, h2, _⟩ := h.form
  unfold maxLen at h2
  omega
theorem ans_rows {w w' : World} {A : Ans} {sv : Value} {a2 a3 : Option Addr} {c2 c3 : Nat} (h : AnsAt w w' A sv (.slice a2 A.bonds.length c2) (.slice a3 A.last.length c3)) : (∃ avB cvB, IsRows w' a2 A.bonds avB cvB) ∧ Ints w' a3 A.last ∧ (∀ j (h : j < A.bonds.length), A.bonds[j].length ≤ 9223372036854775807) ∧ A.last.length ≤ 9223372036854775807 := by
  obtain ⟨vals, hO, _, hr⟩ := h.bonds
  have hl : vals.length = A.bonds.length := by have := hO.1; omega
  refine ⟨?_, ?_, fun j hj => ?_, own_small h.last⟩
  · refine rows_at hO hl.symm (RowsN.rowsV ⟨hl, fun j hj => ?_⟩)
    obtain ⟨u, hu, ho, _⟩ := hr j hj
    obtain ⟨ao, cap, rfl, _⟩ := Own.ints ho
    exact ⟨ao, cap, hu, ho⟩
  · obtain ⟨ao, cap, e, hi⟩ := Own.ints h.last
    injection e with e1 _ _
    exact e1 ▸ hi
  · obtain ⟨u, hu, ho, _⟩ := hr j hj
    exact own_small ho
theorem sum_wrap {a b : Nat} (ha : a ≤ 120) (hb : b ≤ 53249) : IntKind.i64.wrap ((a : Int) + (b : Int)) = (a : Int) + (b : Int) := by rw [IntKind.wrap_i64]; omega
theorem range_dec {x : Int} {a b : Nat} (h : 0 ≤ x ∧ x < (a : Int) + b) : decide (x < 0) = false ∧ decide ((a : Int) + (b : Int) ≤ x) = false := ⟨by simp; omega, by simp; omega⟩
theorem len_ne {c : List Int} (h : c ≠ []) : ((c.length : Int) == 0) = false := by
  rw [beq_eq_false_iff_ne]
  have := List.length_pos_iff.2 h
  omega

set_option maxHeartbeats 2000000 in
theorem bonds_walk (vars : Int) (aoc : Option Addr) (cl : List (List Int)) (capc : Nat) (av : Nat → Option Addr) (cv : Nat → Nat) (w : World) (hc : IsRows w aoc cl av cv) :
    Calls Try.prog 8 #[.int .i64 vars, .slice aoc cl.length capc] w fun e w' => e = .returned (.bool true) ∧ Below w.heap.size w w' := by
  have HM : Hid (∀ w', Below w.heap.size w w' → Calls Try.prog 19 #[.int .i64 vars, .slice aoc cl.length capc] w' fun e w'' => e = .returned (.bool (mayE vars cl)) ∧ w' = w'') := Lib.hid fun w' hb => may_any vars cl aoc capc av cv w' (hc.below hb)
  by_cases hm : mayE vars cl = false
  · rw [hm] at HM
    clear hc hm
    go_enter Try.func8, Try.ntmps8
    go_wp2_with (first
      | (go_at_call 19; (with_reducible refine (HM.out _ hb1).mono ?_); rintro e w2 ⟨rfl, rfl⟩; have Hd := Lib.hid hb1; clear hb1)
      | (go_at_call 11; (with_reducible refine (awake_any _).mono ?_); rintro e w1 ⟨rfl, hb1⟩))
    go_ret
    exact ⟨rfl, bel_trans Hd.out hb1⟩
  have hm' : mayE vars cl = true := by simpa using hm
  obtain ⟨n, rfl, hn, k2, k3, hk⟩ := mayE_yes hm'
  rw [hm'] at HM
  have HE := Lib.hid (fun w' => senough_any n (by omega) w')
  have HG := Lib.hid (good_all hn (by omega) k3 hk)
  obtain ⟨f1, f2, f3⟩ := bonds_facts hk
  have hbl := bonds_len hn hk
  have HEnd : Hid (∀ R : List Bool, (solveE n cl).yes = false → Marks cl.length (solveE n cl).last (solveE n cl).bonds 0 R → ∃ sX, 0 < (keepE R cl cl.length).length ∧ ∀ w' ao cap m av cv, IsRows w' ao (keepE R cl cl.length) av cv → m = (keepE R cl cl.length).length → SolAt w' n m ao cap (enoughE n) false sX) := Lib.hid fun R hy hM => by
    obtain ⟨e1, e2⟩ := bonds_end hk hy hM
    refine ⟨(solveE n (keepE R cl cl.length)).state, e2, fun w' ao cap m av cv hr he => ?_⟩
    have hmem := keep_mem (R := R) (cl := cl) (Nat.le_refl cl.length)
    have := sol_at (cap := cap) hn (X := keepE R cl cl.length) (m := m) (Nat.le_trans (keep_len R cl cl.length) (by omega)) (fun c hc => k3 c (hmem c hc)) (known_sub hmem hk) hr he
    rwa [e1] at this
  have HF1 := Lib.hid f1
  have HF2 := Lib.hid f2
  have HF3 := Lib.hid f3
  have HC := Lib.hid hc
  clear f1 f2 f3 hc hm hm' hk k3
  generalize enoughE (n : Int) = E at *
  generalize solveE n cl = A at *
  obtain ⟨yes, state, steps, bonds, last⟩ := A
  simp only at HEnd HF1 HF2 HF3 hbl
  go_enter Try.func8, Try.ntmps8
  go_upto_region 4 with (first
    | (go_at_call 11; (with_reducible refine (awake_any _).mono ?_); rintro e w1 ⟨rfl, hb1⟩)
    | (go_at_call 19; (with_reducible refine (HM.out _ hb1).mono ?_); rintro e w2 ⟨rfl, rfl⟩)
    | (go_at_call 18; (with_reducible refine (HE.out _).mono ?_); rintro e w2 ⟨rfl, rfl⟩)
    | (go_at_call 13; (with_reducible refine (HG.out _ aoc capc av cv (HC.out.below hb1)).mono ?_); rintro e w3 ⟨hb3, a1, c1, a2, c2, a3, c3, rfl, hA⟩))
  obtain ⟨w4, hw4, hb4, hk4⟩ := ans_new w3 #[.bool yes, .slice a1 state.length c1, .int .i64 steps, .slice a2 bonds.length c2, .slice a3 last.length c3]
  rw [← hw4]
  obtain ⟨g, hg⟩ : ∃ g, g = w3.heap.size := ⟨_, rfl⟩
  rw [← hg] at hk4 ⊢
  obtain ⟨⟨avB, cvB, hRB⟩, hIL, hBl, hLl⟩ := ans_rows hA
  simp only at hBl hLl
  have HBl := Lib.hid hBl
  have HRB := Lib.hid (hRB.below hb4)
  have HIL := Lib.hid (hIL.below hb4)
  have HB4 := Lib.hid (bel_trans (bel_trans hb1 hb3) hb4)
  have HK4 : Hid (∀ w', Below w4.heap.size w4 w' → w'.cell? ⟨g, 0, none⟩ = some (.bool yes) ∧ w'.cell? ⟨g, 3, none⟩ = some (.slice a2 bonds.length c2) ∧ w'.cell? ⟨g, 4, none⟩ = some (.slice a3 last.length c3)) := Lib.hid fun w' hb => ⟨hk4 w' hb 0, hk4 w' hb 3, hk4 w' hb 4⟩
  clear hw4 hb4 hk4 hg hRB hIL hA hBl hb1 hb3 HG HM
  simp only at HRB HIL
  go_wp2_with fail
  go_loopw [8] (fun i wr => ∃ k : Nat, k ≤ bonds.length ∧ i = .int .i64 k ∧ Hid (Below w4.heap.size w4 wr)) (fun i _ => bonds.length - (intOf i).toNat)
  case atStart => exact ⟨0, by omega, rfl, Lib.hid (Below.refl _ _)⟩
  case round =>
    obtain ⟨k, hkb, rfl, HB⟩ := hrel
    obtain ⟨p0, p3, p4⟩ := HK4.out wr HB.out
    by_cases hlt : k < bonds.length
    · have hki : (k : Int) < (bonds.length : Int) := Int.ofNat_lt.2 hlt
      have hsw := sum_wrap (a := cl.length) (b := k) k2 (Nat.le_trans hkb hbl)
      obtain ⟨f4, f5⟩ := HF1.out k hlt
      obtain ⟨b2, o2, rfl, _, hr⟩ := (HRB.out.below HB.out).rows (Nat.lt_of_le_of_lt (Nat.zero_le _) hlt)
      have q1 := hr k hlt
      have HIk := Lib.hid ((HRB.out.below HB.out).ints k hlt)
      rw [show bonds.getD k [] = bonds[k] by simp [List.getD_eq_getElem?_getD, hlt]] at f4 f5
      have hne := len_ne f4
      have HQ : Hid (∀ w', Below wr.heap.size wr w' → w'.cell? ⟨b2, o2 + k, none⟩ = some (.slice (avB k) bonds[k].length (cvB k))) := Lib.hid fun w' hb => by
        obtain ⟨b2', o2', e2, _, hr'⟩ := (HRB.out.below (bel_new HB.out HB.out.size hb)).rows (Nat.lt_of_le_of_lt (Nat.zero_le _) hlt)
        injection e2 with e2
        injection e2 with e5 e6
        subst e5 e6
        exact hr' k hlt
      have hbcl := HBl.out k hlt
      generalize bonds[k] = bc at *
      generalize avB k = ax at *
      generalize cvB k = cx at *
      have HF5 := Lib.hid f5
      clear hr f4 f5
      obtain ⟨wo, hwo⟩ : ∃ wo : World, wo = wr := ⟨_, rfl⟩
      subst hwo
      go_wp2_with fail
      go_loopw [9] (fun i wq => ∃ m : Nat, m ≤ bc.length ∧ i = .int .i64 m ∧ wq = wo) (fun i _ => bc.length - (intOf i).toNat)
      case atStart => exact ⟨0, Nat.zero_le _, rfl, rfl⟩
      case round =>
        obtain ⟨m, hm, rfl, rfl⟩ := hrel
        by_cases hmt : m < bc.length
        · have hmi : (m : Int) < (bc.length : Int) := Int.ofNat_lt.2 hmt
          obtain ⟨b3, o3, rfl, _, hc3⟩ := HIk.out (Nat.lt_of_le_of_lt (Nat.zero_le _) hmt)
          have q5 := hc3 m hmt
          obtain ⟨d1, d2⟩ := range_dec (HF5.out bc[m] (List.getElem_mem hmt))
          generalize bc[m] = y at *
          clear hc3
          go_wp2_with fail
          go_roundw
          case rel => exact ⟨m + 1, hmt, by go_num, trivial⟩
          case measure => simp [intOf]; omega
        · obtain rfl : m = bc.length := Nat.le_antisymm hm (Nat.le_of_not_lt hmt)
          go_wp2_with fail
          go_roundw
          case rel => exact ⟨k + 1, hlt, by go_num, HB⟩
          case measure => simp [intOf]; omega
    · obtain rfl : k = bonds.length := Nat.le_antisymm hkb (Nat.le_of_not_lt hlt)
      obtain ⟨w5, hw5⟩ : ∃ w5 : World, w5 = wr := ⟨_, rfl⟩
      subst hw5
      cases yes with
      | true =>
        have hl0 : ((last.length : Int) == 0) = true := by rw [HF2.out rfl]; rfl
        have HBe := Lib.hid (bel_new HB4.out HB4.out.size HB.out)
        go_wp2_with fail
        go_ret
        exact ⟨rfl, HBe.out⟩
      | false =>
        have HB5 := Lib.hid (bel_new HB4.out HB4.out.size HB.out)
        have HK5 : Hid (∀ w', Below w5.heap.size w5 w' → w'.cell? ⟨g, 0, none⟩ = some (.bool false) ∧ w'.cell? ⟨g, 3, none⟩ = some (.slice a2 bonds.length c2) ∧ w'.cell? ⟨g, 4, none⟩ = some (.slice a3 last.length c3)) := Lib.hid fun w' hb => HK4.out w' (bel_new HB.out HB.out.size hb)
        have HRB5 := Lib.hid (HRB.out.below HB.out)
        have HIL5 := Lib.hid (HIL.out.below HB.out)
        obtain ⟨N, hN⟩ : ∃ N, N = cl.length + bonds.length := ⟨_, rfl⟩
        have HN := Lib.hid hN
        have hN2 : N ≤ 1000000 := by omega
        have hwN : IntKind.i64.wrap ((cl.length : Int) + (bonds.length : Int)) = (N : Int) := by rw [sum_wrap k2 hbl, hN]; rfl
        have hmk : ∀ W : World, Sem.run Try.prog (Instr.makeSlice 28 (.int .i64 (N : Int)) (.int .i64 (N : Int))) W = .ok (.slice (some ⟨W.heap.size, 0, none⟩) N N) (W.alloc (.cells (madeCells #[.bool false] N) 4)) := fun W => run_make_row' 28 4 (.bool false) 1 Try.underlying28 (by kernel_rfl) rfl .i64 .i64 N (by omega) (by omega) W
        clear hN HF2 HB HRB HIL HK4
        go_upto_region 20 with fail
        have h0 : On w5 (w5.alloc (.cells (madeCells #[.bool false] N) 4)) (Emp.and (boolsA (.slice (some ⟨w5.heap.size, 0, none⟩) N N) (List.replicate N false))) := (On.start (Below.refl w5.heap.size w5)).new Solid.emp ((Below.refl _ _).alloc (Nat.le_refl _) _) (bools_made w5 N hN2) fun k hk => Nat.le_of_eq hk.symm
        obtain ⟨r, hr⟩ : ∃ r, r = w5.heap.size := ⟨_, rfl⟩
        rw [← hr] at h0 ⊢
        have H0 := Lib.hid h0
        have hC : Ctx fun A => Emp.and A := Ctx.id.right Solid.emp
        have hlN : (List.replicate N false).length = N := List.length_replicate
        clear h0 hr hmk hwN p0 p3 p4
        go_wp2_with fail
        go_loopw [11] (fun i wr => ∃ (j : Nat) (R : List Bool), j ≤ last.length ∧ i = .int .i64 j ∧ Hid (On w5 wr (Emp.and (boolsA (.slice (some ⟨r, 0, none⟩) N N) R))) ∧ Hid (R.length = N) ∧ Hid (∀ b ∈ last.take j, R.getD b.toNat false = true)) (fun i _ => last.length - (intOf i).toNat)
        case atStart => exact ⟨0, _, Nat.zero_le _, rfl, H0, Lib.hid hlN, Lib.hid fun b hb => by simp at hb⟩
        case round =>
          obtain ⟨j, R, hj, rfl, HO, HRl, HMk⟩ := hrel
          obtain ⟨p0, p3, p4⟩ := HK5.out wr HO.out.bel
          by_cases hjt : j < last.length
          · have hji : (j : Int) < (last.length : Int) := Int.ofNat_lt.2 hjt
            obtain ⟨b3, o3, rfl, _, hc3⟩ := HIL5.out.below HO.out.bel (Nat.lt_of_le_of_lt (Nat.zero_le _) hjt)
            have q5 := hc3 j hjt
            have hr5 := HF3.out (by first | rfl | trivial) _ (List.getElem_mem hjt)
            obtain ⟨b, hby⟩ := Int.eq_ofNat_of_zero_le hr5.1
            rw [hby] at q5 hr5
            have hbN : b < N := by rw [HN.out]; omega
            have hbi : (b : Int) < (N : Int) := Int.ofNat_lt.2 hbN
            have hge : decide ((N : Int) ≤ (b : Int)) = false := by simp; omega
            obtain ⟨hcc, hz⟩ := bools_cells hC HO.out
            have hck := hcc b (by rw [HRl.out]; exact hbN)
            have hzk := hz b
            have HSet := Lib.hid (bools_set hC HO.out HRl.out b true)
            have HMk2 : Hid (∀ c ∈ last.take (j + 1), (R.set b true).getD c.toNat false = true) := Lib.hid fun c hc => by
              rw [List.take_succ_eq_append_getElem hjt] at hc
              rcases List.mem_append.1 hc with h | h
              · exact mark_mono (HMk.out c h)
              · rw [List.mem_singleton.1 h, hby]
                exact mark_self (by rw [HRl.out]; exact hbN)
            generalize R[b]'_ = rb at hck
            clear hc3 hr5 hby hcc hz
            go_wp2_with fail
            go_roundw
            case rel => exact ⟨j + 1, _, hjt, by go_num, HSet, Lib.hid (by rw [List.length_set]; exact HRl.out), HMk2⟩
            case measure => simp [intOf]; omega
          · obtain rfl : j = last.length := Nat.le_antisymm hj (Nat.le_of_not_lt hjt)
            have HMs : Hid (Marks cl.length last bonds bonds.length R) := Lib.hid (Marks.start (by rw [HRl.out, HN.out]) (by have := HMk.out; rwa [List.take_length] at this))
            clear HMk HRl hlN H0
            go_wp2_with fail
            go_loopw [12] (fun i wr => ∃ (q : Nat) (z : Int) (R : List Bool), q ≤ bonds.length ∧ z = (q : Int) - 1 ∧ i = .int .i64 z ∧ Hid (On w5 wr (Emp.and (boolsA (.slice (some ⟨r, 0, none⟩) N N) R))) ∧ Hid (Marks cl.length last bonds q R)) (fun i _ => (intOf i + 1).toNat)
            case atStart => exact ⟨bonds.length, _, R, Nat.le_refl _, rfl, by go_num, HO, HMs⟩
            case round =>
              obtain ⟨q, z, R, hq, hz, rfl, HO, HMs⟩ := hrel
              obtain ⟨p0, p3, p4⟩ := HK5.out wr HO.out.bel
              rcases q with _ | k
              rotate_left
              · obtain rfl : z = (k : Int) := by omega
                clear hz
                have hki : (k : Int) < (bonds.length : Int) := Int.ofNat_lt.2 hq
                obtain ⟨nk, hnk⟩ : ∃ nk, nk = cl.length + k := ⟨_, rfl⟩
                have hsw : IntKind.i64.wrap ((cl.length : Int) + (k : Int)) = (nk : Int) := by rw [sum_wrap k2 (Nat.le_trans (Nat.le_of_lt hq) hbl), hnk]; rfl
                have hnN : nk < N := by rw [HN.out, hnk]; omega
                have hni : (nk : Int) < (N : Int) := Int.ofNat_lt.2 hnN
                have HNk := Lib.hid hnk
                obtain ⟨_, f5⟩ := HF1.out k hq
                rw [show bonds.getD k [] = bonds[k] by simp [List.getD_eq_getElem?_getD, show k < bonds.length from hq]] at f5
                have HRow : Hid (∃ b2 o2, a2 = some ⟨b2, o2, none⟩ ∧ ∀ w', Below w5.heap.size w5 w' → w'.cell? ⟨b2, o2 + k, none⟩ = some (.slice (avB k) bonds[k].length (cvB k))) := Lib.hid (by
                  obtain ⟨b2, o2, e, hbl', hr⟩ := HRB5.out.rows (Nat.lt_of_le_of_lt (Nat.zero_le _) hq)
                  exact ⟨b2, o2, e, fun w' hb => (World.cell?_of_block (w := w5) (hb.block b2 hbl')).trans (hr k hq)⟩)
                obtain ⟨b2, o2, rfl, hrow⟩ := HRow.out
                have HQ := Lib.hid hrow
                have HIk := Lib.hid (HRB5.out.ints k hq)
                have hbcl := HBl.out k hq
                have HBk : Hid (bonds.getD k [] = bonds[k]) := Lib.hid (by simp [List.getD_eq_getElem?_getD, show k < bonds.length from hq])
                generalize bonds[k] = bc at *
                generalize avB k = ax at *
                generalize cvB k = cx at *
                have HF5 := Lib.hid f5
                clear f5 hrow HRow hnk p0 p4 hnN
                go_wp2_with fail
                go_loopw [13] (fun i wq => ∃ (m : Nat) (R : List Bool), m ≤ bc.length ∧ i = .int .i64 m ∧ Hid (On w5 wq (Emp.and (boolsA (.slice (some ⟨r, 0, none⟩) N N) R))) ∧ Hid (Marks cl.length last bonds (k + 1) R) ∧ Hid (∀ b ∈ bc.take m, R.getD b.toNat false = true)) (fun i _ => bc.length - (intOf i).toNat)
                case atStart => exact ⟨0, R, Nat.zero_le _, rfl, HO, HMs, Lib.hid fun b hb => by simp at hb⟩
                case round =>
                  obtain ⟨m, R, hm, rfl, HO, HMs, HTk⟩ := hrel
                  obtain ⟨p0, p3, p4⟩ := HK5.out wr HO.out.bel
                  have q1 := HQ.out wr HO.out.bel
                  have HRl : Hid (R.length = N) := Lib.hid (by rw [HMs.out.len, HN.out])
                  by_cases hmt : m < bc.length
                  · have hmi : (m : Int) < (bc.length : Int) := Int.ofNat_lt.2 hmt
                    obtain ⟨hcc, hz⟩ := bools_cells hC HO.out
                    have hnR : nk < R.length := by rw [HRl.out]; exact Int.ofNat_lt.1 hni
                    have hcn := hcc nk hnR
                    have HNv : Hid (R.getD nk false = R[nk]) := Lib.hid (by simp [List.getD_eq_getElem?_getD, hnR])
                    generalize R[nk]'hnR = rn at hcn HNv
                    cases rn with
                    | false =>
                      have HMs2 : Hid (Marks cl.length last bonds k R) := Lib.hid (HMs.out.step fun h => by rw [← HNk.out, HNv.out] at h; cases h)
                      clear hcc hz hnR p0 p4
                      go_wp2_with fail
                      go_roundw
                      case rel => exact ⟨k, _, R, Nat.le_of_lt hq, rfl, by go_num, HO, HMs2⟩
                      case measure => simp [intOf]
                    | true =>
                      obtain ⟨b3, o3, rfl, _, hc3⟩ := HIk.out.below HO.out.bel (Nat.lt_of_le_of_lt (Nat.zero_le _) hmt)
                      have q5 := hc3 m hmt
                      have hr5 := HF5.out bc[m] (List.getElem_mem hmt)
                      obtain ⟨b, hby⟩ := Int.eq_ofNat_of_zero_le hr5.1
                      rw [hby] at q5 hr5
                      have hbk : b < cl.length + k := by omega
                      have hbN : b < N := by rw [HN.out]; omega
                      have hbi : (b : Int) < (N : Int) := Int.ofNat_lt.2 hbN
                      have hck := hcc b (by rw [HRl.out]; exact hbN)
                      have hzk := hz b
                      have HSet := Lib.hid (bools_set hC HO.out HRl.out b true)
                      have HMs2 := Lib.hid (HMs.out.mark (b := b) (by omega))
                      have HTk2 : Hid (∀ c ∈ bc.take (m + 1), (R.set b true).getD c.toNat false = true) := Lib.hid fun c hc => by
                        rw [List.take_succ_eq_append_getElem hmt] at hc
                        rcases List.mem_append.1 hc with h | h
                        · exact mark_mono (HTk.out c h)
                        · rw [List.mem_singleton.1 h, hby]
                          exact mark_self (by rw [HRl.out]; exact hbN)
                      generalize R[b]'_ = rb at hck
                      clear hc3 hr5 hby hcc hz hbk hnR p0 p4
                      go_wp2_with fail
                      go_roundw
                      case rel => exact ⟨m + 1, _, hmt, by go_num, HSet, HMs2, HTk2⟩
                      case measure => simp [intOf]; omega
                  · obtain rfl : m = bc.length := Nat.le_antisymm hm (Nat.le_of_not_lt hmt)
                    have HMs2 : Hid (Marks cl.length last bonds k R) := Lib.hid (HMs.out.step fun _ b hb => by
                      rw [HBk.out] at hb
                      have := HTk.out b
                      rw [List.take_length] at this
                      exact this hb)
                    clear p0 p4
                    go_wp2_with fail
                    go_roundw
                    case rel => exact ⟨k, _, R, Nat.le_of_lt hq, rfl, by go_num, HO, HMs2⟩
                    case measure => simp [intOf]
              · obtain rfl : z = -1 := by omega
                clear hz
                obtain ⟨w6, hw6⟩ : ∃ w6 : World, w6 = wr := ⟨_, rfl⟩
                subst hw6
                have HB6 := Lib.hid (bel_new HB5.out HB5.out.size HO.out.bel)
                have HRl : Hid (R.length = N) := Lib.hid (by rw [HMs.out.len, HN.out])
                have HBo : Hid (∀ w', Below w6.heap.size w6 w' → ∀ j (h : j < R.length), w'.cell? ⟨r, j, none⟩ = some (.bool R[j])) := Lib.hid fun w' hb j h => (bools_cells hC (HO.out.below (Solid.emp.and (Solid.boolsA ..)) hb)).1 j h
                obtain ⟨iS, hiS, hs0, hs1, hs2⟩ := info_parts (P := Try.prog) (e := 25) (z := .slice none 0 0) (size := 1) (bytes := 24) (by kernel_rfl)
                obtain ⟨sX, hpos, hSX⟩ := HEnd.out R (by first | rfl | trivial) HMs.out
                have HSX := Lib.hid hSX
                have HPos := Lib.hid hpos
                clear hSX hpos HEnd HK5 HRB5 HIL5 HF1 HF3 HO HMs p0 p4 hbl hLl HBl
                go_wp2_with fail
                go_loopw [14, 15] (fun s i wr => ∃ (j : Nat) (vs : List Value) (a : Option Addr) (c : Nat), j ≤ cl.length ∧ i = .int .i64 j ∧ s = .slice a vs.length c ∧ vs.length ≤ j ∧ Hid (Own wr 25 1 (.slice a vs.length c) vs.length vs) ∧ Hid (RowsV w vs (keepE R cl j)) ∧ Hid (∀ k, (Value.slice a vs.length c).ownBlock = some k → w6.heap.size ≤ k) ∧ Hid (Below w6.heap.size w6 wr)) (fun _ i _ => cl.length - (intOf i).toNat)
                case atStart => exact ⟨0, [], none, 0, Nat.zero_le _, rfl, rfl, Nat.le_refl _, Lib.hid (Own.nil _ _ _), Lib.hid (RowsV.nil _), Lib.hid (fun k hk => by simp [Value.ownBlock] at hk), Lib.hid (Below.refl _ _)⟩
                case round =>
                  obtain ⟨j, vs, a, c, hj, rfl, rfl, hvj, HO, HV, HNw, HB⟩ := hrel
                  by_cases hjt : j < cl.length
                  · have hji : (j : Int) < (cl.length : Int) := Int.ofNat_lt.2 hjt
                    have hjR : j < R.length := by rw [HRl.out, HN.out]; omega
                    have hjN : (j : Int) < (N : Int) := by rw [HRl.out] at hjR; exact Int.ofNat_lt.2 hjR
                    have hcb := HBo.out wr HB.out j hjR
                    have HKs := Lib.hid (keep_succ R cl j)
                    have HRj : Hid (R.getD j false = R[j]) := Lib.hid (by simp [List.getD_eq_getElem?_getD, hjR])
                    generalize R[j]'hjR = rj at hcb HRj
                    cases rj with
                    | false =>
                      have HV2 : Hid (RowsV w vs (keepE R cl (j + 1))) := Lib.hid (by
                        rw [HKs.out, if_neg (by rw [HRj.out]; simp), List.append_nil]
                        exact HV.out)
                      clear hjR
                      go_wp2_with fail
                      go_roundw
                      case rel => exact ⟨j + 1, vs, a, c, hjt, by go_num, rfl, Nat.le_succ_of_le hvj, HO, HV2, HNw, HB⟩
                      case measure => simp [intOf]; omega
                    | true =>
                      have HBw := Lib.hid (bel_new HB6.out HB6.out.size HB.out)
                      obtain ⟨b1, o1, rfl, _, hr1⟩ := (HC.out.below HBw.out).rows (Nat.lt_of_le_of_lt (Nat.zero_le _) hjt)
                      have q1 := hr1 j hjt
                      have HV2 : Hid (RowsV w (vs ++ [.slice (av j) cl[j].length (cv j)]) (keepE R cl (j + 1))) := Lib.hid (by
                        rw [HKs.out, if_pos HRj.out, show cl.getD j [] = cl[j] by simp [List.getD_eq_getElem?_getD, hjt]]
                        exact HV.out.snoc (HC.out.ints j hjt))
                      have hov := HV.out.one
                      have hvb : vs.length ≤ 120 := Nat.le_trans hvj (Nat.le_trans hj k2)
                      generalize cl[j].length = lj at *
                      generalize av j = aj at *
                      generalize cv j = cj at *
                      have HO1 := Lib.hid (HO.out.alloc (.cells #[.slice aj lj cj] 25))
                      clear hr1 hjR
                      go_wp2_with (first
                        | (at_builtin; refine wpList_append_S _ rfl (.tmp 173) (.tmp 178) _ _ rfl 25 iS _ 1 24 Try.underlying22 hiS hs0 hs1 hs2 rfl (by omega) (.slice a vs.length c) vs.length vs rfl HO1.out hov _ 1 [_] rfl (src_new wr Try.underlying22 25 _ rfl) (by simp only [maxLen]; omega) (by omega) ?_; intro ao2 cap2 w2 hn2 hm2 hown2 hg2 hat2 hlt2
                           have H2 := Lib.hid hown2
                           have G2 := Lib.hid hg2
                           have A2 := Lib.hid hat2
                           clear hown2 hg2 hat2 hlt2 hn2 hm2))
                      go_roundw
                      case rel =>
                        have e1 : (vs ++ [Value.slice aj lj cj]).length = vs.length + 1 := by simp
                        have hBB : Below w6.heap.size w6 (wr.alloc (.cells #[.slice aj lj cj] 25)) := HB.out.alloc HB.out.size _
                        refine ⟨j + 1, vs ++ [.slice aj lj cj], ao2, cap2, hjt, by go_num, by rw [e1], by rw [e1]; exact Nat.succ_le_succ hvj, Lib.hid (by rw [e1]; exact H2.out), HV2, Lib.hid fun k hk => ?_, Lib.hid (grow_below2 hBB G2.out HNw.out hBB.size)⟩
                        rw [e1] at hk
                        rcases A2.out with e | e
                        · exact HNw.out k (e ▸ hk)
                        · rw [e] at hk
                          injection hk with hk
                          have h5 := hBB.size
                          omega
                      case measure => simp [intOf]; omega
                  · obtain rfl : j = cl.length := Nat.le_antisymm hj (Nat.le_of_not_lt hjt)
                    have HBw := Lib.hid (bel_new HB6.out HB6.out.size HB.out)
                    obtain ⟨avX, cvX, hrX⟩ := rows_at HO.out rfl (HV.out.below HBw.out)
                    have HS := Lib.hid (HSX.out wr a c vs.length avX cvX hrX HV.out.1 wr (Below.refl _ _))
                    have hgt : 0 < vs.length := by
                      have h1 := HPos.out
                      rwa [← HV.out.1] at h1
                    have hgd : decide (0 < vs.length) = true := decide_eq_true hgt
                    clear hrX HSX HPos HO HV
                    go_upto_region 40 with (first
                      | (go_at_call 18; (with_reducible refine (HE.out _).mono ?_); rintro e w7 ⟨rfl, rfl⟩)
                      | (go_at_call 13; (with_reducible refine HS.out.mono ?_); rintro e w8 ⟨hb8, a1x, c1x, t1x, a2x, m2x, c2x, a3x, m3x, c3x, rfl, hB8⟩))
                    obtain ⟨w9, hw9, hb9, hk9⟩ := ans_new w8 #[.bool false, .slice a1x sX.length c1x, .int .i64 t1x, .slice a2x m2x c2x, .slice a3x m3x c3x]
                    rw [← hw9]
                    obtain ⟨g8, hg8⟩ : ∃ g8, g8 = w8.heap.size := ⟨_, rfl⟩
                    rw [← hg8] at hk9 ⊢
                    have z0 : w9.cell? ⟨g8, 0, none⟩ = some (.bool false) := hk9 w9 (Below.refl _ _) 0
                    have HBz := Lib.hid (bel_trans HBw.out (bel_trans hb8 hb9))
                    clear hw9 hb9 hk9 hg8 hB8 hb8 HS
                    go_wp2_with fail
                    go_ret
                    exact ⟨rfl, HBz.out⟩

end Go.Proofs.Ytoainmkebdpikaa
