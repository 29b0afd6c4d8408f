/- The least no: plain: what Least tells, asked of the items that it names. Conditions: as each theorem names them. -/
import Derived.Test.YthinopiobihmaaaGy
namespace Go.Proofs.Ythinopiobihmaaa
set_option maxRecDepth 100000

section
variable {n : Nat} {base : List (List Int)} {items : List (List (List Int))}
theorem noB_same {base' : List (List Int)} {items' : List (List (List Int))} {S S' : Nat → Bool} (h : KnownAll n base items) (h' : KnownAll n base' items') (hm : ∀ c, c ∈ allE base items S ↔ c ∈ allE base' items' S') : noB n base items S = noB n base' items' S' := by
  rw [Bool.eq_iff_iff, noB_iff h, noB_iff h']
  exact ⟨fun k A hA => k A fun c hc => hA c ((hm c).1 hc), fun k A hA => k A fun c hc => hA c ((hm c).2 hc)⟩
theorem mem_pick {l : List Nat} (hl : ∀ x ∈ l, x < items.length) {S : Nat → Bool} {c : List Int} : c ∈ allE base (pickI items l) S ↔ c ∈ base ∨ ∃ j, ∃ h : j < l.length, S j = true ∧ c ∈ items.getD l[j] [] := by
  rw [mem_all]
  refine or_congr_right ?_
  constructor
  · rintro ⟨i, h1, h2, h3⟩
    rw [pickI_len] at h1
    rw [pickI_get h1 (hl _ (List.getElem_mem h1))] at h3
    refine ⟨i, h1, h2, ?_⟩
    rw [List.getD_eq_getElem?_getD, List.getElem?_eq_getElem (hl _ (List.getElem_mem h1))]
    exact h3
  · rintro ⟨i, h1, h2, h3⟩
    refine ⟨i, by rw [pickI_len]; exact h1, h2, ?_⟩
    rw [pickI_get h1 (hl _ (List.getElem_mem h1))]
    rw [List.getD_eq_getElem?_getD, List.getElem?_eq_getElem (hl _ (List.getElem_mem h1))] at h3
    exact h3
/-- All of the items that are named. -/
theorem pick_all (h : KnownAll n base items) {l : List Nat} (hl : ∀ x ∈ l, x < items.length) : noB n base (pickI items l) (butS (-1)) = noB n base items (fun j => l.contains j) := by
  refine noB_same (known_pick h hl) h fun c => ?_
  rw [mem_pick hl, mem_all]
  refine or_congr_right ⟨?_, ?_⟩
  · rintro ⟨j, h1, _, h3⟩
    exact ⟨l[j], hl _ (List.getElem_mem h1), by simp, h3⟩
  · rintro ⟨i, _, h2, h3⟩
    obtain ⟨j, h4, rfl⟩ := List.getElem_of_mem (List.contains_iff_mem.1 h2)
    exact ⟨j, h4, by unfold butS; rw [decide_eq_false (by omega)]; rfl, h3⟩
/-- All of them but one. -/
theorem pick_but (h : KnownAll n base items) {l : List Nat} (hl : ∀ x ∈ l, x < items.length) (hr : l.Pairwise (· < ·)) {k : Nat} (hk : k < l.length) : noB n base (pickI items l) (butS (k : Int)) = noB n base items (fun j => l.contains j && decide (j ≠ l[k])) := by
  refine noB_same (known_pick h hl) h fun c => ?_
  rw [mem_pick hl, mem_all]
  refine or_congr_right ⟨?_, ?_⟩
  · rintro ⟨j, h1, h2, h3⟩
    refine ⟨l[j], hl _ (List.getElem_mem h1), ?_, h3⟩
    have hne : j ≠ k := by
      unfold butS at h2
      simp only [Bool.not_eq_true', decide_eq_false_iff_not] at h2
      omega
    have hd : l[j] ≠ l[k] := by
      rcases Nat.lt_or_gt_of_ne hne with h4 | h4
      · exact Nat.ne_of_lt (List.pairwise_iff_getElem.1 hr j k h1 hk h4)
      · exact Nat.ne_of_gt (List.pairwise_iff_getElem.1 hr k j hk h1 h4)
    simp [hd]
  · rintro ⟨i, _, h2, h3⟩
    simp only [Bool.and_eq_true, decide_eq_true_eq, List.contains_iff_mem] at h2
    obtain ⟨j, h4, rfl⟩ := List.getElem_of_mem h2.1
    refine ⟨j, h4, ?_, h3⟩
    unfold butS
    rw [decide_eq_false (fun e => h2.2 (by have : j = k := by omega
                                           subst this
                                           rfl))]
    rfl
def kept (n : Nat) (base : List (List Int)) (items : List (List (List Int))) : List Nat := keepR items.length (noB n base items) items.length
theorem kept_lt : ∀ x ∈ kept n base items, x < items.length := fun _ h => keepR_lt h
theorem kept_rise : (kept n base items).Pairwise (· < ·) := keepR_rise _
theorem kept_len : (kept n base items).length ≤ items.length := keepR_len _
theorem noB_every : noB n base items (everyS items) = !(solveE n (allE base items (everyS items))).yes := rfl
/-- Together they are a no. -/
theorem kept_no (h : KnownAll n base items) (h0 : (solveE n (allE base items (everyS items))).yes = false) : noB n base (pickI items (kept n base items)) (butS (-1)) = true := by
  rw [pick_all h kept_lt]
  exact keepR_all (by show noB n base items (everyS items) = true; rw [noB_every, h0]; rfl)
/-- Without any one of them they are none. -/
theorem kept_least (h : KnownAll n base items) {k : Nat} (hk : k < (kept n base items).length) : noB n base (pickI items (kept n base items)) (butS (k : Int)) = false := by
  rw [pick_but h kept_lt kept_rise hk]
  exact keepR_least (noB_mono h) (List.getElem_mem hk)
/-- All items, by their numbers. -/
theorem every_no (h : KnownAll n base items) : noB n base (pickI items (List.range items.length)) (butS (-1)) = !(solveE n (allE base items (everyS items))).yes := by
  rw [pick_all h (fun x hx => List.mem_range.1 hx), ← noB_every]
  refine congrArg (noB n base items) ?_
  funext j
  rw [Bool.eq_iff_iff]
  simp [everyS]

/-! ### What Least answers, with a budget that is enough -/
theorem msteps_le (h : KnownAll n base items) (S : Nat → Bool) : (solveE n (allE base items S)).steps ≤ 2 ^ n * (n + 1) := (solve_ok n _ (List.all_eq_true.1 (all_known (S := S) h))).2.steps
theorem used_le (h : KnownAll n base items) : (lsRun n base items items.length).used ≤ (items.length + 1) * (2 ^ n * (n + 1)) := ls_used (msteps_le h) _
theorem pow_le_enough (hn : n ≤ 12) : ((2 ^ n * (n + 1) : Nat) : Int) ≤ enoughE n := by
  have h2 : 2 ^ n * (n + 1) ≤ 2 ^ 12 * 13 := Nat.mul_le_mul (Nat.pow_le_pow_right (by decide) hn) (by omega)
  rw [enough_small (by omega)]
  have h3 : ((2 ^ n * (n + 1) : Nat) : Int) ≤ ((n : Int) + 1) * 2 ^ (n + 1) := by
    have h4 : 2 ^ n * (n + 1) ≤ (n + 1) * 2 ^ (n + 1) := by
      rw [Nat.mul_comm]
      exact Nat.mul_le_mul_left _ (Nat.pow_le_pow_right (by decide) (by omega))
    exact_mod_cast h4
  omega
theorem used_enough (h : KnownAll n base items) (hn : n ≤ 12) (hil : items.length ≤ 1000) : ((lsRun n base items items.length).used : Int) ≤ enoughM items.length n ∧ enoughM items.length n ≤ 1099511627776 := by
  have h1 := used_le h
  have h2 : 2 ^ n * (n + 1) ≤ 2 ^ 12 * 13 := Nat.mul_le_mul (Nat.pow_le_pow_right (by decide) hn) (by omega)
  have h3 : (items.length + 1) * (2 ^ n * (n + 1)) ≤ 1001 * (2 ^ 12 * 13) := Nat.mul_le_mul (by omega) h2
  have h4 : (((items.length + 1) * (2 ^ n * (n + 1)) : Nat) : Int) ≤ ((items.length : Int) + 1) * enoughE n := by
    rw [Int.natCast_mul]
    exact Int.mul_le_mul_of_nonneg_left (pow_le_enough hn) (by omega)
  unfold enoughM
  omega
/-- The answer, with a budget that is enough. -/
theorem least_full (h : KnownAll n base items) {B : Int} (hB : ((lsRun n base items items.length).used : Int) ≤ B) :
    ((solveE n (allE base items (everyS items))).yes = true → (leastE n base items B).l = [] ∧ (leastE n base items B).e = 5 ∧ (leastE n base items B).steps ≤ B ∧ 0 ≤ (leastE n base items B).steps) ∧
    ((solveE n (allE base items (everyS items))).yes = false → (leastE n base items B).l = natsE (kept n base items) ∧ (leastE n base items B).e = 0 ∧ (leastE n base items B).steps ≤ B ∧ 0 ≤ (leastE n base items B).steps) := by
  have h0 : ((solveE n (allE base items (everyS items))).steps : Int) ≤ B := by
    have := ls_le (n := n) (base := base) (items := items) (Nat.zero_le items.length)
    have h2 : (lsRun n base items 0).used = (solveE n (allE base items (everyS items))).steps := rfl
    omega
  refine ⟨fun hy => ?_, fun hy => ?_⟩
  · unfold leastE
    rw [if_neg (by omega), if_pos hy]
    exact ⟨rfl, rfl, h0, Int.natCast_nonneg _⟩
  · unfold leastE
    rw [if_neg (by omega), if_neg (by rw [hy]; decide), if_neg (by omega)]
    refine ⟨?_, rfl, hB, Int.natCast_nonneg _⟩
    have := (ls_ok h (by rw [noB_every, hy]; rfl) items.length).l
    show (lsRun n base items items.length).l.map _ = natsE (kept n base items)
    rw [this]
    rfl
end

end Go.Proofs.Ythinopiobihmaaa

namespace Go.Proofs.Ythinopiobihmaaa
open Go.ChangeShapes Go.WideShapes Go.ChangeAt Go.RowKit Go.Maps Go.Deep
set_option maxRecDepth 100000

theorem natsE_len (l : List Nat) : (natsE l).length = l.length := by simp [natsE]
theorem natsE_get {l : List Nat} {j : Nat} (h : j < l.length) : (natsE l)[j]'(by rw [natsE_len]; exact h) = (l[j] : Int) := by simp [natsE]
theorem KeptAt.ints {w wr : World} {a : Option Addr} {m c : Nat} {l : List Nat} (h : KeptAt w wr a m c l) : Ints wr a (natsE l) := by
  have h1 := h.own
  have e : m = (natsE l).length := by rw [natsE_len]; exact h.len
  rw [e] at h1
  exact least_ints h1
/-- Cells of numbers that are there. -/
theorem nats_cell {w : World} {a : Option Addr} {l : List Nat} (h : Ints w a (natsE l)) {j : Nat} (hj : j < l.length) : ∃ b off, a = some ⟨b, off, none⟩ ∧ ∀ k (hk : k < l.length), w.cell? ⟨b, off + k, none⟩ = some (.int .i64 (l[k] : Int)) := by
  obtain ⟨b, off, e, _, hc⟩ := h (by rw [natsE_len]; omega)
  exact ⟨b, off, e, fun k hk => by rw [hc k (by rw [natsE_len]; exact hk), natsE_get hk]⟩

/-- What is handed back, as a law reads it. -/
def GotAt (w : World) (m : Nat) (L : List Int) (r E : Int) (e : Ending) (w' : World) : Prop := Below w.heap.size w w' ∧ ∃ a c s, 0 ≤ s ∧ s ≤ E ∧ e = .returned (.tuple #[.slice a m c, .int .i64 s, .int .i64 r]) ∧ Ints w' a L
theorem got_of {w : World} {o : LOut} {E : Int} (h : o.steps ≤ E ∧ 0 ≤ o.steps) {e : Ending} {w' : World} (hp : LeastPost w o e w') : GotAt w o.l.length o.l o.e E e w' := by
  obtain ⟨hb, a, c, rfl, ho, _⟩ := hp
  exact ⟨hb, a, c, _, h.2, h.1, rfl, least_ints ho⟩

set_option maxHeartbeats 4000000 in
theorem mleast_walk (vars : Int) (base : List (List Int)) (items : List (List (List Int))) (ab ai : Option Addr) (cb ci : Nat) (av : Nat → Option Addr) (cv : Nat → Nat) (aI : Nat → Option Addr) (cI : Nat → Nat) (avI : Nat → Nat → Option Addr) (cvI : Nat → Nat → Nat) (w : World)
    (hR : IsRows w ab base av cv) (hI : IsItems w ai items aI cI avI cvI) :
    Calls Try.prog 8 #[.int .i64 vars, .slice ab base.length cb, .slice ai items.length ci] w fun e w' => e = .returned (.bool true) ∧ Below w.heap.size w w' := by
  have HRt : Hid (∀ w', Below w.heap.size w w' → Calls Try.prog 15 #[.int .i64 vars, .slice ab base.length cb, .slice ai items.length ci] w' fun e w'' => e = .returned (.bool (rightE vars base items)) ∧ w' = w'') := Lib.hid fun w' hb => right_any vars base items ab ai cb ci av cv aI cI avI cvI w' (hR.below hb) (hI.below hb)
  cases hr : rightE vars base items with
  | false =>
    rw [hr] at HRt
    clear hR hI hr
    go_enter Try.func8, Try.ntmps8
    go_wp2_with (first
      | (go_at_call 15; (with_reducible refine (HRt.out _ hb1).mono ?_); rintro e w2 ⟨rfl, rfl⟩; have Hd := Lib.hid hb1; clear hb1)
      | (go_at_call 10; (with_reducible refine (awake_any _).mono ?_); rintro e w1 ⟨rfl, hb1⟩)
      | fail)
    go_ret
    exact ⟨rfl, bel_trans Hd.out hb1⟩
  | true =>
    obtain ⟨n, rfl, hf⟩ := right_yes hr
    rw [hr] at HRt
    have hok := hf.ok
    have hil : items.length ≤ 24 := hf.il
    obtain ⟨hu1, hu2⟩ := used_enough hf.known hok.n12 (by omega)
    obtain ⟨E, hE⟩ : ∃ E, E = enoughM items.length n := ⟨_, rfl⟩
    rw [← hE] at hu1 hu2
    obtain ⟨hy1, hy2⟩ := least_full hf.known hu1
    have HEn : Hid (∀ w', Calls Try.prog 19 #[.int .i64 items.length, .int .i64 n] w' fun e w'' => e = .returned (.int .i64 E) ∧ w' = w'') := Lib.hid fun w' => by
      have h := menough_any items.length n (by omega) (by have := hf.n9; omega) w'
      rw [Int.toNat_natCast, Int.toNat_natCast, ← hE] at h
      exact h
    have HLe : Hid (∀ w', Below w.heap.size w w' → Calls Try.prog 12 #[.int .i64 n, .slice ab base.length cb, .slice ai items.length ci, .int .i64 E] w' (GotAt w' (leastE n base items E).l.length (leastE n base items E).l (leastE n base items E).e E)) := Lib.hid fun w' hb => (least_good hok hf.known (hR.below hb) (hI.below hb) E ⟨by omega, hu2⟩).mono fun e w'' h => got_of (by
      cases hy : (solveE n (allE base items (everyS items))).yes with
      | true => exact (hy1 hy).2.2
      | false => exact (hy2 hy).2.2) h
    have hcase : ((leastE n base items E).l.length = 0 ∧ (leastE n base items E).e = 5 ∧ (solveE n (allE base items (everyS items))).yes = true) ∨ ((leastE n base items E).l = natsE (kept n base items) ∧ (leastE n base items E).e = 0 ∧ (solveE n (allE base items (everyS items))).yes = false) := by
      cases hy : (solveE n (allE base items (everyS items))).yes with
      | true => exact .inl ⟨by rw [(hy1 hy).1]; rfl, (hy1 hy).2.1, rfl⟩
      | false => exact .inr ⟨(hy2 hy).1, (hy2 hy).2.1, rfl⟩
    have HNo : Hid (∀ (l : List Nat) (but : Int) (w' : World) a c, Below w.heap.size w w' → Ints w' a (natsE l) → (∀ x ∈ l, x < items.length) → l.length ≤ items.length → Calls Try.prog 16 #[.int .i64 n, .slice ab base.length cb, .slice ai items.length ci, .slice a l.length c, .int .i64 but] w' fun e w'' => e = .returned (.bool (noB n base (pickI items l) (butS but))) ∧ Below w'.heap.size w' w'') := Lib.hid fun l but w' a c hb hi hl hll => nolaw_any n base items l but ab ai a cb ci c av cv aI cI avI cvI w' (hR.below hb) (hI.below hb) hi hl (by omega) (by omega) hf.known (it_ok (M := 20) hok.n12 (by rw [pickI_len]; omega) (by rw [pickI_len]; have := hf.bl; omega) (fun c hc => Nat.le_trans (hf.br c hc) (by decide)) fun it hit => by
      have h1 := hf.ir it (pickI_mem hl it hit)
      exact ⟨h1.1, fun c hc => Nat.le_trans (h1.2 c hc) (by decide)⟩)
    generalize leastE n base items E = o at *
    obtain ⟨L, S, r⟩ := o
    simp only at HLe hcase
    obtain ⟨m, hm⟩ : ∃ m, m = L.length := ⟨_, rfl⟩
    rw [← hm] at HLe
    have HM := Lib.hid hm
    have HCase := Lib.hid hcase
    have HKn := Lib.hid hf.known
    unfold GotAt at HLe
    obtain ⟨i3, hi3, hz0, hz1, hz2⟩ := info_parts (P := Try.prog) (e := 3) (z := .int .i64 0) (size := 1) (bytes := 8) (by kernel_rfl)
    clear hR hI hr hok hu1 hu2 hE hy1 hy2 hcase hm hf
    go_enter Try.func8, Try.ntmps8
    go_upto_region 4 with (first
      | (go_at_call 15; (with_reducible refine (HRt.out _ hb1).mono ?_); rintro e w2 ⟨rfl, rfl⟩)
      | (go_at_call 10; (with_reducible refine (awake_any _).mono ?_); rintro e w1 ⟨rfl, hb1⟩)
      | (go_at_call 19; (with_reducible refine (HEn.out _).mono ?_); rintro e w2 ⟨rfl, rfl⟩)
      | (go_at_call 12; (with_reducible refine (HLe.out _ hb1).mono ?_); rintro e w2 ⟨hb2, a2, c2, s2, hs0, hs2, rfl, hi2⟩)
      | fail)
    have HB2 := Lib.hid (bel_trans hb1 hb2)
    have HI2 := Lib.hid hi2
    clear hb1 hb2 hi2 HLe HRt
    go_wp2_with fail
    go_loopw [10, 11] (fun s i wr => ∃ (k c : Nat) (a : Option Addr), k ≤ items.length ∧ i = .int .i64 k ∧ s = .slice a k c ∧ Hid (KeptAt w2 wr a k c (List.range k)) ∧ Hid (Below w2.heap.size w2 wr)) (fun _ i _ => items.length - (intOf i).toNat)
    case atStart => exact ⟨0, 0, none, by omega, rfl, rfl, Lib.hid ⟨rfl, Own.nil _ _ _, fun k hk => by simp [Value.ownBlock] at hk⟩, Lib.hid (Below.refl _ _)⟩
    case round =>
      obtain ⟨k, c, a, hk, rfl, rfl, HK, HBr⟩ := hrel
      by_cases hlt : k < items.length
      · have hki : (k : Int) < (items.length : Int) := by omega
        have HO1 := Lib.hid (HK.out.own.alloc (.cells #[.int .i64 (k : Int)] 3))
        have hone := in_one ((List.range k).map fun i : Nat => (i : Int))
        go_wp2_with (first
          | (at_builtin; go_loud (refine wpList_append_S _ rfl (.tmp 42) (.tmp 44) _ _ rfl 3 i3 _ 1 8 Try.underlying26 hi3 hz0 hz1 hz2 rfl (by omega) (.slice a k c) k (inC ((List.range k).map fun i : Nat => (i : Int))) rfl HO1.out hone _ 1 [.int .i64 (k : Int)] rfl (src_new wr Try.underlying26 3 _ rfl) (by simp only [maxLen]; omega) (by omega) ?_); intro ao2 cap2 w9 hn9 hm9 hown9 hg9 hat9 hlt9
             have HK9 := Lib.hid (HK.out.snoc HBr.out hg9 hat9 hown9)
             have HB9 := Lib.hid (out_snoc HBr.out HK.out.new hg9 hat9).2
             clear hg9 hat9 hlt9 hn9 hm9 hown9)
          | fail)
        go_roundw
        case rel => exact ⟨k + 1, cap2, ao2, by omega, by go_num, rfl, by rw [List.range_succ]; exact HK9, HB9⟩
        case measure => simp [intOf]; omega
      · obtain rfl : k = items.length := by omega
        have HBx := Lib.hid (bel_trans HB2.out HBr.out)
        have HI3 := Lib.hid (HI2.out.below HBr.out)
        have HKi := Lib.hid HK.out.ints
        clear HK HI2
        rcases HCase.out with ⟨hm0, rfl, hy⟩ | ⟨rfl, rfl, hy⟩
        · obtain rfl : m = 0 := by rw [HM.out]; exact hm0
          have hno := HNo.out (List.range items.length) (-1) wr a c HBx.out HKi.out (fun x hx => List.mem_range.1 hx) (by simp)
          rw [every_no HKn.out, hy, List.length_range] at hno
          have HNo1 := Lib.hid hno
          clear hno hy hm0
          go_wp2_with (first
            | (go_at_call 16; (with_reducible refine HNo1.out.mono ?_); rintro e w4 ⟨rfl, hb4⟩)
            | fail)
          go_ret
          exact ⟨rfl, bel_trans HBx.out hb4⟩
        · obtain ⟨q, hq⟩ : ∃ q, q = kept n base items := ⟨_, rfl⟩
          have hql : m = q.length := by rw [HM.out, natsE_len, hq]
          have hqr : q.Pairwise (· < ·) := by rw [hq]; exact kept_rise
          have hqlt : ∀ x ∈ q, x < items.length := by rw [hq]; exact kept_lt
          have hqn : q.length ≤ items.length := by rw [hq]; exact kept_len
          rw [← hq] at HI3
          obtain ⟨w3, rfl⟩ : ∃ w3, w3 = wr := ⟨_, rfl⟩
          have HNo1 : Hid (∀ w', Below w3.heap.size w3 w' → Calls Try.prog 16 #[.int .i64 n, .slice ab base.length cb, .slice ai items.length ci, .slice a2 m c2, .int .i64 (-1)] w' fun e w'' => e = .returned (.bool true) ∧ Below w'.heap.size w' w'') := Lib.hid fun w' hb => by
            have h := HNo.out q (-1) w' a2 c2 (bel_trans HBx.out hb) (HI3.out.below hb) hqlt hqn
            rw [hq, kept_no HKn.out hy, ← hq, ← hql] at h
            exact h
          have HNo2 : Hid (∀ w' (k : Nat), k < q.length → Below w3.heap.size w3 w' → Calls Try.prog 16 #[.int .i64 n, .slice ab base.length cb, .slice ai items.length ci, .slice a2 m c2, .int .i64 k] w' fun e w'' => e = .returned (.bool false) ∧ Below w'.heap.size w' w'') := Lib.hid fun w' k hk hb => by
            have h := HNo.out q k w' a2 c2 (bel_trans HBx.out hb) (HI3.out.below hb) hqlt hqn
            rw [hq, kept_least HKn.out (by rw [← hq]; exact hk), ← hq, ← hql] at h
            exact h
          have hsE : decide (E < s2) = false := by simp; exact hs2
          have HQr := Lib.hid hqr
          have HQlt := Lib.hid hqlt
          have hqm : m ≤ items.length := by omega
          have HQl := Lib.hid hql
          clear hqr hqlt hql hq hy HCase HNo HM
          go_wp2_with (first
            | (go_at_call 19; (with_reducible refine (HEn.out _).mono ?_); rintro e w4 ⟨rfl, rfl⟩)
            | fail)
          go_loopw [12] (fun i wr => ∃ j : Nat, j ≤ m ∧ i = .int .i64 j ∧ Hid (Below w3.heap.size w3 wr)) (fun i _ => m - (intOf i).toNat)
          case atStart => exact ⟨0, by omega, rfl, Lib.hid (Below.refl _ _)⟩
          case round =>
            obtain ⟨j, hj, rfl, HBj⟩ := hrel
            by_cases hjt : j < m
            · have hji : (j : Int) < (m : Int) := by omega
              have hjq : j < q.length := by rw [← HQl.out]; exact hjt
              obtain ⟨bl, ol, rfl, hlc⟩ := nats_cell (HI3.out.below HBj.out) hjq
              have hxl := HQlt.out _ (List.getElem_mem hjq)
              have hcj := hlc j hjq
              have hprev : decide ((0 : Int) < (j : Int)) = false ∨ (decide ((0 : Int) < (j : Int)) = true ∧ ∃ (j1 y : Nat), (j1 : Int) < (m : Int) ∧ IntKind.i64.wrap ((j : Int) - 1) = (j1 : Int) ∧ wr.cell? ⟨bl, ol + j1, none⟩ = some (.int .i64 (y : Int)) ∧ y < q[j]) := by
                by_cases h0 : j = 0
                · exact .inl (by rw [h0]; rfl)
                · exact .inr ⟨by simp; omega, j - 1, q[j - 1], by omega, by rw [IntKind.wrap_i64]; omega, hlc (j - 1) (by omega), List.pairwise_iff_getElem.1 HQr.out (j - 1) j (by omega) hjq (by omega)⟩
              generalize q[j] = x at *
              have hd1 : decide ((x : Int) < 0) = false := by simp
              have hd2 : decide ((items.length : Int) ≤ (x : Int)) = false := by simp; omega
              have hd3 : decide (items.length ≤ x) = false := by simp; omega
              clear hlc hxl hjq
              rcases hprev with hz | ⟨hz, j1, y, hj1, hwj, hcy, hyt⟩
              · have hz2 : decide (0 < j) = false := by
                  rw [← hz]
                  exact decide_eq_decide.2 (by omega)
                go_upto_region 16 with fail
                go_quiet (fail)
                go_wp2_with fail
                go_roundw
                case rel => exact ⟨j + 1, by omega, by go_num, Lib.hid (bel_drewN HBj.out _)⟩
                case measure => simp [intOf]; omega
              · have hz2 : decide (0 < j) = true := by
                  rw [← hz]
                  exact decide_eq_decide.2 (by omega)
                have hyd : decide ((x : Int) ≤ (y : Int)) = false := by simp; omega
                have hyd2 : decide (x ≤ y) = false := by simp; omega
                clear hyt
                go_upto_region 16 with fail
                go_quiet (fail)
                go_wp2_with fail
                go_roundw
                case rel => exact ⟨j + 1, by omega, by go_num, Lib.hid (bel_drewN HBj.out _)⟩
                case measure => simp [intOf]; omega
            · obtain rfl : j = m := by omega
              have HNo3 := Lib.hid (HNo1.out wr HBj.out)
              go_wp2_with (first
                | (go_at_call 16; (with_reducible refine HNo3.out.mono ?_); rintro e w5 ⟨rfl, hb5⟩; have HB5 := Lib.hid (bel_new HBj.out HBj.out.size hb5); clear hb5)
                | fail)
              go_loopw [13] (fun i wr => ∃ k : Nat, k ≤ j ∧ i = .int .i64 k ∧ Hid (Below w3.heap.size w3 wr)) (fun i _ => j - (intOf i).toNat)
              case atStart => exact ⟨0, by omega, rfl, HB5⟩
              case round =>
                obtain ⟨k, hk, rfl, HBk⟩ := hrel
                by_cases hkt : k < j
                · have hki : (k : Int) < (j : Int) := by omega
                  have HNk := Lib.hid (HNo2.out wr k (by rw [← HQl.out]; exact hkt) HBk.out)
                  go_wp2_with (first
                    | (go_at_call 16; (with_reducible refine HNk.out.mono ?_); rintro e w6 ⟨rfl, hb6⟩)
                    | fail)
                  go_roundw
                  case rel => exact ⟨k + 1, by omega, by go_num, Lib.hid (bel_new HBk.out HBk.out.size hb6)⟩
                  case measure => simp [intOf]; omega
                · obtain rfl : k = j := by omega
                  go_wp2_with fail
                  go_ret
                  exact ⟨rfl, bel_trans HBx.out HBk.out⟩

end Go.Proofs.Ythinopiobihmaaa
