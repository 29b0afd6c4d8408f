/- Arguments of the learn laws opened: [][]int, []Step, []int; large. -/
import Derived.Test.YthfmlmodpcikcaaU11
import Derived.Deep.Matrix
namespace Go.Proofs.Ythfmlmodpcikcaa
open Go.ChangeShapes Go.WideShapes Go.ChangeAt Go.RowKit Go.Maps Go.Deep
set_option maxRecDepth 100000

theorem wf_i64b {n : Int} (h : (Lit.int .i64 n).wf = true) : -9223372036854775808 ≤ n ∧ n ≤ 9223372036854775807 := by
  simp [Lit.wf, IntKind.min, IntKind.max, IntKind.signed, IntKind.bits] at h
  omega
theorem list_of {α : Type} (n : Nat) (Q : Nat → α → Prop) (h : ∀ i, i < n → ∃ a, Q i a) : ∃ l : List α, l.length = n ∧ ∀ i (hi : i < l.length), Q i l[i] := by
  induction n with
  | zero => exact ⟨[], rfl, fun i hi => by simp at hi⟩
  | succ n ih =>
    obtain ⟨l, hl, hq⟩ := ih fun i hi => h i (by omega)
    obtain ⟨a, ha⟩ := h n (by omega)
    refine ⟨l ++ [a], by simp [hl], fun i hi => ?_⟩
    by_cases hin : i < l.length
    · rw [List.getElem_append_left hin]
      exact hq i hin
    · have : i = l.length := by simp at hi; omega
      subst this
      simp [hl]
      exact ha

theorem steps2_of {H : Type} {enc : TypeId × Value → H} (W : World) (v : Value) (d : DataW H) (p : List MemPlace) (hval : Value.okWide Try.prog W .any 0 29 v) (h : DataW.Trod enc Try.prog W 0 (fun _ => true) true 29 v d p) :
    ∃ ao l cap b off, v = .slice ao (List.length l) cap ∧ IsSteps2 W W.heap.size ao b off l ∧ (l.length : Int) ≤ 9223372036854775807 := by
  obtain ⟨ao, len, cap, rfl⟩ := okWide_slice Try.underlying29 hval
  obtain ⟨fuel, hf⟩ := h
  have hf' : DataW.trod enc Try.prog W 0 (fun _ => true) true fuel 29 [.slice ao len cap] = some (d, p) := by simpa [Value.cells] using hf
  rcases open_struct_slice Try.underlying29 Try.underlying28 (by kernel_rfl) (by kernel_rfl) hf' with ⟨hcs, hx⟩ | ⟨a, len', cap', m, D, Pl, hcs, _, hlc, hcm, hm, hx, hi⟩
  · simp only [List.cons.injEq, Value.slice.injEq, and_true] at hcs
    obtain ⟨rfl, rfl, rfl⟩ := hcs
    exact ⟨none, [], 0, 0, 0, rfl, ⟨fun h => absurd h (by simp), fun i h => absurd h (by simp), fun i h => absurd h (by simp), fun i h => absurd h (by simp)⟩, by simp⟩
  · simp only [List.cons.injEq, Value.slice.injEq, and_true] at hcs
    obtain ⟨rfl, rfl, rfl⟩ := hcs
    simp only [if_true] at hm
    subst hm
    have hlen : (len : Int) ≤ 9223372036854775807 := by unfold maxLen at hcm; omega
    obtain ⟨l, hl, hq⟩ := list_of len (fun i (x : Step2D) => (I64 x.lit ∧ I64 x.reason) ∧ W.cell? (a.add (i * 2 + 0)) = some (.int .i64 x.lit) ∧ W.cell? (a.add (i * 2 + 1)) = some (.int .i64 x.reason)) (fun i hi' => by
      obtain ⟨ys, n, hD, _, hyl, hfl⟩ := hi i (by omega)
      obtain ⟨v1, y1, c1, hy1, t1⟩ := hfl 0 _ rfl
      obtain ⟨v2, y2, c2, hy2, t2⟩ := hfl 1 _ rfl
      obtain ⟨x1, e1, rfl, w1⟩ := DataW.trod_int Try.underlying3 t1
      obtain ⟨x2, e2, rfl, w2⟩ := DataW.trod_int Try.underlying3 t2
      simp only [List.cons.injEq, and_true] at e1 e2
      subst e1 e2
      exact ⟨⟨x1, x2⟩, ⟨wf_i64b w1, wf_i64b w2⟩, c1, c2⟩)
    subst hl
    rcases Nat.eq_zero_or_pos l.length with h0 | h0
    · exact ⟨some a, l, _, 0, 0, rfl, ⟨fun h => absurd h (by omega), fun i h => absurd h (by omega), fun i h => absurd h (by omega), fun i h => absurd h (by omega)⟩, hlen⟩
    · obtain ⟨b, off, rfl, hb⟩ := addr_of_cell (w := W) (a := a) (hq 0 h0).2.1
      simp only [add_plain] at hq
      exact ⟨_, l, _, b, off, rfl, ⟨fun _ => ⟨rfl, hb⟩, fun i h => (hq i h).1, fun i h => (hq i h).2.1, fun i h => by rw [Nat.add_assoc]; exact (hq i h).2.2⟩, hlen⟩

theorem getD_take {l : List Int} {n k : Nat} (h : k < n) (hl : n ≤ l.length) : l.getD k 0 = (l.take n)[k]'(by simp; omega) := by
  have h2 : k < l.length := by omega
  simp [List.getD, h2]

/-- Rows of numbers that came in. -/
theorem cls_of {H : Type} {enc : TypeId × Value → H} (W : World) (v : Value) (d : DataW H) (p : List MemPlace) (hval : Value.okWide Try.prog W .any 0 31 v) (h : DataW.Trod enc Try.prog W 0 (fun _ => true) true 31 v d p) (hfit : Fit Try.prog 31 d) :
    ∃ ao cls cap, v = .slice ao (List.length cls) cap ∧ IsCls W ao cls ∧ cls.length ≤ 9223372036854775807 ∧ (∀ c ∈ cls, c.length ≤ 140737488351232) ∧ ∀ c ∈ cls, ∀ x ∈ c, I64 x := by
  obtain ⟨ao, len, cap, rfl⟩ := okWide_slice Try.underlying31 hval
  obtain ⟨fuel, hf⟩ := h
  have hf' : DataW.trod enc Try.prog W 0 (fun _ => true) true fuel 31 [.slice ao len cap] = some (d, p) := by simpa [Value.cells] using hf
  rcases open_int_rows Try.underlying31 Try.underlying30 Try.underlying3 (by kernel_rfl) (by kernel_rfl) hf' with ⟨hcs, hx⟩ | ⟨a, len', cap', A, L, C, Z, hcs, _, hlc, hcm, hx, hi⟩
  · simp only [List.cons.injEq, Value.slice.injEq, and_true] at hcs
    obtain ⟨rfl, rfl, rfl⟩ := hcs
    exact ⟨none, [], 0, rfl, fun h => absurd h (by simp), by simp, fun c hc => by simp at hc, fun c hc => by simp at hc⟩
  · simp only [List.cons.injEq, Value.slice.injEq, and_true] at hcs
    obtain ⟨rfl, rfl, rfl⟩ := hcs
    have hlen : len ≤ 9223372036854775807 := by unfold maxLen at hcm; omega
    simp only [Prod.mk.injEq] at hx
    obtain ⟨hd, _⟩ := hx
    rw [hd] at hfit
    have hb8 : Try.prog.bytesOf 3 = 8 := by kernel_rfl
    have hfe := (hfit.slice Try.underlying31).2
    refine ⟨some a, (List.range len).map (fun r => (Z r).take (L r)), cap, by simp, fun h0 => ?_, by simpa using hlen, fun c hc => ?_, fun c hc x hx => ?_⟩
    · have h0' : 0 < len := by simpa using h0
      have hc0 := (hi 0 (by omega)).1
      obtain ⟨b, off, rfl, hb⟩ := addr_of_cell (w := W) (a := a) hc0
      simp only [add_plain] at hi
      refine ⟨b, off, rfl, hb, fun j hj => ?_⟩
      have hj' : j < len := by simpa using hj
      obtain ⟨k1, k2, k3, k4, _, k6, k7⟩ := hi j (by omega)
      have hcl : ((Z j).take (L j)).length = L j := by rw [List.length_take]; omega
      refine ⟨A j, C j, ?_, fun hp => ?_⟩
      · simp only [List.getElem_map, List.getElem_range, hcl]
        exact k1
      · simp only [List.getElem_map, List.getElem_range, hcl] at hp ⊢
        cases hA : A j with
        | none => have := k6 hA; omega
        | some a' =>
          obtain ⟨_, h8⟩ := k7 a' hA
          obtain ⟨b', off', rfl, hb'⟩ := addr_of_cell (w := W) (a := a') (h8 0 (by omega))
          refine ⟨b', off', rfl, hb', fun k hk => ?_⟩
          have h9 := h8 k (by omega)
          rw [add_plain] at h9
          rw [h9, getD_take (n := L j) hk (by omega)]
    · obtain ⟨r, hr, rfl⟩ := List.mem_map.1 hc
      have hrl := List.mem_range.1 hr
      obtain ⟨_, k2, _, k4, _, k6, _⟩ := hi r (by omega)
      have hf := hfe _ (List.mem_map.2 ⟨r, hr, rfl⟩)
      rw [List.length_take]
      cases hA : A r with
      | none => have := k6 hA; omega
      | some a' =>
        rw [hA] at hf
        have h5 := (Fit.slice (elems := lits .i64 ((Z r).take (L r))) (spare := lits .i64 ((Z r).drop (L r))) hf Try.underlying30).1
        rw [hb8] at h5
        simp only [lits, List.length_map, List.length_take, List.length_drop, reachBytes] at h5
        omega
    · obtain ⟨r, hr, rfl⟩ := List.mem_map.1 hc
      have := hi r (by have := List.mem_range.1 hr; omega)
      exact wf_i64b (this.2.2.2.2.1 x (List.mem_of_mem_take hx))

theorem ints_of {H : Type} {enc : TypeId × Value → H} (W : World) (v : Value) (d : DataW H) (p : List MemPlace) (hval : Value.okWide Try.prog W .any 0 30 v) (h : DataW.Trod enc Try.prog W 0 (fun _ => true) true 30 v d p) :
    ∃ ao l cap, v = .slice ao (List.length l) cap ∧ Ints W ao l ∧ l.length ≤ 9223372036854775807 ∧ ∀ x ∈ l, I64 x := by
  obtain ⟨ao, len, cap, rfl⟩ := okWide_slice Try.underlying30 hval
  obtain ⟨fuel, hf⟩ := h
  have hf' : DataW.trod enc Try.prog W 0 (fun _ => true) true fuel 30 [.slice ao len cap] = some (d, p) := by simpa [Value.cells] using hf
  rcases open_ints Try.underlying30 Try.underlying3 (by kernel_rfl) hf' with ⟨hcs, hx⟩ | ⟨a, len', cap', zs, hcs, _, hlc, hcm, hz, hx, hi, hwf⟩
  · simp only [List.cons.injEq, Value.slice.injEq, and_true] at hcs
    obtain ⟨rfl, rfl, rfl⟩ := hcs
    exact ⟨none, [], 0, rfl, fun h => absurd h (by simp), by simp, fun c hc => by simp at hc⟩
  · simp only [List.cons.injEq, Value.slice.injEq, and_true] at hcs
    obtain ⟨rfl, rfl, rfl⟩ := hcs
    simp only [if_true] at hz
    have hlen : len ≤ 9223372036854775807 := by unfold maxLen at hcm; omega
    have hcl : (zs.take len).length = len := by rw [List.length_take]; omega
    refine ⟨_, zs.take len, cap, by rw [hcl], fun h0 => ?_, by omega, fun x hx => wf_i64b (hwf x (List.mem_of_mem_take hx))⟩
    obtain ⟨b, off, rfl, hb⟩ := addr_of_cell (w := W) (a := a) (hi 0 (by omega))
    refine ⟨b, off, rfl, hb, fun k hk => ?_⟩
    have h9 := hi k (by omega)
    rw [add_plain] at h9
    rw [h9, getD_take (n := len) (by omega) (by omega)]

/-! ### large -/
def cntL : List (List Int) → Nat → Nat
  | [], n => n
  | c :: cs, n => if n < 600 then cntL cs (n + 1 + c.length) else n
theorem cntL_ge : ∀ (cs : List (List Int)) (n : Nat), n ≤ cntL cs n
  | [], n => Nat.le_refl _
  | c :: cs, n => by
    unfold cntL
    split
    · have := cntL_ge cs (n + 1 + c.length); omega
    · exact Nat.le_refl _
theorem cntL_small : ∀ (cs : List (List Int)) (n : Nat), cntL cs n < 600 → cs.length ≤ 600 - n ∧ ∀ c ∈ cs, c.length ≤ 600
  | [], n, _ => ⟨by simp, fun c hc => by cases hc⟩
  | c :: cs, n, h => by
    unfold cntL at h
    split at h
    · obtain ⟨h1, h2⟩ := cntL_small cs _ h
      have h3 := cntL_ge cs (n + 1 + c.length)
      refine ⟨by simp; omega, fun d hd => ?_⟩
      rcases List.mem_cons.1 hd with rfl | hd
      · omega
      · exact h2 d hd
    · omega

def largeB (cls : List (List Int)) (m : Nat) : Bool := decide (600 ≤ cntL cls 0) || decide (60 < m)

theorem large_any (cls : List (List Int)) (ao so : Option Addr) (cap m sc : Nat) (w : World) (hc : IsCls w ao cls) (hl : cls.length ≤ 9223372036854775807) (hl2 : ∀ c ∈ cls, c.length ≤ 140737488351232) :
    Calls Try.prog 11 #[.slice ao cls.length cap, .slice so m sc] w fun e w' => e = .returned (.bool (largeB cls m)) ∧ w = w' := by
  obtain ⟨T, hT⟩ : ∃ T, T = cntL cls 0 := ⟨_, rfl⟩
  unfold largeB
  rw [← hT]
  have HT := Lib.hid hT
  have HC := Lib.hid hc
  have HL := Lib.hid hl2
  clear hT hc hl2
  go_enter Try.func11, Try.ntmps11
  go_wp2_with fail
  go_loop [5, 6] (fun a i => ∃ n k : Nat, k ≤ cls.length ∧ n ≤ 140737488355328 ∧ a = .int .i64 n ∧ i = .int .i64 k ∧ T = cntL (cls.drop k) n) (fun _ i => cls.length - (intOf i).toNat)
  case atStart => exact ⟨0, 0, by omega, by omega, rfl, rfl, HT.out⟩
  case round =>
    obtain ⟨n, k, hk, hn, rfl, rfl, hrest⟩ := hrel
    by_cases hlt : k < cls.length
    · have hki : (k : Int) < (cls.length : Int) := by omega
      rw [List.drop_eq_getElem_cons hlt] at hrest
      unfold cntL at hrest
      by_cases hn6 : n < 600
      · obtain ⟨b, off, rfl, _, hcell⟩ := HC.out (by omega)
        obtain ⟨ao', cap', hck, _⟩ := hcell k hlt
        have hcl := HL.out cls[k] (List.getElem_mem _)
        rw [if_pos hn6] at hrest
        have hn6i : (n : Int) < 600 := by omega
        generalize cls[k] = c at *
        have HR := Lib.hid hrest
        clear hcell hrest
        go_wp2_with fail
        go_round
        case rel => exact ⟨n + 1 + c.length, k + 1, by omega, by omega, by go_num, by go_num, HR.out⟩
        case measure => simp [intOf]; omega
      · rw [if_neg hn6] at hrest
        obtain rfl : n = T := hrest.symm
        have hn6i : ¬ (n : Int) < 600 := by omega
        have hn7 : decide ((n : Int) < 600) = false := by simpa using hn6i
        have hn8 : (600 : Int) ≤ (n : Int) := by omega
        have hd : (decide (600 ≤ n) || decide (60 < m)) = true := by simp; omega
        have HD := Lib.hid hd
        clear hd
        go_wp2_with fail
        go_ret
        exact ⟨congrArg (fun b => Ending.returned (.bool b)) HD.out.symm, rfl⟩
    · obtain rfl : k = cls.length := by omega
      rw [List.drop_length] at hrest
      unfold cntL at hrest
      obtain rfl : n = T := hrest.symm
      by_cases hn6 : 600 ≤ n
      · have hn8 : (600 : Int) ≤ (n : Int) := by omega
        go_wp2_with fail
        go_ret
        exact ⟨rfl, rfl⟩
      · have hn8 : decide ((600 : Int) ≤ (n : Int)) = false := by simp; omega
        go_wp2_with fail
        go_ret
        exact ⟨congrArg (fun b => Ending.returned (.bool b)) (by simp only [decide_eq_decide]; omega), rfl⟩

theorem large_no {cls : List (List Int)} {m : Nat} (h : largeB cls m = false) : cls.length ≤ 600 ∧ (∀ c ∈ cls, c.length ≤ 600) ∧ m ≤ 60 := by
  unfold largeB at h
  simp only [Bool.or_eq_false_iff, decide_eq_false_iff_not] at h
  obtain ⟨h1, h2⟩ := cntL_small cls 0 (by omega)
  exact ⟨by omega, h2, by omega⟩

end Go.Proofs.Ythfmlmodpcikcaa
