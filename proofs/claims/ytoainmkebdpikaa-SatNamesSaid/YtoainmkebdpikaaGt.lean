/- Clauses in other rows: plain, and in memory. -/
import Derived.Test.YtoainmkebdpikaaGs
namespace Go.Proofs.Ytoainmkebdpikaa
open Go.ChangeShapes Go.WideShapes Go.ChangeAt Go.RowKit Go.Maps Go.Deep
set_option maxRecDepth 100000

/-! ### Plain -/
theorem holdsCl_sub {st : List Bool} {X Y : List (List Int)} (h : ∀ c ∈ Y, c ∈ X) (hX : holdsCl st X = true) : holdsCl st Y = true := by
  unfold holdsCl at *
  rw [List.all_eq_true] at *
  exact fun c hc => hX c (h c hc)
theorem known_sub {n : Nat} {X Y : List (List Int)} (h : ∀ c ∈ Y, c ∈ X) (hX : X.all (knownS n) = true) : Y.all (knownS n) = true := by
  rw [List.all_eq_true] at *
  exact fun c hc => hX c (h c hc)
theorem yes_sub {n : Nat} {X Y : List (List Int)} (hX : X.all (knownS n) = true) (h : ∀ c ∈ Y, c ∈ X) (hy : (solveE n X).yes = true) : (solveE n Y).yes = true := by
  obtain ⟨st, hl, hs⟩ := (solve_yes hX).1 hy
  exact (solve_yes (known_sub h hX)).2 ⟨st, hl, holdsCl_sub h hs⟩
theorem yes_same {n : Nat} {X Y : List (List Int)} (hX : X.all (knownS n) = true) (h : ∀ c, c ∈ Y ↔ c ∈ X) : (solveE n Y).yes = (solveE n X).yes := by
  cases h1 : (solveE n X).yes with
  | true => exact yes_sub hX (fun c hc => (h c).1 hc) h1
  | false =>
    cases h2 : (solveE n Y).yes with
    | false => rfl
    | true =>
      have := yes_sub (known_sub (fun c hc => (h c).1 hc) hX) (fun c hc => (h c).2 hc) h2
      rw [h1] at this
      cases this
theorem yes_state {n : Nat} {X : List (List Int)} (hX : X.all (knownS n) = true) (hy : (solveE n X).yes = true) : (solveE n X).state.length = n ∧ holdsCl (solveE n X).state X = true := by
  obtain ⟨y1, y2, _⟩ := (solve_ok n X (List.all_eq_true.1 hX)).2.yes hy
  exact ⟨y1, (holdsCl_iff (by rw [y1]; exact hX)).2 y2⟩
theorem yes_with {n : Nat} {X : List (List Int)} {x : Int} (hX : X.all (knownS n) = true) (hx : 1 ≤ x.natAbs ∧ x.natAbs ≤ n) (hy : (solveE n X).yes = true) (ht : trueE (solveE n X).state x = true) :
    (X ++ [[x]]).all (knownS n) = true ∧ (solveE n (X ++ [[x]])).yes = true ∧ (solveE n (X ++ [[x]])).state.length = n ∧ trueE (solveE n (X ++ [[x]])).state x = true := by
  have hk : (X ++ [[x]]).all (knownS n) = true := by
    rw [List.all_append, hX]
    simp only [List.all_cons, List.all_nil, knownS, Bool.true_and, Bool.and_true]
    exact decide_eq_true hx
  obtain ⟨y1, y2⟩ := yes_state hX hy
  have hy2 : (solveE n (X ++ [[x]])).yes = true := (solve_yes hk).2 ⟨_, y1, by
    unfold holdsCl at *
    rw [List.all_append, y2]
    simp [holdsC, ht]⟩
  obtain ⟨y3, y4⟩ := yes_state hk hy2
  refine ⟨hk, hy2, y3, ?_⟩
  have := List.all_eq_true.1 y4 [x] (by simp)
  simpa [holdsC] using this
theorem good_all {n : Nat} (hn : n ≤ 12) {X : List (List Int)} (hm : X.length ≤ 1000) (hl : ∀ c ∈ X, c.length ≤ 40) (hk : X.all (knownS n) = true) : GoodAll n (enoughE n) X (solveE n X) := fun w' ao cap av cv hc =>
  solve_good hn hc hm hl hk _ ⟨by rcases solve_steps n hk with h | h <;> omega, (enough_bounds n hn).2⟩

/-! ### Rows -/
theorem RowsV.append {w : World} {v1 v2 : List Value} {c1 c2 : List (List Int)} (h1 : RowsV w v1 c1) (h2 : RowsV w v2 c2) : RowsV w (v1 ++ v2) (c1 ++ c2) := by
  refine ⟨by simp [h1.1, h2.1], fun j hj => ?_⟩
  by_cases hjl : j < c1.length
  · rw [List.getElem?_append_left (by rw [h1.1]; exact hjl), List.getElem_append_left hjl]
    exact h1.2 j hjl
  · rw [List.getElem?_append_right (by rw [h1.1]; omega), List.getElem_append_right (by omega), h1.1]
    exact h2.2 (j - c1.length) (by simp at hj; omega)
theorem RowsV.take {w : World} {v : List Value} {c : List (List Int)} (h : RowsV w v c) (k : Nat) : RowsV w (v.take k) (c.take k) := by
  refine ⟨by simp [h.1], fun j hj => ?_⟩
  rw [List.length_take] at hj
  rw [List.getElem_take, List.getElem?_take_of_lt (by omega)]
  exact h.2 j (by omega)
theorem RowsV.drop {w : World} {v : List Value} {c : List (List Int)} (h : RowsV w v c) (k : Nat) : RowsV w (v.drop k) (c.drop k) := by
  refine ⟨by simp [h.1], fun j hj => ?_⟩
  rw [List.length_drop] at hj
  rw [List.getElem_drop, List.getElem?_drop]
  exact h.2 (k + j) (by omega)
theorem RowsV.rev {w : World} {v : List Value} {c : List (List Int)} (h : RowsV w v c) : RowsV w v.reverse c.reverse := by
  refine ⟨by simp [h.1], fun j hj => ?_⟩
  rw [List.length_reverse] at hj
  rw [List.getElem_reverse, List.getElem?_reverse (by rw [h.1]; exact hj), h.1]
  exact h.2 (c.length - 1 - j) (by omega)
theorem vals_get {cl : List (List Int)} {av : Nat → Option Addr} {cv : Nat → Nat} {k : Nat} (h : k < cl.length) : (rowVals cl av cv).drop k = .slice (av k) cl[k].length (cv k) :: (rowVals cl av cv).drop (k + 1) := by
  have hl : k < (rowVals cl av cv).length := by simpa [rowVals] using h
  rw [List.drop_eq_getElem_cons hl]
  congr 1
  simp [rowVals, List.getD_eq_getElem?_getD, h]
theorem vals_len (cl : List (List Int)) (av : Nat → Option Addr) (cv : Nat → Nat) : (rowVals cl av cv).length = cl.length := by simp [rowVals]
theorem rows_src {w : World} {b off : Nat} {cl : List (List Int)} {av : Nat → Option Addr} {cv : Nat → Nat} (hc : ∀ j (h : j < cl.length), w.cell? ⟨b, off + j, none⟩ = some (.slice (av j) cl[j].length (cv j))) (lo m cap : Nat) (h : lo + m ≤ cl.length) :
    Src Try.prog 1 22 (.slice (some ⟨b, off + lo, none⟩) m cap) m (((rowVals cl av cv).drop lo).take m) w := by
  have hl : (((rowVals cl av cv).drop lo).take m).length = m := by rw [List.length_take, List.length_drop, vals_len]; omega
  have hg : ∀ j, j < m → (((rowVals cl av cv).drop lo).take m)[j]? = w.cell? ⟨b, off + lo + j, none⟩ := fun j hj => by
    rw [List.getElem?_take_of_lt hj, List.getElem?_drop, Nat.add_assoc, hc (lo + j) (by omega)]
    simp [rowVals, List.getD_eq_getElem?_getD, show lo + j < cl.length by omega]
  refine Src.ofSlice w Try.underlying22 ⟨b, off + lo, none⟩ m cap _ (by rw [hl, Nat.mul_one]) (fun j u hu => ?_) (fun u hu => ?_)
  · have hj : j < m := by have := (List.getElem?_eq_some_iff.1 hu).1; rw [hl] at this; exact this
    rw [add_plain, ← hg j hj]
    exact hu
  · obtain ⟨j, hj, rfl⟩ := List.getElem_of_mem hu
    have h2 := hg j (by omega)
    rw [List.getElem?_eq_getElem hj, Nat.add_assoc, hc (lo + j) (by omega)] at h2
    injection h2 with h2
    rw [h2]
    rfl
theorem rows_src0 {w : World} {ao : Option Addr} {cl : List (List Int)} {av : Nat → Option Addr} {cv : Nat → Nat} (hc : IsRows w ao cl av cv) (cap : Nat) :
    Src Try.prog 1 22 (.slice ao cl.length cap) cl.length (rowVals cl av cv) w := by
  by_cases h0 : 0 < cl.length
  · obtain ⟨b, off, rfl, _, hcc⟩ := hc.rows h0
    have := rows_src hcc 0 cl.length cap (by omega)
    rwa [Nat.add_zero, List.drop_zero, List.take_of_length_le (by rw [vals_len]; exact Nat.le_refl _)] at this
  · obtain rfl : cl = [] := List.eq_nil_of_length_eq_zero (by omega)
    cases ao with
    | none => exact Src.ofNil w Try.underlying22 cap
    | some a => exact Src.ofSlice w Try.underlying22 a 0 cap [] rfl (fun j u hu => by simp at hu) (fun u hu => by cases hu)
theorem ints_one {w : World} {g : Nat} {p : Int} (h : Blk w g 3 #[.int .i64 p]) : Ints w (some ⟨g, 0, none⟩) [p] := fun _ => ⟨g, 0, rfl, h.lt, fun j hj => by
  match j, hj with
  | 0, _ => exact h.cell 0⟩

/-! ### Solve's answer, as far as a law reads it -/
abbrev SolAt (w : World) (n m : Nat) (ao : Option Addr) (cap : Nat) (E : Int) (y : Bool) (st : List Bool) : Prop :=
  ∀ w', Below w.heap.size w w' → Calls Try.prog 13 #[.int .i64 n, .slice ao m cap, .int .i64 E] w' fun e w'' => Below w'.heap.size w' w'' ∧ ∃ a1 c1 t a2 m2 c2 a3 m3 c3, e = .returned (.tuple #[.agg #[.bool y, .slice a1 st.length c1, .int .i64 t, .slice a2 m2 c2, .slice a3 m3 c3], .int .i64 0]) ∧ Bools w'' a1 st
theorem sol_at {w : World} {n m : Nat} {ao : Option Addr} {cap : Nat} {X : List (List Int)} {av : Nat → Option Addr} {cv : Nat → Nat} (hn : n ≤ 12) (hm : X.length ≤ 1000) (hl : ∀ c ∈ X, c.length ≤ 40) (hk : X.all (knownS n) = true) (hc : IsRows w ao X av cv) (he : m = X.length) :
    SolAt w n m ao cap (enoughE n) (solveE n X).yes (solveE n X).state := fun w' hb => by
  subst he
  refine (good_all hn hm hl hk w' ao cap av cv (hc.below hb)).mono ?_
  rintro e w'' ⟨h1, a1, c1, a2, c2, a3, c3, rfl, hA⟩
  exact ⟨h1, a1, c1, _, a2, _, c2, a3, _, c3, rfl, ans_state hA⟩
theorem rows_at {w : World} {ao : Option Addr} {n cap : Nat} {vals : List Value} {X : List (List Int)} (hO : Own w 25 1 (.slice ao n cap) n vals) (he : n = vals.length) (hv : RowsV w vals X) : ∃ av cv, IsRows w ao X av cv := by
  subst he
  exact rows_own hO hv
theorem ans_new (w : World) (cs : Array Value) : ∃ w', w' = w.alloc (.cells cs 30) ∧ Below w.heap.size w w' ∧ ∀ w'', Below w'.heap.size w' w'' → ∀ i, w''.cell? ⟨w.heap.size, i, none⟩ = cs[i]? := by
  refine ⟨_, rfl, (Below.refl _ _).alloc (Nat.le_refl _) _, fun w'' hb i => ?_⟩
  have k := Blk.new w 30 cs
  exact (k.below hb k.lt).cell i

/-! ### What the laws are handed: the capacity -/
theorem rows_cap {H : Type} {enc : TypeId × Value → H} (W : World) (ao : Option Addr) (len cap : Nat) (d : DataW H) (p : List MemPlace) (h : DataW.Trod enc Try.prog W 0 (fun _ => true) true 22 (.slice ao len cap) d p) :
    len ≤ cap ∧ cap ≤ 9223372036854775807 := by
  obtain ⟨fuel, hf⟩ := h
  have hf' : DataW.trod enc Try.prog W 0 (fun _ => true) true fuel 22 [.slice ao len cap] = some (d, p) := by simpa [Value.cells] using hf
  rcases open_int_rows Try.underlying22 Try.underlying25 Try.underlying3 (by kernel_rfl) (by kernel_rfl) hf' with ⟨hcs, hx⟩ | ⟨a, len', cap', A, L, C, Z, hcs, _, hlc, hcm, hx, hi⟩
  · simp only [List.cons.injEq, Value.slice.injEq, and_true] at hcs
    obtain ⟨rfl, rfl, rfl⟩ := hcs
    exact ⟨Nat.le_refl _, by omega⟩
  · simp only [List.cons.injEq, Value.slice.injEq, and_true] at hcs
    obtain ⟨rfl, rfl, rfl⟩ := hcs
    unfold maxLen at hcm
    exact ⟨hlc, by omega⟩
theorem rowc_of {H : Type} {enc : TypeId × Value → H} (W : World) (v : Value) (d : DataW H) (p : List MemPlace) (hval : Value.okWide Try.prog W .any 0 22 v) (h : DataW.Trod enc Try.prog W 0 (fun _ => true) true 22 v d p) (hfit : Fit Try.prog 22 d) :
    ∃ ao cl cap av cv, v = .slice ao (List.length cl) cap ∧ IsRows W ao cl av cv ∧ (∀ c ∈ cl, ∀ x ∈ c, I64 x) ∧ cl.length ≤ cap ∧ cap ≤ 9223372036854775807 := by
  obtain ⟨ao, cl, cap, av, cv, rfl, hr, hI⟩ := rows_of W v d p hval h hfit
  obtain ⟨h1, h2⟩ := rows_cap W ao cl.length cap d p h
  exact ⟨ao, cl, cap, av, cv, rfl, hr, hI, h1, h2⟩

end Go.Proofs.Ytoainmkebdpikaa

namespace Go.Proofs.Ytoainmkebdpikaa
open Go.ChangeShapes Go.WideShapes Go.ChangeAt Go.RowKit Go.Maps Go.Deep
set_option maxRecDepth 100000

theorem app_fresh {w0 w1 w2 : World} {p : Nat} (hb : Below w0.heap.size w0 w1) (hp : w0.heap.size ≤ p) (hg : w1.grownBy w2 (some p)) : Below w0.heap.size w0 w2 :=
  grow_below2 hb hg (fun k hk => by injection hk with hk; omega) hb.size
theorem at_fresh {a q : Nat} {v : Value} (h : v.ownBlock = some a ∨ v.ownBlock = some q) (hq : a ≤ q) : ∀ k, v.ownBlock = some k → a ≤ k := fun k hk => by
  rcases h with e | e
  · rw [e] at hk
    injection hk with hk
    omega
  · rw [e] at hk
    injection hk with hk
    omega
theorem wrap_k (k k1 l : Nat) (h : k1 = k + 1) (hk : k < l) (hl : l ≤ 120) : IntKind.i64.wrap ((k : Int) + 1) = (k1 : Int) := by rw [IntKind.wrap_i64]; omega
theorem cap_k (k k1 l c : Nat) (h : k1 = k + 1) (hk : k < l) (hl : l ≤ c) : (k1 : Int) ≤ (l : Int) ∧ k1 ≤ l ∧ (k1 : Int) ≤ (c : Int) ∧ (l : Int) ≤ (c : Int) := by omega
theorem drop_le {k l : Nat} (h : k ≤ l) : k + (l - k) ≤ l := by omega
theorem src_tail {w : World} {b off k1 l capc : Nat} {xs : List Value} (hcap : l ≤ capc) (h1 : k1 ≤ l) (hx : xs.length = l - k1) (h : Src Try.prog 1 22 (.slice (some ⟨b, off + k1, none⟩) (l - k1) (capc - k1)) (l - k1) xs w) :
    Src Try.prog 1 22 (.slice (if capc = k1 then some ⟨b, off, none⟩ else some ⟨b, off + k1, none⟩) (l - k1) (capc - k1)) (l - k1) xs w := by
  by_cases he : capc = k1
  · have h0 : l - k1 = 0 := by omega
    rw [if_pos he]
    have hx : xs.length = 0 := by omega
    obtain rfl : xs = [] := List.eq_nil_of_length_eq_zero hx
    rw [h0]
    exact Src.ofSlice w Try.underlying22 ⟨b, off, none⟩ 0 _ [] rfl (fun j u hu => by simp at hu) (fun u hu => by cases hu)
  · rw [if_neg he]
    exact h
theorem lit_index (k n : Nat) (h0 : 0 < n) (hn : n ≤ 12) : ∃ (j : Nat) (y z : Int), j < n ∧ wrap64 (1 + (k : Int) % (n : Int)) = y ∧ IntKind.i64.wrap (y - 1) = (j : Int) ∧ IntKind.i64.wrap (-y) = z ∧ y = (j : Int) + 1 ∧ z = -((j : Int) + 1) := by
  have h2 := Nat.mod_lt k h0
  refine ⟨k % n, ((k % n : Nat) : Int) + 1, -(((k % n : Nat) : Int) + 1), h2, ?_, ?_, ?_, rfl, rfl⟩
  · show wrap64 (1 + ((k % n : Nat) : Int)) = _
    generalize k % n = j at *
    unfold wrap64
    omega
  · generalize k % n = j at *
    rw [IntKind.wrap_i64]
    omega
  · generalize k % n = j at *
    rw [IntKind.wrap_i64]
    omega
theorem lit_ok {n j : Nat} (hj : j < n) : (1 ≤ ((j : Int) + 1).natAbs ∧ ((j : Int) + 1).natAbs ≤ n) ∧ 1 ≤ (-((j : Int) + 1)).natAbs ∧ (-((j : Int) + 1)).natAbs ≤ n := by omega
theorem ne_zero_int {n : Nat} (h : ¬ n = 0) : ((n : Int) == 0) = false := by rw [beq_eq_false_iff_ne]; omega
theorem lit_neg {n j : Nat} (hj : j < n) (hn : n ≤ 12) : IntKind.i64.wrap (-((j : Int) + 1)) = -((j : Int) + 1) := by rw [IntKind.wrap_i64]; omega
theorem src_one (w : World) (x : Int) : Src Try.prog 1 22 (.slice (some ⟨w.heap.size + 1, 0, none⟩) 1 1) 1 [.slice (some ⟨w.heap.size, 0, none⟩) 1 1] ((w.alloc (.cells #[.int .i64 x] 3)).alloc (.cells #[.slice (some ⟨w.heap.size, 0, none⟩) 1 1] 25)) := by
  have h := src_new (P := Try.prog) (w.alloc (.cells #[.int .i64 x] 3)) Try.underlying22 25 (.slice (some ⟨w.heap.size, 0, none⟩) 1 1) rfl
  rwa [show (w.alloc (.cells #[.int .i64 x] 3)).heap.size = w.heap.size + 1 by simp] at h
theorem one_more {w w14 w15 : World} {a a' : Option Addr} {n c c' : Nat} {vals : List Value} {X : List (List Int)} {x : Int} (hO : Own w14 25 1 (.slice a n c) n vals) (hb : Below w.heap.size w w14) (hnew : ∀ k, (Value.slice a n c).ownBlock = some k → w.heap.size ≤ k) (hV : RowsV w vals X) (hvl : n = vals.length)
    (h15 : Own w15 25 1 (.slice a' (n + 1) c') (n + 1) (vals ++ [.slice (some ⟨w14.heap.size, 0, none⟩) 1 1]))
    (hg : ((w14.alloc (.cells #[.int .i64 x] 3)).alloc (.cells #[.slice (some ⟨w14.heap.size, 0, none⟩) 1 1] 25)).grownBy w15 (Value.slice a n c).ownBlock) :
    Below w.heap.size w w15 ∧ ∃ av cv, IsRows w15 a' (X ++ [[x]]) av cv := by
  have h1 := hb.alloc hb.size (.cells #[.int .i64 x] 3)
  have h2 := h1.alloc h1.size (.cells #[.slice (some ⟨w14.heap.size, 0, none⟩) 1 1] 25)
  have h3 := grow_below2 h2 hg hnew h2.size
  have hk : Blk ((w14.alloc (.cells #[.int .i64 x] 3)).alloc (.cells #[.slice (some ⟨w14.heap.size, 0, none⟩) 1 1] 25)) w14.heap.size 3 #[.int .i64 x] := (Blk.new w14 3 #[.int .i64 x]).alloc _
  have hO2 : Own ((w14.alloc (.cells #[.int .i64 x] 3)).alloc (.cells #[.slice (some ⟨w14.heap.size, 0, none⟩) 1 1] 25)) 25 1 (.slice a n c) n vals := (hO.alloc _).alloc _
  have hk2 := hk.grown hg (fun e => hO2.ne_blk hk (by decide) e.symm)
  exact ⟨h3, rows_at h15 (by simp [hvl]) ((hV.below h3).snoc (ints_one hk2) (cap := 1))⟩
theorem lit_i64 {n : Nat} {x : Int} (h : 1 ≤ x.natAbs ∧ x.natAbs ≤ n) (hn : n ≤ 12) : I64 x := by unfold I64; omega
theorem row_index (which : Int) (l : Nat) (h0 : 0 < l) (hl : l ≤ 1000) : ∃ k : Nat, k < l ∧ wrap64 ((IntKind.u64.wrap which).tmod (l : Int)) = (k : Int) := by
  have h1 : 0 ≤ IntKind.u64.wrap which := by rw [IntKind.wrap_u64]; omega
  have h2 := Int.tmod_nonneg (l : Int) h1
  have h3 := Int.tmod_lt_of_pos (IntKind.u64.wrap which) (show (0 : Int) < l by omega)
  refine ⟨((IntKind.u64.wrap which).tmod (l : Int)).toNat, by omega, ?_⟩
  unfold wrap64
  omega

set_option maxHeartbeats 600000 in
theorem row_walk (vars which : Int) (aoc : Option Addr) (cl : List (List Int)) (capc : Nat) (av : Nat → Option Addr) (cv : Nat → Nat) (w : World) (hc : IsRows w aoc cl av cv) (hcap : cl.length ≤ capc) (hcm : capc ≤ 9223372036854775807) :
    Calls Try.prog 9 #[.int .i64 vars, .slice aoc cl.length capc, .int .i64 which] w fun e w' => e = .returned (.bool true) ∧ Below w.heap.size w w' := by
  have HM : Hid (∀ w', Below w.heap.size w w' → Calls Try.prog 19 #[.int .i64 vars, .slice aoc cl.length capc] w' fun e w'' => e = .returned (.bool (mayE vars cl)) ∧ w' = w'') := Lib.hid fun w' hb => may_any vars cl aoc capc av cv w' (hc.below hb)
  by_cases hm : mayE vars cl = false
  · rw [hm] at HM
    clear hc hm hcap hcm
    go_enter Try.func9, Try.ntmps9
    go_wp2_with (first
      | (go_at_call 19; (with_reducible refine (HM.out _ hb1).mono ?_); rintro e w2 ⟨rfl, rfl⟩; have Hd := Lib.hid hb1; clear hb1)
      | (go_at_call 11; (with_reducible refine (awake_any _).mono ?_); rintro e w1 ⟨rfl, hb1⟩))
    go_ret
    exact ⟨rfl, bel_trans Hd.out hb1⟩
  have hm' : mayE vars cl = true := by simpa using hm
  obtain ⟨n, rfl, hn, k2, k3, hk⟩ := mayE_yes hm'
  rw [hm'] at HM
  by_cases h0 : cl.length = 0
  · have h0d : ((cl.length : Int) == 0) = true := by rw [h0]; rfl
    clear hc hm hcap hcm hm' k3 hk h0 k2
    go_enter Try.func9, Try.ntmps9
    go_wp2_with (first
      | (go_at_call 19; (with_reducible refine (HM.out _ hb1).mono ?_); rintro e w2 ⟨rfl, rfl⟩; have Hd := Lib.hid hb1; clear hb1)
      | (go_at_call 11; (with_reducible refine (awake_any _).mono ?_); rintro e w1 ⟨rfl, hb1⟩))
    go_ret
    exact ⟨rfl, bel_trans Hd.out hb1⟩
  have h0d : ((cl.length : Int) == 0) = false := by rw [beq_eq_false_iff_ne]; omega
  have HE := Lib.hid (fun w' => senough_any n (by omega) w')
  obtain ⟨iS, hiS, hs0, hs1, hs2⟩ := info_parts (P := Try.prog) (e := 25) (z := .slice none 0 0) (size := 1) (bytes := 24) (by kernel_rfl)
  obtain ⟨b, off, rfl, hbl, hcell⟩ := hc.rows (by omega)
  obtain ⟨k, hkl, hkd⟩ : ∃ k : Nat, k < cl.length ∧ wrap64 ((IntKind.u64.wrap which).tmod (cl.length : Int)) = (k : Int) := row_index which cl.length (by omega) (by omega)
  have hkc : (k : Int) ≤ (capc : Int) := by omega
  have hk1 : (k : Int) + 1 ≤ (cl.length : Int) := by omega
  have HC := Lib.hid hc
  have HCell := Lib.hid hcell
  have HK := Lib.hid hk
  have HK3 := Lib.hid k3
  have HV := Lib.hid hc.vals
  have hone := hc.vals.one
  have HCe : Hid (∀ w', Below w.heap.size w w' → ∀ j (h : j < cl.length), w'.cell? ⟨b, off + j, none⟩ = some (.slice (av j) cl[j].length (cv j))) := Lib.hid fun w' hb j hj => (World.cell?_of_block (w := w) (hb.block b hbl)).trans (hcell j hj)
  clear hc hm hm' hk k3 hcell
  go_enter Try.func9, Try.ntmps9
  go_upto_region 5 with (first
    | (go_at_call 11; (with_reducible refine (awake_any _).mono ?_); rintro e w1 ⟨rfl, hb1⟩)
    | (go_at_call 19; (with_reducible refine (HM.out _ hb1).mono ?_); rintro e w2 ⟨rfl, rfl⟩)
    | (go_at_call 18; (with_reducible refine (HE.out _).mono ?_); rintro e w2 ⟨rfl, rfl⟩))
  rw [hkd]
  have HB1 := Lib.hid hb1
  clear hb1 HE HM hkd
  go_wp2_with fail
  go_loopw [9, 10] (fun s i wr => ∃ (q : Nat) (z : Int) (vs : List Value) (a : Option Addr) (c : Nat), q ≤ cl.length ∧ z = (q : Int) - 1 ∧ i = .int .i64 z ∧ s = .slice a vs.length c ∧ vs.length + q = cl.length ∧ Hid (vs = ((rowVals cl av cv).drop q).reverse) ∧ Hid (Own wr 25 1 (.slice a vs.length c) vs.length vs) ∧ Hid (∀ k, (Value.slice a vs.length c).ownBlock = some k → w.heap.size ≤ k) ∧ Hid (Below w.heap.size w wr)) (fun _ i _ => (intOf i + 1).toNat)
  case atStart => exact ⟨cl.length, _, [], none, 0, by omega, rfl, by go_num, rfl, by simp, Lib.hid (by rw [List.drop_of_length_le (by rw [vals_len]; exact Nat.le_refl _)]; rfl), Lib.hid (Own.nil _ _ _), Lib.hid (fun k hk => by simp [Value.ownBlock] at hk), HB1⟩
  case round =>
    obtain ⟨q, z, vs, a, c, hq, hz, rfl, rfl, hvl, HVs, HO, HNw, HB⟩ := hrel
    rcases q with _ | j
    rotate_left
    · obtain rfl : z = (j : Int) := by omega
      clear hz
      have hjt : j < cl.length := by omega
      have hji : (j : Int) < (cl.length : Int) := by omega
      have hcj := HCe.out _ HB.out j hjt
      have HVn : Hid (vs ++ [.slice (av j) cl[j].length (cv j)] = ((rowVals cl av cv).drop j).reverse) := Lib.hid (by rw [vals_get hjt, List.reverse_cons, HVs.out])
      have hov : ∀ u ∈ vs, u.oneCell' = true := fun u hu => by
        rw [HVs.out] at hu
        exact hone u (List.mem_of_mem_drop (List.mem_reverse.1 hu))
      generalize cl[j].length = lj at *
      generalize av j = aj at *
      generalize cv j = cj at *
      have HO1 := Lib.hid (HO.out.alloc (.cells #[.slice aj lj cj] 25))
      go_wp2_with (first
        | (at_builtin; refine wpList_append_S _ rfl (.tmp 51) (.tmp 56) _ _ rfl 25 iS _ 1 24 Try.underlying22 hiS hs0 hs1 hs2 rfl (by omega) (.slice a vs.length c) vs.length vs rfl HO1.out hov _ 1 [_] rfl (src_new wr Try.underlying22 25 _ rfl) (by simp only [maxLen]; omega) (by omega) ?_; intro ao2 cap2 w2 hn2 hm2 hown2 hg2 hat2 hlt2
           have H2 := Lib.hid hown2
           have G2 := Lib.hid hg2
           have A2 := Lib.hid hat2
           clear hown2 hg2 hat2 hlt2 hn2 hm2))
      go_roundw
      case rel =>
        have e1 : (vs ++ [Value.slice aj lj cj]).length = vs.length + 1 := by simp
        have hBB : Below w.heap.size w (wr.alloc (.cells #[.slice aj lj cj] 25)) := HB.out.alloc HB.out.size _
        refine ⟨j, _, vs ++ [.slice aj lj cj], ao2, cap2, by omega, rfl, by go_num, by rw [e1], by omega, HVn, Lib.hid (by rw [e1]; exact H2.out), Lib.hid fun k hk => ?_, Lib.hid (grow_below2 hBB G2.out HNw.out hBB.size)⟩
        rw [e1] at hk
        rcases A2.out with e | e
        · exact HNw.out k (e ▸ hk)
        · rw [e] at hk
          injection hk with hk
          have h5 := hBB.size
          omega
      case measure => simp [intOf]
    · obtain rfl : z = -1 := by omega
      clear hz
      have hvl2 : vs.length = cl.length := by omega
      have HVs2 : Hid (vs = (rowVals cl av cv).reverse) := Lib.hid (by rw [HVs.out, List.drop_zero])
      have HVl := Lib.hid hvl2
      have hvb : vs.length ≤ 120 := by omega
      have hov : ∀ u ∈ vs, u.oneCell' = true := fun u hu => by
        rw [HVs2.out] at hu
        exact hone u (List.mem_reverse.1 hu)
      have hck := HCe.out _ HB.out k hkl
      have HRk : Hid (RowsV w [.slice (av k) cl[k].length (cv k)] [cl[k]]) := Lib.hid ((RowsV.nil w).snoc (HC.out.ints k hkl))
      obtain ⟨ck, hckd⟩ : ∃ ck, ck = cl[k] := ⟨_, rfl⟩
      rw [← hckd] at hck HRk
      have HCk := Lib.hid hckd
      generalize hak : av k = ak at *
      generalize hbk : cv k = bk at *
      have HO1 := Lib.hid (HO.out.alloc (.cells #[.slice ak ck.length bk] 25))
      have hki2 : (k : Int) < (cl.length : Int) := by omega
      clear hvl hvl2 HVs hq hckd hak hbk
      go_upto_region 11 with (first
        | (at_builtin; go_loud (refine wpList_append_S _ rfl (.tmp 58) (.tmp 63) _ _ rfl 25 iS _ 1 24 Try.underlying22 hiS hs0 hs1 hs2 rfl (by omega) (.slice a vs.length c) vs.length vs rfl HO1.out hov _ 1 [_] rfl (src_new wr Try.underlying22 25 _ rfl) (by simp only [maxLen]; omega) (by omega) ?_); intro ao5 cap5 w5 hn2 hm2 hown2 hg2 hat2 hlt2
           have H5 := Lib.hid hown2
           have G5 := Lib.hid hg2
           clear hown2 hg2 hat2 hlt2 hn2 hm2))
      have HB5 : Hid (Below w.heap.size w w5) := Lib.hid (grow_below2 (HB.out.alloc HB.out.size _) G5.out HNw.out (HB.out.alloc HB.out.size _).size)
      clear G5 HNw HO HO1 hov hck
      have hsrc1 : ∀ w', Below w.heap.size w w' → Src Try.prog 1 22 (.slice (some ⟨b, off, none⟩) k capc) k ((rowVals cl av cv).take k) w' := fun w' hb => by
        have := rows_src (HCe.out _ hb) 0 k capc (by omega)
        rwa [Nat.add_zero, List.drop_zero] at this
      obtain ⟨k1, hk1d⟩ : ∃ k1, k1 = k + 1 := ⟨_, rfl⟩
      have hwk : IntKind.i64.wrap ((k : Int) + 1) = (k1 : Int) := wrap_k k k1 cl.length hk1d hkl k2
      obtain ⟨hk1l, hk1l2, hk1c, hlc⟩ := cap_k k k1 cl.length capc hk1d hkl hcap
      have HK1 := Lib.hid hk1d
      clear hk1d
      have hsrc2 : ∀ w', Below w.heap.size w w' → Src Try.prog 1 22 (.slice (if capc = k1 then some ⟨b, off, none⟩ else some ⟨b, off + k1, none⟩) (cl.length - k1) (capc - k1)) (cl.length - k1) ((rowVals cl av cv).drop k1) w' := fun w' hb => by
        have h := rows_src (HCe.out _ hb) k1 (cl.length - k1) (capc - k1) (drop_le hk1l2)
        rw [List.take_of_length_le (by rw [List.length_drop, vals_len]; exact Nat.le_refl _)] at h
        exact src_tail hcap hk1l2 (by rw [List.length_drop, vals_len]) h
      have HS1 := Lib.hid hsrc1
      have HS2 := Lib.hid hsrc2
      clear hsrc1 hsrc2
      have hbE : Below w.heap.size w (w5.drew.alloc (.cells #[] 25)) := (bel_drewN HB5.out 1).alloc (bel_drewN HB5.out 1).size _
      have hone1 : ∀ u ∈ (rowVals cl av cv).take k, u.oneCell' = true := fun u hu => hone u (List.mem_of_mem_take hu)
      have hb0 : Below w5.heap.size w5 (w5.drew.alloc (.cells #[] 25)) := (bel_drewN (Below.refl _ w5) 1).alloc (Nat.le_refl _) _
      have HF := Lib.hid (fun w' hg => app_fresh (w2 := w') hb0 (Nat.le_refl _) hg)
      have HF2 := Lib.hid hb0.size
      have HB0 := Lib.hid hb0
      have hone2 : ∀ u ∈ (rowVals cl av cv).take k, u.oneCell' = true := hone1
      clear hb0
      go_region_held3 (fun _ => True) (trivial)
        ((first
          | (refine step_append_S _ (by rfl) (.tmp 65) (.tmp 68) _ _ (by rfl) 25 iS _ 1 24 Try.underlying22 hiS hs0 hs1 hs2 rfl (by omega) (.slice (some ⟨w5.heap.size, 0, none⟩) 0 0) 0 [] (by rfl) (Own.made w5.drew 25 1 #[] 0 rfl (by simp)) (by simp) _ k ((rowVals cl av cv).take k) (by rfl) (HS1.out _ hbE) (by simp only [maxLen]; omega) (by omega) ?_; intro ao6 cap6 w6 hn2 hm2 hown2 hg2 hat2 hlt2; simp only [Nat.zero_add, List.nil_append] at hown2 hat2 hlt2 ⊢
             have hb6 := HF.out w6 hg2
             have H6 := Lib.hid hown2
             have HN6 := Lib.hid (at_fresh hat2 HF2.out)
             clear hown2 hg2 hat2 hlt2 hn2 hm2)
          | (refine step_append_S _ (by rfl) (.tmp 69) (.tmp 73) _ _ (by rfl) 25 iS _ 1 24 Try.underlying22 hiS hs0 hs1 hs2 rfl (by omega) (.slice ao6 k cap6) k ((rowVals cl av cv).take k) (by rfl) H6.out hone2 (.slice (if capc = k1 then some ⟨b, off, none⟩ else some ⟨b, off + k1, none⟩) (cl.length - k1) (capc - k1)) (cl.length - k1) ((rowVals cl av cv).drop k1) (by rfl) (HS2.out _ (bel_trans HB5.out hb6)) (by simp only [maxLen]; omega) (by omega) ?_; intro ao7 cap7 w7 hn2 hm2 hown2 hg2 hat2 hlt2
             have H7 := Lib.hid hown2
             have HB7 := Lib.hid (grow_below2 hb6 hg2 HN6.out hb6.size)
             clear hown2 hg2 hat2 hlt2 hn2 hm2)))
      obtain ⟨oz, hoz⟩ : ∃ oz, oz = (if capc = k1 then some (⟨b, off, none⟩ : Addr) else some ⟨b, off + k1, none⟩) := ⟨_, rfl⟩
      rw [← hoz]
      clear hoz
      clear hbE hone1 HF HF2 HB0 hone2 H6 HN6 hb6 HS1 HS2
      have hk1e := HK1.out
      have hB57 := HB7.out
      have hB7 := bel_trans HB5.out hB57
      have hTl : vs.length + 1 = (vs ++ [Value.slice ak ck.length bk]).length := by simp
      have hTl2 : vs.length + 1 = (cl.reverse ++ [ck]).length := by simp [HVl.out]
      have hTv : RowsV w (vs ++ [Value.slice ak ck.length bk]) (cl.reverse ++ [ck]) := by
        rw [HVs2.out]
        exact HV.out.rev.append HRk.out
      obtain ⟨avT, cvT, hRT⟩ := rows_at (H5.out.new hB57) hTl (hTv.below hB7)
      have hLv : RowsV w ((rowVals cl av cv).take k ++ (rowVals cl av cv).drop k1) (cl.take k ++ cl.drop k1) := (HV.out.take k).append (HV.out.drop k1)
      have hLl : k + (cl.length - k1) = ((rowVals cl av cv).take k ++ (rowVals cl av cv).drop k1).length := by rw [List.length_append, List.length_take, List.length_drop, vals_len]; omega
      have hLl2 : k + (cl.length - k1) = (cl.take k ++ cl.drop k1).length := by rw [List.length_append, List.length_take, List.length_drop]; omega
      obtain ⟨avL, cvL, hRL⟩ := rows_at H7.out hLl (hLv.below hB7)
      have hckm : ck ∈ cl := by rw [HCk.out]; exact List.getElem_mem _
      have hTm : ∀ x, x ∈ cl.reverse ++ [ck] ↔ x ∈ cl := fun x => by
        simp only [List.mem_append, List.mem_reverse, List.mem_singleton]
        exact ⟨fun h => h.elim id fun e => e ▸ hckm, .inl⟩
      have hLm : ∀ x ∈ cl.take k ++ cl.drop k1, x ∈ cl := fun x hx => (List.mem_append.1 hx).elim List.mem_of_mem_take List.mem_of_mem_drop
      have hK := HK.out
      have hK3 := HK3.out
      have HG1 : Hid (SolAt w7 n cl.length (some ⟨b, off, none⟩) capc (enoughE n) (solveE n cl).yes (solveE n cl).state) := Lib.hid (sol_at hn (by omega) hK3 hK (HC.out.below hB7) rfl)
      have hG2 : SolAt w7 n (vs.length + 1) ao5 cap5 (enoughE n) (solveE n (cl.reverse ++ [ck])).yes (solveE n (cl.reverse ++ [ck])).state := sol_at hn (by rw [← hTl2]; omega) (fun x hx => hK3 x ((hTm x).1 hx)) (known_sub (fun x hx => (hTm x).1 hx) hK) hRT hTl2
      have hG3 : SolAt w7 n (k + (cl.length - k1)) ao7 cap7 (enoughE n) (solveE n (cl.take k ++ cl.drop k1)).yes (solveE n (cl.take k ++ cl.drop k1)).state := sol_at hn (by rw [← hLl2]; omega) (fun x hx => hK3 x (hLm x hx)) (known_sub hLm hK) hRL hLl2
      rw [yes_same hK hTm] at hG2
      have hyL := yes_sub hK hLm
      generalize (solveE n (cl.reverse ++ [ck])).state = sT at hG2
      generalize (solveE n (cl.take k ++ cl.drop k1)).state = sL at hG3
      generalize (solveE n (cl.take k ++ cl.drop k1)).yes = yL at hG3 hyL
      have HG2 := Lib.hid hG2
      have HG3 := Lib.hid hG3
      have HB7w := Lib.hid hB7
      have HX : Hid (∀ x : Int, 1 ≤ x.natAbs ∧ x.natAbs ≤ n → (solveE n cl).yes = true → trueE (solveE n cl).state x = true → ∃ sX : List Bool, sX.length = n ∧ trueE sX x = true ∧ ∀ w' ao cap m av cv, IsRows w' ao (cl ++ [[x]]) av cv → m = cl.length + 1 → SolAt w' n m ao cap (enoughE n) true sX) := Lib.hid fun x hx hy ht => by
        obtain ⟨y1, y2, y3, y4⟩ := yes_with hK hx hy ht
        refine ⟨_, y3, y4, fun w' ao cap m av cv hr he => ?_⟩
        have := sol_at (cap := cap) hn (X := cl ++ [[x]]) (m := m) (by simp; omega) (fun c hc => (List.mem_append.1 hc).elim (hK3 c) fun h => by rw [List.mem_singleton.1 h]; simp) y1 hr (by simp [he])
        rwa [y2] at this
      have HYs := Lib.hid (fun hy => yes_state (X := cl) (n := n) hK hy)
      clear hk1e hB57 hB7 hTl hTl2 hTv hRT hLv hLl hLl2 hRL hckm hTm hLm hK hK3 hG2 hG3 H5 H7 HB7 HVs2 HVl HRk HCk
      generalize hyA : (solveE n cl).yes = yA at *
      have HyA := Lib.hid hyA
      generalize (solveE n cl).state = sA at *
      generalize enoughE (n : Int) = E at *
      clear hyA
      go_upto_region 13 with (go_at_call 13; (with_reducible refine (HG1.out w7 (Below.refl _ _)).mono ?_); rintro e w8 ⟨hb8, a1, c1, t1, a2, m2, c2, a3, m3, c3, rfl, hB8⟩)
      obtain ⟨w9, hw9, hb9, hk9⟩ := ans_new w8 #[.bool yA, .slice a1 sA.length c1, .int .i64 t1, .slice a2 m2 c2, .slice a3 m3 c3]
      rw [← hw9]
      obtain ⟨g8, hg8⟩ : ∃ g8, g8 = w8.heap.size := ⟨_, rfl⟩
      rw [← hg8] at hk9 ⊢
      have HA9 : Hid (∀ w', Below w9.heap.size w9 w' → w'.cell? ⟨g8, 0, none⟩ = some (.bool yA) ∧ w'.cell? ⟨g8, 1, none⟩ = some (.slice a1 sA.length c1)) := Lib.hid fun w' hb => ⟨hk9 w' hb 0, hk9 w' hb 1⟩
      have HS9 := Lib.hid (hB8.below hb9)
      have H79 := Lib.hid (bel_trans hb8 hb9)
      clear hw9 hb9 hk9 hg8 hB8 hb8 HG1
      go_upto_region 14 with (go_at_call 13; (with_reducible refine (HG2.out w9 H79.out).mono ?_); rintro e w10 ⟨hb10, b1, d1, t2, b2, n2, d2, b3, n3, d3, rfl, hB10⟩)
      obtain ⟨w11, hw11, hb11, hk11⟩ := ans_new w10 #[.bool yA, .slice b1 sT.length d1, .int .i64 t2, .slice b2 n2 d2, .slice b3 n3 d3]
      rw [← hw11]
      obtain ⟨g10, hg10⟩ : ∃ g10, g10 = w10.heap.size := ⟨_, rfl⟩
      rw [← hg10] at hk11 ⊢
      have HA11 : Hid (∀ w', Below w11.heap.size w11 w' → w'.cell? ⟨g10, 0, none⟩ = some (.bool yA)) := Lib.hid fun w' hb => hk11 w' hb 0
      have H911 := Lib.hid (bel_trans hb10 hb11)
      have H711 := Lib.hid (bel_trans H79.out H911.out)
      clear hw11 hb11 hk11 hg10 hB10 hb10 HG2
      go_upto_region 15 with (go_at_call 13; (with_reducible refine (HG3.out w11 H711.out).mono ?_); rintro e w12 ⟨hb12, f1, l1, t3, f2, o2, l2, f3, o3, l3, rfl, hB12⟩)
      obtain ⟨w13, hw13, hb13, hk13⟩ := ans_new w12 #[.bool yL, .slice f1 sL.length l1, .int .i64 t3, .slice f2 o2 l2, .slice f3 o3 l3]
      rw [← hw13]
      obtain ⟨g12, hg12⟩ : ∃ g12, g12 = w12.heap.size := ⟨_, rfl⟩
      rw [← hg12] at hk13 ⊢
      have r0 : w13.cell? ⟨g12, 0, none⟩ = some (.bool yL) := hk13 w13 (Below.refl _ _) 0
      have H1113 := Lib.hid (bel_trans hb12 hb13)
      have H913 := Lib.hid (bel_trans H911.out H1113.out)
      have H713 := Lib.hid (bel_trans H79.out H913.out)
      have HB13 := Lib.hid (bel_trans HB7w.out H713.out)
      obtain ⟨p0, p1⟩ := HA9.out w13 H913.out
      have q0 := HA11.out w13 H1113.out
      have HS13 := Lib.hid (HS9.out.below H913.out)
      have hyy : (yA != yA) = false := by cases yA <;> rfl
      clear hw13 hb13 hk13 hg12 hB12 hb12 HG3 HS9 H79 H911 H711 HA11
      cases yA with
      | false =>
        clear hyL HX HYs
        go_wp2_with fail
        go_ret
        exact ⟨rfl, HB13.out⟩
      | true =>
        obtain rfl : yL = true := hyL rfl
        obtain ⟨hsA, _⟩ := HYs.out rfl
        by_cases hn0 : n = 0
        · have hn0d : ((n : Int) == 0) = true := by rw [hn0]; rfl
          clear HX HYs hsA hn0
          go_wp2_with fail
          go_ret
          exact ⟨rfl, HB13.out⟩
        · have hn0d : ((n : Int) == 0) = false := ne_zero_int hn0
          have hn1 : 0 < n := Nat.pos_of_ne_zero hn0
          have hs1d : ((sA.length : Int) == (n : Int)) = true := by rw [hsA]; simp
          have hs2d : ((sA.length : Int) != (n : Int)) = false := by rw [hsA]; simp
          obtain ⟨j, y, z, hjn, hjd, hy1, hyz, hyj, hzj⟩ := lit_index k n hn1 hn
          have HYj := Lib.hid hyj
          have HZj := Lib.hid hzj
          have hjs : j < sA.length := by rw [hsA]; exact hjn
          have HSA := Lib.hid hsA
          clear hyL HYs hsA hyj hzj
          go_upto_region 20 with fail
          rw [hjd]
          clear hjd hn0d hn1 hs1d hs2d hyy q0 r0
          have hji : (j : Int) < (sA.length : Int) := Int.ofNat_lt.2 hjs
          obtain ⟨b1, o1, rfl, _, hcs⟩ := HS13.out (Nat.lt_of_le_of_lt (Nat.zero_le _) hjs)
          have hcj := hcs j hjs
          obtain ⟨lk1, lk2⟩ := lit_ok hjn
          rw [← HYj.out] at lk1
          rw [← HZj.out] at lk2
          have HPos : Hid (sA[j] = true → trueE sA y = true) := Lib.hid fun h => by rw [HYj.out, trueE_pos hjs, h]
          have HNeg : Hid (sA[j] = false → trueE sA z = true) := Lib.hid fun h => by rw [HZj.out, show -((j : Int) + 1) = -(j : Int) - 1 by omega, trueE_neg hjs, h]; rfl
          generalize sA[j] = bj at *
          have HSrc : Hid (∀ w', Below w.heap.size w w' → Src Try.prog 1 22 (.slice (some ⟨b, off, none⟩) cl.length capc) cl.length (rowVals cl av cv) w') := Lib.hid fun w' hb => rows_src0 (HC.out.below hb) capc
          have HK1 := Lib.hid lk1
          have HK2 := Lib.hid lk2
          clear hcs lk1 lk2
          have hpick : ∃ x : Int, ((bj = true ∧ x = y) ∨ (bj = false ∧ x = z)) ∧ (1 ≤ x.natAbs ∧ x.natAbs ≤ n) ∧ trueE sA x = true := by
            cases bj with
            | true => exact ⟨_, .inl ⟨rfl, rfl⟩, HK1.out, HPos.out rfl⟩
            | false => exact ⟨_, .inr ⟨rfl, rfl⟩, HK2.out, HNeg.out rfl⟩
          obtain ⟨x, hxc, hxn, hxt⟩ := hpick
          obtain ⟨sX, hsx, htx, hSX⟩ := HX.out x hxn rfl hxt
          have HSX := Lib.hid hSX
          have HXi : Hid (I64 x) := Lib.hid (lit_i64 hxn hn)
          have HXn := Lib.hid hxn
          have HXt := Lib.hid htx
          have HXl := Lib.hid hsx
          clear HX HPos HNeg HK1 HK2 hxn hxt hSX htx hsx
          clear HYj HZj
          rcases hxc with ⟨rfl, rfl⟩ | ⟨rfl, rfl⟩
          all_goals
            go_upto_region 22 with fail
            clear hy1
            have hbE : Below w.heap.size w (w13.alloc (.cells #[] 25)) := HB13.out.alloc HB13.out.size _
            have hb0 : Below w13.heap.size w13 (w13.alloc (.cells #[] 25)) := (Below.refl _ _).alloc (Nat.le_refl _) _
            have HF := Lib.hid (fun w' hg => app_fresh (w2 := w') hb0 (Nat.le_refl _) hg)
            have HF2 := Lib.hid hb0.size
            have HbE := Lib.hid hbE
            clear hb0 hbE
            go_upto_region 23 with (first
              | (at_builtin; refine wpList_append_S _ rfl (.tmp 158) (.tmp 159) _ _ rfl 25 iS _ 1 24 Try.underlying22 hiS hs0 hs1 hs2 rfl (by omega) (.slice (some ⟨w13.heap.size, 0, none⟩) 0 0) 0 [] rfl (Own.made w13 25 1 #[] 0 rfl (by simp)) (by simp) (.slice (some ⟨b, off, none⟩) cl.length capc) cl.length (rowVals cl av cv) rfl (HSrc.out _ HbE.out) (by simp only [maxLen]; omega) (by omega) ?_; intro ao14 cap14 w14 hn2 hm2 hown2 hg2 hat2 hlt2; simp only [Nat.zero_add, List.nil_append] at hown2 hat2 hlt2 ⊢
                 have hb14 := HF.out w14 hg2
                 have H14 := Lib.hid hown2
                 have H14a := Lib.hid ((hown2.alloc (.cells #[.int .i64 x] 3)).alloc (.cells #[.slice (some ⟨w14.heap.size, 0, none⟩) 1 1] 25))
                 have HN14 := Lib.hid (at_fresh hat2 HF2.out)
                 have HB14 := Lib.hid hb14
                 clear hown2 hg2 hat2 hlt2 hn2 hm2 hb14)
              | (at_builtin; refine wpList_append_S _ rfl (.tmp 160) (.tmp 163) _ _ rfl 25 iS _ 1 24 Try.underlying22 hiS hs0 hs1 hs2 rfl (by omega) (.slice ao14 cl.length cap14) cl.length (rowVals cl av cv) rfl H14a.out hone _ 1 [.slice (some ⟨w14.heap.size, 0, none⟩) 1 1] rfl (src_one w14 x) (by simp only [maxLen]; omega) (by omega) ?_; intro ao15 cap15 w15 hn2 hm2 hown2 hg2 hat2 hlt2
                 have hN : ∀ q, (Value.slice ao14 cl.length cap14).ownBlock = some q → w.heap.size ≤ q := fun q hq => Nat.le_trans HB13.out.size (HN14.out q hq)
                 obtain ⟨hb15, av15, cv15, hr15⟩ := one_more H14.out (bel_trans HB13.out HB14.out) hN HV.out (vals_len cl av cv).symm hown2 hg2
                 have HS := Lib.hid (HSX.out w15 ao15 cap15 (cl.length + 1) av15 cv15 hr15 rfl w15 (Below.refl _ _))
                 have HB15 := Lib.hid hb15
                 clear hown2 hg2 hat2 hlt2 hn2 hm2 hN hr15 hb15)
              | (go_at_call 13; (with_reducible refine HS.out.mono ?_); rintro e w16 ⟨hb16, a1x, c1x, t1x, a2x, m2x, c2x, a3x, m3x, c3x, rfl, hB16⟩))
            obtain ⟨w17, hw17, hb17, hk17⟩ := ans_new w16 #[.bool true, .slice a1x sX.length c1x, .int .i64 t1x, .slice a2x m2x c2x, .slice a3x m3x c3x]
            rw [← hw17]
            obtain ⟨g16, hg16⟩ : ∃ g16, g16 = w16.heap.size := ⟨_, rfl⟩
            rw [← hg16] at hk17 ⊢
            have z0 : w17.cell? ⟨g16, 0, none⟩ = some (.bool true) := hk17 w17 (Below.refl _ _) 0
            have z1 : w17.cell? ⟨g16, 1, none⟩ = some (.slice a1x sX.length c1x) := hk17 w17 (Below.refl _ _) 1
            have hsl : ((sX.length : Int) == (n : Int)) = true := by rw [HXl.out]; simp
            have HTr : Hid (Calls Try.prog 20 #[.slice a1x sX.length c1x, .int .i64 x] w17 fun e w' => e = .returned (.bool true) ∧ w17 = w') := Lib.hid (by
              have h := true_any sX a1x c1x x HXi.out w17 (hB16.below hb17) (by rw [HXl.out]; omega)
              rwa [HXt.out] at h)
            have HBz := Lib.hid (bel_trans HB15.out (bel_trans hb16 hb17))
            clear hw17 hb17 hk17 hg16 hB16 hb16 HS
            go_wp2_with (go_at_call 20; (with_reducible refine HTr.out.mono ?_); rintro e w18 ⟨rfl, rfl⟩)
            go_ret
            exact ⟨rfl, HBz.out⟩

end Go.Proofs.Ytoainmkebdpikaa
