/- What the sat chain lacks of core's base (printed by gencn.py). Conditions: as each theorem names them. -/
import Derived.Test.YthinopiobihmaaaGn
import Derived.Deep.Matrix
import Derived.Deep.Grids
import Derived.WalkMore
import Derived.Deep.Cut
import Derived.Deep.CutBlock
import Derived.Deep.CutRange
import Derived.Deep.LoopGhost
import Derived.Maps.OwnSet
import Derived.StillTailTactics
import Derived.Deep.OwnRows
import Derived.Laws.EntriesVeiled
import Derived.RangeFuncNested
import Derived.RangeFuncBound
import Derived.RangeFuncCalls
import Derived.RangeFuncLeaves
import Derived.Shelf.Abstract
import Derived.Shelf.RegionOpen
import Derived.OwnWalkIn
import Derived.TacticsInMore
import Derived.LoopNIn
import Derived.LoopIn
namespace Go.Proofs.Ythinopiobihmaaa
open Go.ChangeShapes Go.WideShapes Go.ChangeAt Go.RowKit Go.Maps Go.Deep
set_option maxRecDepth 100000

def RowsV (w : World) (vals : List Value) (cl : List (List Int)) : Prop := vals.length = cl.length ∧ ∀ j (h : j < cl.length), ∃ ao cap, vals[j]? = some (.slice ao cl[j].length cap) ∧ Ints w ao cl[j]

theorem RowsV.below {w w' : World} {vals : List Value} {cl : List (List Int)} (h : RowsV w vals cl) (hb : Below w.heap.size w w') : RowsV w' vals cl := ⟨h.1, fun j hj => by
  obtain ⟨ao, cap, e, hi⟩ := h.2 j hj
  exact ⟨ao, cap, e, hi.below hb⟩⟩

theorem RowsV.nil (w : World) : RowsV w [] [] := ⟨rfl, fun _ hj => absurd hj (Nat.not_lt_zero _)⟩

theorem RowsV.snoc {w : World} {vals : List Value} {cl : List (List Int)} (h : RowsV w vals cl) {ao : Option Addr} {c : List Int} {cap : Nat} (hi : Ints w ao c) : RowsV w (vals ++ [.slice ao c.length cap]) (cl ++ [c]) := by
  refine ⟨by simp [h.1], fun j hj => ?_⟩
  by_cases hjl : j < cl.length
  · obtain ⟨ao', cap', e, hi'⟩ := h.2 j hjl
    rw [List.getElem?_append_left (by rw [h.1]; exact hjl), List.getElem_append_left hjl]
    exact ⟨ao', cap', e, hi'⟩
  · have e : j = cl.length := by simp at hj; omega
    subst e
    rw [List.getElem?_append_right (by rw [h.1]; exact Nat.le_refl _), h.1]
    have e2 : (cl ++ [c])[cl.length]'hj = c := by simp
    rw [e2]
    exact ⟨ao, cap, by simp, hi⟩

theorem RowsV.one {w : World} {vals : List Value} {cl : List (List Int)} (h : RowsV w vals cl) : ∀ u ∈ vals, u.oneCell' = true := fun u hu => by
  obtain ⟨j, hj, rfl⟩ := List.getElem_of_mem hu
  obtain ⟨ao, cap, e, _⟩ := h.2 j (by rw [← h.1]; exact hj)
  rw [List.getElem?_eq_getElem hj] at e
  injection e with e
  rw [e]
  rfl

theorem rows_choose {w : World} {cl : List (List Int)} {f : Nat → Option Value} (h : ∀ j (h : j < cl.length), ∃ ao cap, f j = some (.slice ao cl[j].length cap) ∧ Ints w ao cl[j]) : ∃ (av : Nat → Option Addr) (cv : Nat → Nat), ∀ j (h : j < cl.length), f j = some (.slice (av j) cl[j].length (cv j)) ∧ Ints w (av j) cl[j] := by
  have h1 : ∀ j, ∃ (p : Option Addr × Nat), ∀ (h : j < cl.length), f j = some (.slice p.1 cl[j].length p.2) ∧ Ints w p.1 cl[j] := fun j => by
    by_cases hj : j < cl.length
    · obtain ⟨ao, cap, e, hi⟩ := h j hj
      exact ⟨(ao, cap), fun _ => ⟨e, hi⟩⟩
    · exact ⟨(none, 0), fun h => absurd h hj⟩
  exact ⟨fun j => (Classical.choose (h1 j)).1, fun j => (Classical.choose (h1 j)).2, fun j hj => Classical.choose_spec (h1 j) hj⟩

theorem rows_own {w : World} {ao : Option Addr} {cap : Nat} {vals : List Value} {cl : List (List Int)} (hO : Own w 26 1 (.slice ao vals.length cap) vals.length vals) (hv : RowsV w vals cl) : ∃ av cv, IsRows w ao cl av cv := by
  obtain ⟨av, cv, h⟩ := rows_choose hv.2
  refine ⟨av, cv, fun h0 => ?_, fun j hj => (h j hj).2⟩
  obtain ⟨ao', cap', e, _, _, hf⟩ := hO.form
  injection e with e1 _ _
  subst e1
  obtain ⟨b, off, rfl, hc, _, hbl⟩ := hf (by rw [hv.1]; exact h0)
  exact ⟨b, off, rfl, hbl, fun j hj => (hc j (by rw [hv.1]; exact hj)).trans (h j hj).1⟩

theorem wf_i64b {n : Int} (h : (Lit.int .i64 n).wf = true) : -9223372036854775808 ≤ n ∧ n ≤ 9223372036854775807 := by
  simp [Lit.wf, IntKind.min, IntKind.max, IntKind.signed, IntKind.bits] at h
  omega

theorem getD_take {l : List Int} {n k : Nat} (h : k < n) (hl : n ≤ l.length) : l.getD k 0 = (l.take n)[k]'(by simp; omega) := by
  have h2 : k < l.length := by omega
  simp [List.getD, h2]

theorem cls_of {H : Type} {enc : TypeId × Value → H} (W : World) (v : Value) (d : DataW H) (p : List MemPlace) (hval : Value.okWide Try.prog W .any 0 22 v) (h : DataW.Trod enc Try.prog W 0 (fun _ => true) true 22 v d p) (hfit : Fit Try.prog 22 d) :
    ∃ ao cls cap, v = .slice ao (List.length cls) cap ∧ IsCls W ao cls ∧ cls.length ≤ 9223372036854775807 ∧ (∀ c ∈ cls, c.length ≤ 140737488351232) ∧ ∀ c ∈ cls, ∀ x ∈ c, I64 x := by
  obtain ⟨ao, len, cap, rfl⟩ := okWide_slice Try.underlying22 hval
  obtain ⟨fuel, hf⟩ := h
  have hf' : DataW.trod enc Try.prog W 0 (fun _ => true) true fuel 22 [.slice ao len cap] = some (d, p) := by simpa [Value.cells] using hf
  rcases open_int_rows Try.underlying22 Try.underlying26 Try.underlying3 (by kernel_rfl) (by kernel_rfl) hf' with ⟨hcs, hx⟩ | ⟨a, len', cap', A, L, C, Z, hcs, _, hlc, hcm, hx, hi⟩
  · simp only [List.cons.injEq, Value.slice.injEq, and_true] at hcs
    obtain ⟨rfl, rfl, rfl⟩ := hcs
    exact ⟨none, [], 0, rfl, fun h => absurd h (by simp), by simp, fun c hc => by simp at hc, fun c hc => by simp at hc⟩
  · simp only [List.cons.injEq, Value.slice.injEq, and_true] at hcs
    obtain ⟨rfl, rfl, rfl⟩ := hcs
    have hlen : len ≤ 9223372036854775807 := by unfold maxLen at hcm; omega
    simp only [Prod.mk.injEq] at hx
    obtain ⟨hd, _⟩ := hx
    rw [hd] at hfit
    have hb8 : Try.prog.bytesOf 3 = 8 := by kernel_rfl
    have hfe := (hfit.slice Try.underlying22).2
    refine ⟨some a, (List.range len).map (fun r => (Z r).take (L r)), cap, by simp, fun h0 => ?_, by simpa using hlen, fun c hc => ?_, fun c hc x hx => ?_⟩
    · have h0' : 0 < len := by simpa using h0
      have hc0 := (hi 0 (by omega)).1
      obtain ⟨b, off, rfl, hb⟩ := addr_of_cell (w := W) (a := a) hc0
      simp only [add_plain] at hi
      refine ⟨b, off, rfl, hb, fun j hj => ?_⟩
      have hj' : j < len := by simpa using hj
      obtain ⟨k1, k2, k3, k4, _, k6, k7⟩ := hi j (by omega)
      have hcl : ((Z j).take (L j)).length = L j := by rw [List.length_take]; omega
      refine ⟨A j, C j, ?_, fun hp => ?_⟩
      · simp only [List.getElem_map, List.getElem_range, hcl]
        exact k1
      · simp only [List.getElem_map, List.getElem_range, hcl] at hp ⊢
        cases hA : A j with
        | none => have := k6 hA; omega
        | some a' =>
          obtain ⟨_, h8⟩ := k7 a' hA
          obtain ⟨b', off', rfl, hb'⟩ := addr_of_cell (w := W) (a := a') (h8 0 (by omega))
          refine ⟨b', off', rfl, hb', fun k hk => ?_⟩
          have h9 := h8 k (by omega)
          rw [add_plain] at h9
          rw [h9, getD_take (n := L j) hk (by omega)]
    · obtain ⟨r, hr, rfl⟩ := List.mem_map.1 hc
      have hrl := List.mem_range.1 hr
      obtain ⟨_, k2, _, k4, _, k6, _⟩ := hi r (by omega)
      have hf := hfe _ (List.mem_map.2 ⟨r, hr, rfl⟩)
      rw [List.length_take]
      cases hA : A r with
      | none => have := k6 hA; omega
      | some a' =>
        rw [hA] at hf
        have h5 := (Fit.slice (elems := lits .i64 ((Z r).take (L r))) (spare := lits .i64 ((Z r).drop (L r))) hf Try.underlying26).1
        rw [hb8] at h5
        simp only [lits, List.length_map, List.length_take, List.length_drop, reachBytes] at h5
        omega
    · obtain ⟨r, hr, rfl⟩ := List.mem_map.1 hc
      have := hi r (by have := List.mem_range.1 hr; omega)
      exact wf_i64b (this.2.2.2.2.1 x (List.mem_of_mem_take hx))

theorem ints_of {H : Type} {enc : TypeId × Value → H} (W : World) (v : Value) (d : DataW H) (p : List MemPlace) (hval : Value.okWide Try.prog W .any 0 26 v) (h : DataW.Trod enc Try.prog W 0 (fun _ => true) true 26 v d p) :
    ∃ ao l cap, v = .slice ao (List.length l) cap ∧ Ints W ao l ∧ l.length ≤ 9223372036854775807 ∧ ∀ x ∈ l, I64 x := by
  obtain ⟨ao, len, cap, rfl⟩ := okWide_slice Try.underlying26 hval
  obtain ⟨fuel, hf⟩ := h
  have hf' : DataW.trod enc Try.prog W 0 (fun _ => true) true fuel 26 [.slice ao len cap] = some (d, p) := by simpa [Value.cells] using hf
  rcases open_ints Try.underlying26 Try.underlying3 (by kernel_rfl) hf' with ⟨hcs, hx⟩ | ⟨a, len', cap', zs, hcs, _, hlc, hcm, hz, hx, hi, hwf⟩
  · simp only [List.cons.injEq, Value.slice.injEq, and_true] at hcs
    obtain ⟨rfl, rfl, rfl⟩ := hcs
    exact ⟨none, [], 0, rfl, fun h => absurd h (by simp), by simp, fun c hc => by simp at hc⟩
  · simp only [List.cons.injEq, Value.slice.injEq, and_true] at hcs
    obtain ⟨rfl, rfl, rfl⟩ := hcs
    simp only [if_true] at hz
    have hlen : len ≤ 9223372036854775807 := by unfold maxLen at hcm; omega
    have hcl : (zs.take len).length = len := by rw [List.length_take]; omega
    refine ⟨_, zs.take len, cap, by rw [hcl], fun h0 => ?_, by omega, fun x hx => wf_i64b (hwf x (List.mem_of_mem_take hx))⟩
    obtain ⟨b, off, rfl, hb⟩ := addr_of_cell (w := W) (a := a) (hi 0 (by omega))
    refine ⟨b, off, rfl, hb, fun k hk => ?_⟩
    have h9 := hi k (by omega)
    rw [add_plain] at h9
    rw [h9, getD_take (n := len) (by omega) (by omega)]

theorem rows_cls {w : World} {ao : Option Addr} {cl : List (List Int)} (h : IsCls w ao cl) : ∃ av cv, IsRows w ao cl av cv := by
  by_cases h0 : 0 < cl.length
  · obtain ⟨b, off, rfl, hbl, hc⟩ := h h0
    obtain ⟨av, cv, h1⟩ := rows_choose (w := w) (cl := cl) (f := fun j => w.cell? ⟨b, off + j, none⟩) fun j hj => by
      obtain ⟨ao', cap', e, hi⟩ := hc j hj
      exact ⟨ao', cap', e, hi⟩
    exact ⟨av, cv, fun _ => ⟨b, off, rfl, hbl, fun j hj => (h1 j hj).1⟩, fun j hj => (h1 j hj).2⟩
  · exact ⟨fun _ => none, fun _ => 0, fun h => absurd h h0, fun j hj => by omega⟩

theorem rows_of {H : Type} {enc : TypeId × Value → H} (W : World) (v : Value) (d : DataW H) (p : List MemPlace) (hval : Value.okWide Try.prog W .any 0 22 v) (h : DataW.Trod enc Try.prog W 0 (fun _ => true) true 22 v d p) (hfit : Fit Try.prog 22 d) :
    ∃ ao cl cap av cv, v = .slice ao (List.length cl) cap ∧ IsRows W ao cl av cv ∧ ∀ c ∈ cl, ∀ x ∈ c, I64 x := by
  obtain ⟨ao, cl, cap, rfl, hc, _, _, hI⟩ := cls_of W v d p hval h hfit
  obtain ⟨av, cv, hr⟩ := rows_cls hc
  exact ⟨ao, cl, cap, av, cv, rfl, hr, hI⟩

theorem vals_len (cl : List (List Int)) (av : Nat → Option Addr) (cv : Nat → Nat) : (rowVals cl av cv).length = cl.length := by simp [rowVals]

theorem rows_src {w : World} {b off : Nat} {cl : List (List Int)} {av : Nat → Option Addr} {cv : Nat → Nat} (hc : ∀ j (h : j < cl.length), w.cell? ⟨b, off + j, none⟩ = some (.slice (av j) cl[j].length (cv j))) (lo m cap : Nat) (h : lo + m ≤ cl.length) :
    Src Try.prog 1 22 (.slice (some ⟨b, off + lo, none⟩) m cap) m (((rowVals cl av cv).drop lo).take m) w := by
  have hl : (((rowVals cl av cv).drop lo).take m).length = m := by rw [List.length_take, List.length_drop, vals_len]; omega
  have hg : ∀ j, j < m → (((rowVals cl av cv).drop lo).take m)[j]? = w.cell? ⟨b, off + lo + j, none⟩ := fun j hj => by
    rw [List.getElem?_take_of_lt hj, List.getElem?_drop, Nat.add_assoc, hc (lo + j) (by omega)]
    simp [rowVals, List.getD_eq_getElem?_getD, show lo + j < cl.length by omega]
  refine Src.ofSlice w Try.underlying22 ⟨b, off + lo, none⟩ m cap _ (by rw [hl, Nat.mul_one]) (fun j u hu => ?_) (fun u hu => ?_)
  · have hj : j < m := by have := (List.getElem?_eq_some_iff.1 hu).1; rw [hl] at this; exact this
    rw [add_plain, ← hg j hj]
    exact hu
  · obtain ⟨j, hj, rfl⟩ := List.getElem_of_mem hu
    have h2 := hg j (by omega)
    rw [List.getElem?_eq_getElem hj, Nat.add_assoc, hc (lo + j) (by omega)] at h2
    injection h2 with h2
    rw [h2]
    rfl

theorem rows_src0 {w : World} {ao : Option Addr} {cl : List (List Int)} {av : Nat → Option Addr} {cv : Nat → Nat} (hc : IsRows w ao cl av cv) (cap : Nat) :
    Src Try.prog 1 22 (.slice ao cl.length cap) cl.length (rowVals cl av cv) w := by
  by_cases h0 : 0 < cl.length
  · obtain ⟨b, off, rfl, _, hcc⟩ := hc.rows h0
    have := rows_src hcc 0 cl.length cap (by omega)
    rwa [Nat.add_zero, List.drop_zero, List.take_of_length_le (by rw [vals_len]; exact Nat.le_refl _)] at this
  · obtain rfl : cl = [] := List.eq_nil_of_length_eq_zero (by omega)
    cases ao with
    | none => exact Src.ofNil w Try.underlying22 cap
    | some a => exact Src.ofSlice w Try.underlying22 a 0 cap [] rfl (fun j u hu => by simp at hu) (fun u hu => by cases hu)

theorem ints_one {w : World} {g : Nat} {p : Int} (h : Blk w g 3 #[.int .i64 p]) : Ints w (some ⟨g, 0, none⟩) [p] := fun _ => ⟨g, 0, rfl, h.lt, fun j hj => by
  match j, hj with
  | 0, _ => exact h.cell 0⟩

theorem rows_at {w : World} {ao : Option Addr} {n cap : Nat} {vals : List Value} {X : List (List Int)} (hO : Own w 26 1 (.slice ao n cap) n vals) (he : n = vals.length) (hv : RowsV w vals X) : ∃ av cv, IsRows w ao X av cv := by
  subst he
  exact rows_own hO hv

theorem own_cap {w : World} {e : TypeId} {s : Nat} {ao : Option Addr} {n cap : Nat} {xs : List Value} (h : Own w e s (.slice ao n cap) n xs) : n ≤ cap := by
  obtain ⟨ao', cap', e, hn, _⟩ := h.form
  injection e with _ _ e3
  omega

structure RowsN (w : World) (vals : List Value) (cl : List (List Int)) : Prop where
  len : vals.length = cl.length
  own : ∀ j (h : j < cl.length), ∃ ao cap, vals[j]? = some (.slice ao cl[j].length cap) ∧ Own w 3 1 (.slice ao cl[j].length cap) cl[j].length (inC cl[j])

theorem RowsN.nil (w : World) : RowsN w [] [] := ⟨rfl, fun _ hj => absurd hj (Nat.not_lt_zero _)⟩

theorem RowsN.new {w w' : World} {vals : List Value} {cl : List (List Int)} (h : RowsN w vals cl) (hb : Below w.heap.size w w') : RowsN w' vals cl := ⟨h.len, fun j hj => by
  obtain ⟨ao, cap, e, hi⟩ := h.own j hj
  exact ⟨ao, cap, e, hi.new hb⟩⟩

theorem RowsN.grown {w w' : World} {vals xs : List Value} {cl : List (List Int)} {v : Value} {n : Nat} (h : RowsN w vals cl) (ho : Own w 26 1 v n xs) (hg : w.grownBy w' v.ownBlock) : RowsN w' vals cl := ⟨h.len, fun j hj => by
  obtain ⟨ao, cap, e, hi⟩ := h.own j hj
  exact ⟨ao, cap, e, hi.grown hg (Own.ne_own hi ho (by decide))⟩⟩

theorem RowsN.snoc {w : World} {vals : List Value} {cl : List (List Int)} (h : RowsN w vals cl) {ao : Option Addr} {c : List Int} {cap : Nat} (hi : Own w 3 1 (.slice ao c.length cap) c.length (inC c)) : RowsN w (vals ++ [.slice ao c.length cap]) (cl ++ [c]) := by
  refine ⟨by simp [h.len], fun j hj => ?_⟩
  by_cases hjl : j < cl.length
  · obtain ⟨ao', cap', e, hi'⟩ := h.own j hjl
    rw [List.getElem?_append_left (by rw [h.len]; exact hjl), List.getElem_append_left hjl]
    exact ⟨ao', cap', e, hi'⟩
  · have e : j = cl.length := by simp at hj; omega
    subst e
    rw [List.getElem?_append_right (by rw [h.len]; exact Nat.le_refl _), h.len]
    have e2 : (cl ++ [c])[cl.length]'hj = c := by simp
    rw [e2]
    exact ⟨ao, cap, by simp, hi⟩

theorem RowsN.rowsV {w : World} {vals : List Value} {cl : List (List Int)} (h : RowsN w vals cl) : RowsV w vals cl := ⟨h.len, fun j hj => by
  obtain ⟨ao, cap, e, hi⟩ := h.own j hj
  obtain ⟨ao', cap', e2, hI⟩ := Own.ints hi
  injection e2 with e3 _ _
  exact ⟨ao, cap, e, e3 ▸ hI⟩⟩

theorem bel_setCell {B : Nat} {a w : World} (h : Below B a w) {p : Addr} (hg : B ≤ p.block) (u : Value) : Below B a (w.setCell p u) :=
  h.trans ⟨rfl, rfl, rfl, by simp [World.setCell], fun k hk => Below.heap_setCell _ _ _ _ (by omega)⟩

theorem nil_row (w : World) : ∃ av cv, IsRows ((w.alloc (.cells #[] 3)).alloc (.cells #[.slice (some ⟨w.heap.size, 0, none⟩) 0 0] 26)) (some ⟨w.heap.size + 1, 0, none⟩) [[]] av cv := by
  have hk : Blk ((w.alloc (.cells #[] 3)).alloc (.cells #[.slice (some ⟨w.heap.size, 0, none⟩) 0 0] 26)) (w.heap.size + 1) 26 #[.slice (some ⟨w.heap.size, 0, none⟩) 0 0] := by
    have := Blk.new (w.alloc (.cells #[] 3)) 26 #[.slice (some ⟨w.heap.size, 0, none⟩) 0 0]
    rwa [show (w.alloc (.cells #[] 3)).heap.size = w.heap.size + 1 by simp] at this
  exact rows_at (n := 1) (cap := 1) (Own.of_blk hk 1 rfl (by decide)) rfl ⟨rfl, fun j hj => by
    match j, hj with
    | 0, _ => exact ⟨some ⟨w.heap.size, 0, none⟩, 0, rfl, fun h => absurd h (Nat.not_lt_zero _)⟩⟩

theorem one_row {w b : World} {x : Int} (h : b = (w.alloc (.cells #[.int .i64 x] 3)).alloc (.cells #[.slice (some ⟨w.heap.size, 0, none⟩) 1 1] 26)) : Below w.heap.size w b ∧ b.heap.size = w.heap.size + 1 + 1 ∧ ∃ av cv, IsRows b (some ⟨w.heap.size + 1, 0, none⟩) [[x]] av cv := by
  have hk : Blk b (w.heap.size + 1) 26 #[.slice (some ⟨w.heap.size, 0, none⟩) 1 1] := by
    have := Blk.new (w.alloc (.cells #[.int .i64 x] 3)) 26 #[.slice (some ⟨w.heap.size, 0, none⟩) 1 1]
    rw [h]
    rwa [show (w.alloc (.cells #[.int .i64 x] 3)).heap.size = w.heap.size + 1 by simp] at this
  have hi : Blk b w.heap.size 3 #[.int .i64 x] := by rw [h]; exact (Blk.new w 3 #[.int .i64 x]).alloc _
  refine ⟨by rw [h]; exact ((Below.refl _ _).alloc (Nat.le_refl _) _).alloc (by simp) _, by rw [h]; simp, rows_at (n := 1) (cap := 1) (Own.of_blk hk 1 rfl (by decide)) rfl ⟨rfl, fun j hj => ?_⟩⟩
  match j, hj with
  | 0, _ => exact ⟨some ⟨w.heap.size, 0, none⟩, 1, rfl, ints_one hi⟩

theorem two_rows {w b : World} {x y : Int} (h : b = ((w.alloc (.cells #[.int .i64 x] 3)).alloc (.cells #[.int .i64 y] 3)).alloc (.cells #[.slice (some ⟨w.heap.size, 0, none⟩) 1 1, .slice (some ⟨w.heap.size + 1, 0, none⟩) 1 1] 26)) : Below w.heap.size w b ∧ b.heap.size = w.heap.size + 1 + 1 + 1 ∧ ∃ av cv, IsRows b (some ⟨w.heap.size + 1 + 1, 0, none⟩) [[x], [y]] av cv := by
  have hk : Blk b (w.heap.size + 1 + 1) 26 #[.slice (some ⟨w.heap.size, 0, none⟩) 1 1, .slice (some ⟨w.heap.size + 1, 0, none⟩) 1 1] := by
    have := Blk.new ((w.alloc (.cells #[.int .i64 x] 3)).alloc (.cells #[.int .i64 y] 3)) 26 #[.slice (some ⟨w.heap.size, 0, none⟩) 1 1, .slice (some ⟨w.heap.size + 1, 0, none⟩) 1 1]
    rw [h]
    rwa [show ((w.alloc (.cells #[.int .i64 x] 3)).alloc (.cells #[.int .i64 y] 3)).heap.size = w.heap.size + 1 + 1 by simp] at this
  have hi : Blk b w.heap.size 3 #[.int .i64 x] := by rw [h]; exact ((Blk.new w 3 #[.int .i64 x]).alloc _).alloc _
  have hj' : Blk b (w.heap.size + 1) 3 #[.int .i64 y] := by
    have := Blk.new (w.alloc (.cells #[.int .i64 x] 3)) 3 #[.int .i64 y]
    rw [show (w.alloc (.cells #[.int .i64 x] 3)).heap.size = w.heap.size + 1 by simp] at this
    rw [h]
    exact this.alloc _
  refine ⟨by rw [h]; exact (((Below.refl _ _).alloc (Nat.le_refl _) _).alloc (by simp) _).alloc (by simp; omega) _, by rw [h]; simp, rows_at (n := 2) (cap := 2) (Own.of_blk hk 2 rfl (by decide)) rfl ⟨rfl, fun j hj => ?_⟩⟩
  match j, hj with
  | 0, _ => exact ⟨some ⟨w.heap.size, 0, none⟩, 1, rfl, ints_one hi⟩
  | 1, _ => exact ⟨some ⟨w.heap.size + 1, 0, none⟩, 1, rfl, ints_one hj'⟩

theorem bel_cell {a b : World} {g i : Nat} {v : Value} (hb : Below a.heap.size a b) (h : a.cell? ⟨g, i, none⟩ = some v) : b.cell? ⟨g, i, none⟩ = a.cell? ⟨g, i, none⟩ := by
  obtain ⟨g', off, e, hg⟩ := addr_of_cell (w := a) (a := ⟨g, i, none⟩) h
  injection e with e1 _
  exact World.cell?_of_block (w := a) (hb.block g (e1 ▸ hg))

theorem drop_ne (a b : List Int) (k : Nat) (h : k < a.length) (hab : a.length = b.length) : decide (a.drop k = b.drop k) = (decide (a[k] = b[k]'(by omega)) && decide (a.drop (k + 1) = b.drop (k + 1))) := by
  rw [List.drop_eq_getElem_cons h, List.drop_eq_getElem_cons (by omega : k < b.length), ← Bool.decide_and]
  exact decide_eq_decide.2 List.cons_eq_cons

theorem numbers_any (a b : List Int) (ao bo : Option Addr) (ca cb : Nat) (w : World) (ha : Ints w ao a) (hb : Ints w bo b) (hl : a.length ≤ 1000000) :
    Calls Try.prog 14 #[.slice ao a.length ca, .slice bo b.length cb] w fun e w' => e = .returned (.bool (decide (a = b))) ∧ Below w.heap.size w w' := by
  by_cases hne : a.length = b.length
  · obtain ⟨T, hT⟩ : ∃ T, T = decide (a = b) := ⟨_, rfl⟩
    rw [← hT]
    have HA := Lib.hid ha
    have HB := Lib.hid hb
    have HT := Lib.hid hT
    have HN := Lib.hid hne
    have hn2 : ((a.length : Int) != (b.length : Int)) = false := by simp [hne]
    clear ha hb hT hne
    go_enter Try.func14, Try.ntmps14
    go_wp2_with fail
    go_loopw [5] (fun x wr => ∃ k : Nat, k ≤ a.length ∧ x = .int .i64 k ∧ Hid (T = decide (a.drop k = b.drop k)) ∧ Below w.heap.size w wr) (fun x _ => a.length - (intOf x).toNat)
    case atStart => exact ⟨0, by omega, rfl, HT, Below.refl _ _⟩
    case round =>
      obtain ⟨k, hk, rfl, HTk, hBr⟩ := hrel
      by_cases hlt : k < a.length
      · have hlb : k < b.length := by have := HN.out; omega
        obtain ⟨b1, o1, rfl, hbl1, hc1⟩ := HA.out.below hBr (by omega)
        obtain ⟨b2, o2, rfl, hbl2, hc2⟩ := HB.out.below hBr (by omega)
        have hc1k := hc1 k hlt
        have hc2k := hc2 k hlb
        have hki : (k : Int) < (a.length : Int) := by omega
        have hkb : (k : Int) < (b.length : Int) := by omega
        have hTk := HTk.out
        rw [drop_ne a b k hlt HN.out] at hTk
        generalize a[k] = x at *
        generalize b[k] = y at *
        have HBr := Lib.hid hBr
        by_cases hxy : x = y
        · have hxy2 : (x != y) = false := by simpa using hxy
          have hT2 : T = decide (a.drop (k + 1) = b.drop (k + 1)) := by rw [hTk]; simp [hxy]
          have HT2 := Lib.hid hT2
          clear hT2 hTk hc1 hc2 hxy hBr HTk
          go_wp2_with fail
          go_region
          go_wp2_with fail
          go_roundw
          case rel => exact ⟨k + 1, by omega, by go_num, HT2, bel_drewN HBr.out 1⟩
          case measure => simp [intOf]; omega
        · have hxy2 : (x != y) = true := by simpa using hxy
          have hT2 : T = false := by rw [hTk]; simp [hxy]
          subst hT2
          clear hTk hc1 hc2 hxy hBr HTk
          go_wp2_with fail
          go_region
          go_wp2_with fail
          go_ret
          exact ⟨rfl, bel_drewN HBr.out 1⟩
      · obtain rfl : k = a.length := by omega
        have hT2 : T = true := by
          rw [HTk.out, HN.out]
          simp [List.drop_eq_nil_of_le (Nat.le_of_eq HN.out)]
        subst hT2
        clear HTk
        go_wp2_with fail
        go_ret
        exact ⟨rfl, hBr⟩
  · have hT : decide (a = b) = false := by
      simp
      intro e
      exact hne (by rw [e])
    rw [hT]
    have hn2 : ((a.length : Int) != (b.length : Int)) = true := by simp; omega
    clear hne ha hb hT
    go_enter Try.func14, Try.ntmps14
    go_wp2_with fail
    go_ret
    exact ⟨rfl, Below.refl _ _⟩

end Go.Proofs.Ythinopiobihmaaa

namespace Go.Proofs.Ythinopiobihmaaa
open Go.ChangeShapes Go.WideShapes Go.ChangeAt Go.RowKit Go.Maps Go.Deep
set_option maxRecDepth 100000

/-- All numbers are 0 or more, and below a number. -/
def fitsE (l : List Int) (below : Int) : Bool := !l.any fun n => decide (n < 0) || decide (below ≤ n)
/-- The first place at which f holds; -1: nowhere. -/
def firstC (f : Int → Bool) : List Int → Nat → Int
  | [], _ => -1
  | x :: xs, k => if f x then k else firstC f xs (k + 1)
theorem firstC_any (f : Int → Bool) : ∀ (l : List Int) (k : Nat), decide (0 ≤ firstC f l k) = l.any f
  | [], k => by simp [firstC]
  | x :: xs, k => by
    unfold firstC
    by_cases h : f x = true
    · rw [if_pos h]
      simp [h]
    · rw [if_neg h, firstC_any f xs (k + 1)]
      simp [h]

theorem fits1_any (below x : Int) (cp : Nat) (w : World) (hc : w.cell? ⟨cp, 0, none⟩ = some (.int .i64 below)) :
    Calls Try.prog 70 #[.int .i64 x, .pointer (some ⟨cp, 0, none⟩)] w fun e w' => e = .returned (.bool (decide (x < 0) || decide (below ≤ x))) ∧ w = w' := by
  by_cases h : x < 0
  · have hd : decide (x < 0) = true := by simpa using h
    rw [hd, Bool.true_or]
    clear h
    go_enter Try.func70, Try.ntmps70
    go_wp2_with fail
    go_ret
    exact ⟨rfl, rfl⟩
  · have hd : decide (x < 0) = false := by simpa using h
    rw [hd, Bool.false_or]
    obtain ⟨b, hb⟩ : ∃ b, b = decide (below ≤ x) := ⟨_, rfl⟩
    rw [← hb]
    have hb2 := hb.symm
    clear h hb
    go_enter Try.func70, Try.ntmps70
    go_wp2_with fail
    go_ret
    exact ⟨rfl, rfl⟩

theorem indexC_any (f : Int → Bool) (cp : Nat) (l : List Int) (ao : Option Addr) (cap : Nat) (w : World) (hl : l.length ≤ 9223372036854775807) (hI : Ints w ao l)
    (hf : ∀ x ∈ l, Calls Try.prog 70 #[.int .i64 x, .pointer (some ⟨cp, 0, none⟩)] w fun e w' => e = .returned (.bool (f x)) ∧ w = w') :
    Calls Try.prog 73 #[.slice ao l.length cap, .func (.func 70) #[] #[.pointer (some ⟨cp, 0, none⟩)]] w fun e w' => e = .returned (.int .i64 (firstC f l 0)) ∧ w = w' := by
  obtain ⟨T, hT⟩ : ∃ T, T = firstC f l 0 := ⟨_, rfl⟩
  have HT := Lib.hid hT
  have HF := Lib.hid hf
  have HC := Lib.hid hI
  rw [← hT]
  clear hT hf hI
  go_enter Try.func73, Try.ntmps73
  go_wp2_with fail
  go_loop [8] (fun i => ∃ k : Nat, k ≤ l.length ∧ i = .int .i64 k ∧ Hid (T = firstC f (l.drop k) k)) (fun i => l.length - (intOf i).toNat)
  case atStart => exact ⟨0, by omega, rfl, HT⟩
  case round =>
    obtain ⟨k, hk, rfl, HR⟩ := hrel
    by_cases hlt : k < l.length
    · obtain ⟨b, off, rfl, _, hcell⟩ := HC.out (by omega)
      have hck := hcell k hlt
      have hki : (k : Int) < (l.length : Int) := by omega
      have hrest := HR.out
      rw [List.drop_eq_getElem_cons hlt] at hrest
      unfold firstC at hrest
      have HK := Lib.hid (HF.out l[k] (List.getElem_mem _))
      generalize l[k] = x at *
      generalize hfx : f x = b1 at *
      cases b1 with
      | true =>
        rw [if_pos rfl] at hrest
        subst hrest
        clear hfx hcell HR
        go_wp2_with (go_at_call 70; refine HK.out.mono ?_; rintro e w' ⟨rfl, rfl⟩)
        go_ret
        exact ⟨rfl, rfl⟩
      | false =>
        have HR2 := Lib.hid hrest
        clear hfx hcell hrest HR
        go_wp2_with (go_at_call 70; refine HK.out.mono ?_; rintro e w' ⟨rfl, rfl⟩)
        go_round
        case rel => exact ⟨k + 1, by omega, by go_num, Lib.hid (by have h := HR2.out; rw [if_neg (by simp)] at h; exact h)⟩
        case measure => simp [intOf]; omega
    · obtain rfl : k = l.length := by omega
      have hT : T = -1 := by rw [HR.out, List.drop_length]; rfl
      subst hT
      clear HR
      go_wp2_with fail
      go_ret
      exact ⟨rfl, rfl⟩

theorem containsC_any (f : Int → Bool) (cp : Nat) (l : List Int) (ao : Option Addr) (cap : Nat) (w : World) (hl : l.length ≤ 9223372036854775807) (hI : Ints w ao l)
    (hf : ∀ x ∈ l, Calls Try.prog 70 #[.int .i64 x, .pointer (some ⟨cp, 0, none⟩)] w fun e w' => e = .returned (.bool (f x)) ∧ w = w') :
    Calls Try.prog 58 #[.slice ao l.length cap, .func (.func 70) #[] #[.pointer (some ⟨cp, 0, none⟩)]] w fun e w' => e = .returned (.bool (l.any f)) ∧ w = w' := by
  have HI := Lib.hid (indexC_any f cp l ao cap w hl hI hf)
  have h := firstC_any f l 0
  generalize firstC f l 0 = r at *
  rw [← h]
  clear h hf hI
  go_enter Try.func58, Try.ntmps58
  go_wp2_with (go_at_call 73; refine HI.out.mono ?_; rintro e w' ⟨rfl, rfl⟩)
  go_ret
  exact ⟨rfl, rfl⟩

theorem fits_any (l : List Int) (below : Int) (ao : Option Addr) (cap : Nat) (w : World) (hl : l.length ≤ 9223372036854775807) (hI : Ints w ao l) :
    Calls Try.prog 53 #[.slice ao l.length cap, .int .i64 below] w fun e w' => e = .returned (.bool (fitsE l below)) ∧ Below w.heap.size w w' := by
  have k := Blk.new w 3 #[.int .i64 below]
  have hb : Below w.heap.size w (w.alloc (.cells #[.int .i64 below] 3)) := (Below.refl _ w).alloc (Nat.le_refl _) _
  have HC := Lib.hid (containsC_any (fun n => decide (n < 0) || decide (below ≤ n)) w.heap.size l ao cap (w.alloc (.cells #[.int .i64 below] 3)) hl (hI.below hb) fun x _ => fits1_any below x w.heap.size _ (k.cell 0))
  have HB := Lib.hid hb
  unfold fitsE
  generalize l.any (fun n => decide (n < 0) || decide (below ≤ n)) = b at *
  clear hI k hb
  go_enter Try.func53, Try.ntmps53
  go_wp2_with (go_at_call 58; refine HC.out.mono ?_; rintro e w' ⟨rfl, rfl⟩)
  go_ret
  exact ⟨rfl, HB.out⟩

/-! ### mark -/
def boS (r : List Bool) : List Value := r.map Value.bool
/-- What mark makes of rests. -/
def markE (r : List Bool) (l : List Int) : List Bool := l.foldl (fun r n => r.set n.toNat true) r
theorem markE_len (l : List Int) : ∀ r : List Bool, (markE r l).length = r.length := by
  induction l with
  | nil => intro r; rfl
  | cons x l ih => intro r; exact (ih _).trans (by simp)

theorem mark_any (r : List Bool) (l : List Int) (ao : Option Addr) (cap : Nat) (g gr : Nat) (w : World) (hl : l.length ≤ 9223372036854775807) (hI : 0 < l.length → ∃ b off, ao = some ⟨b, off, none⟩ ∧ b < w.heap.size ∧ b ≠ gr ∧ ∀ j (h : j < l.length), w.cell? ⟨b, off + j, none⟩ = some (.int .i64 l[j])) (hg : w.cell? ⟨g, 0, none⟩ = some (.slice (some ⟨gr, 0, none⟩) r.length r.length))
    (hne : g ≠ gr) (hb : Blk w gr 4 (boS r).toArray) (hf : ∀ x ∈ l, 0 ≤ x ∧ x < r.length) :
    Calls Try.prog 54 #[.slice ao l.length cap, .pointer (some ⟨g, 0, none⟩)] w fun e w' => (∃ v, e = .returned v) ∧ Touch (fun k => k = gr) w w' ∧ Blk w' gr 4 (boS (markE r l)).toArray := by
  have HI := Lib.hid hI
  have HF := Lib.hid hf
  have HG := Lib.hid hg
  have HNe := Lib.hid hne
  have H0 := Lib.hid hb
  have hgl : g < w.heap.size := World.block_lt_of_cell? (a := ⟨g, 0, none⟩) _ hg
  clear hI hf hg hb hne
  go_enter Try.func54, Try.ntmps54
  go_wp2_with fail
  go_loopw [7] (fun i wr => ∃ k : Nat, k ≤ l.length ∧ i = .int .i64 k ∧ Hid (Touch (fun k => k = gr) w wr ∧ Blk wr gr 4 (boS (markE r (l.take k))).toArray)) (fun i _ => l.length - (intOf i).toNat)
  case atStart => exact ⟨0, by omega, rfl, Lib.hid ⟨Touch.refl _ _, by simpa [markE] using H0.out⟩⟩
  case round =>
    obtain ⟨k, hk, rfl, HR⟩ := hrel
    by_cases hlt : k < l.length
    · obtain ⟨ht, hbk⟩ := HR.out
      obtain ⟨b, off, e1, hbl, hbn, hcell⟩ := HI.out (by omega)
      subst e1
      have hck := (ht.cell (p := ⟨b, off + k, none⟩) hbl hbn).trans (hcell k hlt)
      have hki : (k : Int) < (l.length : Int) := by omega
      have hgk : wr.cell? ⟨g, 0, none⟩ = some (.slice (some ⟨gr, 0, none⟩) r.length r.length) := (ht.cell (p := ⟨g, 0, none⟩) hgl HNe.out).trans HG.out
      obtain ⟨hx0, hx1⟩ := HF.out l[k] (List.getElem_mem _)
      obtain ⟨x, hx⟩ : ∃ x : Nat, (x : Int) = l[k] := ⟨l[k].toNat, by omega⟩
      have hxl : x < r.length := by omega
      have hxi : (x : Int) < (r.length : Int) := by omega
      have hln : (markE r (l.take k)).length = r.length := markE_len _ _
      have hcx : wr.cell? ⟨gr, x, none⟩ = some (.bool ((markE r (l.take k))[x]'(by omega))) := by
        rw [hbk.cell x]
        simp [boS, hln, hxl]
      have hfx : wr.frozen? ⟨gr, x, none⟩ = false := hbk.frozen x
      have hnext : Touch (fun k => k = gr) w (wr.setCell ⟨gr, x, none⟩ (.bool true)) ∧ Blk (wr.setCell ⟨gr, x, none⟩ (.bool true)) gr 4 (boS (markE r (l.take (k + 1)))).toArray := by
        refine ⟨ht.setCell (fun _ => rfl) _, ?_⟩
        have e := hbk.set_ x (.bool true)
        have e2 : (boS (markE r (l.take (k + 1)))).toArray = (boS (markE r (l.take k))).toArray.setIfInBounds x (.bool true) := by
          have hxn : l[k].toNat = x := by omega
          rw [List.take_succ_eq_append_getElem hlt]
          unfold markE
          rw [List.foldl_append]
          simp [boS, hxn, List.map_set]
        rw [e2]
        exact e
      have HN := Lib.hid hnext
      rw [← hx] at hck
      generalize (markE r (l.take k))[x]'(by omega) = old at *
      clear hnext hx hx0 hx1 hln hcell ht hbk HR hbl hbn
      go_wp2_with fail
      go_roundw
      case rel => exact ⟨k + 1, by omega, by go_num, HN⟩
      case measure => simp [intOf]; omega
    · obtain rfl : k = l.length := by omega
      have HE := Lib.hid (show Touch (fun k => k = gr) w wr ∧ Blk wr gr 4 (boS (markE r l)).toArray by simpa using HR.out)
      clear HR
      go_wp2_with fail
      go_end0
      exact ⟨⟨_, rfl⟩, HE.out.1, HE.out.2⟩

end Go.Proofs.Ythinopiobihmaaa

namespace Go.Proofs.Ythinopiobihmaaa
open Go.ChangeShapes Go.WideShapes Go.ChangeAt Go.RowKit Go.Maps Go.Deep Go.Shelf
set_option maxRecDepth 100000
attribute [local go_sem] Oper.semAt_some

/-- What a round keeps: all that lies below n₀, but gr. -/
abbrev KpB (gr n0 : Nat) (W W' : World) : Prop := Touch (fun k => k = gr ∨ n0 ≤ k) W W'
theorem KpB.t {gr n0 : Nat} {A B C : World} (h : KpB gr n0 A B) (k : KpB gr n0 B C) : KpB gr n0 A C := h.trans k fun _ _ h => h
theorem KpB.b {gr n0 : Nat} {w : World} (hn : n0 ≤ w.heap.size) (W : World) (l : Nat) (o o' : Obj) (hl : w.heap.size ≤ l) (_ : W.heap[l]? = some o) (_ : o.isCells = false) (_ : o.isWalk = false) : KpB gr n0 W (W.putObj l o') :=
  Touch.of_grown (grownBy_putObj' W l o') fun k e => by cases e; exact .inr (by omega)

theorem KpB.cell {gr n0 : Nat} {W W' : World} (h : KpB gr n0 W W') {b : Nat} (hb : b < n0) (hg : b ≠ gr) (hw : n0 ≤ W.heap.size) (i : Nat) : W'.cell? ⟨b, i, none⟩ = W.cell? ⟨b, i, none⟩ :=
  Touch.cell h (p := ⟨b, i, none⟩) (Nat.lt_of_lt_of_le hb hw) fun e => by
    rcases e with e | e
    · exact hg e
    · exact absurd hb (Nat.not_lt.2 e)

/-- The places from the last down to q. -/
def downL (n q : Nat) : List Nat := ((List.range n).drop q).reverse
theorem downL_end (n : Nat) : downL n n = [] := by simp [downL]
theorem downL_zero (n : Nat) : downL n 0 = (List.range n).reverse := by simp [downL]
theorem downL_step {n p : Nat} (h : p < n) : downL n p = downL n (p + 1) ++ [p] := by
  unfold downL
  rw [List.drop_eq_getElem_cons (by simpa using h), List.reverse_cons]
  simp
theorem downL_len (n q : Nat) : (downL n q).length = n - q := by simp [downL]

abbrev rowE (cl : List (List Int)) (av : Nat → Option Addr) (cv : Nat → Nat) (j : Fin cl.length) : Array Value := #[.int .i64 (j.val : Int), .slice (av j.val) cl[j.val].length (cv j.val)]

set_option maxHeartbeats 2000000 in
theorem bwd1_in (F : Fence) (n : Nat) (hF : F.fn 71) (hro : F.round = none) (hn : 1 ≤ n) (l Bs gr n0 : Nat) (ao : Option Addr) (cap : Nat) (cl : List (List Int)) (av : Nat → Option Addr) (cv : Nat → Nat) (hcl : cl.length ≤ 4611686018427387904) (hBs : Bs < n0) (hBg : Bs ≠ gr)
    (J Jx : List (Fin cl.length) → World → Prop)
    (hY : ∀ pre x W, J pre W → pre.length < cl.length → YieldAt F (n - 1) Try.prog l (rowE cl av cv x) W fun e W' =>
      (e = .returned (.bool true) ∧ J (pre ++ [x]) W' ∧ KpB gr n0 W W') ∨ (e = .returned (.bool false) ∧ Jx (pre ++ [x]) W'))
    (W : World) (hn0 : n0 ≤ W.heap.size) (hc : W.cell? ⟨Bs, 0, none⟩ = some (.slice ao cl.length cap))
    (hR : 0 < cl.length → ∃ b off, ao = some ⟨b, off, none⟩ ∧ b < n0 ∧ b ≠ gr ∧ ∀ j (h : j < cl.length), W.cell? ⟨b, off + j, none⟩ = some (.slice (av j) cl[j].length (cv j))) (h0 : J [] W) :
    CallsIn F n Try.prog 71 #[.func (.yield l) #[] #[], .pointer (some ⟨Bs, 0, none⟩)] W fun e W' => (∃ v, e = .returned v) ∧
      ((∃ ys : List (Fin cl.length), ys.map Fin.val = (List.range cl.length).reverse ∧ J ys W') ∨ (∃ pre, True ∧ Jx pre W')) := by
  refine callsIn_of_wp Try.func71 rfl hF ?_ hro
  simp only [Try.ntmps71, List.size_toArray, List.length_cons, List.length_nil, Nat.reduceAdd, Nat.reduceSub, Array.replicate_succ, Array.replicate_zero, List.push_toArray, List.append_toArray, List.nil_append, List.cons_append]
  have HR := Lib.hid hR
  have HC := Lib.hid hc
  have HY := Lib.hid hY
  have hw1 : IntKind.i64.wrap ((cl.length : Int) - 1) = (cl.length : Int) - 1 := by rw [IntKind.wrap_i64]; omega
  obtain ⟨m, hm⟩ : ∃ m, m = cl.length := ⟨_, rfl⟩
  clear hR hY
  gi_wp2
  gi_loopw [3] (fun i wr => ∃ (q : Nat) (pre : List (Fin cl.length)), q ≤ cl.length ∧ i = .int .i64 ((q : Int) - 1) ∧ Hid (pre.map Fin.val = downL cl.length q ∧ J pre wr ∧ KpB gr n0 W wr))
    (fun i _ => (intOf i + 1).toNat)
  case atStart => exact ⟨cl.length, [], Nat.le_refl _, rfl, Lib.hid ⟨by simp [downL_end], h0, Touch.refl _ _⟩⟩
  case round =>
    obtain ⟨q, pre, hq, rfl, HJ⟩ := hrel
    obtain ⟨hp, hJs, hk⟩ := HJ.out
    have hcr : wr.cell? ⟨Bs, 0, none⟩ = some (.slice ao cl.length cap) := (hk.cell hBs hBg hn0 0).trans HC.out
    rcases q with _ | p
    · have hd : decide ((0 : Int) ≤ ((0 : Nat) : Int) - 1) = false := by decide
      have HE := Lib.hid (show pre.map Fin.val = (List.range cl.length).reverse by rw [hp, downL_zero])
      have HJ2 := Lib.hid hJs
      clear hp hJs hk HJ
      gi_wp2
      go_end0
      exact ⟨⟨_, rfl⟩, .inl ⟨pre, HE.out, HJ2.out⟩⟩
    · obtain ⟨b, off, rfl, hbl, hbn, hcells⟩ := HR.out (by omega)
      have hcp : wr.cell? ⟨b, off + p, none⟩ = some (.slice (av p) cl[p].length (cv p)) := (hk.cell hbl hbn hn0 _).trans (hcells p (by omega))
      obtain ⟨fn, tmps, assign, body, hy, hRd⟩ := HY.out pre ⟨p, by omega⟩ wr hJs (by
        have := congrArg List.length hp
        rw [List.length_map, downL_len] at this
        omega)
      dsimp only [rowE] at hy
      have hz : ((p + 1 : Nat) : Int) - 1 = (p : Int) := by omega
      have hpl : (p : Int) < (cl.length : Int) := by omega
      have hw2 : IntKind.i64.wrap ((p : Int) - 1) = (p : Int) - 1 := by rw [IntKind.wrap_i64]; omega
      rw [hz]
      have HP := Lib.hid (show (pre ++ [(⟨p, by omega⟩ : Fin cl.length)]).map Fin.val = downL cl.length p by rw [List.map_append, hp, downL_step (n := cl.length) (p := p) (by omega)]; rfl)
      have HK := Lib.hid hk
      have hpq : p ≤ cl.length := by omega
      clear hp hk hcells hJs HJ hz
      gi_wp2
      refine hRd.mono ?_
      rintro e W3 (⟨rfl, hJ3, hk3⟩ | ⟨rfl, hJx3⟩)
      · gi_wp2
        go_roundw
        case rel => exact ⟨p, _, hpq, rfl, Lib.hid ⟨HP.out, hJ3, HK.out.t hk3⟩⟩
        case measure => simp [intOf]
      · gi_wp2
        refine bodyPost_ret (results_none rfl _ _ _) rfl ?_
        exact ⟨⟨_, rfl⟩, .inr ⟨_, trivial, hJx3⟩⟩

theorem bwd_in (F : Fence) (n : Nat) (hF : F.fn 55) (hro : F.round = none) (a : Option Addr) (len cap : Nat) (w : World) :
    CallsIn F n Try.prog 55 #[.slice a len cap] w fun e w' => e = .returned (.func (.func 71) #[] #[.pointer (some ⟨w.heap.size, 0, none⟩)]) ∧ w' = w.alloc (.cells #[.slice a len cap] 22) := by
  refine callsIn_of_wp Try.func55 rfl hF ?_ hro
  simp only [Try.ntmps55, List.size_toArray, List.length_cons, List.length_nil, Nat.reduceAdd, Nat.reduceSub, Array.replicate_succ, Array.replicate_zero, List.push_toArray, List.append_toArray, List.nil_append, List.cons_append]
  gi_wp2
  go_ret
  exact ⟨rfl, rfl⟩

theorem bwd_stops (F : Fence) (n : Nat) (hF : F.fn 71) (hro : F.round = none) (hn : 1 ≤ n) (Bs gr : Nat) (ao : Option Addr) (cap : Nat) (cl : List (List Int)) (av : Nat → Option Addr) (cv : Nat → Nat) (w : World) (hcl : cl.length ≤ 4611686018427387904) (hBs : Bs < w.heap.size) (hBg : Bs ≠ gr)
    (hc : w.cell? ⟨Bs, 0, none⟩ = some (.slice ao cl.length cap))
    (hR : 0 < cl.length → ∃ b off, ao = some ⟨b, off, none⟩ ∧ b < w.heap.size ∧ b ≠ gr ∧ ∀ j (h : j < cl.length), w.cell? ⟨b, off + j, none⟩ = some (.slice (av j) cl[j].length (cv j))) :
    SeqStopsK F n Try.prog 71 #[.pointer (some ⟨Bs, 0, none⟩)] (rowE cl av cv) (KpB gr w.heap.size) (fun ys => ys.map Fin.val = (List.range cl.length).reverse) (fun _ => True) cl.length w := fun l J Jx W hW _ _ hY h0 => by
  refine bwd1_in F n hF hro hn l Bs gr w.heap.size ao cap cl av cv hcl hBs hBg J Jx hY W hW.size ((hW.cell (p := ⟨Bs, 0, none⟩) hBs).trans hc) (fun h => ?_) h0
  obtain ⟨b, off, e, hbl, hbn, hcs⟩ := hR h
  exact ⟨b, off, e, hbl, hbn, fun j hj => (hW.cell (p := ⟨b, off + j, none⟩) hbl).trans (hcs j hj)⟩

end Go.Proofs.Ythinopiobihmaaa
