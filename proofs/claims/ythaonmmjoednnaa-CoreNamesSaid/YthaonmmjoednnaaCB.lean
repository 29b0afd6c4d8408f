/- Core's base: numbers and rows in memory, what the laws are handed, Numbers (printed by gencb.py out of the other chapters' texts). Conditions: as each theorem names them. -/
import Derived.Test.YthaonmmjoednnaaRows
import Derived.Test.YthaonmmjoednnaaMem
import Derived.Test.YthaonmmjoednnaaArgs
import Derived.Deep.QuietTactic
import Derived.Deep.RegionLaw
import Derived.Deep.RegionHeld3
import Derived.Deep.Matrix
import Derived.Deep.Grids
import Derived.WalkMore
import Derived.Deep.Cut
import Derived.Deep.CutBlock
import Derived.Deep.CutRange
import Derived.Deep.LoopGhost
import Derived.Maps.OwnSet
import Derived.StillTailTactics
import Derived.Deep.OwnRows
import Derived.Laws.EntriesVeiled
namespace Go.Proofs.Ythaonmmjoednnaa
open Go.ChangeShapes Go.WideShapes Go.ChangeAt Go.RowKit Go.Maps Go.Deep
set_option maxRecDepth 100000

def inC (l : List Int) : List Value := l.map (Value.int .i64)

def I64 (x : Int) : Prop := -9223372036854775808 ≤ x ∧ x ≤ 9223372036854775807

theorem in_one (l : List Int) : ∀ u ∈ inC l, u.oneCell' = true := by
  intro u hu
  obtain ⟨b, _, rfl⟩ := List.mem_map.1 hu
  rfl

theorem inC_len (l : List Int) : (inC l).length = l.length := by simp [inC]

theorem inC_getD (l : List Int) (i : Nat) (h : i < l.length) : (inC l)[i]? = some (.int .i64 (l.getD i 0)) := by
  simp [inC, h, List.getD]

section
variable {P : Program} (w : World)

theorem step_append_S {ops : Array Oper} {o : Oper} {a : Act} {K : Act → World → Prop} {Q : Exit → Act → World → Prop} {E : Prop} (hgd : o.guard = none) (s sx : Operand) (t tx : TypeId)
    (ho : o.op = .call { callee := .builtin .append, args := #[s, sx], argTypes := #[t, tx] })
    (e : TypeId) (i : TypeInfo) (z : Value) (size bytes : Nat) (ht : P.underlying t = some (.slice e)) (hi : P.info? e = some i) (hz : i.zero = some z)
    (hsize : i.size = size) (hby : i.bytes = bytes) (hzs : z.cells.size = size) (hsz : 0 < size)
    (v : Value) (n : Nat) (xs : List Value) (hv : a.eval s = v) (hown : Own w e size v n xs) (h0 : ∀ u ∈ xs, u.oneCell' = true)
    (x : Value) (m : Nat) (news : List Value) (hx : a.eval sx = x) (hs : Src P size tx x m news w)
    (h63 : n + m ≤ maxLen) (hbytes : (n + m) * bytes ≤ 140737488355328)
    (h : ∀ ao' cap' w', n + m ≤ cap' → cap' ≤ maxLen → Own w' e size (.slice ao' (n + m) cap') (n + m) (xs ++ news) → w.grownBy w' v.ownBlock → ((Value.slice ao' (n + m) cap').ownBlock = v.ownBlock ∨ (Value.slice ao' (n + m) cap').ownBlock = some w.heap.size) → (∀ k, (Value.slice ao' (n + m) cap').ownBlock = some k → k < w'.heap.size) → K (a.put o.dst (.slice ao' (n + m) cap')) w') :
    if Region.wanted o (yielded ops a.tmps) = true then Oper.wp P o a w K Q else E := by
  have hw : Region.wanted o (yielded ops a.tmps) = true := by simp [Region.wanted, hgd]
  rw [if_pos hw]
  exact wp_append_S w s sx t tx ho e i z size bytes ht hi hz hsize hby hzs hsz v n xs hv hown h0 x m news hx hs h63 hbytes h

end

def Ints (w : World) (ao : Option Addr) (l : List Int) : Prop :=
  0 < l.length → ∃ b off, ao = some ⟨b, off, none⟩ ∧ b < w.heap.size ∧ ∀ j (h : j < l.length), w.cell? ⟨b, off + j, none⟩ = some (.int .i64 l[j])

theorem Ints.below {w w' : World} {ao : Option Addr} {l : List Int} (h : Ints w ao l) (hb : Below w.heap.size w w') : Ints w' ao l := fun h0 => by
  obtain ⟨b, off, e, hbl, hc⟩ := h h0
  exact ⟨b, off, e, Nat.lt_of_lt_of_le hbl hb.size, fun j hj => (World.cell?_of_block (w := w) (hb.block b hbl)).trans (hc j hj)⟩

theorem Ints.touch {w w' : World} {F : Nat → Prop} {ao : Option Addr} {l : List Int} (h : Ints w ao l) (ht : Touch F w w') (hF : ∀ b off, ao = some ⟨b, off, none⟩ → ¬ F b) : Ints w' ao l := fun h0 => by
  obtain ⟨b, off, e, hbl, hc⟩ := h h0
  exact ⟨b, off, e, Nat.lt_of_lt_of_le hbl ht.size, fun j hj => (ht.cell (p := ⟨b, off + j, none⟩) hbl (hF b off e)).trans (hc j hj)⟩

theorem Own.ints {w : World} {v : Value} {l : List Int} (h : Own w 3 1 v l.length (inC l)) : ∃ ao cap, v = .slice ao l.length cap ∧ Ints w ao l := by
  obtain ⟨ao, cap, e, _, _, hf⟩ := h.form
  refine ⟨ao, cap, e, fun h0 => ?_⟩
  obtain ⟨g, off, e2, hc, _, hg⟩ := hf h0
  exact ⟨g, off, e2, hg, fun j hj => by rw [hc j (by rw [inC_len]; exact hj), inC_getD _ _ hj]; simp [List.getD, hj]⟩

theorem ints_src {w : World} {ao : Option Addr} {l : List Int} (c : Nat) (h : Ints w ao l) : Src Try.prog 1 24 (.slice ao l.length c) l.length (inC l) w := by
  rcases Nat.eq_zero_or_pos l.length with h0 | h0
  · have hx : l = [] := List.eq_nil_of_length_eq_zero h0
    subst hx
    cases ao with
    | none => exact Src.ofNil w Try.underlying24 c
    | some a => exact Src.ofSlice w Try.underlying24 a 0 c [] rfl (fun j u hu => by simp at hu) (by simp)
  · obtain ⟨g, off, rfl, _, hc⟩ := h h0
    refine Src.ofSlice w Try.underlying24 ⟨g, off, none⟩ l.length c (inC l) (by simp [inC]) (fun j u hu => ?_) (in_one l)
    have hj : j < l.length := by have := (List.getElem?_eq_some_iff.1 hu).1; simpa [inC] using this
    have ha : (⟨g, off, none⟩ : Addr).add j = ⟨g, off + j, none⟩ := by unfold Addr.add; split <;> simp_all
    rw [ha, hc j hj, ← hu]
    simp [inC, hj]

structure IsRows (w : World) (ao : Option Addr) (cl : List (List Int)) (av : Nat → Option Addr) (cv : Nat → Nat) : Prop where
  rows : 0 < cl.length → ∃ b off, ao = some ⟨b, off, none⟩ ∧ b < w.heap.size ∧ ∀ j (h : j < cl.length), w.cell? ⟨b, off + j, none⟩ = some (.slice (av j) cl[j].length (cv j))
  ints : ∀ j (h : j < cl.length), Ints w (av j) cl[j]

theorem IsRows.below {w w' : World} {ao : Option Addr} {cl : List (List Int)} {av : Nat → Option Addr} {cv : Nat → Nat} (h : IsRows w ao cl av cv) (hb : Below w.heap.size w w') : IsRows w' ao cl av cv := by
  refine ⟨fun h0 => ?_, fun j hj => (h.ints j hj).below hb⟩
  obtain ⟨b, off, e, hbl, hc⟩ := h.rows h0
  exact ⟨b, off, e, Nat.lt_of_lt_of_le hbl hb.size, fun j hj => (World.cell?_of_block (w := w) (hb.block b hbl)).trans (hc j hj)⟩

def rowVals (cl : List (List Int)) (av : Nat → Option Addr) (cv : Nat → Nat) : List Value := (List.range cl.length).map fun j => .slice (av j) (cl.getD j []).length (cv j)

theorem rowVals_succ {cl : List (List Int)} {av : Nat → Option Addr} {cv : Nat → Nat} {k : Nat} (h : k < cl.length) : (rowVals cl av cv).take (k + 1) = (rowVals cl av cv).take k ++ [.slice (av k) cl[k].length (cv k)] := by
  have hl : k < (rowVals cl av cv).length := by simpa [rowVals] using h
  rw [List.take_succ_eq_append_getElem hl]
  simp [rowVals, List.getD_eq_getElem?_getD, h]

def boC (l : List Bool) : List Value := l.map Value.bool

def RowsV (w : World) (vals : List Value) (cl : List (List Int)) : Prop := vals.length = cl.length ∧ ∀ j (h : j < cl.length), ∃ ao cap, vals[j]? = some (.slice ao cl[j].length cap) ∧ Ints w ao cl[j]

theorem RowsV.below {w w' : World} {vals : List Value} {cl : List (List Int)} (h : RowsV w vals cl) (hb : Below w.heap.size w w') : RowsV w' vals cl := ⟨h.1, fun j hj => by
  obtain ⟨ao, cap, e, hi⟩ := h.2 j hj
  exact ⟨ao, cap, e, hi.below hb⟩⟩

theorem RowsV.nil (w : World) : RowsV w [] [] := ⟨rfl, fun _ hj => absurd hj (Nat.not_lt_zero _)⟩

theorem RowsV.snoc {w : World} {vals : List Value} {cl : List (List Int)} (h : RowsV w vals cl) {ao : Option Addr} {c : List Int} {cap : Nat} (hi : Ints w ao c) : RowsV w (vals ++ [.slice ao c.length cap]) (cl ++ [c]) := by
  refine ⟨by simp [h.1], fun j hj => ?_⟩
  by_cases hjl : j < cl.length
  · obtain ⟨ao', cap', e, hi'⟩ := h.2 j hjl
    rw [List.getElem?_append_left (by rw [h.1]; exact hjl), List.getElem_append_left hjl]
    exact ⟨ao', cap', e, hi'⟩
  · have e : j = cl.length := by simp at hj; omega
    subst e
    rw [List.getElem?_append_right (by rw [h.1]; exact Nat.le_refl _), h.1]
    have e2 : (cl ++ [c])[cl.length]'hj = c := by simp
    rw [e2]
    exact ⟨ao, cap, by simp, hi⟩

theorem RowsV.one {w : World} {vals : List Value} {cl : List (List Int)} (h : RowsV w vals cl) : ∀ u ∈ vals, u.oneCell' = true := fun u hu => by
  obtain ⟨j, hj, rfl⟩ := List.getElem_of_mem hu
  obtain ⟨ao, cap, e, _⟩ := h.2 j (by rw [← h.1]; exact hj)
  rw [List.getElem?_eq_getElem hj] at e
  injection e with e
  rw [e]
  rfl

theorem rows_choose {w : World} {cl : List (List Int)} {f : Nat → Option Value} (h : ∀ j (h : j < cl.length), ∃ ao cap, f j = some (.slice ao cl[j].length cap) ∧ Ints w ao cl[j]) : ∃ (av : Nat → Option Addr) (cv : Nat → Nat), ∀ j (h : j < cl.length), f j = some (.slice (av j) cl[j].length (cv j)) ∧ Ints w (av j) cl[j] := by
  have h1 : ∀ j, ∃ (p : Option Addr × Nat), ∀ (h : j < cl.length), f j = some (.slice p.1 cl[j].length p.2) ∧ Ints w p.1 cl[j] := fun j => by
    by_cases hj : j < cl.length
    · obtain ⟨ao, cap, e, hi⟩ := h j hj
      exact ⟨(ao, cap), fun _ => ⟨e, hi⟩⟩
    · exact ⟨(none, 0), fun h => absurd h hj⟩
  exact ⟨fun j => (Classical.choose (h1 j)).1, fun j => (Classical.choose (h1 j)).2, fun j hj => Classical.choose_spec (h1 j) hj⟩

theorem rows_own {w : World} {ao : Option Addr} {cap : Nat} {vals : List Value} {cl : List (List Int)} (hO : Own w 24 1 (.slice ao vals.length cap) vals.length vals) (hv : RowsV w vals cl) : ∃ av cv, IsRows w ao cl av cv := by
  obtain ⟨av, cv, h⟩ := rows_choose hv.2
  refine ⟨av, cv, fun h0 => ?_, fun j hj => (h j hj).2⟩
  obtain ⟨ao', cap', e, _, _, hf⟩ := hO.form
  injection e with e1 _ _
  subst e1
  obtain ⟨b, off, rfl, hc, _, hbl⟩ := hf (by rw [hv.1]; exact h0)
  exact ⟨b, off, rfl, hbl, fun j hj => (hc j (by rw [hv.1]; exact hj)).trans (h j hj).1⟩

def IsCls (w : World) (ao : Option Addr) (cls : List (List Int)) : Prop :=
  0 < cls.length → ∃ b off, ao = some ⟨b, off, none⟩ ∧ b < w.heap.size ∧ ∀ j (h : j < cls.length), ∃ ao' cap', w.cell? ⟨b, off + j, none⟩ = some (.slice ao' cls[j].length cap') ∧
    (0 < cls[j].length → ∃ b' off', ao' = some ⟨b', off', none⟩ ∧ b' < w.heap.size ∧ ∀ k (h : k < cls[j].length), w.cell? ⟨b', off' + k, none⟩ = some (.int .i64 cls[j][k]))

theorem wf_i64b {n : Int} (h : (Lit.int .i64 n).wf = true) : -9223372036854775808 ≤ n ∧ n ≤ 9223372036854775807 := by
  simp [Lit.wf, IntKind.min, IntKind.max, IntKind.signed, IntKind.bits] at h
  omega

theorem getD_take {l : List Int} {n k : Nat} (h : k < n) (hl : n ≤ l.length) : l.getD k 0 = (l.take n)[k]'(by simp; omega) := by
  have h2 : k < l.length := by omega
  simp [List.getD, h2]

theorem cls_of {H : Type} {enc : TypeId × Value → H} (W : World) (v : Value) (d : DataW H) (p : List MemPlace) (hval : Value.okWide Try.prog W .any 0 25 v) (h : DataW.Trod enc Try.prog W 0 (fun _ => true) true 25 v d p) (hfit : Fit Try.prog 25 d) :
    ∃ ao cls cap, v = .slice ao (List.length cls) cap ∧ IsCls W ao cls ∧ cls.length ≤ 9223372036854775807 ∧ (∀ c ∈ cls, c.length ≤ 140737488351232) ∧ ∀ c ∈ cls, ∀ x ∈ c, I64 x := by
  obtain ⟨ao, len, cap, rfl⟩ := okWide_slice Try.underlying25 hval
  obtain ⟨fuel, hf⟩ := h
  have hf' : DataW.trod enc Try.prog W 0 (fun _ => true) true fuel 25 [.slice ao len cap] = some (d, p) := by simpa [Value.cells] using hf
  rcases open_int_rows Try.underlying25 Try.underlying24 Try.underlying3 (by kernel_rfl) (by kernel_rfl) hf' with ⟨hcs, hx⟩ | ⟨a, len', cap', A, L, C, Z, hcs, _, hlc, hcm, hx, hi⟩
  · simp only [List.cons.injEq, Value.slice.injEq, and_true] at hcs
    obtain ⟨rfl, rfl, rfl⟩ := hcs
    exact ⟨none, [], 0, rfl, fun h => absurd h (by simp), by simp, fun c hc => by simp at hc, fun c hc => by simp at hc⟩
  · simp only [List.cons.injEq, Value.slice.injEq, and_true] at hcs
    obtain ⟨rfl, rfl, rfl⟩ := hcs
    have hlen : len ≤ 9223372036854775807 := by unfold maxLen at hcm; omega
    simp only [Prod.mk.injEq] at hx
    obtain ⟨hd, _⟩ := hx
    rw [hd] at hfit
    have hb8 : Try.prog.bytesOf 3 = 8 := by kernel_rfl
    have hfe := (hfit.slice Try.underlying25).2
    refine ⟨some a, (List.range len).map (fun r => (Z r).take (L r)), cap, by simp, fun h0 => ?_, by simpa using hlen, fun c hc => ?_, fun c hc x hx => ?_⟩
    · have h0' : 0 < len := by simpa using h0
      have hc0 := (hi 0 (by omega)).1
      obtain ⟨b, off, rfl, hb⟩ := addr_of_cell (w := W) (a := a) hc0
      simp only [add_plain] at hi
      refine ⟨b, off, rfl, hb, fun j hj => ?_⟩
      have hj' : j < len := by simpa using hj
      obtain ⟨k1, k2, k3, k4, _, k6, k7⟩ := hi j (by omega)
      have hcl : ((Z j).take (L j)).length = L j := by rw [List.length_take]; omega
      refine ⟨A j, C j, ?_, fun hp => ?_⟩
      · simp only [List.getElem_map, List.getElem_range, hcl]
        exact k1
      · simp only [List.getElem_map, List.getElem_range, hcl] at hp ⊢
        cases hA : A j with
        | none => have := k6 hA; omega
        | some a' =>
          obtain ⟨_, h8⟩ := k7 a' hA
          obtain ⟨b', off', rfl, hb'⟩ := addr_of_cell (w := W) (a := a') (h8 0 (by omega))
          refine ⟨b', off', rfl, hb', fun k hk => ?_⟩
          have h9 := h8 k (by omega)
          rw [add_plain] at h9
          rw [h9, getD_take (n := L j) hk (by omega)]
    · obtain ⟨r, hr, rfl⟩ := List.mem_map.1 hc
      have hrl := List.mem_range.1 hr
      obtain ⟨_, k2, _, k4, _, k6, _⟩ := hi r (by omega)
      have hf := hfe _ (List.mem_map.2 ⟨r, hr, rfl⟩)
      rw [List.length_take]
      cases hA : A r with
      | none => have := k6 hA; omega
      | some a' =>
        rw [hA] at hf
        have h5 := (Fit.slice (elems := lits .i64 ((Z r).take (L r))) (spare := lits .i64 ((Z r).drop (L r))) hf Try.underlying24).1
        rw [hb8] at h5
        simp only [lits, List.length_map, List.length_take, List.length_drop, reachBytes] at h5
        omega
    · obtain ⟨r, hr, rfl⟩ := List.mem_map.1 hc
      have := hi r (by have := List.mem_range.1 hr; omega)
      exact wf_i64b (this.2.2.2.2.1 x (List.mem_of_mem_take hx))

theorem ints_of {H : Type} {enc : TypeId × Value → H} (W : World) (v : Value) (d : DataW H) (p : List MemPlace) (hval : Value.okWide Try.prog W .any 0 24 v) (h : DataW.Trod enc Try.prog W 0 (fun _ => true) true 24 v d p) :
    ∃ ao l cap, v = .slice ao (List.length l) cap ∧ Ints W ao l ∧ l.length ≤ 9223372036854775807 ∧ ∀ x ∈ l, I64 x := by
  obtain ⟨ao, len, cap, rfl⟩ := okWide_slice Try.underlying24 hval
  obtain ⟨fuel, hf⟩ := h
  have hf' : DataW.trod enc Try.prog W 0 (fun _ => true) true fuel 24 [.slice ao len cap] = some (d, p) := by simpa [Value.cells] using hf
  rcases open_ints Try.underlying24 Try.underlying3 (by kernel_rfl) hf' with ⟨hcs, hx⟩ | ⟨a, len', cap', zs, hcs, _, hlc, hcm, hz, hx, hi, hwf⟩
  · simp only [List.cons.injEq, Value.slice.injEq, and_true] at hcs
    obtain ⟨rfl, rfl, rfl⟩ := hcs
    exact ⟨none, [], 0, rfl, fun h => absurd h (by simp), by simp, fun c hc => by simp at hc⟩
  · simp only [List.cons.injEq, Value.slice.injEq, and_true] at hcs
    obtain ⟨rfl, rfl, rfl⟩ := hcs
    simp only [if_true] at hz
    have hlen : len ≤ 9223372036854775807 := by unfold maxLen at hcm; omega
    have hcl : (zs.take len).length = len := by rw [List.length_take]; omega
    refine ⟨_, zs.take len, cap, by rw [hcl], fun h0 => ?_, by omega, fun x hx => wf_i64b (hwf x (List.mem_of_mem_take hx))⟩
    obtain ⟨b, off, rfl, hb⟩ := addr_of_cell (w := W) (a := a) (hi 0 (by omega))
    refine ⟨b, off, rfl, hb, fun k hk => ?_⟩
    have h9 := hi k (by omega)
    rw [add_plain] at h9
    rw [h9, getD_take (n := len) (by omega) (by omega)]

theorem rows_cls {w : World} {ao : Option Addr} {cl : List (List Int)} (h : IsCls w ao cl) : ∃ av cv, IsRows w ao cl av cv := by
  by_cases h0 : 0 < cl.length
  · obtain ⟨b, off, rfl, hbl, hc⟩ := h h0
    obtain ⟨av, cv, h1⟩ := rows_choose (w := w) (cl := cl) (f := fun j => w.cell? ⟨b, off + j, none⟩) fun j hj => by
      obtain ⟨ao', cap', e, hi⟩ := hc j hj
      exact ⟨ao', cap', e, hi⟩
    exact ⟨av, cv, fun _ => ⟨b, off, rfl, hbl, fun j hj => (h1 j hj).1⟩, fun j hj => (h1 j hj).2⟩
  · exact ⟨fun _ => none, fun _ => 0, fun h => absurd h h0, fun j hj => by omega⟩

theorem rows_of {H : Type} {enc : TypeId × Value → H} (W : World) (v : Value) (d : DataW H) (p : List MemPlace) (hval : Value.okWide Try.prog W .any 0 25 v) (h : DataW.Trod enc Try.prog W 0 (fun _ => true) true 25 v d p) (hfit : Fit Try.prog 25 d) :
    ∃ ao cl cap av cv, v = .slice ao (List.length cl) cap ∧ IsRows W ao cl av cv ∧ ∀ c ∈ cl, ∀ x ∈ c, I64 x := by
  obtain ⟨ao, cl, cap, rfl, hc, _, _, hI⟩ := cls_of W v d p hval h hfit
  obtain ⟨av, cv, hr⟩ := rows_cls hc
  exact ⟨ao, cl, cap, av, cv, rfl, hr, hI⟩

theorem vals_len (cl : List (List Int)) (av : Nat → Option Addr) (cv : Nat → Nat) : (rowVals cl av cv).length = cl.length := by simp [rowVals]

theorem rows_src {w : World} {b off : Nat} {cl : List (List Int)} {av : Nat → Option Addr} {cv : Nat → Nat} (hc : ∀ j (h : j < cl.length), w.cell? ⟨b, off + j, none⟩ = some (.slice (av j) cl[j].length (cv j))) (lo m cap : Nat) (h : lo + m ≤ cl.length) :
    Src Try.prog 1 25 (.slice (some ⟨b, off + lo, none⟩) m cap) m (((rowVals cl av cv).drop lo).take m) w := by
  have hl : (((rowVals cl av cv).drop lo).take m).length = m := by rw [List.length_take, List.length_drop, vals_len]; omega
  have hg : ∀ j, j < m → (((rowVals cl av cv).drop lo).take m)[j]? = w.cell? ⟨b, off + lo + j, none⟩ := fun j hj => by
    rw [List.getElem?_take_of_lt hj, List.getElem?_drop, Nat.add_assoc, hc (lo + j) (by omega)]
    simp [rowVals, List.getD_eq_getElem?_getD, show lo + j < cl.length by omega]
  refine Src.ofSlice w Try.underlying25 ⟨b, off + lo, none⟩ m cap _ (by rw [hl, Nat.mul_one]) (fun j u hu => ?_) (fun u hu => ?_)
  · have hj : j < m := by have := (List.getElem?_eq_some_iff.1 hu).1; rw [hl] at this; exact this
    rw [add_plain, ← hg j hj]
    exact hu
  · obtain ⟨j, hj, rfl⟩ := List.getElem_of_mem hu
    have h2 := hg j (by omega)
    rw [List.getElem?_eq_getElem hj, Nat.add_assoc, hc (lo + j) (by omega)] at h2
    injection h2 with h2
    rw [h2]
    rfl

theorem rows_src0 {w : World} {ao : Option Addr} {cl : List (List Int)} {av : Nat → Option Addr} {cv : Nat → Nat} (hc : IsRows w ao cl av cv) (cap : Nat) :
    Src Try.prog 1 25 (.slice ao cl.length cap) cl.length (rowVals cl av cv) w := by
  by_cases h0 : 0 < cl.length
  · obtain ⟨b, off, rfl, _, hcc⟩ := hc.rows h0
    have := rows_src hcc 0 cl.length cap (by omega)
    rwa [Nat.add_zero, List.drop_zero, List.take_of_length_le (by rw [vals_len]; exact Nat.le_refl _)] at this
  · obtain rfl : cl = [] := List.eq_nil_of_length_eq_zero (by omega)
    cases ao with
    | none => exact Src.ofNil w Try.underlying25 cap
    | some a => exact Src.ofSlice w Try.underlying25 a 0 cap [] rfl (fun j u hu => by simp at hu) (fun u hu => by cases hu)

theorem ints_one {w : World} {g : Nat} {p : Int} (h : Blk w g 3 #[.int .i64 p]) : Ints w (some ⟨g, 0, none⟩) [p] := fun _ => ⟨g, 0, rfl, h.lt, fun j hj => by
  match j, hj with
  | 0, _ => exact h.cell 0⟩

theorem rows_at {w : World} {ao : Option Addr} {n cap : Nat} {vals : List Value} {X : List (List Int)} (hO : Own w 24 1 (.slice ao n cap) n vals) (he : n = vals.length) (hv : RowsV w vals X) : ∃ av cv, IsRows w ao X av cv := by
  subst he
  exact rows_own hO hv

theorem own_cap {w : World} {e : TypeId} {s : Nat} {ao : Option Addr} {n cap : Nat} {xs : List Value} (h : Own w e s (.slice ao n cap) n xs) : n ≤ cap := by
  obtain ⟨ao', cap', e, hn, _⟩ := h.form
  injection e with _ _ e3
  omega

structure RowsN (w : World) (vals : List Value) (cl : List (List Int)) : Prop where
  len : vals.length = cl.length
  own : ∀ j (h : j < cl.length), ∃ ao cap, vals[j]? = some (.slice ao cl[j].length cap) ∧ Own w 3 1 (.slice ao cl[j].length cap) cl[j].length (inC cl[j])

theorem RowsN.nil (w : World) : RowsN w [] [] := ⟨rfl, fun _ hj => absurd hj (Nat.not_lt_zero _)⟩

theorem RowsN.new {w w' : World} {vals : List Value} {cl : List (List Int)} (h : RowsN w vals cl) (hb : Below w.heap.size w w') : RowsN w' vals cl := ⟨h.len, fun j hj => by
  obtain ⟨ao, cap, e, hi⟩ := h.own j hj
  exact ⟨ao, cap, e, hi.new hb⟩⟩

theorem RowsN.grown {w w' : World} {vals xs : List Value} {cl : List (List Int)} {v : Value} {n : Nat} (h : RowsN w vals cl) (ho : Own w 24 1 v n xs) (hg : w.grownBy w' v.ownBlock) : RowsN w' vals cl := ⟨h.len, fun j hj => by
  obtain ⟨ao, cap, e, hi⟩ := h.own j hj
  exact ⟨ao, cap, e, hi.grown hg (Own.ne_own hi ho (by decide))⟩⟩

theorem RowsN.snoc {w : World} {vals : List Value} {cl : List (List Int)} (h : RowsN w vals cl) {ao : Option Addr} {c : List Int} {cap : Nat} (hi : Own w 3 1 (.slice ao c.length cap) c.length (inC c)) : RowsN w (vals ++ [.slice ao c.length cap]) (cl ++ [c]) := by
  refine ⟨by simp [h.len], fun j hj => ?_⟩
  by_cases hjl : j < cl.length
  · obtain ⟨ao', cap', e, hi'⟩ := h.own j hjl
    rw [List.getElem?_append_left (by rw [h.len]; exact hjl), List.getElem_append_left hjl]
    exact ⟨ao', cap', e, hi'⟩
  · have e : j = cl.length := by simp at hj; omega
    subst e
    rw [List.getElem?_append_right (by rw [h.len]; exact Nat.le_refl _), h.len]
    have e2 : (cl ++ [c])[cl.length]'hj = c := by simp
    rw [e2]
    exact ⟨ao, cap, by simp, hi⟩

theorem RowsN.rowsV {w : World} {vals : List Value} {cl : List (List Int)} (h : RowsN w vals cl) : RowsV w vals cl := ⟨h.len, fun j hj => by
  obtain ⟨ao, cap, e, hi⟩ := h.own j hj
  obtain ⟨ao', cap', e2, hI⟩ := Own.ints hi
  injection e2 with e3 _ _
  exact ⟨ao, cap, e, e3 ▸ hI⟩⟩

theorem bel_setCell {B : Nat} {a w : World} (h : Below B a w) {p : Addr} (hg : B ≤ p.block) (u : Value) : Below B a (w.setCell p u) :=
  h.trans ⟨rfl, rfl, rfl, by simp [World.setCell], fun k hk => Below.heap_setCell _ _ _ _ (by omega)⟩

theorem nil_row (w : World) : ∃ av cv, IsRows ((w.alloc (.cells #[] 3)).alloc (.cells #[.slice (some ⟨w.heap.size, 0, none⟩) 0 0] 24)) (some ⟨w.heap.size + 1, 0, none⟩) [[]] av cv := by
  have hk : Blk ((w.alloc (.cells #[] 3)).alloc (.cells #[.slice (some ⟨w.heap.size, 0, none⟩) 0 0] 24)) (w.heap.size + 1) 24 #[.slice (some ⟨w.heap.size, 0, none⟩) 0 0] := by
    have := Blk.new (w.alloc (.cells #[] 3)) 24 #[.slice (some ⟨w.heap.size, 0, none⟩) 0 0]
    rwa [show (w.alloc (.cells #[] 3)).heap.size = w.heap.size + 1 by simp] at this
  exact rows_at (n := 1) (cap := 1) (Own.of_blk hk 1 rfl (by decide)) rfl ⟨rfl, fun j hj => by
    match j, hj with
    | 0, _ => exact ⟨some ⟨w.heap.size, 0, none⟩, 0, rfl, fun h => absurd h (Nat.not_lt_zero _)⟩⟩

theorem one_row {w b : World} {x : Int} (h : b = (w.alloc (.cells #[.int .i64 x] 3)).alloc (.cells #[.slice (some ⟨w.heap.size, 0, none⟩) 1 1] 24)) : Below w.heap.size w b ∧ b.heap.size = w.heap.size + 1 + 1 ∧ ∃ av cv, IsRows b (some ⟨w.heap.size + 1, 0, none⟩) [[x]] av cv := by
  have hk : Blk b (w.heap.size + 1) 24 #[.slice (some ⟨w.heap.size, 0, none⟩) 1 1] := by
    have := Blk.new (w.alloc (.cells #[.int .i64 x] 3)) 24 #[.slice (some ⟨w.heap.size, 0, none⟩) 1 1]
    rw [h]
    rwa [show (w.alloc (.cells #[.int .i64 x] 3)).heap.size = w.heap.size + 1 by simp] at this
  have hi : Blk b w.heap.size 3 #[.int .i64 x] := by rw [h]; exact (Blk.new w 3 #[.int .i64 x]).alloc _
  refine ⟨by rw [h]; exact ((Below.refl _ _).alloc (Nat.le_refl _) _).alloc (by simp) _, by rw [h]; simp, rows_at (n := 1) (cap := 1) (Own.of_blk hk 1 rfl (by decide)) rfl ⟨rfl, fun j hj => ?_⟩⟩
  match j, hj with
  | 0, _ => exact ⟨some ⟨w.heap.size, 0, none⟩, 1, rfl, ints_one hi⟩

theorem two_rows {w b : World} {x y : Int} (h : b = ((w.alloc (.cells #[.int .i64 x] 3)).alloc (.cells #[.int .i64 y] 3)).alloc (.cells #[.slice (some ⟨w.heap.size, 0, none⟩) 1 1, .slice (some ⟨w.heap.size + 1, 0, none⟩) 1 1] 24)) : Below w.heap.size w b ∧ b.heap.size = w.heap.size + 1 + 1 + 1 ∧ ∃ av cv, IsRows b (some ⟨w.heap.size + 1 + 1, 0, none⟩) [[x], [y]] av cv := by
  have hk : Blk b (w.heap.size + 1 + 1) 24 #[.slice (some ⟨w.heap.size, 0, none⟩) 1 1, .slice (some ⟨w.heap.size + 1, 0, none⟩) 1 1] := by
    have := Blk.new ((w.alloc (.cells #[.int .i64 x] 3)).alloc (.cells #[.int .i64 y] 3)) 24 #[.slice (some ⟨w.heap.size, 0, none⟩) 1 1, .slice (some ⟨w.heap.size + 1, 0, none⟩) 1 1]
    rw [h]
    rwa [show ((w.alloc (.cells #[.int .i64 x] 3)).alloc (.cells #[.int .i64 y] 3)).heap.size = w.heap.size + 1 + 1 by simp] at this
  have hi : Blk b w.heap.size 3 #[.int .i64 x] := by rw [h]; exact ((Blk.new w 3 #[.int .i64 x]).alloc _).alloc _
  have hj' : Blk b (w.heap.size + 1) 3 #[.int .i64 y] := by
    have := Blk.new (w.alloc (.cells #[.int .i64 x] 3)) 3 #[.int .i64 y]
    rw [show (w.alloc (.cells #[.int .i64 x] 3)).heap.size = w.heap.size + 1 by simp] at this
    rw [h]
    exact this.alloc _
  refine ⟨by rw [h]; exact (((Below.refl _ _).alloc (Nat.le_refl _) _).alloc (by simp) _).alloc (by simp; omega) _, by rw [h]; simp, rows_at (n := 2) (cap := 2) (Own.of_blk hk 2 rfl (by decide)) rfl ⟨rfl, fun j hj => ?_⟩⟩
  match j, hj with
  | 0, _ => exact ⟨some ⟨w.heap.size, 0, none⟩, 1, rfl, ints_one hi⟩
  | 1, _ => exact ⟨some ⟨w.heap.size + 1, 0, none⟩, 1, rfl, ints_one hj'⟩

theorem bel_cell {a b : World} {g i : Nat} {v : Value} (hb : Below a.heap.size a b) (h : a.cell? ⟨g, i, none⟩ = some v) : b.cell? ⟨g, i, none⟩ = a.cell? ⟨g, i, none⟩ := by
  obtain ⟨g', off, e, hg⟩ := addr_of_cell (w := a) (a := ⟨g, i, none⟩) h
  injection e with e1 _
  exact World.cell?_of_block (w := a) (hb.block g (e1 ▸ hg))

theorem drop_ne (a b : List Int) (k : Nat) (h : k < a.length) (hab : a.length = b.length) : decide (a.drop k = b.drop k) = (decide (a[k] = b[k]'(by omega)) && decide (a.drop (k + 1) = b.drop (k + 1))) := by
  rw [List.drop_eq_getElem_cons h, List.drop_eq_getElem_cons (by omega : k < b.length), ← Bool.decide_and]
  exact decide_eq_decide.2 List.cons_eq_cons

theorem numbers_any (a b : List Int) (ao bo : Option Addr) (ca cb : Nat) (w : World) (ha : Ints w ao a) (hb : Ints w bo b) (hl : a.length ≤ 1000000) :
    Calls Try.prog 9 #[.slice ao a.length ca, .slice bo b.length cb] w fun e w' => e = .returned (.bool (decide (a = b))) ∧ Below w.heap.size w w' := by
  by_cases hne : a.length = b.length
  · obtain ⟨T, hT⟩ : ∃ T, T = decide (a = b) := ⟨_, rfl⟩
    rw [← hT]
    have HA := Lib.hid ha
    have HB := Lib.hid hb
    have HT := Lib.hid hT
    have HN := Lib.hid hne
    have hn2 : ((a.length : Int) != (b.length : Int)) = false := by simp [hne]
    clear ha hb hT hne
    go_enter Try.func9, Try.ntmps9
    go_wp2_with fail
    go_loopw [5] (fun x wr => ∃ k : Nat, k ≤ a.length ∧ x = .int .i64 k ∧ Hid (T = decide (a.drop k = b.drop k)) ∧ Below w.heap.size w wr) (fun x _ => a.length - (intOf x).toNat)
    case atStart => exact ⟨0, by omega, rfl, HT, Below.refl _ _⟩
    case round =>
      obtain ⟨k, hk, rfl, HTk, hBr⟩ := hrel
      by_cases hlt : k < a.length
      · have hlb : k < b.length := by have := HN.out; omega
        obtain ⟨b1, o1, rfl, hbl1, hc1⟩ := HA.out.below hBr (by omega)
        obtain ⟨b2, o2, rfl, hbl2, hc2⟩ := HB.out.below hBr (by omega)
        have hc1k := hc1 k hlt
        have hc2k := hc2 k hlb
        have hki : (k : Int) < (a.length : Int) := by omega
        have hkb : (k : Int) < (b.length : Int) := by omega
        have hTk := HTk.out
        rw [drop_ne a b k hlt HN.out] at hTk
        generalize a[k] = x at *
        generalize b[k] = y at *
        have HBr := Lib.hid hBr
        by_cases hxy : x = y
        · have hxy2 : (x != y) = false := by simpa using hxy
          have hT2 : T = decide (a.drop (k + 1) = b.drop (k + 1)) := by rw [hTk]; simp [hxy]
          have HT2 := Lib.hid hT2
          clear hT2 hTk hc1 hc2 hxy hBr HTk
          go_wp2_with fail
          go_region
          go_wp2_with fail
          go_roundw
          case rel => exact ⟨k + 1, by omega, by go_num, HT2, bel_drewN HBr.out 1⟩
          case measure => simp [intOf]; omega
        · have hxy2 : (x != y) = true := by simpa using hxy
          have hT2 : T = false := by rw [hTk]; simp [hxy]
          subst hT2
          clear hTk hc1 hc2 hxy hBr HTk
          go_wp2_with fail
          go_region
          go_wp2_with fail
          go_ret
          exact ⟨rfl, bel_drewN HBr.out 1⟩
      · obtain rfl : k = a.length := by omega
        have hT2 : T = true := by
          rw [HTk.out, HN.out]
          simp [List.drop_eq_nil_of_le (Nat.le_of_eq HN.out)]
        subst hT2
        clear HTk
        go_wp2_with fail
        go_ret
        exact ⟨rfl, hBr⟩
  · have hT : decide (a = b) = false := by
      simp
      intro e
      exact hne (by rw [e])
    rw [hT]
    have hn2 : ((a.length : Int) != (b.length : Int)) = true := by simp; omega
    clear hne ha hb hT
    go_enter Try.func9, Try.ntmps9
    go_wp2_with fail
    go_ret
    exact ⟨rfl, Below.refl _ _⟩

end Go.Proofs.Ythaonmmjoednnaa
