/- Two watchers side by side; rows of numbers that came in. -/
import Derived.Test.YtnachllhjojlcaaV23
import Derived.Test.YtnachllhjojlcaaV25
namespace Go.Proofs.Ytnachllhjojlcaa
open Go.ChangeShapes Go.WideShapes Go.ChangeAt Go.RowKit Go.Maps Go.Deep
set_option maxRecDepth 100000

/-! ### Rows of numbers that came in -/
def IsCls (w : World) (ao : Option Addr) (cls : List (List Int)) : Prop :=
  0 < cls.length → ∃ b off, ao = some ⟨b, off, none⟩ ∧ b < w.heap.size ∧ ∀ j (h : j < cls.length), ∃ ao' cap', w.cell? ⟨b, off + j, none⟩ = some (.slice ao' cls[j].length cap') ∧
    (0 < cls[j].length → ∃ b' off', ao' = some ⟨b', off', none⟩ ∧ b' < w.heap.size ∧ ∀ k (h : k < cls[j].length), w.cell? ⟨b', off' + k, none⟩ = some (.int .i64 cls[j][k]))

theorem IsCls.below {w w' : World} {ao : Option Addr} {cls : List (List Int)} (h : IsCls w ao cls) (hb : Below w.heap.size w w') : IsCls w' ao cls := fun h0 => by
  obtain ⟨b, off, e, hbl, hc⟩ := h h0
  refine ⟨b, off, e, Nat.lt_of_lt_of_le hbl hb.size, fun j hj => ?_⟩
  obtain ⟨ao', cap', h1, h2⟩ := hc j hj
  refine ⟨ao', cap', (World.cell?_of_block (w := w) (hb.block b hbl)).trans h1, fun h3 => ?_⟩
  obtain ⟨b', off', e', hbl', hc'⟩ := h2 h3
  exact ⟨b', off', e', Nat.lt_of_lt_of_le hbl' hb.size, fun k hk => (World.cell?_of_block (w := w) (hb.block b' hbl')).trans (hc' k hk)⟩

theorem IsCls.row {w : World} {ao : Option Addr} {cls : List (List Int)} (h : IsCls w ao cls) (i : Nat) (hi : i < cls.length) : ∃ b off ai ci, ao = some ⟨b, off, none⟩ ∧ w.cell? ⟨b, off + i, none⟩ = some (.slice ai cls[i].length ci) ∧ Ints w ai cls[i] := by
  obtain ⟨b, off, e, hbl, hc⟩ := h (by omega)
  obtain ⟨ai, ci, h1, h2⟩ := hc i hi
  exact ⟨b, off, ai, ci, e, h1, h2⟩
theorem cls_of {H : Type} {enc : TypeId × Value → H} (W : World) (v : Value) (d : DataW H) (p : List MemPlace) (hval : Value.okWide Try.prog W .any 0 22 v) (h : DataW.Trod enc Try.prog W 0 (fun _ => true) true 22 v d p) (hfit : Fit Try.prog 22 d) :
    ∃ ao cls cap, v = .slice ao (List.length cls) cap ∧ IsCls W ao cls ∧ cls.length ≤ 9223372036854775807 ∧ (∀ c ∈ cls, c.length ≤ 140737488351232) ∧ ∀ c ∈ cls, ∀ x ∈ c, I64 x := by
  obtain ⟨ao, len, cap, rfl⟩ := okWide_slice Try.underlying22 hval
  obtain ⟨fuel, hf⟩ := h
  have hf' : DataW.trod enc Try.prog W 0 (fun _ => true) true fuel 22 [.slice ao len cap] = some (d, p) := by simpa [Value.cells] using hf
  rcases open_int_rows Try.underlying22 Try.underlying23 Try.underlying3 (by kernel_rfl) (by kernel_rfl) hf' with ⟨hcs, hx⟩ | ⟨a, len', cap', A, L, C, Z, hcs, _, hlc, hcm, hx, hi⟩
  · simp only [List.cons.injEq, Value.slice.injEq, and_true] at hcs
    obtain ⟨rfl, rfl, rfl⟩ := hcs
    exact ⟨none, [], 0, rfl, fun h => absurd h (by simp), by simp, fun c hc => by simp at hc, fun c hc => by simp at hc⟩
  · simp only [List.cons.injEq, Value.slice.injEq, and_true] at hcs
    obtain ⟨rfl, rfl, rfl⟩ := hcs
    have hlen : len ≤ 9223372036854775807 := by unfold maxLen at hcm; omega
    simp only [Prod.mk.injEq] at hx
    obtain ⟨hd, _⟩ := hx
    rw [hd] at hfit
    have hb8 : Try.prog.bytesOf 3 = 8 := by kernel_rfl
    have hfe := (hfit.slice Try.underlying22).2
    refine ⟨some a, (List.range len).map (fun r => (Z r).take (L r)), cap, by simp, fun h0 => ?_, by simpa using hlen, fun c hc => ?_, fun c hc x hx => ?_⟩
    · have h0' : 0 < len := by simpa using h0
      have hc0 := (hi 0 (by omega)).1
      obtain ⟨b, off, rfl, hb⟩ := addr_of_cell (w := W) (a := a) hc0
      simp only [add_plain] at hi
      refine ⟨b, off, rfl, hb, fun j hj => ?_⟩
      have hj' : j < len := by simpa using hj
      obtain ⟨k1, k2, k3, k4, _, k6, k7⟩ := hi j (by omega)
      have hcl : ((Z j).take (L j)).length = L j := by rw [List.length_take]; omega
      refine ⟨A j, C j, ?_, fun hp => ?_⟩
      · simp only [List.getElem_map, List.getElem_range, hcl]
        exact k1
      · simp only [List.getElem_map, List.getElem_range, hcl] at hp ⊢
        cases hA : A j with
        | none => have := k6 hA; omega
        | some a' =>
          obtain ⟨_, h8⟩ := k7 a' hA
          obtain ⟨b', off', rfl, hb'⟩ := addr_of_cell (w := W) (a := a') (h8 0 (by omega))
          refine ⟨b', off', rfl, hb', fun k hk => ?_⟩
          have h9 := h8 k (by omega)
          rw [add_plain] at h9
          rw [h9, getD_take (n := L j) hk (by omega)]
    · obtain ⟨r, hr, rfl⟩ := List.mem_map.1 hc
      have hrl := List.mem_range.1 hr
      obtain ⟨_, k2, _, k4, _, k6, _⟩ := hi r (by omega)
      have hf := hfe _ (List.mem_map.2 ⟨r, hr, rfl⟩)
      rw [List.length_take]
      cases hA : A r with
      | none => have := k6 hA; omega
      | some a' =>
        rw [hA] at hf
        have h5 := (Fit.slice (elems := lits .i64 ((Z r).take (L r))) (spare := lits .i64 ((Z r).drop (L r))) hf Try.underlying23).1
        rw [hb8] at h5
        simp only [lits, List.length_map, List.length_take, List.length_drop, reachBytes] at h5
        omega
    · obtain ⟨r, hr, rfl⟩ := List.mem_map.1 hc
      have := hi r (by have := List.mem_range.1 hr; omega)
      exact wf_i64b (this.2.2.2.2.1 x (List.mem_of_mem_take hx))

theorem ints_of {H : Type} {enc : TypeId × Value → H} (W : World) (v : Value) (d : DataW H) (p : List MemPlace) (hval : Value.okWide Try.prog W .any 0 23 v) (h : DataW.Trod enc Try.prog W 0 (fun _ => true) true 23 v d p) :
    ∃ ao l cap, v = .slice ao (List.length l) cap ∧ Ints W ao l ∧ l.length ≤ 9223372036854775807 ∧ ∀ x ∈ l, I64 x := by
  obtain ⟨ao, len, cap, rfl⟩ := okWide_slice Try.underlying23 hval
  obtain ⟨fuel, hf⟩ := h
  have hf' : DataW.trod enc Try.prog W 0 (fun _ => true) true fuel 23 [.slice ao len cap] = some (d, p) := by simpa [Value.cells] using hf
  rcases open_ints Try.underlying23 Try.underlying3 (by kernel_rfl) hf' with ⟨hcs, hx⟩ | ⟨a, len', cap', zs, hcs, _, hlc, hcm, hz, hx, hi, hwf⟩
  · simp only [List.cons.injEq, Value.slice.injEq, and_true] at hcs
    obtain ⟨rfl, rfl, rfl⟩ := hcs
    exact ⟨none, [], 0, rfl, fun h => absurd h (by simp), by simp, fun c hc => by simp at hc⟩
  · simp only [List.cons.injEq, Value.slice.injEq, and_true] at hcs
    obtain ⟨rfl, rfl, rfl⟩ := hcs
    simp only [if_true] at hz
    have hlen : len ≤ 9223372036854775807 := by unfold maxLen at hcm; omega
    have hcl : (zs.take len).length = len := by rw [List.length_take]; omega
    refine ⟨_, zs.take len, cap, by rw [hcl], fun h0 => ?_, by omega, fun x hx => wf_i64b (hwf x (List.mem_of_mem_take hx))⟩
    obtain ⟨b, off, rfl, hb⟩ := addr_of_cell (w := W) (a := a) (hi 0 (by omega))
    refine ⟨b, off, rfl, hb, fun k hk => ?_⟩
    have h9 := hi k (by omega)
    rw [add_plain] at h9
    rw [h9, getD_take (n := len) (by omega) (by omega)]


/-! ### Two watchers -/
abbrev Pair (xa n ta : Nat) (Sa : WS) (xb tb : Nat) (Sb : WS) : Ast := (Emp.and (wat xa n ta Sa)).and (wat xb n tb Sb)
theorem ctxA (xb n tb : Nat) (Sb : WS) : Ctx fun A => (Emp.and A).and (wat xb n tb Sb) := (Ctx.id.left (Solid.wat xb n tb Sb)).right Solid.emp
theorem ctxB (xa n ta : Nat) (Sa : WS) : Ctx fun A => (Emp.and (wat xa n ta Sa)).and A := Ctx.id.right (Solid.emp.and (Solid.wat xa n ta Sa))
theorem pairSolid (xa n ta : Nat) (Sa : WS) (xb tb : Nat) (Sb : WS) : Solid (Pair xa n ta Sa xb tb Sb) := (Solid.emp.and (Solid.wat ..)).and (Solid.wat ..)
section
variable {W w : World} {xa xb n ta tb : Nat} {Sa Sb S' : WS}
theorem pa_ok (h : On W w (Pair xa n ta Sa xb tb Sb)) : OkS n ta Sa := On.ok (ctxA xb n tb Sb) h
theorem pb_ok (h : On W w (Pair xa n ta Sa xb tb Sb)) : OkS n tb Sb := On.ok (ctxB xa n ta Sa) h
theorem pair_new (h : On W w (Emp.and (wat xa n ta Sa))) (hn : n ≤ 60) :
    Calls Try.prog 10 #[.int .i64 n] w fun e w' => ∃ xb, e = .returned (.tuple #[.pointer (some ⟨xb, 0, none⟩), .int .i64 0]) ∧ On W w' (Pair xa n ta Sa xb 0 (newS n)) := on_new (Solid.emp.and (Solid.wat ..)) h hn
theorem pa_add (h : On W w (Pair xa n ta Sa xb tb Sb)) (hn : n ≤ 60) (ht : ta ≤ 999) (ao : Option Addr) (c : List Int) (cap : Nat) (hc : Ints w ao c) (hl : c.length ≤ 40) (hI : ∀ x ∈ c, I64 x) :
    Calls Try.prog 12 #[.pointer (some ⟨xa, 0, none⟩), .slice ao c.length cap] w fun e w' => e = .returned (.tuple #[.int .i64 (addS Sa c).2.1, .int .i64 (addS Sa c).2.2]) ∧ On W w' (Pair xa n (ta + 1) (addS Sa c).1 xb tb Sb) := on_add (ctxA xb n tb Sb) h hn ht ao c cap hc hl hI
theorem pb_add (h : On W w (Pair xa n ta Sa xb tb Sb)) (hn : n ≤ 60) (ht : tb ≤ 999) (ao : Option Addr) (c : List Int) (cap : Nat) (hc : Ints w ao c) (hl : c.length ≤ 40) (hI : ∀ x ∈ c, I64 x) :
    Calls Try.prog 12 #[.pointer (some ⟨xb, 0, none⟩), .slice ao c.length cap] w fun e w' => e = .returned (.tuple #[.int .i64 (addS Sb c).2.1, .int .i64 (addS Sb c).2.2]) ∧ On W w' (Pair xa n ta Sa xb (tb + 1) (addS Sb c).1) := on_add (ctxB xa n ta Sa) h hn ht ao c cap hc hl hI
theorem pa_decide (h : On W w (Pair xa n ta Sa xb tb Sb)) (hn : n ≤ 60) (i : Int) (hi : I64 i) {r : Int} (hr : decS Sa i = (S', r)) :
    Calls Try.prog 13 #[.pointer (some ⟨xa, 0, none⟩), .int .i64 i] w fun e w' => e = .returned (.int .i64 r) ∧ On W w' (Pair xa n (ta + 1) S' xb tb Sb) := on_decide' (ctxA xb n tb Sb) h hn i hi hr
theorem pb_decide (h : On W w (Pair xa n ta Sa xb tb Sb)) (hn : n ≤ 60) (i : Int) (hi : I64 i) {r : Int} (hr : decS Sb i = (S', r)) :
    Calls Try.prog 13 #[.pointer (some ⟨xb, 0, none⟩), .int .i64 i] w fun e w' => e = .returned (.int .i64 r) ∧ On W w' (Pair xa n ta Sa xb (tb + 1) S') := on_decide' (ctxB xa n ta Sa) h hn i hi hr
theorem pa_prop (h : On W w (Pair xa n ta Sa xb tb Sb)) (hn : n ≤ 60) (ht : ta ≤ 999) {r : Int} (hr : propS Sa = (S', r)) :
    Calls Try.prog 14 #[.pointer (some ⟨xa, 0, none⟩)] w fun e w' => e = .returned (.int .i64 r) ∧ On W w' (Pair xa n (ta + 1) S' xb tb Sb) := on_prop' (ctxA xb n tb Sb) h hn ht hr
theorem pb_prop (h : On W w (Pair xa n ta Sa xb tb Sb)) (hn : n ≤ 60) (ht : tb ≤ 999) {r : Int} (hr : propS Sb = (S', r)) :
    Calls Try.prog 14 #[.pointer (some ⟨xb, 0, none⟩)] w fun e w' => e = .returned (.int .i64 r) ∧ On W w' (Pair xa n ta Sa xb (tb + 1) S') := on_prop' (ctxB xa n ta Sa) h hn ht hr
theorem pa_back (h : On W w (Pair xa n ta Sa xb tb Sb)) (hn : n ≤ 60) (ht : ta ≤ 999) (i : Int) (hi : I64 i) {r : Int} (hr : backS Sa i = (S', r)) :
    Calls Try.prog 20 #[.pointer (some ⟨xa, 0, none⟩), .int .i64 i] w fun e w' => e = .returned (.int .i64 r) ∧ On W w' (Pair xa n (ta + 1) S' xb tb Sb) := on_back' (ctxA xb n tb Sb) h hn ht i hi hr
theorem pa_value (h : On W w (Pair xa n ta Sa xb tb Sb)) (hn : n ≤ 60) (i : Int) (hi : I64 i) {v : Int} (hv : valE n Sa.es i = v) :
    Calls Try.prog 15 #[.pointer (some ⟨xa, 0, none⟩), .int .i64 i] w fun e w' => e = .returned (.int .i64 v) ∧ w = w' := on_value' (ctxA xb n tb Sb) h hn i hi hv
theorem pb_value (h : On W w (Pair xa n ta Sa xb tb Sb)) (hn : n ≤ 60) (i : Int) (hi : I64 i) {v : Int} (hv : valE n Sb.es i = v) :
    Calls Try.prog 15 #[.pointer (some ⟨xb, 0, none⟩), .int .i64 i] w fun e w' => e = .returned (.int .i64 v) ∧ w = w' := on_value' (ctxB xa n ta Sa) h hn i hi hv
theorem pa_settled (hI : WInv Sa) (hS : Sa.n = n) {r : Int} (hr : propS Sa = (S', r)) (h : On W w (Pair xa n ta S' xb tb Sb)) (hn : n ≤ 60) (ht : ta ≤ 1000) :
    Calls Try.prog 36 #[.pointer (some ⟨xa, 0, none⟩), .int .i64 r] w fun e w' => e = .returned (.bool true) ∧ Below w.heap.size w w' := by
  have := settled_prop (ctxA xb n tb Sb) hI hS (S := Sa) (x := xa) (t := ta) (W := W) (w := w) (by rw [hr]; exact h) hn ht
  rw [hr] at this
  exact this
end

end Go.Proofs.Ytnachllhjojlcaa
