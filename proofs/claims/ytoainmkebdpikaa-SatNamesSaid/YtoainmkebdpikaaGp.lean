/- A search's answer as the laws ask for it; the examples (awake). -/
import Derived.Test.YtoainmkebdpikaaGo
import Derived.Test.YtoainmkebdpikaaGa
import Derived.Deep.Matrix
import Derived.Deep.Grids
namespace Go.Proofs.Ytoainmkebdpikaa
open Go.ChangeShapes Go.WideShapes Go.ChangeAt Go.RowKit Go.Maps Go.Deep
set_option maxRecDepth 100000

/-! ### Plain -/
theorem true_sat {st : List Bool} {x : Int} (h : 1 ≤ x.natAbs ∧ x.natAbs ≤ st.length) : trueE st x = satA (fun v => st.getD v false) x := by
  unfold trueE satA
  by_cases h0 : 0 < x
  · rw [if_pos (by omega), if_pos h0]
    congr 1
    omega
  · rw [if_neg (by omega), if_pos (by omega), if_neg h0, if_pos (by omega)]
    congr 2
    omega
theorem knownS_mem {n : Nat} {c : List Int} (h : knownS n c = true) : ∀ x ∈ c, 1 ≤ x.natAbs ∧ x.natAbs ≤ n := fun x hx => by
  have := List.all_eq_true.1 h x hx
  simpa using this
theorem any_congr' {α : Type} {p q : α → Bool} : ∀ {l : List α}, (∀ x ∈ l, p x = q x) → l.any p = l.any q
  | [], _ => rfl
  | x :: l, h => by rw [List.any_cons, List.any_cons, h x (List.mem_cons_self ..), any_congr' fun y hy => h y (List.mem_cons_of_mem _ hy)]
theorem holds_same {st : List Bool} {c : List Int} (h : knownS st.length c = true) : holdsC st c = holdsA (fun v => st.getD v false) c := any_congr' fun x hx => true_sat (knownS_mem h x hx)
theorem holdsA_congr {n : Nat} {A B : Nat → Bool} {c : List Int} (h : knownS n c = true) (hAB : ∀ v, v < n → A v = B v) : holdsA A c = holdsA B c := any_congr' fun x hx => by
  have := knownS_mem h x hx
  unfold satA
  rw [hAB (x.natAbs - 1) (by omega)]
theorem holdsCl_iff {st : List Bool} {cl : List (List Int)} (h : cl.all (knownS st.length) = true) : holdsCl st cl = true ↔ ∀ c ∈ cl, holdsA (fun v => st.getD v false) c = true := by
  unfold holdsCl
  rw [List.all_eq_true]
  constructor
  · intro hh c hc
    rw [← holds_same (List.all_eq_true.1 h c hc)]
    exact hh c hc
  · intro hh c hc
    rw [holds_same (List.all_eq_true.1 h c hc)]
    exact hh c hc
theorem sat_state {n : Nat} {cl : List (List Int)} (h : cl.all (knownS n) = true) : (∃ A, ∀ c ∈ cl, holdsA A c = true) ↔ ∃ st : List Bool, st.length = n ∧ holdsCl st cl = true := by
  constructor
  · rintro ⟨A, hA⟩
    refine ⟨(List.range n).map A, by simp, ?_⟩
    rw [holdsCl_iff (by simpa using h)]
    intro c hc
    rw [← hA c hc]
    refine holdsA_congr (List.all_eq_true.1 h c hc) fun v hv => ?_
    simp [List.getD_eq_getElem?_getD, hv]
  · rintro ⟨st, rfl, hs⟩
    exact ⟨_, (holdsCl_iff h).1 hs⟩
theorem solve_yes {n : Nat} {cl : List (List Int)} (h : cl.all (knownS n) = true) : (solveE n cl).yes = true ↔ ∃ st : List Bool, st.length = n ∧ holdsCl st cl = true := by
  rw [← sat_state h]
  exact (solve_ok n cl (List.all_eq_true.1 h)).2.sat
theorem solve_steps (n : Nat) {cl : List (List Int)} (h : cl.all (knownS n) = true) : ((solveE n cl).steps : Int) ≤ enoughE n ∨ 12 < n := by
  by_cases hn : n ≤ 12
  · left
    have h1 := (solve_ok n cl (List.all_eq_true.1 h)).2.steps
    have h2 : (2 : Nat) ^ (n + 1) ≤ 2 ^ 13 := Nat.pow_le_pow_right (by decide) (by omega)
    have h3 : 2 ^ n * (n + 1) ≤ (n + 1) * 2 ^ (n + 1) := by
      rw [Nat.mul_comm]
      exact Nat.mul_le_mul_left _ (Nat.pow_le_pow_right (by decide) (by omega))
    have h4 : (n + 1) * 2 ^ (n + 1) ≤ 13 * 2 ^ 13 := Nat.mul_le_mul (by omega) h2
    have h5 : enoughE n = (((n + 1) * 2 ^ (n + 1) : Nat) : Int) := by
      rw [enough_small (by omega)]
      have e : ((((n + 1) * 2 ^ (n + 1) : Nat)) : Int) = ((n : Int) + 1) * 2 ^ (n + 1) := by push_cast; rfl
      rw [← e]
      omega
    rw [h5]
    exact_mod_cast Nat.le_trans h1 h3
  · right; omega

/-! ### Rows -/
def RowsV (w : World) (vals : List Value) (cl : List (List Int)) : Prop := vals.length = cl.length ∧ ∀ j (h : j < cl.length), ∃ ao cap, vals[j]? = some (.slice ao cl[j].length cap) ∧ Ints w ao cl[j]
theorem RowsV.below {w w' : World} {vals : List Value} {cl : List (List Int)} (h : RowsV w vals cl) (hb : Below w.heap.size w w') : RowsV w' vals cl := ⟨h.1, fun j hj => by
  obtain ⟨ao, cap, e, hi⟩ := h.2 j hj
  exact ⟨ao, cap, e, hi.below hb⟩⟩
theorem RowsV.nil (w : World) : RowsV w [] [] := ⟨rfl, fun _ hj => absurd hj (Nat.not_lt_zero _)⟩
theorem RowsV.snoc {w : World} {vals : List Value} {cl : List (List Int)} (h : RowsV w vals cl) {ao : Option Addr} {c : List Int} {cap : Nat} (hi : Ints w ao c) : RowsV w (vals ++ [.slice ao c.length cap]) (cl ++ [c]) := by
  refine ⟨by simp [h.1], fun j hj => ?_⟩
  by_cases hjl : j < cl.length
  · obtain ⟨ao', cap', e, hi'⟩ := h.2 j hjl
    rw [List.getElem?_append_left (by rw [h.1]; exact hjl), List.getElem_append_left hjl]
    exact ⟨ao', cap', e, hi'⟩
  · have e : j = cl.length := by simp at hj; omega
    subst e
    rw [List.getElem?_append_right (by rw [h.1]; exact Nat.le_refl _), h.1]
    have e2 : (cl ++ [c])[cl.length]'hj = c := by simp
    rw [e2]
    exact ⟨ao, cap, by simp, hi⟩
theorem RowsV.one {w : World} {vals : List Value} {cl : List (List Int)} (h : RowsV w vals cl) : ∀ u ∈ vals, u.oneCell' = true := fun u hu => by
  obtain ⟨j, hj, rfl⟩ := List.getElem_of_mem hu
  obtain ⟨ao, cap, e, _⟩ := h.2 j (by rw [← h.1]; exact hj)
  rw [List.getElem?_eq_getElem hj] at e
  injection e with e
  rw [e]
  rfl
theorem rows_choose {w : World} {cl : List (List Int)} {f : Nat → Option Value} (h : ∀ j (h : j < cl.length), ∃ ao cap, f j = some (.slice ao cl[j].length cap) ∧ Ints w ao cl[j]) : ∃ (av : Nat → Option Addr) (cv : Nat → Nat), ∀ j (h : j < cl.length), f j = some (.slice (av j) cl[j].length (cv j)) ∧ Ints w (av j) cl[j] := by
  have h1 : ∀ j, ∃ (p : Option Addr × Nat), ∀ (h : j < cl.length), f j = some (.slice p.1 cl[j].length p.2) ∧ Ints w p.1 cl[j] := fun j => by
    by_cases hj : j < cl.length
    · obtain ⟨ao, cap, e, hi⟩ := h j hj
      exact ⟨(ao, cap), fun _ => ⟨e, hi⟩⟩
    · exact ⟨(none, 0), fun h => absurd h hj⟩
  exact ⟨fun j => (Classical.choose (h1 j)).1, fun j => (Classical.choose (h1 j)).2, fun j hj => Classical.choose_spec (h1 j) hj⟩
theorem rows_own {w : World} {ao : Option Addr} {cap : Nat} {vals : List Value} {cl : List (List Int)} (hO : Own w 25 1 (.slice ao vals.length cap) vals.length vals) (hv : RowsV w vals cl) : ∃ av cv, IsRows w ao cl av cv := by
  obtain ⟨av, cv, h⟩ := rows_choose hv.2
  refine ⟨av, cv, fun h0 => ?_, fun j hj => (h j hj).2⟩
  obtain ⟨ao', cap', e, _, _, hf⟩ := hO.form
  injection e with e1 _ _
  subst e1
  obtain ⟨b, off, rfl, hc, _, hbl⟩ := hf (by rw [hv.1]; exact h0)
  exact ⟨b, off, rfl, hbl, fun j hj => (hc j (by rw [hv.1]; exact hj)).trans (h j hj).1⟩
theorem rows_cls {w : World} {ao : Option Addr} {cl : List (List Int)} (h : IsCls w ao cl) : ∃ av cv, IsRows w ao cl av cv := by
  by_cases h0 : 0 < cl.length
  · obtain ⟨b, off, rfl, hbl, hc⟩ := h h0
    obtain ⟨av, cv, h1⟩ := rows_choose (w := w) (cl := cl) (f := fun j => w.cell? ⟨b, off + j, none⟩) fun j hj => by
      obtain ⟨ao', cap', e, hi⟩ := hc j hj
      exact ⟨ao', cap', e, hi⟩
    exact ⟨av, cv, fun _ => ⟨b, off, rfl, hbl, fun j hj => (h1 j hj).1⟩, fun j hj => (h1 j hj).2⟩
  · exact ⟨fun _ => none, fun _ => 0, fun h => absurd h h0, fun j hj => by omega⟩
theorem IsRows.vals {w : World} {ao : Option Addr} {cl : List (List Int)} {av : Nat → Option Addr} {cv : Nat → Nat} (h : IsRows w ao cl av cv) : RowsV w (rowVals cl av cv) cl := ⟨by simp [rowVals], fun j hj => ⟨av j, cv j, by simp [rowVals, hj, List.getD_eq_getElem?_getD], h.ints j hj⟩⟩

/-! ### Solve, as it is called -/
abbrev ansV (A : Ans) (a1 : Option Addr) (c1 : Nat) (a2 : Option Addr) (c2 : Nat) (a3 : Option Addr) (c3 : Nat) : Array Value := #[.bool A.yes, .slice a1 A.state.length c1, .int .i64 A.steps, .slice a2 A.bonds.length c2, .slice a3 A.last.length c3]
theorem AnsAt.forms {w w' : World} {A : Ans} {sv fv lv : Value} (h : AnsAt w w' A sv fv lv) : ∃ a1 c1 a2 c2 a3 c3, sv = .slice a1 A.state.length c1 ∧ fv = .slice a2 A.bonds.length c2 ∧ lv = .slice a3 A.last.length c3 := by
  obtain ⟨a1, c1, e1, _⟩ := h.state.form
  obtain ⟨vals, hO, _⟩ := h.bonds
  obtain ⟨a2, c2, e2, _⟩ := hO.form
  obtain ⟨a3, c3, e3, _⟩ := h.last.form
  exact ⟨a1, c1, a2, c2, a3, c3, e1, e2, e3⟩

section
variable {n : Nat} {ao : Option Addr} {cl : List (List Int)} {cap : Nat} {av : Nat → Option Addr} {cv : Nat → Nat} {w : World}
theorem solve_good (hn : n ≤ 12) (hc : IsRows w ao cl av cv) (hm : cl.length ≤ 1000) (hl : ∀ c ∈ cl, c.length ≤ 40) (hk : cl.all (knownS n) = true) (budget : Int) (hb : ((solveE n cl).steps : Int) ≤ budget ∧ budget ≤ 1099511627776) :
    Calls Try.prog 13 #[.int .i64 n, .slice ao cl.length cap, .int .i64 budget] w fun e w' => Below w.heap.size w w' ∧ ∃ a1 c1 a2 c2 a3 c3, e = .returned (.tuple #[.agg (ansV (solveE n cl) a1 c1 a2 c2 a3 c3), .int .i64 0]) ∧ AnsAt w w' (solveE n cl) (.slice a1 (solveE n cl).state.length c1) (.slice a2 (solveE n cl).bonds.length c2) (.slice a3 (solveE n cl).last.length c3) := by
  have hI : ∀ c ∈ cl, ∀ x ∈ c, I64 x := fun c hc x hx => by
    have := knownS_mem (List.all_eq_true.1 hk c hc) x hx
    unfold I64
    omega
  refine (solve_any n hn ao cl cap av cv w hc hm hl hI budget (by omega)).mono ?_
  rintro e w' ⟨hb1, h | h | ⟨_, _, sv, fv, lv, rfl, hA⟩⟩
  · rw [h.1] at hk; cases hk
  · omega
  · obtain ⟨a1, c1, a2, c2, a3, c3, rfl, rfl, rfl⟩ := hA.forms
    exact ⟨hb1, a1, c1, a2, c2, a3, c3, rfl, hA⟩
theorem solve_less (hn : n ≤ 12) (hc : IsRows w ao cl av cv) (hm : cl.length ≤ 1000) (hl : ∀ c ∈ cl, c.length ≤ 40) (hk : cl.all (knownS n) = true) (budget : Int) (hb : budget < (solveE n cl).steps ∧ 0 ≤ budget ∧ budget ≤ 1099511627776) :
    Calls Try.prog 13 #[.int .i64 n, .slice ao cl.length cap, .int .i64 budget] w fun e w' => Below w.heap.size w w' ∧ e = .returned (.tuple #[.agg #[.bool false, .slice none 0 0, .int .i64 0, .slice none 0 0, .slice none 0 0], .int .i64 44]) := by
  have hI : ∀ c ∈ cl, ∀ x ∈ c, I64 x := fun c hc x hx => by
    have := knownS_mem (List.all_eq_true.1 hk c hc) x hx
    unfold I64
    omega
  refine (solve_any n hn ao cl cap av cv w hc hm hl hI budget (by omega)).mono ?_
  rintro e w' ⟨hb1, h | ⟨_, _, rfl⟩ | h⟩
  · rw [h.1] at hk; cases hk
  · exact ⟨hb1, rfl⟩
  · omega
theorem solve_bad (hn : n ≤ 12) (hc : IsRows w ao cl av cv) (hm : cl.length ≤ 1000) (hl : ∀ c ∈ cl, c.length ≤ 40) (hI : ∀ c ∈ cl, ∀ x ∈ c, I64 x) (hk : cl.all (knownS n) = false) (budget : Int) (hb : 0 ≤ budget ∧ budget ≤ 1099511627776) :
    Calls Try.prog 13 #[.int .i64 n, .slice ao cl.length cap, .int .i64 budget] w fun e w' => Below w.heap.size w w' ∧ e = .returned (.tuple #[.agg #[.bool false, .slice none 0 0, .int .i64 0, .slice none 0 0, .slice none 0 0], .int .i64 1]) := by
  refine (solve_any n hn ao cl cap av cv w hc hm hl hI budget hb).mono ?_
  rintro e w' ⟨hb1, ⟨_, rfl⟩ | h | h⟩
  · exact ⟨hb1, rfl⟩
  · rw [h.1] at hk; cases hk
  · rw [h.1] at hk; cases hk
end

theorem solve_vars (vars : Int) (hv : vars < 0 ∨ 2097152 < vars) (v : Value) (budget : Int) (w : World) :
    Calls Try.prog 13 #[.int .i64 vars, v, .int .i64 budget] w fun e w' => Below w.heap.size w w' ∧ e = .returned (.tuple #[.agg #[.bool false, .slice none 0 0, .int .i64 0, .slice none 0 0, .slice none 0 0], .int .i64 1]) := by
  go_enter Try.func13, Try.ntmps13
  go_wp2_with fail
  go_step3
  have hB : Below w.heap.size w (w.alloc (.cells (ansC false nilV 0 nilV nilV) 30)) := (Below.refl _ _).alloc (Nat.le_refl _) _
  have rb := Blk.new w 30 (ansC false nilV 0 nilV nilV)
  have HB := Lib.hid hB
  have HR := Lib.hid rb
  unfold ansC nilV at HB HR
  clear hB rb
  obtain ⟨w0, hw0⟩ : ∃ w0, w0 = w.alloc (.cells #[.bool false, .slice none 0 0, .int .i64 0, .slice none 0 0, .slice none 0 0] 30) := ⟨_, rfl⟩
  rw [← hw0] at HB HR ⊢
  obtain ⟨r, hr⟩ : ∃ r, r = w.heap.size := ⟨_, rfl⟩
  rw [← hr] at HR ⊢
  have HRg := Lib.hid (show w.heap.size ≤ r by omega)
  clear hw0 hr
  have r0 := HR.out.cell 0
  have r1 := HR.out.cell 1
  have r2 := HR.out.cell 2
  have r3 := HR.out.cell 3
  have r4 := HR.out.cell 4
  have rf := HR.out.frozen
  simp at r0 r1 r2 r3 r4
  go_wp2_with (go_at_call 21; (with_reducible refine (wnew_bad vars _ hv).mono ?_); rintro e w1 ⟨rfl, rfl⟩)
  (try simp only [Exit.noGoto_ret])
  refine bodyPost_ret (results_cell2 Try.results13 _ _ r 30 _ _ rfl (blk_five HR.out) Try.underlying30 rfl (by kernel_rfl)) rfl ?_
  exact ⟨below_five HB.out HRg.out, rfl⟩

end Go.Proofs.Ytoainmkebdpikaa

namespace Go.Proofs.Ytoainmkebdpikaa
open Go.ChangeShapes Go.WideShapes Go.ChangeAt Go.RowKit Go.Maps Go.Deep
set_option maxRecDepth 100000

theorem solve_budget (n : Nat) (hn : n ≤ 12) (v : Value) (budget : Int) (hb : budget < 0 ∨ 1099511627776 < budget) (w : World) :
    Calls Try.prog 13 #[.int .i64 n, v, .int .i64 budget] w fun e w' => Below w.heap.size w w' ∧ e = .returned (.tuple #[.agg #[.bool false, .slice none 0 0, .int .i64 0, .slice none 0 0, .slice none 0 0], .int .i64 1]) := by
  have hcase : (decide (budget < 0) = true) ∨ (decide (budget < 0) = false ∧ decide (1099511627776 < budget) = true) := by
    rcases hb with h | h
    · exact .inl (by simpa using h)
    · exact .inr ⟨by simp; omega, by simpa using h⟩
  go_enter Try.func13, Try.ntmps13
  go_wp2_with fail
  go_step3
  have h0 : On w (w.alloc (.cells (ansC false nilV 0 nilV nilV) 30)) (Emp.and (blkA w.heap.size 30 (ansC false nilV 0 nilV nilV))) := (On.start (Below.refl w.heap.size w)).new Solid.emp ((Below.refl _ _).alloc (Nat.le_refl _) _) (B := blkA w.heap.size 30 (ansC false nilV 0 nilV nilV)) ⟨Blk.new .., fun _ => Iff.rfl⟩ fun k hk => Nat.le_of_eq hk.symm
  have HN := Lib.hid (on_new (n := n) (Solid.emp.and (Solid.blkA ..)) h0 hn)
  unfold ansC nilV at HN
  obtain ⟨r, hr⟩ : ∃ r, r = w.heap.size := ⟨_, rfl⟩
  rw [← hr] at HN ⊢
  have HRg := Lib.hid (show w.heap.size ≤ r by omega)
  clear h0 hb hr
  rcases hcase with hd | ⟨hd1, hd2⟩
  all_goals
    go_wp2_with (go_at_call 21; (with_reducible refine HN.out.mono ?_); rintro e w1 ⟨x, rfl, h1⟩; have rb := blk_cells ((Ctx.id.left (Solid.wat ..)).right Solid.emp) h1; have r0 := rb.cell 0; have r1 := rb.cell 1; have r2 := rb.cell 2; have r3 := rb.cell 3; have r4 := rb.cell 4; have rf := rb.frozen; simp at r0 r1 r2 r3 r4)
    (try simp only [Exit.noGoto_ret])
    refine bodyPost_ret (results_cell2 Try.results13 _ _ r 30 _ _ rfl (blk_five rb) Try.underlying30 rfl (by kernel_rfl)) rfl ?_
    exact ⟨below_five h1.bel HRg.out, rfl⟩

/-! ### An append for which there is no room -/
section
variable {P : Program} (w : World)
theorem run_append_G (t tx ty e : TypeId) (i : TypeInfo) (z : Value) (size bytes : Nat) (ht : P.underlying t = some (.slice e)) (hi : P.info? e = some i) (hz : i.zero = some z)
    (hsize : i.size = size) (hby : i.bytes = bytes) (hzs : z.cells.size = size) (hsz : 0 < size)
    (ao : Option Addr) (n cap : Nat) (xs : List Value) (hown : Own w e size (.slice ao n cap) n xs) (h0 : ∀ u ∈ xs, u.oneCell' = true)
    (x : Value) (m : Nat) (news : List Value) (hs : Src P size tx x m news w)
    (h63 : n + m ≤ maxLen) (hbytes : (n + m) * bytes ≤ 140737488355328) (hcap : cap < n + m) :
    ∃ cap' w', (Builtin.append_ #[t, tx] ty #[.slice ao n cap, x]).run P w = .ok (.slice (some ⟨w.heap.size, 0, none⟩) (n + m) cap') w' ∧ Own w' e size (.slice (some ⟨w.heap.size, 0, none⟩) (n + m) cap') (n + m) (xs ++ news) ∧ Below w.heap.size w w' := by
  subst hsize
  subst hby
  have hsmall : n + m ≤ 9223372036854775807 := by simp only [maxLen] at h63; omega
  have hlen : (xs ++ news).length = (n + m) * i.size := by rw [List.length_append, hown.1, hs.newsLen, Nat.add_mul]
  have grown : ∀ old : Nat, old < n + m →
      Own (w.drew.alloc (.cells ((xs ++ news).toArray ++ Builtin.zeroCells z.cells (grownCap w (n + m) old e - (n + m))) e)) e i.size
        (.slice (some ⟨w.heap.size, 0, none⟩) (n + m) (grownCap w (n + m) old e)) (n + m) (xs ++ news) := by
    intro old ho
    have hge := grownCap_ge w (n + m) old e
    have hcm : grownCap w (n + m) old e ≤ maxLen := grownCap_le_maxLen w (n + m) old e h63
    refine ⟨hlen, .inr ⟨w.heap.size, 0, _, _, rfl, Blk.new w.drew e _, hge, hcm, ?_, fun j hj => ?_⟩⟩
    · simp only [Array.size_append, List.size_toArray, size_zeroCells, hzs, hlen, ← Nat.add_mul, Nat.zero_add]
      exact Nat.mul_le_mul_right _ (by omega)
    · simp only [Nat.zero_add]
      rw [Array.getElem?_append_left (by simpa using hj)]
      simp
  have hbel : ∀ o : Obj, Below w.heap.size w (w.drew.alloc o) := fun o => (bel_drewN (Below.refl _ _) 1).alloc (Nat.le_refl _) o
  rcases hown.2 with ⟨hv, hn0⟩ | ⟨g, off, cap2, cur, hv, hb, hnc, hcm, hcs, hcell⟩
  · injection hv with e1 e2 e3
    subst e1 e2 e3
    have hx : xs = [] := List.eq_nil_of_length_eq_zero (by simpa using hown.1)
    subst hx
    have hold : (Builtin.firstCells i.size 0 (.slice none 0 0)).run P w.drew = .ok ([] : List Value).toArray w.drew := run_firstCells_none w.drew i.size 0 0 0
    have hr := run_append_grow_src (P := P) w t tx ty e i z ht hi hz none 0 0 [] hold x m news hs (by omega) (by omega) (growslice_fits (by omega) hbytes)
    exact ⟨_, _, hr, grown 0 (by omega), hbel _⟩
  · injection hv with e1 e2 e3
    subst e1 e3
    have hold : (Builtin.firstCells i.size n (.slice (some ⟨g, off, none⟩) n cap)).run P w.drew = .ok xs.toArray w.drew :=
      (Own.src (P := P) (tx := t) (w := w.drew) hown.drew ht h0).cells
    have hr := run_append_grow_src (P := P) w t tx ty e i z ht hi hz (some ⟨g, off, none⟩) n cap xs hold x m news hs (by omega) (by omega) (growslice_fits (by omega) hbytes)
    exact ⟨_, _, hr, grown cap (by omega), hbel _⟩
theorem wpList_append_G {ops : Array Oper} {rest : List Oper} {o : Oper} {a : Act} {Q : Exit → Act → World → Prop} (hgd : o.guard = none) (s sx : Operand) (t tx : TypeId)
    (ho : o.op = .call { callee := .builtin .append, args := #[s, sx], argTypes := #[t, tx] })
    (e : TypeId) (i : TypeInfo) (z : Value) (size bytes : Nat) (ht : P.underlying t = some (.slice e)) (hi : P.info? e = some i) (hz : i.zero = some z)
    (hsize : i.size = size) (hby : i.bytes = bytes) (hzs : z.cells.size = size) (hsz : 0 < size)
    (ao : Option Addr) (n cap : Nat) (xs : List Value) (hv : a.eval s = .slice ao n cap) (hown : Own w e size (.slice ao n cap) n xs) (h0 : ∀ u ∈ xs, u.oneCell' = true)
    (x : Value) (m : Nat) (news : List Value) (hx : a.eval sx = x) (hs : Src P size tx x m news w)
    (h63 : n + m ≤ maxLen) (hbytes : (n + m) * bytes ≤ 140737488355328) (hcap : cap < n + m)
    (h : ∀ cap' w', Own w' e size (.slice (some ⟨w.heap.size, 0, none⟩) (n + m) cap') (n + m) (xs ++ news) → Below w.heap.size w w' → wpList P ops Q rest (a.put o.dst (.slice (some ⟨w.heap.size, 0, none⟩) (n + m) cap')) w') :
    wpList P ops Q (o :: rest) a w := by
  refine wpList_plain hgd fun _ hK => ?_
  obtain ⟨cap', w', hrun, h2, h3⟩ := run_append_G (P := P) w t tx o.type e i z size bytes ht hi hz hsize hby hzs hsz ao n cap xs hown h0 x m news hs h63 hbytes hcap
  unfold Oper.wp execOp
  simp only [ho, resolve, invoke, builtin, Sem.run_bind, Sem.run_pure, Result.andThen_ok, List.map_toArray, List.map_cons, List.map_nil, hv, hx, hrun]
  exact hK _ _ (h cap' w' h2 h3)
end

/-! ### The examples -/
def exl : List (List Int) := [[1, 2], [-1, 2], [1, -2]]
def exm : List (List Int) := [[1, 2], [-1, 2], [1, -2], [-1, -2]]
theorem exl_known : exl.all (knownS 2) = true := by decide
theorem exm_known : exm.all (knownS 2) = true := by decide
theorem exl_yes : (solveE 2 exl).yes = true ∧ (solveE 2 exl).state = [true, true] ∧ (solveE 2 exl).steps ≤ 12 := by
  have hk := exl_known
  obtain ⟨_, h2⟩ := solve_ok 2 exl (List.all_eq_true.1 hk)
  have hy : (solveE 2 exl).yes = true := (solve_yes hk).2 ⟨[true, true], rfl, by decide⟩
  obtain ⟨h3, h4, _⟩ := h2.yes hy
  refine ⟨hy, ?_, h2.steps⟩
  generalize (solveE 2 exl).state = st at *
  match st, h3 with
  | [a, b], _ =>
    have k1 := h4 [1, 2] (by decide)
    have k2 := h4 [-1, 2] (by decide)
    have k3 := h4 [1, -2] (by decide)
    cases a <;> cases b <;> first | rfl | (revert k1 k2 k3; decide)
theorem exm_no : (solveE 2 exm).yes = false ∧ (solveE 2 exm).steps ≤ 12 := by
  have hk := exm_known
  obtain ⟨_, h2⟩ := solve_ok 2 exm (List.all_eq_true.1 hk)
  refine ⟨?_, h2.steps⟩
  cases hy : (solveE 2 exm).yes with
  | false => rfl
  | true =>
    exfalso
    obtain ⟨st, hl, hs⟩ := (solve_yes hk).1 hy
    match st, hl with
    | [a, b], _ => cases a <;> cases b <;> revert hs <;> decide

theorem lit2 {w : World} {g : Nat} {p q : Int} (h : Blk w g 3 #[.int .i64 p, .int .i64 q]) : Ints w (some ⟨g, 0, none⟩) [p, q] := fun _ => ⟨g, 0, rfl, h.lt, fun j hj => by
  match j, hj with
  | 0, _ => exact h.cell 0
  | 1, _ => exact h.cell 1⟩

def exlV (h : Nat) : List Value := [.slice (some ⟨h, 0, none⟩) 2 2, .slice (some ⟨h + 1, 0, none⟩) 2 2, .slice (some ⟨h + 1 + 1, 0, none⟩) 2 2]
theorem exl_mem {w w4 : World} (h : w4 = (((w.alloc (.cells #[.int .i64 1, .int .i64 2] 3)).alloc (.cells #[.int .i64 (-1), .int .i64 2] 3)).alloc (.cells #[.int .i64 1, .int .i64 (-2)] 3)).alloc
    (.cells #[.slice (some ⟨w.heap.size, 0, none⟩) 2 2, .slice (some ⟨w.heap.size + 1, 0, none⟩) 2 2, .slice (some ⟨w.heap.size + 1 + 1, 0, none⟩) 2 2] 25)) :
    Below w.heap.size w w4 ∧ Blk w4 (w.heap.size + 1 + 1 + 1) 25 #[.slice (some ⟨w.heap.size, 0, none⟩) 2 2, .slice (some ⟨w.heap.size + 1, 0, none⟩) 2 2, .slice (some ⟨w.heap.size + 1 + 1, 0, none⟩) 2 2] ∧ Own w4 25 1 (.slice (some ⟨w.heap.size + 1 + 1 + 1, 0, none⟩) 3 3) 3 (exlV w.heap.size) ∧ RowsV w4 (exlV w.heap.size) exl := by
  obtain ⟨a1, e1⟩ : ∃ a, a = w.alloc (.cells #[.int .i64 1, .int .i64 2] 3) := ⟨_, rfl⟩
  obtain ⟨a2, e2⟩ : ∃ a, a = a1.alloc (.cells #[.int .i64 (-1), .int .i64 2] 3) := ⟨_, rfl⟩
  obtain ⟨a3, e3⟩ : ∃ a, a = a2.alloc (.cells #[.int .i64 1, .int .i64 (-2)] 3) := ⟨_, rfl⟩
  rw [← e1, ← e2, ← e3] at h
  have s1 : a1.heap.size = w.heap.size + 1 := by rw [e1]; simp
  have s2 : a2.heap.size = w.heap.size + 2 := by rw [e2]; simp [s1]
  have s3 : a3.heap.size = w.heap.size + 3 := by rw [e3]; simp [s2]
  have b1 : Blk a1 w.heap.size 3 #[.int .i64 1, .int .i64 2] := by rw [e1]; exact Blk.new ..
  have b2 : Blk a2 (w.heap.size + 1) 3 #[.int .i64 (-1), .int .i64 2] := by rw [e2, ← s1]; exact Blk.new ..
  have b3 : Blk a3 (w.heap.size + 2) 3 #[.int .i64 1, .int .i64 (-2)] := by rw [e3, ← s2]; exact Blk.new ..
  have b4 : Blk w4 (w.heap.size + 3) 25 #[.slice (some ⟨w.heap.size, 0, none⟩) 2 2, .slice (some ⟨w.heap.size + 1, 0, none⟩) 2 2, .slice (some ⟨w.heap.size + 1 + 1, 0, none⟩) 2 2] := by rw [h, ← s3]; exact Blk.new ..
  have l0 : Below w.heap.size w a1 := by rw [e1]; exact (Below.refl _ _).alloc (Nat.le_refl _) _
  have l1 : Below a1.heap.size a1 a2 := by rw [e2]; exact (Below.refl _ _).alloc (Nat.le_refl _) _
  have l2 : Below a2.heap.size a2 a3 := by rw [e3]; exact (Below.refl _ _).alloc (Nat.le_refl _) _
  have l3 : Below a3.heap.size a3 w4 := by rw [h]; exact (Below.refl _ _).alloc (Nat.le_refl _) _
  have c1 := ((b1.below l1 (by omega)).below l2 (by omega)).below l3 (by omega)
  have c2 := (b2.below l2 (by omega)).below l3 (by omega)
  have c3 := b3.below l3 (by omega)
  refine ⟨bel_new l0 l0.size (bel_new l1 l1.size (bel_new l2 l2.size l3)), b4, ?_, rfl, fun j hj => ?_⟩
  · exact Own.of_blk b4 3 rfl (by decide)
  · match j, hj with
    | 0, _ => exact ⟨_, _, rfl, lit2 c1⟩
    | 1, _ => exact ⟨_, _, rfl, lit2 c2⟩
    | 2, _ => exact ⟨_, _, rfl, lit2 c3⟩

theorem exl_short : ∀ c ∈ exl, c.length ≤ 40 := by decide
theorem exm_short : ∀ c ∈ exm, c.length ≤ 40 := by decide
theorem exl_i64 : ∀ c ∈ exl, ∀ x ∈ c, I64 x := by
  intro c hc x hx
  have := knownS_mem (List.all_eq_true.1 exl_known c hc) x hx
  unfold I64
  omega
theorem solve_exl {w : World} {ao : Option Addr} {cap : Nat} {av : Nat → Option Addr} {cv : Nat → Nat} (hc : IsRows w ao exl av cv) :
    Calls Try.prog 13 #[.int .i64 2, .slice ao 3 cap, .int .i64 100] w fun e w' => Below w.heap.size w w' ∧ ∃ a1 c1 st a2 m2 c2 a3 m3 c3, e = .returned (.tuple #[.agg #[.bool true, .slice a1 2 c1, .int .i64 st, .slice a2 m2 c2, .slice a3 m3 c3], .int .i64 0]) ∧ Bools w' a1 [true, true] := by
  obtain ⟨h1, h2, h3⟩ := exl_yes
  have h := solve_good (n := 2) (cap := cap) (by omega) hc (by decide) exl_short exl_known 100 (by omega)
  refine h.mono ?_
  rintro e w' ⟨hb, a1, c1, a2, c2, a3, c3, rfl, hA⟩
  have hs := hA.state
  rw [h2] at hs
  obtain ⟨ao', cap', e, hB⟩ := Own.bools (l := [true, true]) hs
  injection e with e1 _ _
  subst e1
  exact ⟨hb, a1, c1, ((solveE 2 exl).steps : Int), a2, (solveE 2 exl).bonds.length, c2, a3, (solveE 2 exl).last.length, c3, by unfold ansV; rw [h1, h2]; rfl, hB⟩
theorem solve_exm {w : World} {ao : Option Addr} {cap : Nat} {av : Nat → Option Addr} {cv : Nat → Nat} (hc : IsRows w ao exm av cv) :
    Calls Try.prog 13 #[.int .i64 2, .slice ao 4 cap, .int .i64 100] w fun e w' => Below w.heap.size w w' ∧ ∃ a1 m1 c1 st a2 m2 c2 a3 m3 c3, e = .returned (.tuple #[.agg #[.bool false, .slice a1 m1 c1, .int .i64 st, .slice a2 m2 c2, .slice a3 m3 c3], .int .i64 0]) := by
  obtain ⟨h1, h3⟩ := exm_no
  have h := solve_good (n := 2) (cap := cap) (by omega) hc (by decide) exm_short exm_known 100 (by omega)
  refine h.mono ?_
  rintro e w' ⟨hb, a1, c1, a2, c2, a3, c3, rfl, hA⟩
  exact ⟨hb, a1, (solveE 2 exm).state.length, c1, ((solveE 2 exm).steps : Int), a2, (solveE 2 exm).bonds.length, c2, a3, (solveE 2 exm).last.length, c3, by unfold ansV; rw [h1]⟩
theorem bools2 {w : World} {g : Nat} {p q : Bool} (h : Blk w g 4 #[.bool p, .bool q]) : Bools w (some ⟨g, 0, none⟩) [p, q] := fun _ => ⟨g, 0, rfl, h.lt, fun j hj => by
  match j, hj with
  | 0, _ => exact h.cell 0
  | 1, _ => exact h.cell 1⟩
/-- Two values that are written out, against the example. -/
theorem holds_exl {w : World} {ao : Option Addr} {cap : Nat} {av : Nat → Option Addr} {cv : Nat → Nat} (hc : IsRows w ao exl av cv) (p q b : Bool) (hb : holdsCl [p, q] exl = b) :
    Calls Try.prog 17 #[.slice (some ⟨w.heap.size, 0, none⟩) 2 2, .slice ao 3 cap] (w.alloc (.cells #[.bool p, .bool q] 4)) fun e w' => e = .returned (.bool b) ∧ Below w.heap.size w w' := by
  have hB : Below w.heap.size w (w.alloc (.cells #[.bool p, .bool q] 4)) := (Below.refl _ _).alloc (Nat.le_refl _) _
  have h := sholds_any [p, q] (some ⟨w.heap.size, 0, none⟩) 2 exl ao cap av cv _ (bools2 (Blk.new w 4 #[.bool p, .bool q])) (by simp) (hc.below hB) (by decide) (fun c hc => by have := exl_short c hc; omega) exl_i64
  rw [hb] at h
  refine h.mono ?_
  rintro e w' ⟨rfl, h1⟩
  exact ⟨rfl, bel_trans hB h1⟩

set_option maxHeartbeats 1000000 in
theorem awake_any (w : World) : Calls Try.prog 11 #[] w fun e w' => e = .returned (.bool true) ∧ Below w.heap.size w w' := by
  obtain ⟨iS, hiS, hs0, hs1, hs2⟩ := info_parts (P := Try.prog) (e := 25) (z := .slice none 0 0) (size := 1) (bytes := 24) (by kernel_rfl)
  go_enter Try.func11, Try.ntmps11
  go_upto_region 2 with fail
  obtain ⟨w4, hw4⟩ : ∃ w4, w4 = (((w.alloc (.cells #[.int .i64 1, .int .i64 2] 3)).alloc (.cells #[.int .i64 (-1), .int .i64 2] 3)).alloc (.cells #[.int .i64 1, .int .i64 (-2)] 3)).alloc
    (.cells #[.slice (some ⟨w.heap.size, 0, none⟩) 2 2, .slice (some ⟨w.heap.size + 1, 0, none⟩) 2 2, .slice (some ⟨w.heap.size + 1 + 1, 0, none⟩) 2 2] 25) := ⟨_, rfl⟩
  obtain ⟨hb4, hk4, hO4, hV4⟩ := exl_mem hw4
  rw [← hw4]
  obtain ⟨av, cv, hR⟩ := rows_own (vals := exlV w.heap.size) hO4 hV4
  have HR := Lib.hid hR
  have HS1 := Lib.hid (solve_exl (cap := 3) hR)
  clear hw4 hR
  go_upto_region 3 with (go_at_call 13; (with_reducible refine HS1.out.mono ?_); rintro e w5 ⟨hb5, a1, c1, st1, a2, m2, c2, a3, m3, c3, rfl, hB5⟩)
  obtain ⟨w6, hw6⟩ : ∃ w6, w6 = w5.alloc (.cells #[.bool true, .slice a1 2 c1, .int .i64 st1, .slice a2 m2 c2, .slice a3 m3 c3] 30) := ⟨_, rfl⟩
  have hb6 : Below w5.heap.size w5 w6 := by rw [hw6]; exact (Below.refl _ _).alloc (Nat.le_refl _) _
  have hk6 : Blk w6 w5.heap.size 30 #[.bool true, .slice a1 2 c1, .int .i64 st1, .slice a2 m2 c2, .slice a3 m3 c3] := by rw [hw6]; exact Blk.new ..
  rw [← hw6]
  have h46 := bel_trans hb5 hb6
  have H46 := Lib.hid h46
  have hb7 : Below w6.heap.size w6 ((w6.alloc (.cells #[.int .i64 (-1), .int .i64 (-2)] 3)).alloc (.cells #[.slice (some ⟨w6.heap.size, 0, none⟩) 2 2] 25)) := ((Below.refl _ _).alloc (Nat.le_refl _) _).alloc (by simp) _
  have h47 := bel_trans h46 hb7
  have hO7 := hO4.new h47
  have hV7 := RowsV.snoc (hV4.below h47) (lit2 ((Blk.new w6 3 #[.int .i64 (-1), .int .i64 (-2)]).alloc (.cells #[.slice (some ⟨w6.heap.size, 0, none⟩) 2 2] 25))) (cap := 2)
  have hsrc : Src Try.prog 1 22 (.slice (some ⟨w6.heap.size + 1, 0, none⟩) 1 1) 1 [.slice (some ⟨w6.heap.size, 0, none⟩) 2 2] ((w6.alloc (.cells #[.int .i64 (-1), .int .i64 (-2)] 3)).alloc (.cells #[.slice (some ⟨w6.heap.size, 0, none⟩) 2 2] 25)) := by
    have h := src_new (P := Try.prog) (w6.alloc (.cells #[.int .i64 (-1), .int .i64 (-2)] 3)) Try.underlying22 25 (.slice (some ⟨w6.heap.size, 0, none⟩) 2 2) rfl
    rwa [show (w6.alloc (.cells #[.int .i64 (-1), .int .i64 (-2)] 3)).heap.size = w6.heap.size + 1 by simp] at h
  have HSz : Hid (((w6.alloc (.cells #[.int .i64 (-1), .int .i64 (-2)] 3)).alloc (.cells #[.slice (some ⟨w6.heap.size, 0, none⟩) 2 2] 25)).heap.size = w6.heap.size + 1 + 1) := Lib.hid (by simp)
  have HV7 := Lib.hid hV7
  have hone := hV4.one
  obtain ⟨g5, hg5⟩ : ∃ g5, g5 = w5.heap.size := ⟨_, rfl⟩
  rw [← hg5] at hk6 ⊢
  have HK6 := Lib.hid hk6
  have HB5 := Lib.hid hB5
  have HB6 := Lib.hid hb6
  have HB7 := Lib.hid hb7
  clear hw6 hb6 hk6 h46 hb7 h47 hV7 hg5 hB5 hO4 hV4 HS1
  go_upto_region 4 with (first
    | (at_builtin; refine wpList_append_G _ rfl (.tmp 16) (.tmp 18) _ _ rfl 25 iS _ 1 24 Try.underlying22 hiS hs0 hs1 hs2 rfl (by omega) (some ⟨w.heap.size + 1 + 1 + 1, 0, none⟩) 3 3 (exlV w.heap.size) rfl hO7 hone _ 1 [_] rfl hsrc (by simp only [maxLen]; omega) (by omega) (by omega) ?_; intro cap2 w8 hown1 hb8; rw [HSz.out] at hown1; obtain ⟨av8, cv8, hR8⟩ := rows_own (vals := exlV w.heap.size ++ [.slice (some ⟨w6.heap.size, 0, none⟩) 2 2]) hown1 (HV7.out.below hb8); have HS2 := Lib.hid (solve_exm (cap := cap2) hR8); have HB8 := Lib.hid (bel_trans HB7.out hb8); clear hown1 hR8 hb8)
    | (go_at_call 13; (with_reducible refine HS2.out.mono ?_); rintro e w9 ⟨hb9, d1, n1, f1, st2, d2, n2, f2, d3, n3, f3, rfl⟩))
  obtain ⟨w10, hw10⟩ : ∃ w10, w10 = w9.alloc (.cells #[.bool false, .slice d1 n1 f1, .int .i64 st2, .slice d2 n2 f2, .slice d3 n3 f3] 30) := ⟨_, rfl⟩
  have hb10 : Below w9.heap.size w9 w10 := by rw [hw10]; exact (Below.refl _ _).alloc (Nat.le_refl _) _
  have kB : Blk w10 w9.heap.size 30 #[.bool false, .slice d1 n1 f1, .int .i64 st2, .slice d2 n2 f2, .slice d3 n3 f3] := by rw [hw10]; exact Blk.new ..
  rw [← hw10]
  have h610 := bel_trans (bel_trans HB8.out hb9) hb10
  have kA := HK6.out.below h610 HK6.out.lt
  obtain ⟨b, off, rfl, _, hc⟩ := (HB5.out.below HB6.out).below h610 (by simp)
  have q0 := hc 0 (by simp)
  have q1 := hc 1 (by simp)
  have HB410 := Lib.hid (bel_trans H46.out h610)
  have Hb4 := Lib.hid hb4
  have a0 := kA.cell 0
  have a1' := kA.cell 1
  have b0 := kB.cell 0
  simp at q0 q1 a0 a1' b0
  clear hw10 hb10 h610 hc kA kB hb9 hb4 hk4
  go_wp2_with (first
    | (go_at_call 17; (with_reducible refine (holds_exl (HR.out.below HB410.out) true true true (by decide)).mono ?_); rintro e w11 ⟨rfl, hb11⟩)
    | (go_at_call 17; (with_reducible refine (holds_exl (HR.out.below (bel_trans HB410.out hb11)) true false false (by decide)).mono ?_); rintro e w12 ⟨rfl, hb12⟩))
  go_ret
  exact ⟨rfl, bel_trans Hb4.out (bel_trans (bel_trans HB410.out hb11) hb12)⟩

end Go.Proofs.Ytoainmkebdpikaa

namespace Go.Proofs.Ytoainmkebdpikaa
open Go.ChangeShapes Go.WideShapes Go.ChangeAt Go.RowKit Go.Maps Go.Deep
set_option maxRecDepth 100000

theorem wf_i64b {n : Int} (h : (Lit.int .i64 n).wf = true) : -9223372036854775808 ≤ n ∧ n ≤ 9223372036854775807 := by
  simp [Lit.wf, IntKind.min, IntKind.max, IntKind.signed, IntKind.bits] at h
  omega
theorem getD_take {l : List Int} {n k : Nat} (h : k < n) (hl : n ≤ l.length) : l.getD k 0 = (l.take n)[k]'(by simp; omega) := by
  have h2 : k < l.length := by omega
  simp [List.getD, h2]
theorem cls_of {H : Type} {enc : TypeId × Value → H} (W : World) (v : Value) (d : DataW H) (p : List MemPlace) (hval : Value.okWide Try.prog W .any 0 22 v) (h : DataW.Trod enc Try.prog W 0 (fun _ => true) true 22 v d p) (hfit : Fit Try.prog 22 d) :
    ∃ ao cls cap, v = .slice ao (List.length cls) cap ∧ IsCls W ao cls ∧ cls.length ≤ 9223372036854775807 ∧ (∀ c ∈ cls, c.length ≤ 140737488351232) ∧ ∀ c ∈ cls, ∀ x ∈ c, I64 x := by
  obtain ⟨ao, len, cap, rfl⟩ := okWide_slice Try.underlying22 hval
  obtain ⟨fuel, hf⟩ := h
  have hf' : DataW.trod enc Try.prog W 0 (fun _ => true) true fuel 22 [.slice ao len cap] = some (d, p) := by simpa [Value.cells] using hf
  rcases open_int_rows Try.underlying22 Try.underlying25 Try.underlying3 (by kernel_rfl) (by kernel_rfl) hf' with ⟨hcs, hx⟩ | ⟨a, len', cap', A, L, C, Z, hcs, _, hlc, hcm, hx, hi⟩
  · simp only [List.cons.injEq, Value.slice.injEq, and_true] at hcs
    obtain ⟨rfl, rfl, rfl⟩ := hcs
    exact ⟨none, [], 0, rfl, fun h => absurd h (by simp), by simp, fun c hc => by simp at hc, fun c hc => by simp at hc⟩
  · simp only [List.cons.injEq, Value.slice.injEq, and_true] at hcs
    obtain ⟨rfl, rfl, rfl⟩ := hcs
    have hlen : len ≤ 9223372036854775807 := by unfold maxLen at hcm; omega
    simp only [Prod.mk.injEq] at hx
    obtain ⟨hd, _⟩ := hx
    rw [hd] at hfit
    have hb8 : Try.prog.bytesOf 3 = 8 := by kernel_rfl
    have hfe := (hfit.slice Try.underlying22).2
    refine ⟨some a, (List.range len).map (fun r => (Z r).take (L r)), cap, by simp, fun h0 => ?_, by simpa using hlen, fun c hc => ?_, fun c hc x hx => ?_⟩
    · have h0' : 0 < len := by simpa using h0
      have hc0 := (hi 0 (by omega)).1
      obtain ⟨b, off, rfl, hb⟩ := addr_of_cell (w := W) (a := a) hc0
      simp only [add_plain] at hi
      refine ⟨b, off, rfl, hb, fun j hj => ?_⟩
      have hj' : j < len := by simpa using hj
      obtain ⟨k1, k2, k3, k4, _, k6, k7⟩ := hi j (by omega)
      have hcl : ((Z j).take (L j)).length = L j := by rw [List.length_take]; omega
      refine ⟨A j, C j, ?_, fun hp => ?_⟩
      · simp only [List.getElem_map, List.getElem_range, hcl]
        exact k1
      · simp only [List.getElem_map, List.getElem_range, hcl] at hp ⊢
        cases hA : A j with
        | none => have := k6 hA; omega
        | some a' =>
          obtain ⟨_, h8⟩ := k7 a' hA
          obtain ⟨b', off', rfl, hb'⟩ := addr_of_cell (w := W) (a := a') (h8 0 (by omega))
          refine ⟨b', off', rfl, hb', fun k hk => ?_⟩
          have h9 := h8 k (by omega)
          rw [add_plain] at h9
          rw [h9, getD_take (n := L j) hk (by omega)]
    · obtain ⟨r, hr, rfl⟩ := List.mem_map.1 hc
      have hrl := List.mem_range.1 hr
      obtain ⟨_, k2, _, k4, _, k6, _⟩ := hi r (by omega)
      have hf := hfe _ (List.mem_map.2 ⟨r, hr, rfl⟩)
      rw [List.length_take]
      cases hA : A r with
      | none => have := k6 hA; omega
      | some a' =>
        rw [hA] at hf
        have h5 := (Fit.slice (elems := lits .i64 ((Z r).take (L r))) (spare := lits .i64 ((Z r).drop (L r))) hf Try.underlying25).1
        rw [hb8] at h5
        simp only [lits, List.length_map, List.length_take, List.length_drop, reachBytes] at h5
        omega
    · obtain ⟨r, hr, rfl⟩ := List.mem_map.1 hc
      have := hi r (by have := List.mem_range.1 hr; omega)
      exact wf_i64b (this.2.2.2.2.1 x (List.mem_of_mem_take hx))

theorem rows_of {H : Type} {enc : TypeId × Value → H} (W : World) (v : Value) (d : DataW H) (p : List MemPlace) (hval : Value.okWide Try.prog W .any 0 22 v) (h : DataW.Trod enc Try.prog W 0 (fun _ => true) true 22 v d p) (hfit : Fit Try.prog 22 d) :
    ∃ ao cl cap av cv, v = .slice ao (List.length cl) cap ∧ IsRows W ao cl av cv ∧ ∀ c ∈ cl, ∀ x ∈ c, I64 x := by
  obtain ⟨ao, cl, cap, rfl, hc, _, _, hI⟩ := cls_of W v d p hval h hfit
  obtain ⟨av, cv, hr⟩ := rows_cls hc
  exact ⟨ao, cl, cap, av, cv, rfl, hr, hI⟩
theorem bools_of {H : Type} {enc : TypeId × Value → H} (W : World) (v : Value) (d : DataW H) (p : List MemPlace) (hval : Value.okWide Try.prog W .any 0 28 v) (h : DataW.Trod enc Try.prog W 0 (fun _ => true) true 28 v d p) :
    ∃ ao l cap, v = .slice ao (List.length l) cap ∧ Bools W ao l ∧ l.length ≤ cap ∧ cap ≤ maxLen ∧ ∀ j, l.length ≤ j → j < cap → ∃ b, ∀ a, ao = some a → W.cell? (a.add j) = some (.bool b) := by
  obtain ⟨ao, len, cap, rfl⟩ := okWide_slice Try.underlying28 hval
  obtain ⟨fuel, hf⟩ := h
  have hf' : DataW.trod enc Try.prog W 0 (fun _ => true) true fuel 28 [.slice ao len cap] = some (d, p) := by simpa [Value.cells] using hf
  rcases open_bools Try.underlying28 Try.underlying4 (by kernel_rfl) hf' with ⟨hcs, hx⟩ | ⟨a, len', cap', B, hcs, _, hlc, hcm, hx, hi⟩
  · simp only [List.cons.injEq, Value.slice.injEq, and_true] at hcs
    obtain ⟨rfl, rfl, rfl⟩ := hcs
    exact ⟨none, [], 0, rfl, fun h => absurd h (by simp), by simp, by decide, fun j _ h => absurd h (Nat.not_lt_zero _)⟩
  · simp only [List.cons.injEq, Value.slice.injEq, and_true] at hcs
    obtain ⟨rfl, rfl, rfl⟩ := hcs
    refine ⟨some a, (List.range len).map B, cap, by simp, fun h0 => ?_, by simpa using hlc, hcm, fun j h1 h2 => ⟨B j, fun a' e => ?_⟩⟩
    · have h0' : 0 < len := by simpa using h0
      obtain ⟨b, off, rfl, hb⟩ := addr_of_cell (w := W) (a := a) (hi 0 (by omega))
      refine ⟨b, off, rfl, hb, fun j hj => ?_⟩
      have hj' : j < len := by simpa using hj
      have h9 := hi j (by omega)
      rw [add_plain] at h9
      rw [h9]
      simp
    · injection e with e
      subst e
      exact hi j h2

end Go.Proofs.Ytoainmkebdpikaa
