/- CoreNo: plain: the clauses of the core alone have no state. -/
import Derived.Test.YteadaiomeccanaaGp
import Derived.Test.YteadaiomeccanaaGr
namespace Go.Proofs.Yteadaiomeccanaa
open Go.ChangeShapes Go.WideShapes Go.ChangeAt Go.RowKit Go.Maps Go.Deep
set_option maxRecDepth 100000

theorem fitsE_yes {l : List Int} {b : Int} (h : ∀ j (hj : j < l.length), 0 ≤ l[j] ∧ l[j] < b) : fitsE l b = true := by
  unfold fitsE
  rw [Bool.not_eq_true', List.any_eq_false]
  intro x hx
  obtain ⟨j, hj, rfl⟩ := List.getElem_of_mem hx
  have := h j hj
  simp
  omega

abbrev FitC (N : Nat) (cl : List (List Int)) : Prop := ∀ j (h : j < cl.length), ∀ x ∈ cl[j], 0 ≤ x ∧ x < N + j

theorem fitsF_of : ∀ {cl : List (List Int)} {N : Int}, (∀ j (h : j < cl.length), ∀ x ∈ cl[j], 0 ≤ x ∧ x < N + j) → fitsF N cl = true
  | [], _, _ => rfl
  | c :: r, N, h => by
    unfold fitsF
    rw [Bool.and_eq_true]
    refine ⟨fitsE_yes fun j hj => ?_, fitsF_of fun j hj x hx => ?_⟩
    · have := h 0 (by simp) c[j] (List.getElem_mem hj)
      omega
    · have := h (j + 1) (by simpa using hj) x (by simpa using hx)
      omega

theorem cofE_ok {N : Nat} (hN : N ≤ 4194304) {cl : List (List Int)} {last : List Int} (h1 : FitC N cl) (h2 : ∀ x ∈ last, 0 ≤ x ∧ x < N + cl.length) : cofE N cl last = (coreE N cl last, 0) := by
  unfold cofE
  rw [if_neg (by omega), fitsF_of h1, fitsE_yes fun j hj => h2 _ (List.getElem_mem hj)]
  rfl

theorem cofE_cases {N : Nat} (hN : N ≤ 4194304) (cl : List (List Int)) (last : List Int) : cofE N cl last = ([], 4) ∨ (cofE N cl last = (coreE N cl last, 0) ∧ FitC N cl ∧ ∀ x ∈ last, 0 ≤ x ∧ x < N + cl.length) := by
  unfold cofE
  rw [if_neg (by omega)]
  by_cases h : (fitsF N cl && fitsE last ((N : Int) + cl.length)) = true
  · rw [if_pos h]
    rw [Bool.and_eq_true] at h
    exact .inr ⟨rfl, fun j hj => fitsE_mem (fitsF_at h.1 j hj), fitsE_mem h.2⟩
  · rw [if_neg h]
    exact .inl rfl
theorem next_bonds (q : Q) : (∀ a, nextQ q = .done a → a.bonds.length ≤ q.bonds.length) ∧ ∀ q', nextQ q = .go q' → q'.bonds.length ≤ q.bonds.length + 1 := by
  unfold nextQ
  by_cases h1 : 0 ≤ (propS q.S).2
  · rw [if_pos h1]
    by_cases h2 : (confQ q).2.1 < 0
    · rw [if_pos h2]
      exact ⟨fun a e => (by injection e with e; rw [← e]; exact Nat.le_refl _), fun q' e => (by cases e)⟩
    · rw [if_neg h2]
      exact ⟨fun a e => (by cases e), fun q' e => (by injection e with e; rw [← e]; simp)⟩
  · rw [if_neg h1]
    by_cases h2 : varQ q < (propS q.S).1.n
    · rw [if_pos h2]
      exact ⟨fun a e => (by cases e), fun q' e => (by injection e with e; rw [← e]; exact Nat.le_succ _)⟩
    · rw [if_neg h2]
      exact ⟨fun a e => (by injection e with e; rw [← e]; exact Nat.le_refl _), fun q' e => (by cases e)⟩

theorem run_bonds : ∀ (k : Nat) (q : Q) (a : Ans), runQ k q = some a → a.bonds.length ≤ q.bonds.length + k
  | 0, _, _, h => by cases h
  | k + 1, q, a, h => by
    obtain ⟨h1, h2⟩ := next_bonds q
    unfold runQ at h
    cases hn : nextQ q with
    | done a' =>
      rw [hn] at h
      injection h with h
      have := h1 a' hn
      rw [h] at this
      omega
    | go q' =>
      rw [hn] at h
      have := h2 q' hn
      have := run_bonds k q' a h
      omega

theorem bonds_len {n : Nat} {cl : List (List Int)} (hn : n ≤ 12) (hk : cl.all (knownS n) = true) : (solveE n cl).bonds.length ≤ 53249 := by
  have h1 := run_bonds _ _ _ (solve_ok n cl (List.all_eq_true.1 hk)).1
  have h2 : (2 : Nat) ^ n * (n + 1) ≤ 2 ^ 12 * 13 := Nat.mul_le_mul (Nat.pow_le_pow_right (by decide) hn) (by omega)
  have h3 : (startQ n cl).bonds.length = 0 := rfl
  omega

theorem own_small {w : World} {e : TypeId} {n : Nat} {v : Value} {xs : List Value} (h : Own w e 1 v n xs) : n ≤ 9223372036854775807 := by
  obtain ⟨_, cap, _, h1, h2, _⟩ := h.form
  unfold maxLen at h2
  omega

theorem ans_rows {w w' : World} {A : Ans} {sv : Value} {a2 a3 : Option Addr} {c2 c3 : Nat} (h : AnsAt w w' A sv (.slice a2 A.bonds.length c2) (.slice a3 A.last.length c3)) : (∃ avB cvB, IsRows w' a2 A.bonds avB cvB) ∧ Ints w' a3 A.last ∧ (∀ j (h : j < A.bonds.length), A.bonds[j].length ≤ 9223372036854775807) ∧ A.last.length ≤ 9223372036854775807 := by
  obtain ⟨vals, hO, _, hr⟩ := h.bonds
  have hl : vals.length = A.bonds.length := by have := hO.1; omega
  refine ⟨?_, ?_, fun j hj => ?_, own_small h.last⟩
  · refine rows_at hO hl.symm (RowsN.rowsV ⟨hl, fun j hj => ?_⟩)
    obtain ⟨u, hu, ho, _⟩ := hr j hj
    obtain ⟨ao, cap, rfl, _⟩ := Own.ints ho
    exact ⟨ao, cap, hu, ho⟩
  · obtain ⟨ao, cap, e, hi⟩ := Own.ints h.last
    injection e with e1 _ _
    exact e1 ▸ hi
  · obtain ⟨u, hu, ho, _⟩ := hr j hj
    exact own_small ho

theorem ans_new (w : World) (cs : Array Value) : ∃ w', w' = w.alloc (.cells cs 28) ∧ Below w.heap.size w w' ∧ ∀ w'', Below w'.heap.size w' w'' → ∀ i, w''.cell? ⟨w.heap.size, i, none⟩ = cs[i]? := by
  refine ⟨_, rfl, (Below.refl _ _).alloc (Nat.le_refl _) _, fun w'' hb i => ?_⟩
  have k := Blk.new w 28 cs
  exact (k.below hb k.lt).cell i

theorem knownS_mem {n : Nat} {c : List Int} (h : knownS n c = true) : ∀ x ∈ c, 1 ≤ x.natAbs ∧ x.natAbs ≤ n := fun x hx => by
  have := List.all_eq_true.1 h x hx
  simpa using this

abbrev ansV (A : Ans) (a1 : Option Addr) (c1 : Nat) (a2 : Option Addr) (c2 : Nat) (a3 : Option Addr) (c3 : Nat) : Array Value := #[.bool A.yes, .slice a1 A.state.length c1, .int .i64 A.steps, .slice a2 A.bonds.length c2, .slice a3 A.last.length c3]

theorem AnsAt.forms {w w' : World} {A : Ans} {sv fv lv : Value} (h : AnsAt w w' A sv fv lv) : ∃ a1 c1 a2 c2 a3 c3, sv = .slice a1 A.state.length c1 ∧ fv = .slice a2 A.bonds.length c2 ∧ lv = .slice a3 A.last.length c3 := by
  obtain ⟨a1, c1, e1, _⟩ := h.state.form
  obtain ⟨vals, hO, _⟩ := h.bonds
  obtain ⟨a2, c2, e2, _⟩ := hO.form
  obtain ⟨a3, c3, e3, _⟩ := h.last.form
  exact ⟨a1, c1, a2, c2, a3, c3, e1, e2, e3⟩
section
variable {n : Nat} {ao : Option Addr} {cl : List (List Int)} {cap : Nat} {av : Nat → Option Addr} {cv : Nat → Nat} {w : World}
theorem solve_good (hn : n ≤ 12) (hc : IsRows w ao cl av cv) (hm : cl.length ≤ 2100) (hl : ∀ c ∈ cl, c.length ≤ 2000) (hk : cl.all (knownS n) = true) (budget : Int) (hb : ((solveE n cl).steps : Int) ≤ budget ∧ budget ≤ 1099511627776) :
    Calls Try.prog 6 #[.int .i64 n, .slice ao cl.length cap, .int .i64 budget] w fun e w' => Below w.heap.size w w' ∧ ∃ a1 c1 a2 c2 a3 c3, e = .returned (.tuple #[.agg (ansV (solveE n cl) a1 c1 a2 c2 a3 c3), .int .i64 0]) ∧ AnsAt w w' (solveE n cl) (.slice a1 (solveE n cl).state.length c1) (.slice a2 (solveE n cl).bonds.length c2) (.slice a3 (solveE n cl).last.length c3) := by
  have hI : ∀ c ∈ cl, ∀ x ∈ c, I64 x := fun c hc x hx => by
    have := knownS_mem (List.all_eq_true.1 hk c hc) x hx
    unfold I64
    omega
  refine (solve_any n hn ao cl cap av cv w hc hm hl hI budget (by omega)).mono ?_
  rintro e w' ⟨hb1, h | h | ⟨_, _, sv, fv, lv, rfl, hA⟩⟩
  · rw [h.1] at hk; cases hk
  · omega
  · obtain ⟨a1, c1, a2, c2, a3, c3, rfl, rfl, rfl⟩ := hA.forms
    exact ⟨hb1, a1, c1, a2, c2, a3, c3, rfl, hA⟩

theorem solve_bad (hn : n ≤ 12) (hc : IsRows w ao cl av cv) (hm : cl.length ≤ 2100) (hl : ∀ c ∈ cl, c.length ≤ 2000) (hI : ∀ c ∈ cl, ∀ x ∈ c, I64 x) (hk : cl.all (knownS n) = false) (budget : Int) (hb : 0 ≤ budget ∧ budget ≤ 1099511627776) :
    Calls Try.prog 6 #[.int .i64 n, .slice ao cl.length cap, .int .i64 budget] w fun e w' => Below w.heap.size w w' ∧ e = .returned (.tuple #[.agg #[.bool false, .slice none 0 0, .int .i64 0, .slice none 0 0, .slice none 0 0], .int .i64 1]) := by
  refine (solve_any n hn ao cl cap av cv w hc hm hl hI budget hb).mono ?_
  rintro e w' ⟨hb1, ⟨_, rfl⟩ | h | h⟩
  · exact ⟨hb1, rfl⟩
  · rw [h.1] at hk; cases hk
  · rw [h.1] at hk; cases hk
end

theorem solve_vars (vars : Int) (hv : vars < 0 ∨ 2097152 < vars) (v : Value) (budget : Int) (w : World) :
    Calls Try.prog 6 #[.int .i64 vars, v, .int .i64 budget] w fun e w' => Below w.heap.size w w' ∧ e = .returned (.tuple #[.agg #[.bool false, .slice none 0 0, .int .i64 0, .slice none 0 0, .slice none 0 0], .int .i64 1]) := by
  go_enter Try.func6, Try.ntmps6
  go_wp2_with fail
  go_step3
  have hB : Below w.heap.size w (w.alloc (.cells (ansC false nilV 0 nilV nilV) 28)) := (Below.refl _ _).alloc (Nat.le_refl _) _
  have rb := Blk.new w 28 (ansC false nilV 0 nilV nilV)
  have HB := Lib.hid hB
  have HR := Lib.hid rb
  unfold ansC nilV at HB HR
  clear hB rb
  obtain ⟨w0, hw0⟩ : ∃ w0, w0 = w.alloc (.cells #[.bool false, .slice none 0 0, .int .i64 0, .slice none 0 0, .slice none 0 0] 28) := ⟨_, rfl⟩
  rw [← hw0] at HB HR ⊢
  obtain ⟨r, hr⟩ : ∃ r, r = w.heap.size := ⟨_, rfl⟩
  rw [← hr] at HR ⊢
  have HRg := Lib.hid (show w.heap.size ≤ r by omega)
  clear hw0 hr
  have r0 := HR.out.cell 0
  have r1 := HR.out.cell 1
  have r2 := HR.out.cell 2
  have r3 := HR.out.cell 3
  have r4 := HR.out.cell 4
  have rf := HR.out.frozen
  simp at r0 r1 r2 r3 r4
  go_wp2_with (go_at_call 11; (with_reducible refine (wnew_bad vars _ hv).mono ?_); rintro e w1 ⟨rfl, rfl⟩)
  (try simp only [Exit.noGoto_ret])
  refine bodyPost_ret (results_cell2 Try.results6 _ _ r 28 _ _ rfl (blk_five HR.out) Try.underlying28 rfl (by kernel_rfl)) rfl ?_
  exact ⟨below_five HB.out HRg.out, rfl⟩
theorem solve_fit {n : Nat} {cl : List (List Int)} (hk : cl.all (knownS n) = true) (hy : (solveE n cl).yes = false) :
    FitC cl.length (solveE n cl).bonds ∧ (∀ x ∈ (solveE n cl).last, 0 ≤ x ∧ x < cl.length + (solveE n cl).bonds.length) := by
  have hok := (solve_ok n cl (List.all_eq_true.1 hk)).2
  obtain ⟨_, hb, _⟩ := hok.bonds
  refine ⟨fun j hj x hx => hb.range j hj x ?_, (hok.no hy).2.2⟩
  rw [List.getD_eq_getElem?_getD, List.getElem?_eq_getElem hj]
  exact hx
/-- The clauses of the core. -/
def pickE (cl : List (List Int)) (l : List Int) : List (List Int) := l.map fun x => cl.getD x.toNat []
abbrev coreA (n : Nat) (cl : List (List Int)) : List Int := coreE cl.length (solveE n cl).bonds (solveE n cl).last
theorem core_range {N : Nat} {bonds : List (List Int)} {last : List Int} : ∀ x ∈ coreE N bonds last, 0 ≤ x ∧ x < N := fun x hx => by
  unfold coreE at hx
  have := (outE_mem _ _ _).1 hx
  exact ⟨this.1, this.2.1⟩
theorem pick_sub {cl : List (List Int)} {l : List Int} (h : ∀ x ∈ l, 0 ≤ x ∧ x < cl.length) : ∀ c ∈ pickE cl l, c ∈ cl := fun c hc => by
  obtain ⟨x, hx, rfl⟩ := List.mem_map.1 hc
  have := h x hx
  rw [List.getD_eq_getElem?_getD, List.getElem?_eq_getElem (by omega)]
  exact List.getElem_mem _
theorem alone_no {n : Nat} {cl : List (List Int)} (hk : cl.all (knownS n) = true) (hy : (solveE n cl).yes = false) (A : Nat → Bool) : ¬ ∀ c ∈ pickE cl (coreA n cl), holdsA A c = true := fun hA => by
  have hok := (solve_ok n cl (List.all_eq_true.1 hk)).2
  obtain ⟨clx, hb, hno⟩ := hok.bonds
  obtain ⟨hf1, hf2⟩ := solve_fit hk hy
  refine hno hy A fun b hb' => ?_
  have hbr := hf2 b hb'
  have hl := hb.len
  refine no_unsat hb (fun j => ∀ x : Int, Rests cl.length (solveE n cl).bonds x (j : Int) → x ∈ coreA n cl) (fun j hj hp => ?_) (fun k hk2 hp c hc x hx => ?_) b.toNat (by omega) (fun x hx => ?_)
  · refine hA _ (List.mem_map.2 ⟨(j : Int), hp _ (.base (by omega) (by omega)), ?_⟩)
    rw [Int.toNat_natCast]
  · have hr := hb.range k hk2 c hc
    rw [show ((c.toNat : Nat) : Int) = c by omega] at hx
    refine hp x ?_
    rw [show ((cl.length + k : Nat) : Int) = (cl.length : Int) + k by omega]
    refine .step k hk2 c ?_ hx
    rwa [List.getD_eq_getElem?_getD, List.getElem?_eq_getElem hk2] at hc
  · rw [show ((b.toNat : Nat) : Int) = b by omega] at hx
    exact (core_mem hf1 hf2 x).2 ⟨b, hb', hx⟩
theorem no_of {n : Nat} {Y : List (List Int)} (hk : Y.all (knownS n) = true) (h : ∀ A : Nat → Bool, ¬ ∀ c ∈ Y, holdsA A c = true) : (solveE n Y).yes = false := by
  cases h2 : (solveE n Y).yes with
  | false => rfl
  | true => exact absurd ((solve_ok n Y (List.all_eq_true.1 hk)).2.yes h2).2.1 (h _)
theorem pick_known {n : Nat} {cl : List (List Int)} {l : List Int} (h : ∀ x ∈ l, 0 ≤ x ∧ x < cl.length) (hk : cl.all (knownS n) = true) : (pickE cl l).all (knownS n) = true :=
  List.all_eq_true.2 fun c hc => List.all_eq_true.1 hk c (pick_sub h c hc)
theorem pick_len (cl : List (List Int)) (l : List Int) : (pickE cl l).length = l.length := by simp [pickE]
theorem solve_small {n : Nat} (hn : n ≤ 8) {Y : List (List Int)} (hk : Y.all (knownS n) = true) : ((solveE n Y).steps : Int) ≤ 1099511627776 := by
  have h := (solve_ok n Y (List.all_eq_true.1 hk)).2.steps
  have h2 : 2 ^ n * (n + 1) ≤ 2 ^ 8 * 9 := Nat.mul_le_mul (Nat.pow_le_pow_right (by omega) hn) (by omega)
  omega


end Go.Proofs.Yteadaiomeccanaa

namespace Go.Proofs.Yteadaiomeccanaa
open Go.ChangeShapes Go.WideShapes Go.ChangeAt Go.RowKit Go.Maps Go.Deep
set_option maxRecDepth 100000

theorem one_given {w w' : World} {a : Option Addr} {l : List Int} {ca : Nat} (h : w' = w.alloc (.cells #[.slice a l.length ca] 23)) (hl : Ints w a l) :
    Below w.heap.size w w' ∧ ∃ av cv, IsRows w' (some ⟨w.heap.size, 0, none⟩) [l] av cv := by
  subst h
  have hb : Below w.heap.size w (w.alloc (.cells #[.slice a l.length ca] 23)) := (Below.refl _ w).alloc (Nat.le_refl _) _
  have k := Blk.new w 23 #[.slice a l.length ca]
  exact ⟨hb, rows_at (n := 1) (cap := 1) (Own.of_blk k 1 rfl (by decide)) rfl ⟨rfl, fun j hj => by
    match j, hj with
    | 0, _ => exact ⟨a, ca, rfl, hl.below hb⟩⟩⟩
theorem isRows_vals {w : World} {ao : Option Addr} {cl : List (List Int)} {av : Nat → Option Addr} {cv : Nat → Nat} (h : IsRows w ao cl av cv) : RowsV w (rowVals cl av cv) cl := ⟨vals_len _ _ _, fun j hj => ⟨av j, cv j, by simp [rowVals, hj], h.ints j hj⟩⟩
theorem app_below {w w1 w2 : World} {o1 o2 : Obj} {v1 : Value} (hg1 : (w.alloc o1).grownBy w1 (some w.heap.size)) (hv1 : v1.ownBlock = some w.heap.size ∨ v1.ownBlock = some (w.alloc o1).heap.size) (hg2 : (w1.alloc o2).grownBy w2 v1.ownBlock) : Below w.heap.size w w1 ∧ Below w.heap.size w w2 := by
  have b0 : Below w.heap.size w (w.alloc o1) := (Below.refl _ w).alloc (Nat.le_refl _) _
  have b1 : Below w.heap.size w w1 := b0.grown hg1 b0.size fun k e => by injection e with e; omega
  have b2' := b1.alloc b1.size o2
  exact ⟨b1, b2'.grown hg2 b2'.size fun k e => by
    rcases hv1 with h | h
    · rw [h] at e; injection e with e; omega
    · rw [h] at e; injection e with e; rw [← e]; exact b0.size⟩
/-- Solve's answer, as far as CoreNo reads it. -/
abbrev NoAt (w : World) (n m : Nat) (ao : Option Addr) (cap : Nat) (y : Bool) (r : Int) : Prop :=
  Calls Try.prog 6 #[.int .i64 n, .slice ao m cap, .int .i64 1099511627776] w fun e w' => Below w.heap.size w w' ∧ ∃ a1 m1 c1 t a2 m2 c2 a3 m3 c3, e = .returned (.tuple #[.agg #[.bool y, .slice a1 m1 c1, .int .i64 t, .slice a2 m2 c2, .slice a3 m3 c3], .int .i64 r])
theorem no_at {w : World} {n m : Nat} {ao : Option Addr} {cap : Nat} {Y : List (List Int)} {av : Nat → Option Addr} {cv : Nat → Nat} (hn : n ≤ 8) (hc : IsRows w ao Y av cv) (he : m = Y.length) (hm : Y.length ≤ 2100) (hl : ∀ c ∈ Y, c.length ≤ 2000) (hk : Y.all (knownS n) = true) (hno : ∀ A : Nat → Bool, ¬ ∀ c ∈ Y, holdsA A c = true) : NoAt w n m ao cap false 0 := by
  subst he
  refine (solve_good (by omega) hc hm hl hk _ ⟨solve_small hn hk, Int.le_refl _⟩).mono ?_
  rintro e w' ⟨h1, a1, c1, a2, c2, a3, c3, rfl, _⟩
  exact ⟨h1, a1, _, c1, _, a2, _, c2, a3, _, c3, by rw [← no_of hk hno]⟩
theorem bad_at {w : World} {n m : Nat} {ao : Option Addr} {cap : Nat} {Y : List (List Int)} {av : Nat → Option Addr} {cv : Nat → Nat} (hn : n ≤ 8) (hc : IsRows w ao Y av cv) (he : m = Y.length) (hm : Y.length ≤ 2100) (hl : ∀ c ∈ Y, c.length ≤ 2000) (hI : ∀ c ∈ Y, ∀ x ∈ c, I64 x) (hk : Y.all (knownS n) = false) : NoAt w n m ao cap false 1 := by
  subst he
  refine (solve_bad (by omega) hc hm hl hI hk _ ⟨by omega, Int.le_refl _⟩).mono ?_
  rintro e w' ⟨h1, rfl⟩
  exact ⟨h1, _, _, _, _, _, _, _, _, _, _, rfl⟩

theorem more_cases2 (n : Nat) (more : List Int) : knownS n more = true ∨ knownS n more = false := by
  cases knownS n more
  · exact .inr rfl
  · exact .inl rfl
/-- The clauses of the core, and one more. -/
theorem more_at {w w' : World} {n k : Nat} {cl : List (List Int)} {L more : List Int} {vals : List Value} {am a' : Option Addr} {capm c' : Nat} (hn : n ≤ 8) (hb : Below w.heap.size w w') (ho : Own w' 23 1 (.slice a' (k + 1) c') (k + 1) (vals ++ [.slice am more.length capm]))
    (hv : RowsV w vals (pickE cl L)) (hM : Ints w am more) (hk : (pickE cl L).length = k) (hs : (pickE cl L).length ≤ 2000) (q5 : more.length ≤ 2000) (hl : ∀ d ∈ pickE cl L, d.length ≤ 2000) (hkn : (pickE cl L).all (knownS n) = true) (hno : ∀ A : Nat → Bool, ¬ ∀ c ∈ pickE cl L, holdsA A c = true) (hI : ∀ x ∈ more, I64 x) :
    (knownS n more = false → NoAt w' n (k + 1) a' c' false 1) ∧ (knownS n more = true → NoAt w' n (k + 1) a' c' false 0) := by
  have hlen : k + 1 = (vals ++ [Value.slice am more.length capm]).length := by rw [List.length_append, hv.1, hk]; rfl
  obtain ⟨avY, cvY, hY⟩ := rows_at ho hlen ((hv.below hb).snoc (hM.below hb) (cap := capm))
  have hyl : k + 1 = (pickE cl L ++ [more]).length := by rw [List.length_append, hk]; rfl
  have hm : (pickE cl L ++ [more]).length ≤ 2100 := by rw [List.length_append]; simp; omega
  have hll : ∀ c ∈ pickE cl L ++ [more], c.length ≤ 2000 := fun c hc => by
    rcases List.mem_append.1 hc with h | h
    · exact hl c h
    · rw [List.mem_singleton.1 h]; exact q5
  have hall : (pickE cl L ++ [more]).all (knownS n) = knownS n more := by
    rw [List.all_append, hkn]
    simp
  refine ⟨fun h => ?_, fun h => ?_⟩
  · refine bad_at hn hY hyl hm hll (fun c hc x hx => ?_) (by rw [hall]; exact h)
    rcases List.mem_append.1 hc with h2 | h2
    · have := knownS_mem (List.all_eq_true.1 hkn c h2) x hx
      unfold I64
      omega
    · rw [List.mem_singleton.1 h2] at hx
      exact hI x hx
  · exact no_at hn hY hyl hm hll (by rw [hall]; exact h) fun A hA => hno A fun c hc => hA c (List.mem_append.2 (.inl hc))

set_option maxHeartbeats 4000000 in
theorem no_walk (vars : Int) (cl : List (List Int)) (more : List Int) (ao am : Option Addr) (cap capm : Nat) (av : Nat → Option Addr) (cv : Nat → Nat) (w : World) (hR : IsRows w ao cl av cv) (hM : Ints w am more)
    (hcl : cl.length ≤ 9223372036854775807) (hrl : ∀ c ∈ cl, c.length ≤ 140737488351232) (hI : ∀ c ∈ cl, ∀ x ∈ c, I64 x) (hml : more.length ≤ 140737488351232) (hmI : ∀ x ∈ more, I64 x) :
    Calls Try.prog 3 #[.int .i64 vars, .slice ao cl.length cap, .slice am more.length capm] w fun e w' => e = .returned (.bool true) ∧ Below w.heap.size w w' := by
  have HW : Hid (∀ w', Calls Try.prog 4 #[] w' fun e w'' => e = .returned (.bool true) ∧ Below w'.heap.size w' w'') := Lib.hid works_any
  obtain ⟨T, hT⟩ : ∃ T, T = largeE cl [more] := ⟨_, rfl⟩
  have HLg : Hid (∀ w', Below w.heap.size w w' → Calls Try.prog 5 #[.slice ao cl.length cap, .slice (some ⟨w'.heap.size, 0, none⟩) 1 1] (w'.alloc (.cells #[.slice am more.length capm] 23)) fun e w'' => e = .returned (.bool T) ∧ Below w'.heap.size w' w'') := Lib.hid fun w' hb => by
    obtain ⟨w1, hw1⟩ : ∃ w1, w1 = w'.alloc (.cells #[.slice am more.length capm] 23) := ⟨_, rfl⟩
    obtain ⟨hb1, avm, cvm, hrm⟩ := one_given hw1 (hM.below hb)
    have h := large_any cl [more] ao (some ⟨w'.heap.size, 0, none⟩) cap 1 av avm cv cvm w1 (hR.below (bel_trans hb hb1)) hrm hcl hrl (by simp) (fun c hc => by rw [List.mem_singleton.1 hc]; exact hml)
    rw [← hT] at h
    rw [← hw1]
    exact h.mono fun e w'' ⟨h1, h2⟩ => ⟨h1, h2 ▸ hb1⟩
  have HR := Lib.hid hR
  have HM := Lib.hid hM
  have HT := Lib.hid hT
  have HI := Lib.hid hI
  have HMI := Lib.hid hmI
  clear hR hM hrl hml hT hI hmI
  by_cases hbig : T = true ∨ 8 < vars
  · have hcase : T = true ∨ (T = false ∧ decide (8 < vars) = true) := by
      cases T
      · exact .inr ⟨rfl, by rcases hbig with h | h; · cases h
                            · simpa using h⟩
      · exact .inl rfl
    clear hbig
    rcases hcase with rfl | ⟨rfl, hd⟩
    all_goals
      go_enter Try.func3, Try.ntmps3
      go_wp2_with (first
        | (go_at_call 5; (with_reducible refine (HLg.out _ hb1).mono ?_); rintro e w2 ⟨rfl, hb2⟩; have hb12 := bel_trans hb1 hb2; clear hb1)
        | (go_at_call 4; (with_reducible refine (HW.out _).mono ?_); rintro e w3 ⟨rfl, hb3⟩; first | (have hb13 := bel_trans hb12 hb3) | have hb1 := hb3)
        | fail)
      go_ret
      exact ⟨rfl, hb13⟩
  · have hv8 : vars ≤ 8 := Int.not_lt.1 fun h => hbig (.inr h)
    obtain rfl : T = false := by
      cases T
      · rfl
      · exact absurd (Or.inl rfl) hbig
    have hd : decide (8 < vars) = false := by simpa using hv8
    obtain ⟨q1, q2, q3⟩ := large_bounds HT.out.symm
    have q5 : more.length ≤ 2000 := q3 _ (by simp)
    clear hbig HT q3
    have hneg : (vars < 0 ∨ ∃ n : Nat, vars = (n : Int) ∧ n ≤ 8 ∧ cl.all (knownS n) = false) ∨ (∃ n : Nat, vars = (n : Int) ∧ n ≤ 8 ∧ cl.all (knownS n) = true) := by
      by_cases h : vars < 0
      · exact .inl (.inl h)
      · cases hk : cl.all (knownS vars.toNat)
        · exact .inl (.inr ⟨vars.toNat, by omega, by omega, hk⟩)
        · exact .inr ⟨vars.toNat, by omega, by omega, hk⟩
    rcases hneg with hbad | ⟨n, rfl, hn8, hk⟩
    · have HS : Hid (∀ w', Below w.heap.size w w' → Calls Try.prog 6 #[.int .i64 vars, .slice ao cl.length cap, .int .i64 1099511627776] w' fun e w'' => Below w'.heap.size w' w'' ∧ e = .returned (.tuple #[.agg #[.bool false, .slice none 0 0, .int .i64 0, .slice none 0 0, .slice none 0 0], .int .i64 1])) := Lib.hid fun w' hb => by
        rcases hbad with h | ⟨n, rfl, hn, hk⟩
        · exact solve_vars vars (.inl h) _ _ w'
        · exact solve_bad (by omega) (HR.out.below hb) (by omega) q2 HI.out hk _ ⟨by omega, Int.le_refl _⟩
      clear hbad
      go_enter Try.func3, Try.ntmps3
      go_wp2_with (first
        | (go_at_call 5; (with_reducible refine (HLg.out _ hb1).mono ?_); rintro e w2 ⟨rfl, hb2⟩; have hb12 := bel_trans hb1 hb2; clear hb1)
        | (go_at_call 4; (with_reducible refine (HW.out _).mono ?_); rintro e w3 ⟨rfl, hb1⟩)
        | (go_at_call 6; (with_reducible refine (HS.out _ hb12).mono ?_); rintro e w3 ⟨hb3, rfl⟩)
        | fail)
      go_ret
      have hb13 := bel_trans hb12 hb3
      exact ⟨rfl, hb13.alloc hb13.size _⟩
    · have HS : Hid (∀ w', Below w.heap.size w w' → Calls Try.prog 6 #[.int .i64 n, .slice ao cl.length cap, .int .i64 1099511627776] w' fun e w'' => Below w'.heap.size w' w'' ∧ ∃ a1 c1 a2 c2 a3 c3, e = .returned (.tuple #[.agg (ansV (solveE n cl) a1 c1 a2 c2 a3 c3), .int .i64 0]) ∧ AnsAt w' w'' (solveE n cl) (.slice a1 (solveE n cl).state.length c1) (.slice a2 (solveE n cl).bonds.length c2) (.slice a3 (solveE n cl).last.length c3)) := Lib.hid fun w' hb =>
        solve_good (by omega) (HR.out.below hb) (by omega) q2 hk _ ⟨solve_small hn8 hk, Int.le_refl _⟩
      have HK := Lib.hid hk
      clear hk
      by_cases hy : (solveE n cl).yes = true
      · unfold ansV at HS
        rw [hy] at HS
        clear hy
        go_enter Try.func3, Try.ntmps3
        go_wp2_with (first
          | (go_at_call 5; (with_reducible refine (HLg.out _ hb1).mono ?_); rintro e w2 ⟨rfl, hb2⟩; have hb12 := bel_trans hb1 hb2; clear hb1)
          | (go_at_call 4; (with_reducible refine (HW.out _).mono ?_); rintro e w3 ⟨rfl, hb1⟩)
          | (go_at_call 6; (with_reducible refine (HS.out _ hb12).mono ?_); rintro e w3 ⟨hb3, a1, c1, a2, c2, a3, c3, rfl, _⟩)
          | fail)
        go_ret
        have hb13 := bel_trans hb12 hb3
        exact ⟨rfl, hb13.alloc hb13.size _⟩
      · have hy2 : (solveE n cl).yes = false := by simpa using hy
        have HY := Lib.hid hy2
        have HBl := Lib.hid (bonds_len (n := n) (by omega) HK.out)
        unfold ansV at HS
        rw [hy2] at HS
        clear hy hy2
        go_enter Try.func3, Try.ntmps3
        go_upto_region 4 with (first
          | (go_at_call 5; (with_reducible refine (HLg.out _ hb1).mono ?_); rintro e w2 ⟨rfl, hb2⟩; have hb12 := bel_trans hb1 hb2; clear hb1)
          | (go_at_call 4; (with_reducible refine (HW.out _).mono ?_); rintro e w3 ⟨rfl, hb1⟩)
          | (go_at_call 6; (with_reducible refine (HS.out _ hb12).mono ?_); rintro e w3 ⟨hb3, a1, c1, a2, c2, a3, c3, rfl, hA⟩)
          | fail)
        obtain ⟨⟨avB, cvB, hRB⟩, hIL, hBl2, hLl⟩ := ans_rows hA
        obtain ⟨w4, hw4, hb4, hk4⟩ := ans_new w3 #[.bool false, .slice a1 (solveE n cl).state.length c1, .int .i64 (solveE n cl).steps, .slice a2 (solveE n cl).bonds.length c2, .slice a3 (solveE n cl).last.length c3]
        rw [← hw4]
        obtain ⟨g, hg⟩ : ∃ g, g = w3.heap.size := ⟨_, rfl⟩
        rw [← hg] at hk4 ⊢
        have p0 : w4.cell? ⟨g, 0, none⟩ = some (.bool false) := hk4 w4 (Below.refl _ _) 0
        have p3 : w4.cell? ⟨g, 3, none⟩ = some (.slice a2 (solveE n cl).bonds.length c2) := hk4 w4 (Below.refl _ _) 3
        have p4 : w4.cell? ⟨g, 4, none⟩ = some (.slice a3 (solveE n cl).last.length c3) := hk4 w4 (Below.refl _ _) 4
        obtain ⟨hf1, hf2⟩ := solve_fit HK.out HY.out
        have hof := cOf_any cl.length (solveE n cl).bonds (solveE n cl).last a2 a3 c2 c3 avB cvB w4 (hRB.below hb4) (hIL.below hb4) (Nat.le_trans HBl.out (by omega)) (fun c hc => by obtain ⟨j, hj, rfl⟩ := List.getElem_of_mem hc; exact hBl2 j hj) hLl
        rw [cofE_ok (by omega) hf1 hf2] at hof
        have HOf := Lib.hid hof
        have HB4 := Lib.hid (bel_trans (bel_trans hb12 hb3) hb4)
        obtain ⟨L, hL⟩ : ∃ L, L = coreE cl.length (solveE n cl).bonds (solveE n cl).last := ⟨_, rfl⟩
        rw [← hL] at HOf
        have HLd := Lib.hid hL
        have hLn : L.length ≤ cl.length := by rw [hL]; have := outE_len (marksE cl.length (solveE n cl).bonds (solveE n cl).last) cl.length; unfold coreE; exact this
        have HLr := Lib.hid (show ∀ x ∈ L, 0 ≤ x ∧ x < cl.length by rw [hL]; exact core_range)
        have HLs := Lib.hid (show L.Pairwise (· < ·) by rw [hL]; exact outE_rise _ _)
        obtain ⟨iS, hiS, hs0, hs1, hs2⟩ := info_parts (P := Try.prog) (e := 23) (z := .slice none 0 0) (size := 1) (bytes := 24) (by kernel_rfl)
        clear hw4 hk4 hg hA hRB hIL hBl2 hLl hb12 hb3 hb4 hof hf1 hf2 hL HS HBl HLg HW
        generalize (solveE n cl).bonds.length = nb at *
        generalize (solveE n cl).last.length = nl at *
        go_upto_region 9 with (go_at_call 7; (with_reducible refine HOf.out.mono ?_); rintro e w5 ⟨a5, c5, rfl, hO5, _, hb5⟩)
        have HI5 := Lib.hid (show Ints w5 a5 L by
          obtain ⟨ao', cap', e, hi⟩ := Own.ints hO5
          injection e with e1 _ _
          exact e1 ▸ hi)
        have HB5 := Lib.hid (bel_trans HB4.out hb5)
        clear hO5 hb5 HOf HB4 p0 p3 p4
        go_wp2_with fail
        go_loopw [11, 12] (fun s i wr => ∃ (j c : Nat) (a : Option Addr) (vals : List Value), j ≤ L.length ∧ i = .int .i64 j ∧ s = .slice a j c ∧ Hid (j = vals.length ∧ Own wr 23 1 (.slice a j c) j vals ∧ (∀ b, (Value.slice a j c).ownBlock = some b → w5.heap.size ≤ b) ∧ Below w5.heap.size w5 wr) ∧ Hid (RowsV w vals (pickE cl (L.take j)))) (fun _ i _ => L.length - (intOf i).toNat)
        case atStart => exact ⟨0, 0, none, [], by omega, rfl, rfl, Lib.hid ⟨rfl, Own.nil _ _ _, fun b hb => by simp [Value.ownBlock] at hb, Below.refl _ _⟩, Lib.hid (RowsV.nil w)⟩
        case round =>
          obtain ⟨j, c, a, vals, hj, rfl, rfl, HO, HV⟩ := hrel
          have hbX : Below w.heap.size w wr := bel_trans HB5.out HO.out.2.2.2
          have hone := HV.out.one
          by_cases hjt : j < L.length
          · have hji : (j : Int) < (L.length : Int) := by omega
            obtain ⟨b, off, e, _, hcells⟩ := HI5.out.below HO.out.2.2.2 (by omega)
            subst e
            have hxr := HLr.out L[j] (List.getElem_mem hjt)
            obtain ⟨t, ht⟩ : ∃ t : Nat, L[j] = (t : Int) := ⟨L[j].toNat, by omega⟩
            have hck := hcells j hjt
            rw [ht] at hck hxr
            have htl : t < cl.length := by omega
            have hti : (t : Int) < (cl.length : Int) := by omega
            have hd1 : decide ((t : Int) < 0) = false := by simp
            have hd2 : decide ((cl.length : Int) ≤ (t : Int)) = false := by simp; omega
            have hd3 : decide (cl.length ≤ t) = false := by simp; omega
            obtain ⟨br, offr, er, _, hrows⟩ := (HR.out.below hbX).rows (by omega)
            subst er
            have hrow := hrows t htl
            have HV2 := Lib.hid (show RowsV w (vals ++ [.slice (av t) cl[t].length (cv t)]) (pickE cl (L.take (j + 1))) by
              have e2 : pickE cl (L.take (j + 1)) = pickE cl (L.take j) ++ [cl[t]] := by
                unfold pickE
                rw [List.take_succ_eq_append_getElem hjt, List.map_append, ht]
                simp [List.getD_eq_getElem?_getD, htl]
              rw [e2]
              exact HV.out.snoc (HR.out.ints t htl))
            have hprev : decide ((0 : Int) < (j : Int)) = false ∨ (decide ((0 : Int) < (j : Int)) = true ∧ ∃ (j1 : Nat) (y : Int), (j1 : Int) < (L.length : Int) ∧ IntKind.i64.wrap ((j : Int) - 1) = (j1 : Int) ∧ wr.cell? ⟨b, off + j1, none⟩ = some (.int .i64 y) ∧ decide ((t : Int) ≤ y) = false) := by
              by_cases h0 : j = 0
              · exact .inl (by rw [h0]; rfl)
              · refine .inr ⟨by simp; omega, j - 1, L[j - 1], by omega, by rw [IntKind.wrap_i64]; omega, hcells (j - 1) (by omega), ?_⟩
                have := List.pairwise_iff_getElem.1 HLs.out (j - 1) j (by omega) hjt (by omega)
                rw [ht] at this
                simp
                exact this
            clear hcells hrows ht hxr hbX
            rcases hprev with hz | ⟨hz, j1, y, hj1, hwj, hcy, hyt⟩
            · have hz2 : decide (0 < j) = false := by
                rw [← hz]
                exact decide_eq_decide.2 (by omega)
              go_upto_region 13 with fail
              go_quiet (fail)
              obtain ⟨wq, hwq⟩ : ∃ wq, wq = wr.drewN nq := ⟨_, rfl⟩
              have hckq : wq.cell? ⟨b, off + j, none⟩ = some (.int .i64 (t : Int)) := by rw [hwq]; exact hck
              have hrowq : wq.cell? ⟨br, offr + t, none⟩ = some (.slice (av t) cl[t].length (cv t)) := by rw [hwq]; exact hrow
              have HOq := Lib.hid (show Own (wq.alloc (.cells #[.slice (av t) cl[t].length (cv t)] 23)) 23 1 (.slice a j c) j vals by rw [hwq]; exact (HO.out.2.1.drewN nq).alloc _)
              have HBq := Lib.hid (show Below w5.heap.size w5 wq by rw [hwq]; exact bel_drewN HO.out.2.2.2 nq)
              rw [← hwq]
              clear hwq hck hrow
              go_wp2_with (first
                | (at_builtin; refine wpList_append_S _ rfl (.tmp 90) (.tmp 98) _ _ rfl 23 iS _ 1 24 Try.underlying22 hiS hs0 hs1 hs2 rfl (by omega) (.slice a j c) j vals rfl HOq.out hone (.slice (some ⟨wq.heap.size, 0, none⟩) 1 1) 1 [.slice (av t) cl[t].length (cv t)] rfl (src_new wq Try.underlying22 23 (.slice (av t) cl[t].length (cv t)) rfl) (by simp only [maxLen]; omega) (by omega) ?_; intro a6 c6 w6 hn6 hm6 hown6 hg6 hat6 hlt6
                   have HO6 := Lib.hid hown6; have H6 := Lib.hid (out_snoc HBq.out HO.out.2.2.1 hg6 hat6); clear hown6 hg6 hat6 hlt6 hn6 hm6)
                | fail)
              go_roundw
              case rel => exact ⟨j + 1, c6, a6, _, by omega, by go_num, rfl, Lib.hid ⟨by rw [List.length_append, ← HO.out.1]; rfl, HO6.out, H6.out.1, H6.out.2⟩, HV2⟩
              case measure => simp [intOf]; omega
            · have hz2 : decide (0 < j) = true := by
                rw [← hz]
                exact decide_eq_decide.2 (by omega)
              go_upto_region 13 with fail
              go_quiet (fail)
              obtain ⟨wq, hwq⟩ : ∃ wq, wq = wr.drewN nq := ⟨_, rfl⟩
              have hckq : wq.cell? ⟨b, off + j, none⟩ = some (.int .i64 (t : Int)) := by rw [hwq]; exact hck
              have hrowq : wq.cell? ⟨br, offr + t, none⟩ = some (.slice (av t) cl[t].length (cv t)) := by rw [hwq]; exact hrow
              have HOq := Lib.hid (show Own (wq.alloc (.cells #[.slice (av t) cl[t].length (cv t)] 23)) 23 1 (.slice a j c) j vals by rw [hwq]; exact (HO.out.2.1.drewN nq).alloc _)
              have HBq := Lib.hid (show Below w5.heap.size w5 wq by rw [hwq]; exact bel_drewN HO.out.2.2.2 nq)
              rw [← hwq]
              clear hwq hck hrow
              go_wp2_with (first
                | (at_builtin; refine wpList_append_S _ rfl (.tmp 90) (.tmp 98) _ _ rfl 23 iS _ 1 24 Try.underlying22 hiS hs0 hs1 hs2 rfl (by omega) (.slice a j c) j vals rfl HOq.out hone (.slice (some ⟨wq.heap.size, 0, none⟩) 1 1) 1 [.slice (av t) cl[t].length (cv t)] rfl (src_new wq Try.underlying22 23 (.slice (av t) cl[t].length (cv t)) rfl) (by simp only [maxLen]; omega) (by omega) ?_; intro a6 c6 w6 hn6 hm6 hown6 hg6 hat6 hlt6
                   have HO6 := Lib.hid hown6; have H6 := Lib.hid (out_snoc HBq.out HO.out.2.2.1 hg6 hat6); clear hown6 hg6 hat6 hlt6 hn6 hm6)
                | fail)
              go_roundw
              case rel => exact ⟨j + 1, c6, a6, _, by omega, by go_num, rfl, Lib.hid ⟨by rw [List.length_append, ← HO.out.1]; rfl, HO6.out, H6.out.1, H6.out.2⟩, HV2⟩
              case measure => simp [intOf]; omega
          · obtain rfl : j = L.length := by omega
            have hvr := HV.out
            rw [List.take_length] at hvr
            obtain ⟨hlv, hown, hfr, hb5r⟩ := HO.out
            obtain ⟨avK, cvK, hrK⟩ := rows_at hown hlv (hvr.below hbX)
            have hpk := pick_known HLr.out HK.out
            have hps := pick_sub HLr.out
            have HLn := Lib.hid (show ∀ A : Nat → Bool, ¬ ∀ c ∈ pickE cl L, holdsA A c = true by rw [HLd.out]; exact alone_no HK.out HY.out)
            have HNa := Lib.hid (no_at (cap := c) hn8 hrK (pick_len cl L).symm (by rw [pick_len]; omega) (fun d hd => q2 d (hps d hd)) hpk HLn.out)
            have HMore := Lib.hid (fun (w' : World) (a' : Option Addr) (c' : Nat) (hb : Below w.heap.size w w') (ho : Own w' 23 1 (.slice a' (L.length + 1) c') (L.length + 1) (vals ++ [.slice am more.length capm])) => more_at hn8 hb ho hvr HM.out (by rw [pick_len]) (by rw [pick_len]; omega) q5 (fun d hd => q2 d (hps d hd)) hpk HLn.out HMI.out)
            have HOw := Lib.hid hown
            have HBw := Lib.hid hbX
            clear hvr hlv hown hfr hb5r hrK hpk hps hbX HLd
            go_upto_region 17 with (go_at_call 6; (with_reducible refine HNa.out.mono ?_); rintro e w7 ⟨hb7, a1y, m1y, c1y, ty, a2y, m2y, c2y, a3y, m3y, c3y, rfl⟩)
            obtain ⟨w8, hw8, hb8, hk8⟩ := ans_new w7 #[.bool false, .slice a1y m1y c1y, .int .i64 ty, .slice a2y m2y c2y, .slice a3y m3y c3y]
            rw [← hw8]
            obtain ⟨g8, hg8⟩ : ∃ g8, g8 = w7.heap.size := ⟨_, rfl⟩
            rw [← hg8] at hk8 ⊢
            have HY8 := Lib.hid (show w8.cell? ⟨g8, 0, none⟩ = some (.bool false) from hk8 w8 (Below.refl _ _) 0)
            have HO8 := Lib.hid (HOw.out.new (bel_trans hb7 hb8))
            have HB8 := Lib.hid (bel_trans HBw.out (bel_trans hb7 hb8))
            clear hw8 hk8 hg8 hb7 hb8 HNa
            have hk2 := more_cases2 n more
            rcases hk2 with hkm | hkm
            all_goals
              go_upto_region 18 with (first
                | (at_builtin; refine wpList_append_S _ rfl (.tmp 108) (.tmp 109) _ _ rfl 23 iS _ 1 24 Try.underlying22 hiS hs0 hs1 hs2 rfl (by omega) (.slice (some ⟨w8.heap.size, 0, none⟩) 0 0) 0 [] rfl (Own.made w8 23 1 #[] 0 rfl (by decide)) (by simp) (.slice a L.length c) L.length vals rfl ((HO8.out.alloc (.cells #[] 23)).src Try.underlying22 hone) (by simp only [maxLen]; omega) (by omega) ?_; intro a9 c9 w9 hn9 hm9 hown9 hg9 hat9 hlt9; simp only [Nat.zero_add, List.nil_append] at hown9 hat9 hlt9 ⊢
                   have HO9 := Lib.hid hown9; have HG9 := Lib.hid (show _ ∧ _ from ⟨hg9, hat9⟩); clear hown9 hg9 hat9 hlt9 hn9 hm9)
                | (at_builtin; refine wpList_append_S _ rfl (.tmp 110) (.tmp 112) _ _ rfl 23 iS _ 1 24 Try.underlying22 hiS hs0 hs1 hs2 rfl (by omega) (.slice a9 L.length c9) L.length vals rfl (HO9.out.alloc (.cells #[.slice am more.length capm] 23)) hone (.slice (some ⟨w9.heap.size, 0, none⟩) 1 1) 1 [.slice am more.length capm] rfl (src_new w9 Try.underlying22 23 (.slice am more.length capm) rfl) (by simp only [maxLen]; omega) (by omega) ?_; intro a10 c10 w10 hn10 hm10 hown10 hg10 hat10 hlt10
                   have HG10 := Lib.hid (app_below HG9.out.1 HG9.out.2 hg10); have HO10 := Lib.hid hown10; clear hown10 hg10 hat10 hlt10 hn10 hm10)
                | (go_at_call 6; (with_reducible refine ((HMore.out _ _ _ (bel_trans HB8.out HG10.out.2) HO10.out).2 hkm).mono ?_); rintro e w11 ⟨hb11, a1z, m1z, c1z, tz, a2z, m2z, c2z, a3z, m3z, c3z, rfl⟩)
                | (go_at_call 6; (with_reducible refine ((HMore.out _ _ _ (bel_trans HB8.out HG10.out.2) HO10.out).1 hkm).mono ?_); rintro e w11 ⟨hb11, a1z, m1z, c1z, tz, a2z, m2z, c2z, a3z, m3z, c3z, rfl⟩)
                | fail)
              obtain ⟨w12, hw12, hb12, hk12⟩ := ans_new w11 #[.bool false, .slice a1z m1z c1z, .int .i64 tz, .slice a2z m2z c2z, .slice a3z m3z c3z]
              rw [← hw12]
              obtain ⟨g12, hg12⟩ : ∃ g12, g12 = w11.heap.size := ⟨_, rfl⟩
              rw [← hg12] at hk12 ⊢
              have y12 : w12.cell? ⟨g12, 0, none⟩ = some (.bool false) := hk12 w12 (Below.refl _ _) 0
              have hq := bel_trans HG10.out.2 (bel_trans hb11 hb12)
              have y8 : w12.cell? ⟨g8, 0, none⟩ = some (.bool false) := (bel_cell hq HY8.out).trans HY8.out
              have HBz := Lib.hid (bel_trans HB8.out hq)
              clear hw12 hk12 hg12 hb12 hb11 hq
              go_wp2_with fail
              go_ret
              exact ⟨rfl, HBz.out⟩

end Go.Proofs.Yteadaiomeccanaa
