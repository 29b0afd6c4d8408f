/- CoreNo: plain: the clauses of the core alone have no state. -/
import Derived.Test.YthinopiobihmaaaGp
import Derived.Test.YthinopiobihmaaaRows
namespace Go.Proofs.Ythinopiobihmaaa
open Go.ChangeShapes Go.WideShapes Go.ChangeAt Go.RowKit Go.Maps Go.Deep
set_option maxRecDepth 100000

theorem fitsE_yes {l : List Int} {b : Int} (h : ∀ j (hj : j < l.length), 0 ≤ l[j] ∧ l[j] < b) : fitsE l b = true := by
  unfold fitsE
  rw [Bool.not_eq_true', List.any_eq_false]
  intro x hx
  obtain ⟨j, hj, rfl⟩ := List.getElem_of_mem hx
  have := h j hj
  simp
  omega

abbrev FitC (N : Nat) (cl : List (List Int)) : Prop := ∀ j (h : j < cl.length), ∀ x ∈ cl[j], 0 ≤ x ∧ x < N + j

theorem fitsF_of : ∀ {cl : List (List Int)} {N : Int}, (∀ j (h : j < cl.length), ∀ x ∈ cl[j], 0 ≤ x ∧ x < N + j) → fitsF N cl = true
  | [], _, _ => rfl
  | c :: r, N, h => by
    unfold fitsF
    rw [Bool.and_eq_true]
    refine ⟨fitsE_yes fun j hj => ?_, fitsF_of fun j hj x hx => ?_⟩
    · have := h 0 (by simp) c[j] (List.getElem_mem hj)
      omega
    · have := h (j + 1) (by simpa using hj) x (by simpa using hx)
      omega

theorem cofE_ok {N : Nat} (hN : N ≤ 4194304) {cl : List (List Int)} {last : List Int} (h1 : FitC N cl) (h2 : ∀ x ∈ last, 0 ≤ x ∧ x < N + cl.length) : cofE N cl last = (coreE N cl last, 0) := by
  unfold cofE
  rw [if_neg (by omega), fitsF_of h1, fitsE_yes fun j hj => h2 _ (List.getElem_mem hj)]
  rfl

theorem cofE_cases {N : Nat} (hN : N ≤ 4194304) (cl : List (List Int)) (last : List Int) : cofE N cl last = ([], 4) ∨ (cofE N cl last = (coreE N cl last, 0) ∧ FitC N cl ∧ ∀ x ∈ last, 0 ≤ x ∧ x < N + cl.length) := by
  unfold cofE
  rw [if_neg (by omega)]
  by_cases h : (fitsF N cl && fitsE last ((N : Int) + cl.length)) = true
  · rw [if_pos h]
    rw [Bool.and_eq_true] at h
    exact .inr ⟨rfl, fun j hj => fitsE_mem (fitsF_at h.1 j hj), fitsE_mem h.2⟩
  · rw [if_neg h]
    exact .inl rfl
theorem next_bonds (q : Q) : (∀ a, nextQ q = .done a → a.bonds.length ≤ q.bonds.length) ∧ ∀ q', nextQ q = .go q' → q'.bonds.length ≤ q.bonds.length + 1 := by
  unfold nextQ
  by_cases h1 : 0 ≤ (propS q.S).2
  · rw [if_pos h1]
    by_cases h2 : (confQ q).2.1 < 0
    · rw [if_pos h2]
      exact ⟨fun a e => (by injection e with e; rw [← e]; exact Nat.le_refl _), fun q' e => (by cases e)⟩
    · rw [if_neg h2]
      exact ⟨fun a e => (by cases e), fun q' e => (by injection e with e; rw [← e]; simp)⟩
  · rw [if_neg h1]
    by_cases h2 : varQ q < (propS q.S).1.n
    · rw [if_pos h2]
      exact ⟨fun a e => (by cases e), fun q' e => (by injection e with e; rw [← e]; exact Nat.le_succ _)⟩
    · rw [if_neg h2]
      exact ⟨fun a e => (by injection e with e; rw [← e]; exact Nat.le_refl _), fun q' e => (by cases e)⟩

theorem run_bonds : ∀ (k : Nat) (q : Q) (a : Ans), runQ k q = some a → a.bonds.length ≤ q.bonds.length + k
  | 0, _, _, h => by cases h
  | k + 1, q, a, h => by
    obtain ⟨h1, h2⟩ := next_bonds q
    unfold runQ at h
    cases hn : nextQ q with
    | done a' =>
      rw [hn] at h
      injection h with h
      have := h1 a' hn
      rw [h] at this
      omega
    | go q' =>
      rw [hn] at h
      have := h2 q' hn
      have := run_bonds k q' a h
      omega

theorem bonds_len {n : Nat} {cl : List (List Int)} (hn : n ≤ 12) (hk : cl.all (knownS n) = true) : (solveE n cl).bonds.length ≤ 53249 := by
  have h1 := run_bonds _ _ _ (solve_ok n cl (List.all_eq_true.1 hk)).1
  have h2 : (2 : Nat) ^ n * (n + 1) ≤ 2 ^ 12 * 13 := Nat.mul_le_mul (Nat.pow_le_pow_right (by decide) hn) (by omega)
  have h3 : (startQ n cl).bonds.length = 0 := rfl
  omega

theorem own_small {w : World} {e : TypeId} {n : Nat} {v : Value} {xs : List Value} (h : Own w e 1 v n xs) : n ≤ 9223372036854775807 := by
  obtain ⟨_, cap, _, h1, h2, _⟩ := h.form
  unfold maxLen at h2
  omega

theorem ans_rows {w w' : World} {A : Ans} {sv : Value} {a2 a3 : Option Addr} {c2 c3 : Nat} (h : AnsAt w w' A sv (.slice a2 A.bonds.length c2) (.slice a3 A.last.length c3)) : (∃ avB cvB, IsRows w' a2 A.bonds avB cvB) ∧ Ints w' a3 A.last ∧ (∀ j (h : j < A.bonds.length), A.bonds[j].length ≤ 9223372036854775807) ∧ A.last.length ≤ 9223372036854775807 := by
  obtain ⟨vals, hO, _, hr⟩ := h.bonds
  have hl : vals.length = A.bonds.length := by have := hO.1; omega
  refine ⟨?_, ?_, fun j hj => ?_, own_small h.last⟩
  · refine rows_at hO hl.symm (RowsN.rowsV ⟨hl, fun j hj => ?_⟩)
    obtain ⟨u, hu, ho, _⟩ := hr j hj
    obtain ⟨ao, cap, rfl, _⟩ := Own.ints ho
    exact ⟨ao, cap, hu, ho⟩
  · obtain ⟨ao, cap, e, hi⟩ := Own.ints h.last
    injection e with e1 _ _
    exact e1 ▸ hi
  · obtain ⟨u, hu, ho, _⟩ := hr j hj
    exact own_small ho

theorem ans_new (w : World) (cs : Array Value) : ∃ w', w' = w.alloc (.cells cs 40) ∧ Below w.heap.size w w' ∧ ∀ w'', Below w'.heap.size w' w'' → ∀ i, w''.cell? ⟨w.heap.size, i, none⟩ = cs[i]? := by
  refine ⟨_, rfl, (Below.refl _ _).alloc (Nat.le_refl _) _, fun w'' hb i => ?_⟩
  have k := Blk.new w 40 cs
  exact (k.below hb k.lt).cell i

theorem knownS_mem {n : Nat} {c : List Int} (h : knownS n c = true) : ∀ x ∈ c, 1 ≤ x.natAbs ∧ x.natAbs ≤ n := fun x hx => by
  have := List.all_eq_true.1 h x hx
  simpa using this

abbrev ansV (A : Ans) (a1 : Option Addr) (c1 : Nat) (a2 : Option Addr) (c2 : Nat) (a3 : Option Addr) (c3 : Nat) : Array Value := #[.bool A.yes, .slice a1 A.state.length c1, .int .i64 A.steps, .slice a2 A.bonds.length c2, .slice a3 A.last.length c3]

theorem AnsAt.forms {w w' : World} {A : Ans} {sv fv lv : Value} (h : AnsAt w w' A sv fv lv) : ∃ a1 c1 a2 c2 a3 c3, sv = .slice a1 A.state.length c1 ∧ fv = .slice a2 A.bonds.length c2 ∧ lv = .slice a3 A.last.length c3 := by
  obtain ⟨a1, c1, e1, _⟩ := h.state.form
  obtain ⟨vals, hO, _⟩ := h.bonds
  obtain ⟨a2, c2, e2, _⟩ := hO.form
  obtain ⟨a3, c3, e3, _⟩ := h.last.form
  exact ⟨a1, c1, a2, c2, a3, c3, e1, e2, e3⟩
section
variable {n : Nat} {ao : Option Addr} {cl : List (List Int)} {cap : Nat} {av : Nat → Option Addr} {cv : Nat → Nat} {w : World}
theorem solve_good (hn : n ≤ 12) (hc : IsRows w ao cl av cv) (hm : cl.length ≤ 2100) (hl : ∀ c ∈ cl, c.length ≤ 2000) (hk : cl.all (knownS n) = true) (budget : Int) (hb : ((solveE n cl).steps : Int) ≤ budget ∧ budget ≤ 1099511627776) :
    Calls Try.prog 17 #[.int .i64 n, .slice ao cl.length cap, .int .i64 budget] w fun e w' => Below w.heap.size w w' ∧ ∃ a1 c1 a2 c2 a3 c3, e = .returned (.tuple #[.agg (ansV (solveE n cl) a1 c1 a2 c2 a3 c3), .int .i64 0]) ∧ AnsAt w w' (solveE n cl) (.slice a1 (solveE n cl).state.length c1) (.slice a2 (solveE n cl).bonds.length c2) (.slice a3 (solveE n cl).last.length c3) := by
  have hI : ∀ c ∈ cl, ∀ x ∈ c, I64 x := fun c hc x hx => by
    have := knownS_mem (List.all_eq_true.1 hk c hc) x hx
    unfold I64
    omega
  refine (solve_any n hn ao cl cap av cv w hc hm hl hI budget (by omega)).mono ?_
  rintro e w' ⟨hb1, h | h | ⟨_, _, sv, fv, lv, rfl, hA⟩⟩
  · rw [h.1] at hk; cases hk
  · omega
  · obtain ⟨a1, c1, a2, c2, a3, c3, rfl, rfl, rfl⟩ := hA.forms
    exact ⟨hb1, a1, c1, a2, c2, a3, c3, rfl, hA⟩

theorem solve_bad (hn : n ≤ 12) (hc : IsRows w ao cl av cv) (hm : cl.length ≤ 2100) (hl : ∀ c ∈ cl, c.length ≤ 2000) (hI : ∀ c ∈ cl, ∀ x ∈ c, I64 x) (hk : cl.all (knownS n) = false) (budget : Int) (hb : 0 ≤ budget ∧ budget ≤ 1099511627776) :
    Calls Try.prog 17 #[.int .i64 n, .slice ao cl.length cap, .int .i64 budget] w fun e w' => Below w.heap.size w w' ∧ e = .returned (.tuple #[.agg #[.bool false, .slice none 0 0, .int .i64 0, .slice none 0 0, .slice none 0 0], .int .i64 1]) := by
  refine (solve_any n hn ao cl cap av cv w hc hm hl hI budget hb).mono ?_
  rintro e w' ⟨hb1, ⟨_, rfl⟩ | h | h⟩
  · exact ⟨hb1, rfl⟩
  · rw [h.1] at hk; cases hk
  · rw [h.1] at hk; cases hk
end

theorem solve_vars (vars : Int) (hv : vars < 0 ∨ 2097152 < vars) (v : Value) (budget : Int) (w : World) :
    Calls Try.prog 17 #[.int .i64 vars, v, .int .i64 budget] w fun e w' => Below w.heap.size w w' ∧ e = .returned (.tuple #[.agg #[.bool false, .slice none 0 0, .int .i64 0, .slice none 0 0, .slice none 0 0], .int .i64 1]) := by
  go_enter Try.func17, Try.ntmps17
  go_wp2_with fail
  go_step3
  have hB : Below w.heap.size w (w.alloc (.cells (ansC false nilV 0 nilV nilV) 40)) := (Below.refl _ _).alloc (Nat.le_refl _) _
  have rb := Blk.new w 40 (ansC false nilV 0 nilV nilV)
  have HB := Lib.hid hB
  have HR := Lib.hid rb
  unfold ansC nilV at HB HR
  clear hB rb
  obtain ⟨w0, hw0⟩ : ∃ w0, w0 = w.alloc (.cells #[.bool false, .slice none 0 0, .int .i64 0, .slice none 0 0, .slice none 0 0] 40) := ⟨_, rfl⟩
  rw [← hw0] at HB HR ⊢
  obtain ⟨r, hr⟩ : ∃ r, r = w.heap.size := ⟨_, rfl⟩
  rw [← hr] at HR ⊢
  have HRg := Lib.hid (show w.heap.size ≤ r by omega)
  clear hw0 hr
  have r0 := HR.out.cell 0
  have r1 := HR.out.cell 1
  have r2 := HR.out.cell 2
  have r3 := HR.out.cell 3
  have r4 := HR.out.cell 4
  have rf := HR.out.frozen
  simp at r0 r1 r2 r3 r4
  go_wp2_with (go_at_call 25; (with_reducible refine (wnew_bad vars _ hv).mono ?_); rintro e w1 ⟨rfl, rfl⟩)
  (try simp only [Exit.noGoto_ret])
  refine bodyPost_ret (results_cell2 Try.results17 _ _ r 40 _ _ rfl (blk_five HR.out) Try.underlying40 rfl (by kernel_rfl)) rfl ?_
  exact ⟨below_five HB.out HRg.out, rfl⟩
theorem solve_fit {n : Nat} {cl : List (List Int)} (hk : cl.all (knownS n) = true) (hy : (solveE n cl).yes = false) :
    FitC cl.length (solveE n cl).bonds ∧ (∀ x ∈ (solveE n cl).last, 0 ≤ x ∧ x < cl.length + (solveE n cl).bonds.length) := by
  have hok := (solve_ok n cl (List.all_eq_true.1 hk)).2
  obtain ⟨_, hb, _⟩ := hok.bonds
  refine ⟨fun j hj x hx => hb.range j hj x ?_, (hok.no hy).2.2⟩
  rw [List.getD_eq_getElem?_getD, List.getElem?_eq_getElem hj]
  exact hx
/-- The clauses of the core. -/
def pickE (cl : List (List Int)) (l : List Int) : List (List Int) := l.map fun x => cl.getD x.toNat []
abbrev coreA (n : Nat) (cl : List (List Int)) : List Int := coreE cl.length (solveE n cl).bonds (solveE n cl).last
theorem core_range {N : Nat} {bonds : List (List Int)} {last : List Int} : ∀ x ∈ coreE N bonds last, 0 ≤ x ∧ x < N := fun x hx => by
  unfold coreE at hx
  have := (outE_mem _ _ _).1 hx
  exact ⟨this.1, this.2.1⟩
theorem pick_sub {cl : List (List Int)} {l : List Int} (h : ∀ x ∈ l, 0 ≤ x ∧ x < cl.length) : ∀ c ∈ pickE cl l, c ∈ cl := fun c hc => by
  obtain ⟨x, hx, rfl⟩ := List.mem_map.1 hc
  have := h x hx
  rw [List.getD_eq_getElem?_getD, List.getElem?_eq_getElem (by omega)]
  exact List.getElem_mem _
theorem alone_no {n : Nat} {cl : List (List Int)} (hk : cl.all (knownS n) = true) (hy : (solveE n cl).yes = false) (A : Nat → Bool) : ¬ ∀ c ∈ pickE cl (coreA n cl), holdsA A c = true := fun hA => by
  have hok := (solve_ok n cl (List.all_eq_true.1 hk)).2
  obtain ⟨clx, hb, hno⟩ := hok.bonds
  obtain ⟨hf1, hf2⟩ := solve_fit hk hy
  refine hno hy A fun b hb' => ?_
  have hbr := hf2 b hb'
  have hl := hb.len
  refine no_unsat hb (fun j => ∀ x : Int, Rests cl.length (solveE n cl).bonds x (j : Int) → x ∈ coreA n cl) (fun j hj hp => ?_) (fun k hk2 hp c hc x hx => ?_) b.toNat (by omega) (fun x hx => ?_)
  · refine hA _ (List.mem_map.2 ⟨(j : Int), hp _ (.base (by omega) (by omega)), ?_⟩)
    rw [Int.toNat_natCast]
  · have hr := hb.range k hk2 c hc
    rw [show ((c.toNat : Nat) : Int) = c by omega] at hx
    refine hp x ?_
    rw [show ((cl.length + k : Nat) : Int) = (cl.length : Int) + k by omega]
    refine .step k hk2 c ?_ hx
    rwa [List.getD_eq_getElem?_getD, List.getElem?_eq_getElem hk2] at hc
  · rw [show ((b.toNat : Nat) : Int) = b by omega] at hx
    exact (core_mem hf1 hf2 x).2 ⟨b, hb', hx⟩
theorem no_of {n : Nat} {Y : List (List Int)} (hk : Y.all (knownS n) = true) (h : ∀ A : Nat → Bool, ¬ ∀ c ∈ Y, holdsA A c = true) : (solveE n Y).yes = false := by
  cases h2 : (solveE n Y).yes with
  | false => rfl
  | true => exact absurd ((solve_ok n Y (List.all_eq_true.1 hk)).2.yes h2).2.1 (h _)
theorem pick_known {n : Nat} {cl : List (List Int)} {l : List Int} (h : ∀ x ∈ l, 0 ≤ x ∧ x < cl.length) (hk : cl.all (knownS n) = true) : (pickE cl l).all (knownS n) = true :=
  List.all_eq_true.2 fun c hc => List.all_eq_true.1 hk c (pick_sub h c hc)
theorem pick_len (cl : List (List Int)) (l : List Int) : (pickE cl l).length = l.length := by simp [pickE]
theorem solve_small {n : Nat} (hn : n ≤ 8) {Y : List (List Int)} (hk : Y.all (knownS n) = true) : ((solveE n Y).steps : Int) ≤ 1099511627776 := by
  have h := (solve_ok n Y (List.all_eq_true.1 hk)).2.steps
  have h2 : 2 ^ n * (n + 1) ≤ 2 ^ 8 * 9 := Nat.mul_le_mul (Nat.pow_le_pow_right (by omega) hn) (by omega)
  omega


end Go.Proofs.Ythinopiobihmaaa

namespace Go.Proofs.Ythinopiobihmaaa

/-- What is still in when item i is asked without. -/
def askR (n : Nat) (l : List Nat) (i : Nat) : Nat → Bool := fun j => decide (j < n) && (decide (i < j) || l.contains j)
/-- What is in ahead of item i. -/
def inR (n : Nat) (l : List Nat) (i : Nat) : Nat → Bool := fun j => decide (j < n) && (decide (i ≤ j) || l.contains j)
/-- What is kept of the items ahead of i. -/
def keepR (n : Nat) (no : (Nat → Bool) → Bool) : Nat → List Nat
  | 0 => []
  | i + 1 => if no (askR n (keepR n no i) i) then keepR n no i else keepR n no i ++ [i]

section
variable {n : Nat} {no : (Nat → Bool) → Bool}
theorem keepR_lt : ∀ {i x : Nat}, x ∈ keepR n no i → x < i
  | 0, x, h => by simp [keepR] at h
  | i + 1, x, h => by
    unfold keepR at h
    split at h
    · have := keepR_lt h
      omega
    · rcases List.mem_append.1 h with h | h
      · have := keepR_lt h
        omega
      · rw [List.mem_singleton.1 h]
        omega
theorem keepR_rise : ∀ i : Nat, (keepR n no i).Pairwise (· < ·)
  | 0 => List.Pairwise.nil
  | i + 1 => by
    unfold keepR
    split
    · exact keepR_rise i
    · rw [List.pairwise_append]
      exact ⟨keepR_rise i, List.pairwise_singleton _ _, fun a ha b hb => by rw [List.mem_singleton.1 hb]; exact keepR_lt ha⟩
theorem keepR_len : ∀ i : Nat, (keepR n no i).length ≤ i
  | 0 => Nat.le_refl _
  | i + 1 => by
    have := keepR_len i
    unfold keepR
    split
    · omega
    · rw [List.length_append]
      simp
      exact this
theorem inR_zero : inR n [] 0 = fun j => decide (j < n) := by
  funext j
  simp [inR]
theorem inR_skip (l : List Nat) (i : Nat) : inR n l (i + 1) = askR n l i := by
  funext j
  simp [inR, askR, Nat.succ_le_iff]
theorem inR_keep (l : List Nat) (i : Nat) : inR n (l ++ [i]) (i + 1) = inR n l i := by
  funext j
  unfold inR
  congr 1
  rw [Bool.eq_iff_iff]
  simp only [Bool.or_eq_true, decide_eq_true_eq, List.contains_iff_mem, List.mem_append, List.mem_singleton]
  constructor
  · rintro (h | h | h)
    · exact .inl (by omega)
    · exact .inr h
    · exact .inl (by omega)
  · rintro (h | h)
    · by_cases e : j = i
      · exact .inr (.inr e)
      · exact .inl (by omega)
    · exact .inr (.inl h)
theorem askR_sub (l : List Nat) (i : Nat) : ∀ j, askR n l i j = true → inR n l i j = true := fun j h => by
  unfold askR at h
  unfold inR
  simp only [Bool.and_eq_true, Bool.or_eq_true, decide_eq_true_eq] at h ⊢
  refine ⟨h.1, ?_⟩
  rcases h.2 with h | h
  · exact .inl (Nat.le_of_lt h)
  · exact .inr h
/-- What is in stays a no. -/
theorem keepR_no (h0 : no (fun j => decide (j < n)) = true) : ∀ i : Nat, no (inR n (keepR n no i) i) = true
  | 0 => by
    show no (inR n [] 0) = true
    rw [inR_zero]
    exact h0
  | i + 1 => by
    by_cases h : no (askR n (keepR n no i) i) = true
    · have e : keepR n no (i + 1) = keepR n no i := by
        show (if _ then _ else _) = _
        rw [if_pos h]
      rw [e, inR_skip]
      exact h
    · have e : keepR n no (i + 1) = keepR n no i ++ [i] := by
        show (if _ then _ else _) = _
        rw [if_neg h]
      rw [e, inR_keep]
      exact keepR_no h0 i
/-- What is kept of those ahead of i is kept for good; and what is kept was no no without. -/
theorem keepR_mem : ∀ {m x : Nat}, x ∈ keepR n no m → no (askR n (keepR n no x) x) = false ∧ ∀ i, x < i → i ≤ m → x ∈ keepR n no i
  | 0, x, h => by simp [keepR] at h
  | m + 1, x, h => by
    have h1 := h
    unfold keepR at h1
    by_cases hc : no (askR n (keepR n no m) m) = true
    · rw [if_pos hc] at h1
      obtain ⟨h2, h3⟩ := keepR_mem h1
      refine ⟨h2, fun i hi him => ?_⟩
      rcases Nat.lt_or_ge i (m + 1) with h4 | h4
      · exact h3 i hi (by omega)
      · rw [show i = m + 1 by omega]
        exact h
    · rw [if_neg hc] at h1
      rcases List.mem_append.1 h1 with h5 | h5
      · obtain ⟨h2, h3⟩ := keepR_mem h5
        refine ⟨h2, fun i hi him => ?_⟩
        rcases Nat.lt_or_ge i (m + 1) with h4 | h4
        · exact h3 i hi (by omega)
        · rw [show i = m + 1 by omega]
          exact h
      · obtain rfl := List.mem_singleton.1 h5
        refine ⟨by simpa using hc, fun i hi him => ?_⟩
        rw [show i = x + 1 by omega]
        exact h
/-- What is kept is a no. -/
theorem keepR_all (h0 : no (fun j => decide (j < n)) = true) : no (fun j => (keepR n no n).contains j) = true := by
  have h := keepR_no h0 n
  have e : inR n (keepR n no n) n = fun j => (keepR n no n).contains j := by
    funext j
    unfold inR
    rw [Bool.eq_iff_iff]
    simp only [Bool.and_eq_true, Bool.or_eq_true, decide_eq_true_eq, List.contains_iff_mem]
    constructor
    · rintro ⟨h1, h2 | h2⟩
      · omega
      · exact h2
    · exact fun h1 => ⟨keepR_lt h1, .inr h1⟩
  rwa [e] at h
/-- Without one of what is kept it is none. -/
theorem keepR_least (hm : ∀ S T : Nat → Bool, (∀ j, S j = true → T j = true) → no S = true → no T = true) {k : Nat} (hk : k ∈ keepR n no n) : no (fun j => (keepR n no n).contains j && decide (j ≠ k)) = false := by
  obtain ⟨h1, _⟩ := keepR_mem hk
  cases h : no (fun j => (keepR n no n).contains j && decide (j ≠ k)) with
  | false => rfl
  | true =>
    rw [hm _ _ (fun j hj => ?_) h] at h1
    · cases h1
    · simp only [Bool.and_eq_true, decide_eq_true_eq, List.contains_iff_mem] at hj
      unfold askR
      simp only [Bool.and_eq_true, Bool.or_eq_true, decide_eq_true_eq, List.contains_iff_mem]
      have hjn := keepR_lt hj.1
      refine ⟨hjn, ?_⟩
      rcases Nat.lt_trichotomy j k with h2 | h2 | h2
      · exact .inr ((keepR_mem hj.1).2 k h2 (Nat.le_of_lt (keepR_lt hk)))
      · exact absurd h2 hj.2
      · exact .inl h2
/-- Where each one is wanted all are kept. -/
theorem keepR_every (hm : ∀ S T : Nat → Bool, (∀ j, S j = true → T j = true) → no S = true → no T = true) (h : ∀ k, k < n → no (fun j => decide (j < n) && decide (j ≠ k)) = false) : ∀ i, i ≤ n → keepR n no i = List.range i
  | 0, _ => rfl
  | i + 1, hi => by
    have ih := keepR_every hm h i (by omega)
    show (if _ then _ else _) = _
    rw [if_neg, ih, List.range_succ]
    intro hc
    have := hm _ (fun j => decide (j < n) && decide (j ≠ i)) (fun j hj => ?_) hc
    · rw [h i (by omega)] at this
      cases this
    · unfold askR at hj
      simp only [Bool.and_eq_true, Bool.or_eq_true, decide_eq_true_eq, List.contains_iff_mem] at hj ⊢
      refine ⟨hj.1, ?_⟩
      rcases hj.2 with h2 | h2
      · omega
      · have := keepR_lt h2
        omega
end

end Go.Proofs.Ythinopiobihmaaa

namespace Go.Proofs.Ythinopiobihmaaa
set_option maxRecDepth 100000

/-- The base, and the clauses of the items ahead of k that are in S. -/
def uptoE (base : List (List Int)) (items : List (List (List Int))) (S : Nat → Bool) (k : Nat) : List (List Int) := base ++ ((List.range k).filter S).flatMap fun i => items.getD i []
def allE (base : List (List Int)) (items : List (List (List Int))) (S : Nat → Bool) : List (List Int) := uptoE base items S items.length
/-- Of each clause its item. -/
def ownersE (base : List (List Int)) (items : List (List (List Int))) (S : Nat → Bool) (k : Nat) : List (Option Nat) := List.replicate base.length none ++ ((List.range k).filter S).flatMap fun i => List.replicate (items.getD i []).length (some i)
def noB (n : Nat) (base : List (List Int)) (items : List (List (List Int))) (S : Nat → Bool) : Bool := !(solveE n (allE base items S)).yes
abbrev KnownAll (n : Nat) (base : List (List Int)) (items : List (List (List Int))) : Prop := base.all (knownS n) = true ∧ ∀ i (h : i < items.length), items[i].all (knownS n) = true

section
variable {n : Nat} {base : List (List Int)} {items : List (List (List Int))} {S T : Nat → Bool}
theorem upto_zero : uptoE base items S 0 = base := by simp [uptoE]
theorem upto_succ (k : Nat) : uptoE base items S (k + 1) = uptoE base items S k ++ if S k then items.getD k [] else [] := by
  unfold uptoE
  rw [List.range_succ, List.filter_append, List.flatMap_append, List.append_assoc]
  congr 2
  by_cases h : S k = true
  · rw [if_pos h]
    simp [h]
  · rw [if_neg h]
    simp [h]
theorem owners_succ (k : Nat) : ownersE base items S (k + 1) = ownersE base items S k ++ if S k then List.replicate (items.getD k []).length (some k) else [] := by
  unfold ownersE
  rw [List.range_succ, List.filter_append, List.flatMap_append, List.append_assoc]
  congr 2
  by_cases h : S k = true
  · rw [if_pos h]
    simp [h]
  · rw [if_neg h]
    simp [h]
theorem owners_len : ∀ k : Nat, (ownersE base items S k).length = (uptoE base items S k).length
  | 0 => by simp [ownersE, uptoE]
  | k + 1 => by
    rw [owners_succ, upto_succ, List.length_append, List.length_append, owners_len k]
    split <;> simp
/-- A clause is the base's, or its item's. -/
theorem owner_spec : ∀ (k : Nat) (j : Nat) (h : j < (uptoE base items S k).length), (ownersE base items S k).getD j none = none ∧ (uptoE base items S k)[j] ∈ base ∨ ∃ i, i < k ∧ S i = true ∧ (ownersE base items S k).getD j none = some i ∧ (uptoE base items S k)[j] ∈ items.getD i []
  | 0, j, h => by
    left
    have hb : j < base.length := by rw [upto_zero] at h; exact h
    refine ⟨?_, ?_⟩
    · simp [ownersE, List.getD_eq_getElem?_getD, hb]
    · have e : (uptoE base items S 0)[j] = base[j] := by simp only [upto_zero]
      rw [e]
      exact List.getElem_mem _
  | k + 1, j, h => by
    have hu := upto_succ (base := base) (items := items) (S := S) k
    have ho := owners_succ (base := base) (items := items) (S := S) k
    have hl := owners_len (base := base) (items := items) (S := S) k
    by_cases hj : j < (uptoE base items S k).length
    · have e1 : (uptoE base items S (k + 1))[j] = (uptoE base items S k)[j] := by
        simp only [hu]
        rw [List.getElem_append_left hj]
      have e2 : (ownersE base items S (k + 1)).getD j none = (ownersE base items S k).getD j none := by
        rw [ho, List.getD_eq_getElem?_getD, List.getElem?_append_left (by omega), ← List.getD_eq_getElem?_getD]
      rw [e1, e2]
      rcases owner_spec k j hj with h1 | ⟨i, h1, h2⟩
      · exact .inl h1
      · exact .inr ⟨i, by omega, h2⟩
    · right
      have hS : S k = true := by
        cases hs : S k with
        | true => rfl
        | false =>
          rw [hu, hs] at h
          simp at h
          omega
      rw [hS, if_pos rfl] at hu ho
      have hjl : j - (uptoE base items S k).length < (items.getD k []).length := by
        rw [hu, List.length_append] at h
        omega
      refine ⟨k, Nat.lt_succ_self k, hS, ?_, ?_⟩
      · rw [ho, List.getD_eq_getElem?_getD, List.getElem?_append_right (by omega), hl, List.getElem?_replicate, if_pos hjl]
        rfl
      · have e1 : (uptoE base items S (k + 1))[j] = (items.getD k [])[j - (uptoE base items S k).length] := by
          simp only [hu]
          rw [List.getElem_append_right (by omega)]
        rw [e1]
        exact List.getElem_mem _
theorem mem_all {c : List Int} : c ∈ allE base items S ↔ c ∈ base ∨ ∃ i, i < items.length ∧ S i = true ∧ c ∈ items.getD i [] := by
  unfold allE uptoE
  rw [List.mem_append, List.mem_flatMap]
  refine or_congr_right ?_
  constructor
  · rintro ⟨i, hi, hc⟩
    rw [List.mem_filter, List.mem_range] at hi
    exact ⟨i, hi.1, hi.2, hc⟩
  · rintro ⟨i, h1, h2, hc⟩
    exact ⟨i, List.mem_filter.2 ⟨List.mem_range.2 h1, h2⟩, hc⟩
theorem all_known (h : KnownAll n base items) : (allE base items S).all (knownS n) = true := by
  rw [List.all_eq_true]
  intro c hc
  rcases mem_all.1 hc with h1 | ⟨i, h1, _, h2⟩
  · exact List.all_eq_true.1 h.1 c h1
  · rw [List.getD_eq_getElem?_getD, List.getElem?_eq_getElem h1] at h2
    exact List.all_eq_true.1 (h.2 i h1) c h2
/-- It is a no just where no state satisfies all. -/
theorem noB_iff (h : KnownAll n base items) : noB n base items S = true ↔ ∀ A : Nat → Bool, ¬ ∀ c ∈ allE base items S, holdsA A c = true := by
  have hk := all_known (S := S) h
  unfold noB
  constructor
  · intro hy A hA
    have hy2 : (solveE n (allE base items S)).yes = false := by simpa using hy
    exact alone_no hk hy2 A fun c hc => hA c (pick_sub core_range c hc)
  · intro hno
    rw [no_of hk hno]
    rfl
theorem noB_mono (h : KnownAll n base items) (S T : Nat → Bool) (hs : ∀ j, S j = true → T j = true) (hn : noB n base items S = true) : noB n base items T = true := by
  rw [noB_iff h] at hn ⊢
  intro A hA
  refine hn A fun c hc => hA c ?_
  rcases mem_all.1 hc with h1 | ⟨i, h1, h2, h3⟩
  · exact mem_all.2 (.inl h1)
  · exact mem_all.2 (.inr ⟨i, h1, hs i h2, h3⟩)

/-- On which items a no rests. -/
def restI (n : Nat) (base : List (List Int)) (items : List (List (List Int))) (S : Nat → Bool) (i : Nat) : Bool :=
  (coreA n (allE base items S)).any fun x => decide ((ownersE base items S items.length).getD x.toNat none = some i)
theorem rest_in (i : Nat) (h : restI n base items S i = true) : i < items.length ∧ S i = true := by
  unfold restI at h
  obtain ⟨x, hx, h2⟩ := List.any_eq_true.1 h
  have hr := core_range x hx
  have h3 : (ownersE base items S items.length).getD x.toNat none = some i := by simpa using h2
  have hlt : x.toNat < (uptoE base items S items.length).length := by
    have h0 : x < ((uptoE base items S items.length).length : Int) := hr.2
    omega
  rcases owner_spec (S := S) items.length x.toNat hlt with h4 | ⟨i2, h4, h5, h6, _⟩
  · rw [h4.1] at h3
    cases h3
  · rw [h6] at h3
    injection h3 with h3
    subst h3
    exact ⟨h4, h5⟩
/-- What a no rests on is a no. -/
theorem rest_no (h : KnownAll n base items) (hn : noB n base items S = true) : noB n base items (restI n base items S) = true := by
  rw [noB_iff h]
  intro A hA
  have hk := all_known (S := S) h
  have hy2 : (solveE n (allE base items S)).yes = false := by
    unfold noB at hn
    simpa using hn
  refine alone_no hk hy2 A fun c hc => hA c ?_
  obtain ⟨x, hx, rfl⟩ := List.mem_map.1 hc
  have hr := core_range x hx
  have hlt : x.toNat < (uptoE base items S items.length).length := by
    have h0 : x < ((uptoE base items S items.length).length : Int) := hr.2
    omega
  have e : (allE base items S).getD x.toNat [] = (uptoE base items S items.length)[x.toNat] := by
    unfold allE
    rw [List.getD_eq_getElem?_getD, List.getElem?_eq_getElem hlt]
    rfl
  rw [e]
  rcases owner_spec (S := S) items.length x.toNat hlt with h4 | ⟨i, h4, _, h6, h7⟩
  · exact mem_all.2 (.inl h4.2)
  · refine mem_all.2 (.inr ⟨i, h4, ?_, h7⟩)
    unfold restI
    exact List.any_eq_true.2 ⟨x, hx, by simpa using h6⟩
end

end Go.Proofs.Ythinopiobihmaaa

namespace Go.Proofs.Ythinopiobihmaaa
set_option maxRecDepth 100000

/-- A set without one. -/
def askS (S : Nat → Bool) (i : Nat) : Nat → Bool := fun j => S j && decide (j ≠ i)
theorem askS_in {n i : Nat} {l : List Nat} (hl : ∀ x ∈ l, x < i) : askS (inR n l i) i = askR n l i := by
  funext j
  unfold askS inR askR
  rw [Bool.eq_iff_iff]
  simp only [Bool.and_eq_true, Bool.or_eq_true, decide_eq_true_eq, List.contains_iff_mem]
  constructor
  · rintro ⟨⟨h1, h2 | h2⟩, h3⟩
    · exact ⟨h1, .inl (by omega)⟩
    · exact ⟨h1, .inr h2⟩
  · rintro ⟨h1, h2 | h2⟩
    · exact ⟨⟨h1, .inl (by omega)⟩, by omega⟩
    · have := hl j h2
      exact ⟨⟨h1, .inr h2⟩, by omega⟩

/-- What Least holds: what it keeps, what is in, on what the newest no rests, how many steps it took. -/
structure Ls where
  l : List Nat
  S : Nat → Bool
  R : Nat → Bool
  used : Nat
section
variable (n : Nat) (base : List (List Int)) (items : List (List (List Int)))
def everyS : Nat → Bool := fun j => decide (j < items.length)
def lsStart : Ls := ⟨[], everyS items, restI n base items (everyS items), (solveE n (allE base items (everyS items))).steps⟩
def lsStep (st : Ls) (i : Nat) : Ls :=
  if st.R i then
    if (solveE n (allE base items (askS st.S i))).yes then ⟨st.l ++ [i], st.S, st.R, st.used + (solveE n (allE base items (askS st.S i))).steps⟩
    else ⟨st.l, askS st.S i, restI n base items (askS st.S i), st.used + (solveE n (allE base items (askS st.S i))).steps⟩
  else ⟨st.l, askS st.S i, st.R, st.used⟩
def lsRun : Nat → Ls
  | 0 => lsStart n base items
  | i + 1 => lsStep n base items (lsRun i) i
end
section
variable {n : Nat} {base : List (List Int)} {items : List (List (List Int))}
structure LsOk (n : Nat) (base : List (List Int)) (items : List (List (List Int))) (i : Nat) (st : Ls) : Prop where
  l : st.l = keepR items.length (noB n base items) i
  S : st.S = inR items.length st.l i
  sub : ∀ j, st.R j = true → st.S j = true
  no : noB n base items st.R = true
theorem ls_ok (h : KnownAll n base items) (h0 : noB n base items (everyS items) = true) : ∀ i : Nat, LsOk n base items i (lsRun n base items i)
  | 0 => ⟨rfl, (inR_zero (n := items.length)).symm, fun j hj => (rest_in j hj).2, rest_no h h0⟩
  | i + 1 => by
    have ih := ls_ok h h0 i
    generalize hst : lsRun n base items i = st at ih
    have e : lsRun n base items (i + 1) = lsStep n base items st i := by
      show lsStep n base items (lsRun n base items i) i = _
      rw [hst]
    rw [e]
    have hlt : ∀ x ∈ st.l, x < i := fun x hx => by rw [ih.l] at hx; exact keepR_lt hx
    have hask : askS st.S i = askR items.length st.l i := by rw [ih.S]; exact askS_in hlt
    have hk : keepR items.length (noB n base items) (i + 1) = if noB n base items (askS st.S i) then st.l else st.l ++ [i] := by
      rw [hask, ih.l]
      rfl
    unfold lsStep
    by_cases hr : st.R i = true
    · rw [if_pos hr]
      by_cases hy : (solveE n (allE base items (askS st.S i))).yes = true
      · rw [if_pos hy]
        have hno : noB n base items (askS st.S i) = false := by unfold noB; rw [hy]; rfl
        rw [hno] at hk
        refine ⟨hk.symm, ?_, ih.sub, ih.no⟩
        show st.S = inR items.length (st.l ++ [i]) (i + 1)
        rw [inR_keep]
        exact ih.S
      · rw [if_neg hy]
        have hno : noB n base items (askS st.S i) = true := by unfold noB; simp [hy]
        rw [hno] at hk
        refine ⟨hk.symm, ?_, fun j hj => (rest_in j hj).2, rest_no h hno⟩
        show askS st.S i = inR items.length st.l (i + 1)
        rw [inR_skip]
        exact hask
    · rw [if_neg hr]
      have hsub : ∀ j, st.R j = true → askS st.S i j = true := fun j hj => by
        unfold askS
        simp only [Bool.and_eq_true, decide_eq_true_eq]
        exact ⟨ih.sub j hj, fun e => hr (e ▸ hj)⟩
      have hno := noB_mono h _ _ hsub ih.no
      rw [hno] at hk
      refine ⟨hk.symm, ?_, hsub, ih.no⟩
      show askS st.S i = inR items.length st.l (i + 1)
      rw [inR_skip]
      exact hask
theorem ls_used {M : Nat} (hM : ∀ S, (solveE n (allE base items S)).steps ≤ M) : ∀ i : Nat, (lsRun n base items i).used ≤ (i + 1) * M
  | 0 => by
    show (solveE n (allE base items (everyS items))).steps ≤ _
    have := hM (everyS items)
    omega
  | i + 1 => by
    have ih := ls_used hM i
    show (lsStep n base items (lsRun n base items i) i).used ≤ _
    have h1 := hM (askS (lsRun n base items i).S i)
    have e : (i + 1 + 1) * M = (i + 1) * M + M := Nat.succ_mul _ _
    unfold lsStep
    split
    · split <;> (dsimp only; omega)
    · dsimp only
      omega
theorem ls_mono (i : Nat) : (lsRun n base items i).used ≤ (lsRun n base items (i + 1)).used := by
  show _ ≤ (lsStep n base items (lsRun n base items i) i).used
  unfold lsStep
  split
  · split <;> exact Nat.le_add_right _ _
  · exact Nat.le_refl _
end

end Go.Proofs.Ythinopiobihmaaa
