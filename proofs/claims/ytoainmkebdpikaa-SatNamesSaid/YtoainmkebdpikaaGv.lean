/- SatNames: plain: the examples. -/
import Derived.Test.YtoainmkebdpikaaGt
namespace Go.Proofs.Ytoainmkebdpikaa
open Go.ChangeShapes Go.WideShapes Go.ChangeAt Go.RowKit Go.Maps Go.Deep
set_option maxRecDepth 100000

theorem solve0 : (solveE 0 []).yes = true ∧ (solveE 0 []).state = [] ∧ (solveE 0 []).steps = 0 := by
  have hok := (solve_ok 0 [] (by simp)).2
  have hy : (solveE 0 []).yes = true := (solve_yes (n := 0) (cl := []) rfl).2 ⟨[], rfl, rfl⟩
  obtain ⟨h1, _, _, h2⟩ := hok.yes hy
  exact ⟨hy, List.eq_nil_of_length_eq_zero h1, by omega⟩
theorem solve1 : (solveE 0 [[]]).yes = false ∧ (solveE 0 [[]]).steps ≤ 1 := by
  have hk : ([[]] : List (List Int)).all (knownS 0) = true := rfl
  have hok := (solve_ok 0 [[]] (List.all_eq_true.1 hk)).2
  refine ⟨?_, hok.steps⟩
  cases hy : (solveE 0 [[]]).yes with
  | false => rfl
  | true =>
    obtain ⟨st, _, hs⟩ := (solve_yes hk).1 hy
    cases hs

/-! ### Pigeons -/
def pigK (p q k : Nat) : List (List Int) := (List.range k).map fun (j : Nat) => [-(3 * (p : Int) + ((j : Int) + 1)), -(3 * (q : Int) + ((j : Int) + 1))]
def pigQ (p q : Nat) : List (List Int) := (List.range q).flatMap fun i => pigK p i 3
def pigR (p : Nat) : List Int := [3 * (p : Int) + 1, 3 * (p : Int) + 2, 3 * (p : Int) + 3]
def pigP (p : Nat) : List (List Int) := (List.range p).flatMap fun i => pigR i :: pigQ i i
theorem pigK_succ (p q k : Nat) : pigK p q (k + 1) = pigK p q k ++ [[-(3 * (p : Int) + ((k : Int) + 1)), -(3 * (q : Int) + ((k : Int) + 1))]] := by
  unfold pigK
  rw [List.range_succ, List.map_append]
  rfl
theorem pigQ_succ (p q : Nat) : pigQ p (q + 1) = pigQ p q ++ pigK p q 3 := by
  unfold pigQ
  rw [List.range_succ, List.flatMap_append, List.flatMap_singleton]
theorem pigP_succ (p : Nat) : pigP (p + 1) = pigP p ++ (pigR p :: pigQ p p) := by
  unfold pigP
  rw [List.range_succ, List.flatMap_append, List.flatMap_singleton]
theorem pig_lens : (pigP 4).length = 22 ∧ ∀ p, p ≤ 4 → ∀ q, q ≤ 4 → ∀ k, k ≤ 3 → (pigP p ++ (pigR p :: pigQ p q) ++ pigK p q k).length ≤ 100 := by decide
theorem pig_known : (pigP 4).all (knownS 12) = true := by decide
theorem pig_short : ∀ c ∈ pigP 4, c.length ≤ 40 := by decide

def allSt : Nat → List (List Bool)
  | 0 => [[]]
  | n + 1 => (allSt n).flatMap fun l => [true :: l, false :: l]
theorem mem_all : ∀ st : List Bool, st ∈ allSt st.length
  | [] => List.mem_singleton.2 rfl
  | b :: l => by
    show b :: l ∈ (allSt l.length).flatMap fun l => [true :: l, false :: l]
    refine List.mem_flatMap.2 ⟨l, mem_all l, ?_⟩
    cases b <;> simp
theorem pig_none : ((allSt 12).all fun st => !holdsCl st (pigP 4)) = true := by kernel_rfl
theorem pig_no : (solveE 12 (pigP 4)).yes = false := by
  cases hy : (solveE 12 (pigP 4)).yes with
  | false => rfl
  | true =>
    obtain ⟨st, hl, hs⟩ := (solve_yes pig_known).1 hy
    have h := List.all_eq_true.1 pig_none st (hl ▸ mem_all st)
    rw [hs] at h
    cases h
theorem pig_yes : (solveE 12 ((pigP 4).take 21)).yes = true := (solve_yes (known_sub (fun _ h => List.mem_of_mem_take h) pig_known)).2
  ⟨[true, false, false, false, true, false, false, false, true, false, false, true], rfl, by decide⟩

theorem enough_vals : enoughE 12 = 106496 ∧ enoughE 0 = 2 ∧ enoughE 3 = 64 ∧ enoughE 65536 = 1099511627776 := by
  refine ⟨by decide, by decide, by decide, by decide⟩

end Go.Proofs.Ytoainmkebdpikaa

namespace Go.Proofs.Ytoainmkebdpikaa
open Go.ChangeShapes Go.WideShapes Go.ChangeAt Go.RowKit Go.Maps Go.Deep
set_option maxRecDepth 100000

/-- An answer that is no error: a yes or a no, so many values, so many steps. -/
abbrev NameOut (w : World) (y : Bool) (e : Ending) (w' : World) : Prop :=
  Below w.heap.size w w' ∧ ∃ a1 m1 c1 t a2 m2 c2 a3 m3 c3, e = .returned (.tuple #[.agg #[.bool y, .slice a1 m1 c1, .int .i64 t, .slice a2 m2 c2, .slice a3 m3 c3], .int .i64 0])
abbrev NameBad (w : World) (e : Ending) (w' : World) : Prop :=
  Below w.heap.size w w' ∧ e = .returned (.tuple #[.agg #[.bool false, .slice none 0 0, .int .i64 0, .slice none 0 0, .slice none 0 0], .int .i64 1])

theorem names0 (w : World) : Calls Try.prog 13 #[.int .i64 0, .slice none 0 0, .int .i64 0] w fun e w' => Below w.heap.size w w' ∧ ∃ a1 c1 a2 m2 c2 a3 m3 c3, e = .returned (.tuple #[.agg #[.bool true, .slice a1 0 c1, .int .i64 0, .slice a2 m2 c2, .slice a3 m3 c3], .int .i64 0]) := by
  obtain ⟨h1, h2, h3⟩ := solve0
  have hc : IsRows w none [] (fun _ => none) (fun _ => 0) := ⟨fun h => absurd h (Nat.not_lt_zero _), fun j hj => absurd hj (Nat.not_lt_zero _)⟩
  have h := solve_good (n := 0) (cap := 0) (by omega) hc (by decide) (by simp) rfl 0 (by rw [h3]; decide)
  refine h.mono ?_
  rintro e w' ⟨hb, a1, c1, a2, c2, a3, c3, rfl, _⟩
  refine ⟨hb, a1, c1, a2, (solveE 0 []).bonds.length, c2, a3, (solveE 0 []).last.length, c3, ?_⟩
  unfold ansV
  rw [h1, h2, h3]
  rfl
theorem names_of {n : Nat} {E : Int} {X : List (List Int)} {y : Bool} (hn : n ≤ 12) (hm : X.length ≤ 1000) (hl : ∀ c ∈ X, c.length ≤ 40) (hk : X.all (knownS n) = true) (hE : ((solveE n X).steps : Int) ≤ E ∧ E ≤ 1099511627776) (hy : (solveE n X).yes = y)
    {w : World} {ao : Option Addr} {cap : Nat} {av : Nat → Option Addr} {cv : Nat → Nat} (hc : IsRows w ao X av cv) : Calls Try.prog 13 #[.int .i64 n, .slice ao X.length cap, .int .i64 E] w (NameOut w y) := by
  refine (solve_good hn hc hm hl hk E hE).mono ?_
  rintro e w' ⟨hb, a1, c1, a2, c2, a3, c3, rfl, _⟩
  exact ⟨hb, a1, _, c1, _, a2, _, c2, a3, _, c3, by unfold ansV; rw [hy]⟩
section
variable {w : World} {ao : Option Addr} {cap : Nat} {av : Nat → Option Addr} {cv : Nat → Nat}
theorem names1 (hc : IsRows w ao [[]] av cv) : Calls Try.prog 13 #[.int .i64 0, .slice ao 1 cap, .int .i64 9] w (NameOut w false) :=
  names_of (n := 0) (E := 9) (X := [[]]) (by omega) (by decide) (by simp) rfl ⟨by have := solve1.2; omega, by omega⟩ solve1.1 hc
theorem pig_steps {X : List (List Int)} (hk : X.all (knownS 12) = true) : ((solveE 12 X).steps : Int) ≤ 106496 ∧ (106496 : Int) ≤ 1099511627776 := by
  refine ⟨?_, by omega⟩
  have h1 := solve_steps 12 hk
  have h2 : enoughE ((12 : Nat) : Int) = 106496 := enough_vals.1
  rw [h2] at h1
  omega
theorem names_pig (hc : IsRows w ao (pigP 4) av cv) : Calls Try.prog 13 #[.int .i64 12, .slice ao 22 cap, .int .i64 106496] w (NameOut w false) := by
  have h := names_of (n := 12) (E := 106496) (cap := cap) (X := pigP 4) (by omega) (by rw [pig_lens.1]; omega) pig_short pig_known (pig_steps pig_known) pig_no hc
  rwa [pig_lens.1] at h
theorem names_few (hc : IsRows w ao ((pigP 4).take 21) av cv) : Calls Try.prog 13 #[.int .i64 12, .slice ao 21 cap, .int .i64 106496] w (NameOut w true) := by
  have hk := known_sub (fun _ h => List.mem_of_mem_take h) pig_known (Y := (pigP 4).take 21)
  have hl : ((pigP 4).take 21).length = 21 := by rw [List.length_take, pig_lens.1]; rfl
  have h := names_of (n := 12) (E := 106496) (cap := cap) (X := (pigP 4).take 21) (by omega) (by rw [hl]; omega) (fun c h => pig_short c (List.mem_of_mem_take h)) hk (pig_steps hk) pig_yes hc
  rwa [hl] at h
theorem names_bad {X : List (List Int)} (hm : X.length ≤ 1000) (hl : ∀ c ∈ X, c.length ≤ 40) (hI : ∀ c ∈ X, ∀ x ∈ c, I64 x) (hk : X.all (knownS 2) = false) (hc : IsRows w ao X av cv) : Calls Try.prog 13 #[.int .i64 2, .slice ao X.length cap, .int .i64 9] w (NameBad w) :=
  solve_bad (n := 2) (by omega) hc hm hl hI hk 9 (by omega)
end
theorem names_neg (w : World) : Calls Try.prog 13 #[.int .i64 (-1), .slice none 0 0, .int .i64 9] w (NameBad w) := solve_vars (-1) (.inl (by omega)) _ 9 w
theorem names_big (w : World) : Calls Try.prog 13 #[.int .i64 2097153, .slice none 0 0, .int .i64 9] w (NameBad w) := solve_vars 2097153 (.inr (by omega)) _ 9 w
theorem names_under (w : World) : Calls Try.prog 13 #[.int .i64 1, .slice none 0 0, .int .i64 (-1)] w (NameBad w) := solve_budget 1 (by omega) _ (-1) (.inl (by omega)) w
theorem names_over (w : World) : Calls Try.prog 13 #[.int .i64 1, .slice none 0 0, .int .i64 1099511627777] w (NameBad w) := solve_budget 1 (by omega) _ 1099511627777 (.inr (by omega)) w
theorem enough_neg1 (w : World) : Calls Try.prog 18 #[.int .i64 (-1)] w fun e w' => e = .returned (.int .i64 0) ∧ w = w' := senough_neg (-1) (by omega) w
theorem enough_of {v : Nat} {E : Int} (hv : v ≤ 1099511627776) (hE : enoughE v = E) (w : World) : Calls Try.prog 18 #[.int .i64 v] w fun e w' => e = .returned (.int .i64 E) ∧ w = w' := hE ▸ senough_any v hv w
theorem enough_0 (w : World) : Calls Try.prog 18 #[.int .i64 0] w fun e w' => e = .returned (.int .i64 2) ∧ w = w' := enough_of (v := 0) (by omega) enough_vals.2.1 w
theorem enough_3 (w : World) : Calls Try.prog 18 #[.int .i64 3] w fun e w' => e = .returned (.int .i64 64) ∧ w = w' := enough_of (v := 3) (by omega) enough_vals.2.2.1 w
theorem enough_12 (w : World) : Calls Try.prog 18 #[.int .i64 12] w fun e w' => e = .returned (.int .i64 106496) ∧ w = w' := enough_of (v := 12) (by omega) enough_vals.1 w
theorem enough_65536 (w : World) : Calls Try.prog 18 #[.int .i64 65536] w fun e w' => e = .returned (.int .i64 1099511627776) ∧ w = w' := enough_of (v := 65536) (by omega) enough_vals.2.2.2 w

end Go.Proofs.Ytoainmkebdpikaa

namespace Go.Proofs.Ytoainmkebdpikaa
open Go.ChangeShapes Go.WideShapes Go.ChangeAt Go.RowKit Go.Maps Go.Deep
set_option maxRecDepth 100000

theorem nil_row (w : World) : ∃ av cv, IsRows ((w.alloc (.cells #[] 3)).alloc (.cells #[.slice (some ⟨w.heap.size, 0, none⟩) 0 0] 25)) (some ⟨w.heap.size + 1, 0, none⟩) [[]] av cv := by
  have hk : Blk ((w.alloc (.cells #[] 3)).alloc (.cells #[.slice (some ⟨w.heap.size, 0, none⟩) 0 0] 25)) (w.heap.size + 1) 25 #[.slice (some ⟨w.heap.size, 0, none⟩) 0 0] := by
    have := Blk.new (w.alloc (.cells #[] 3)) 25 #[.slice (some ⟨w.heap.size, 0, none⟩) 0 0]
    rwa [show (w.alloc (.cells #[] 3)).heap.size = w.heap.size + 1 by simp] at this
  exact rows_at (n := 1) (cap := 1) (Own.of_blk hk 1 rfl (by decide)) rfl ⟨rfl, fun j hj => by
    match j, hj with
    | 0, _ => exact ⟨some ⟨w.heap.size, 0, none⟩, 0, rfl, fun h => absurd h (Nat.not_lt_zero _)⟩⟩

theorem bel_setCell {B : Nat} {a w : World} (h : Below B a w) {p : Addr} (hg : B ≤ p.block) (u : Value) : Below B a (w.setCell p u) :=
  h.trans ⟨rfl, rfl, rfl, by simp [World.setCell], fun k hk => Below.heap_setCell _ _ _ _ (by omega)⟩
theorem ans_set {a w : World} {cs : Array Value} (h : Blk w a.heap.size 30 cs) (hb : Below a.heap.size a w) (v0 v1 v2 v3 v4 : Value) (hs : cs.size = 5 := by rfl) :
    ∃ w', w' = ((((w.setCell ⟨a.heap.size, 0, none⟩ v0).setCell ⟨a.heap.size, 1, none⟩ v1).setCell ⟨a.heap.size, 2, none⟩ v2).setCell ⟨a.heap.size, 3, none⟩ v3).setCell ⟨a.heap.size, 4, none⟩ v4 ∧
      w'.cell? ⟨a.heap.size, 0, none⟩ = some v0 ∧ Below a.heap.size a w' := by
  refine ⟨_, rfl, ?_, ?_⟩
  · rw [(((((h.set_ 0 v0).set_ 1 v1).set_ 2 v2).set_ 3 v3).set_ 4 v4).cell 0]
    simp [hs]
  · exact bel_setCell (bel_setCell (bel_setCell (bel_setCell (bel_setCell hb (Nat.le_refl _) _) (Nat.le_refl _) _) (Nat.le_refl _) _) (Nat.le_refl _) _) (Nat.le_refl _) _
/-! ### Rows that are written out -/
theorem one_row {w b : World} {x : Int} (h : b = (w.alloc (.cells #[.int .i64 x] 3)).alloc (.cells #[.slice (some ⟨w.heap.size, 0, none⟩) 1 1] 25)) : Below w.heap.size w b ∧ b.heap.size = w.heap.size + 1 + 1 ∧ ∃ av cv, IsRows b (some ⟨w.heap.size + 1, 0, none⟩) [[x]] av cv := by
  have hk : Blk b (w.heap.size + 1) 25 #[.slice (some ⟨w.heap.size, 0, none⟩) 1 1] := by
    have := Blk.new (w.alloc (.cells #[.int .i64 x] 3)) 25 #[.slice (some ⟨w.heap.size, 0, none⟩) 1 1]
    rw [h]
    rwa [show (w.alloc (.cells #[.int .i64 x] 3)).heap.size = w.heap.size + 1 by simp] at this
  have hi : Blk b w.heap.size 3 #[.int .i64 x] := by rw [h]; exact (Blk.new w 3 #[.int .i64 x]).alloc _
  refine ⟨by rw [h]; exact ((Below.refl _ _).alloc (Nat.le_refl _) _).alloc (by simp) _, by rw [h]; simp, rows_at (n := 1) (cap := 1) (Own.of_blk hk 1 rfl (by decide)) rfl ⟨rfl, fun j hj => ?_⟩⟩
  match j, hj with
  | 0, _ => exact ⟨some ⟨w.heap.size, 0, none⟩, 1, rfl, ints_one hi⟩
theorem two_rows {w b : World} {x y : Int} (h : b = ((w.alloc (.cells #[.int .i64 x] 3)).alloc (.cells #[.int .i64 y] 3)).alloc (.cells #[.slice (some ⟨w.heap.size, 0, none⟩) 1 1, .slice (some ⟨w.heap.size + 1, 0, none⟩) 1 1] 25)) : Below w.heap.size w b ∧ b.heap.size = w.heap.size + 1 + 1 + 1 ∧ ∃ av cv, IsRows b (some ⟨w.heap.size + 1 + 1, 0, none⟩) [[x], [y]] av cv := by
  have hk : Blk b (w.heap.size + 1 + 1) 25 #[.slice (some ⟨w.heap.size, 0, none⟩) 1 1, .slice (some ⟨w.heap.size + 1, 0, none⟩) 1 1] := by
    have := Blk.new ((w.alloc (.cells #[.int .i64 x] 3)).alloc (.cells #[.int .i64 y] 3)) 25 #[.slice (some ⟨w.heap.size, 0, none⟩) 1 1, .slice (some ⟨w.heap.size + 1, 0, none⟩) 1 1]
    rw [h]
    rwa [show ((w.alloc (.cells #[.int .i64 x] 3)).alloc (.cells #[.int .i64 y] 3)).heap.size = w.heap.size + 1 + 1 by simp] at this
  have hi : Blk b w.heap.size 3 #[.int .i64 x] := by rw [h]; exact ((Blk.new w 3 #[.int .i64 x]).alloc _).alloc _
  have hj' : Blk b (w.heap.size + 1) 3 #[.int .i64 y] := by
    have := Blk.new (w.alloc (.cells #[.int .i64 x] 3)) 3 #[.int .i64 y]
    rw [show (w.alloc (.cells #[.int .i64 x] 3)).heap.size = w.heap.size + 1 by simp] at this
    rw [h]
    exact this.alloc _
  refine ⟨by rw [h]; exact (((Below.refl _ _).alloc (Nat.le_refl _) _).alloc (by simp) _).alloc (by simp; omega) _, by rw [h]; simp, rows_at (n := 2) (cap := 2) (Own.of_blk hk 2 rfl (by decide)) rfl ⟨rfl, fun j hj => ?_⟩⟩
  match j, hj with
  | 0, _ => exact ⟨some ⟨w.heap.size, 0, none⟩, 1, rfl, ints_one hi⟩
  | 1, _ => exact ⟨some ⟨w.heap.size + 1, 0, none⟩, 1, rfl, ints_one hj'⟩

abbrev BadX (X : List (List Int)) : Prop := X.length ≤ 1000 ∧ (∀ c ∈ X, c.length ≤ 40) ∧ (∀ c ∈ X, ∀ x ∈ c, I64 x) ∧ X.all (knownS 2) = false
theorem bad_one {x : Int} (hI : I64 x) (hx : x.natAbs < 1 ∨ 2 < x.natAbs) : BadX [[x]] := ⟨by simp, by simp, fun c hc y hy => by
  rw [List.mem_singleton.1 hc] at hy
  rw [List.mem_singleton.1 hy]
  exact hI, by simp [knownS]; omega⟩
theorem bel_cell {a b : World} {g i : Nat} {v : Value} (hb : Below a.heap.size a b) (h : a.cell? ⟨g, i, none⟩ = some v) : b.cell? ⟨g, i, none⟩ = a.cell? ⟨g, i, none⟩ := by
  obtain ⟨g', off, e, hg⟩ := addr_of_cell (w := a) (a := ⟨g, i, none⟩) h
  injection e with e1 _
  exact World.cell?_of_block (w := a) (hb.block g (e1 ▸ hg))
theorem bad_mem {w W : World} (h : W = ((((((((((((w.alloc (.cells #[.int .i64 0] 3)).alloc (.cells #[.slice (some ⟨w.heap.size, 0, none⟩) 1 1] 25)).alloc (.cells #[.int .i64 3] 3)).alloc (.cells #[.slice (some ⟨w.heap.size + 1 + 1, 0, none⟩) 1 1] 25)).alloc (.cells #[.int .i64 1] 3)).alloc (.cells #[.int .i64 (-3)] 3)).alloc
    (.cells #[.slice (some ⟨w.heap.size + 1 + 1 + 1 + 1, 0, none⟩) 1 1, .slice (some ⟨w.heap.size + 1 + 1 + 1 + 1 + 1, 0, none⟩) 1 1] 25)).alloc (.cells #[.int .i64 4611686018427387904] 3)).alloc (.cells #[.slice (some ⟨w.heap.size + 1 + 1 + 1 + 1 + 1 + 1 + 1, 0, none⟩) 1 1] 25)).alloc
    (.cells #[.int .i64 (-9223372036854775808)] 3)).alloc (.cells #[.slice (some ⟨w.heap.size + 1 + 1 + 1 + 1 + 1 + 1 + 1 + 1 + 1, 0, none⟩) 1 1] 25)).alloc
    (.cells #[.slice (some ⟨w.heap.size + 1, 0, none⟩) 1 1, .slice (some ⟨w.heap.size + 1 + 1 + 1, 0, none⟩) 1 1, .slice (some ⟨w.heap.size + 1 + 1 + 1 + 1 + 1 + 1, 0, none⟩) 2 2, .slice (some ⟨w.heap.size + 1 + 1 + 1 + 1 + 1 + 1 + 1 + 1, 0, none⟩) 1 1, .slice (some ⟨w.heap.size + 1 + 1 + 1 + 1 + 1 + 1 + 1 + 1 + 1 + 1, 0, none⟩) 1 1] 22))) :
    Below w.heap.size w W ∧ ∀ i, i < 5 → ∃ ao X cap av cv, W.cell? ⟨w.heap.size + 1 + 1 + 1 + 1 + 1 + 1 + 1 + 1 + 1 + 1 + 1, i, none⟩ = some (.slice ao (List.length X) cap) ∧ IsRows W ao X av cv ∧ BadX X := by
  obtain ⟨A1, e1⟩ : ∃ A, A = (w.alloc (.cells #[.int .i64 0] 3)).alloc (.cells #[.slice (some ⟨w.heap.size, 0, none⟩) 1 1] 25) := ⟨_, rfl⟩
  obtain ⟨b1, s1, v1, u1, r1⟩ := one_row e1
  rw [← e1, ← s1] at h
  obtain ⟨A2, e2⟩ : ∃ A, A = (A1.alloc (.cells #[.int .i64 3] 3)).alloc (.cells #[.slice (some ⟨A1.heap.size, 0, none⟩) 1 1] 25) := ⟨_, rfl⟩
  obtain ⟨b2, s2, v2, u2, r2⟩ := one_row e2
  rw [← e2, ← s2] at h
  obtain ⟨A3, e3⟩ : ∃ A, A = ((A2.alloc (.cells #[.int .i64 1] 3)).alloc (.cells #[.int .i64 (-3)] 3)).alloc (.cells #[.slice (some ⟨A2.heap.size, 0, none⟩) 1 1, .slice (some ⟨A2.heap.size + 1, 0, none⟩) 1 1] 25) := ⟨_, rfl⟩
  obtain ⟨b3, s3, v3, u3, r3⟩ := two_rows e3
  rw [← e3, ← s3] at h
  obtain ⟨A4, e4⟩ : ∃ A, A = (A3.alloc (.cells #[.int .i64 4611686018427387904] 3)).alloc (.cells #[.slice (some ⟨A3.heap.size, 0, none⟩) 1 1] 25) := ⟨_, rfl⟩
  obtain ⟨b4, s4, v4, u4, r4⟩ := one_row e4
  rw [← e4, ← s4] at h
  obtain ⟨A5, e5⟩ : ∃ A, A = (A4.alloc (.cells #[.int .i64 (-9223372036854775808)] 3)).alloc (.cells #[.slice (some ⟨A4.heap.size, 0, none⟩) 1 1] 25) := ⟨_, rfl⟩
  obtain ⟨b5, s5, v5, u5, r5⟩ := one_row e5
  rw [← e5] at h
  have b6 : Below A5.heap.size A5 W := by rw [h]; exact (Below.refl _ _).alloc (Nat.le_refl _) _
  have hg : w.heap.size + 1 + 1 + 1 + 1 + 1 + 1 + 1 + 1 + 1 + 1 + 1 = A5.heap.size := by omega
  have hk : Blk W A5.heap.size 22 #[.slice (some ⟨w.heap.size + 1, 0, none⟩) 1 1, .slice (some ⟨A1.heap.size + 1, 0, none⟩) 1 1, .slice (some ⟨A2.heap.size + 1 + 1, 0, none⟩) 2 2, .slice (some ⟨A3.heap.size + 1, 0, none⟩) 1 1, .slice (some ⟨A4.heap.size + 1, 0, none⟩) 1 1] := by rw [h]; exact Blk.new ..
  have c5 := b6
  have c4 := bel_trans b5 c5
  have c3 := bel_trans b4 c4
  have c2 := bel_trans b3 c3
  have c1 := bel_trans b2 c2
  refine ⟨bel_trans b1 c1, fun i hi => ?_⟩
  rw [hg]
  match i, hi with
  | 0, _ => exact ⟨some ⟨w.heap.size + 1, 0, none⟩, [[0]], 1, v1, u1, hk.cell 0, r1.below c1, bad_one (by unfold I64; omega) (by omega)⟩
  | 1, _ => exact ⟨some ⟨A1.heap.size + 1, 0, none⟩, [[3]], 1, v2, u2, hk.cell 1, r2.below c2, bad_one (by unfold I64; omega) (by omega)⟩
  | 2, _ => exact ⟨some ⟨A2.heap.size + 1 + 1, 0, none⟩, [[1], [-3]], 2, v3, u3, hk.cell 2, r3.below c3, by simp, by simp, by simp [I64], rfl⟩
  | 3, _ => exact ⟨some ⟨A3.heap.size + 1, 0, none⟩, [[4611686018427387904]], 1, v4, u4, hk.cell 3, r4.below c4, bad_one (by unfold I64; omega) (by omega)⟩
  | 4, _ => exact ⟨some ⟨A4.heap.size + 1, 0, none⟩, [[-9223372036854775808]], 1, v5, u5, hk.cell 4, r5.below c5, bad_one (by unfold I64; omega) (by omega)⟩

theorem src_two (w : World) (cs : Array Value) (m : Nat) : Src Try.prog 1 22 (.slice (some ⟨w.heap.size + 1, 0, none⟩) 1 1) 1 [.slice (some ⟨w.heap.size, 0, none⟩) m m] ((w.alloc (.cells cs 3)).alloc (.cells #[.slice (some ⟨w.heap.size, 0, none⟩) m m] 25)) := by
  have h := src_new (P := Try.prog) (w.alloc (.cells cs 3)) Try.underlying22 25 (.slice (some ⟨w.heap.size, 0, none⟩) m m) rfl
  rwa [show (w.alloc (.cells cs 3)).heap.size = w.heap.size + 1 by simp] at h
/-- Rows that are being made. -/
structure Mk (w wr : World) (a : Option Addr) (n c : Nat) (vs : List Value) (X : List (List Int)) : Prop where
  len : vs.length = n
  own : Own wr 25 1 (.slice a n c) n vs
  rows : RowsN wr vs X
  new : ∀ k, (Value.slice a n c).ownBlock = some k → w.heap.size ≤ k
  bel : Below w.heap.size w wr
theorem Mk.push {w wr w2 : World} {a a' : Option Addr} {n c0 c1 m : Nat} {vs : List Value} {X : List (List Int)} {c : List Int} {cs : Array Value} (h : Mk w wr a n c0 vs X) (hcs : cs.toList = inC c) (hm : m = c.length) (hm2 : m ≤ 100)
    (ho : Own w2 25 1 (.slice a' (n + 1) c1) (n + 1) (vs ++ [.slice (some ⟨wr.heap.size, 0, none⟩) m m]))
    (hg : ((wr.alloc (.cells cs 3)).alloc (.cells #[.slice (some ⟨wr.heap.size, 0, none⟩) m m] 25)).grownBy w2 (Value.slice a n c0).ownBlock)
    (hat : (Value.slice a' (n + 1) c1).ownBlock = (Value.slice a n c0).ownBlock ∨ (Value.slice a' (n + 1) c1).ownBlock = some ((wr.alloc (.cells cs 3)).alloc (.cells #[.slice (some ⟨wr.heap.size, 0, none⟩) m m] 25)).heap.size) :
    Mk w w2 a' (n + 1) c1 (vs ++ [.slice (some ⟨wr.heap.size, 0, none⟩) m m]) (X ++ [c]) := by
  have h1 := h.bel.alloc h.bel.size (.cells cs 3)
  have h2 := h1.alloc h1.size (.cells #[.slice (some ⟨wr.heap.size, 0, none⟩) m m] 25)
  have b1 : Below wr.heap.size wr ((wr.alloc (.cells cs 3)).alloc (.cells #[.slice (some ⟨wr.heap.size, 0, none⟩) m m] 25)) := ((Below.refl _ _).alloc (Nat.le_refl _) _).alloc (by simp) _
  have hk : Blk ((wr.alloc (.cells cs 3)).alloc (.cells #[.slice (some ⟨wr.heap.size, 0, none⟩) m m] 25)) wr.heap.size 3 cs := (Blk.new wr 3 cs).alloc _
  have hs : cs.size = m * 1 := by
    rw [← Array.length_toList, hcs, inC_len, hm, Nat.mul_one]
  have hoc := Own.of_blk hk m hs (by unfold maxLen; omega)
  rw [hcs] at hoc
  subst hm
  refine ⟨by simp [h.len], ho, ((h.rows.new b1).snoc hoc).grown (h.own.new b1) hg, fun k hk => ?_, grow_below2 h2 hg h.new h2.size⟩
  rcases hat with e | e
  · exact h.new k (e ▸ hk)
  · rw [e] at hk
    injection hk with hk
    have := h2.size
    omega

theorem Mk.small {w wr : World} {a : Option Addr} {n c : Nat} {vs : List Value} {X : List (List Int)} (h : Mk w wr a n c vs X) (hX : X.length ≤ 100) : n ≤ 100 := by
  rw [← h.len, h.rows.len]
  exact hX
theorem pig_le {p q k : Nat} (hp : p ≤ 4) (hq : q ≤ 4) (hk : k ≤ 3) : (pigP p ++ (pigR p :: pigQ p q) ++ pigK p q k).length ≤ 100 := pig_lens.2 p hp q hq k hk

set_option maxHeartbeats 2000000 in
theorem names_walk (w : World) : Calls Try.prog 5 #[] w fun e w' => e = .returned (.bool true) ∧ Below w.heap.size w w' := by
  go_enter Try.func5, Try.ntmps5
  go_upto_region 2 with (go_at_call 13; (with_reducible refine (names0 _).mono ?_); rintro e w1 ⟨hb1, a1, c1, a2, m2, c2, a3, m3, c3, rfl⟩)
  obtain ⟨w2, hw2, hb2, hk2⟩ := ans_new w1 #[.bool true, .slice a1 0 c1, .int .i64 0, .slice a2 m2 c2, .slice a3 m3 c3]
  rw [← hw2]
  obtain ⟨g1, hg1⟩ : ∃ g1, g1 = w1.heap.size := ⟨_, rfl⟩
  rw [← hg1] at hk2 ⊢
  have HB2 := Lib.hid (bel_trans hb1 hb2)
  have HK2 : Hid (∀ w', Below w2.heap.size w2 w' → w'.cell? ⟨g1, 0, none⟩ = some (.bool true) ∧ w'.cell? ⟨g1, 1, none⟩ = some (.slice a1 0 c1) ∧ w'.cell? ⟨g1, 2, none⟩ = some (.int .i64 0)) := Lib.hid fun w' hb => ⟨hk2 w' hb 0, hk2 w' hb 1, hk2 w' hb 2⟩
  have hbR : Below w2.heap.size w2 ((w2.alloc (.cells #[] 3)).alloc (.cells #[.slice (some ⟨w2.heap.size, 0, none⟩) 0 0] 25)) := ((Below.refl _ _).alloc (Nat.le_refl _) _).alloc (by simp) _
  obtain ⟨avR, cvR, hR⟩ := nil_row w2
  have HS1 := Lib.hid (names1 (cap := 1) hR)
  have HBR := Lib.hid hbR
  clear hw2 hb2 hk2 hg1 hb1 hbR hR
  go_upto_region 3 with (go_at_call 13; (with_reducible refine HS1.out.mono ?_); rintro e w3 ⟨hb3, d1, n1, f1, t3, d2, n2, f2, d3, n3, f3, rfl⟩)
  obtain ⟨w4, hw4, hb4, hk4⟩ := ans_new w3 #[.bool false, .slice d1 n1 f1, .int .i64 t3, .slice d2 n2 f2, .slice d3 n3 f3]
  rw [← hw4]
  obtain ⟨g3, hg3⟩ : ∃ g3, g3 = w3.heap.size := ⟨_, rfl⟩
  rw [← hg3] at hk4 ⊢
  have z0 : w4.cell? ⟨g3, 0, none⟩ = some (.bool false) := hk4 w4 (Below.refl _ _) 0
  have h24 := bel_trans (bel_trans HBR.out hb3) hb4
  obtain ⟨p0, p1, p2⟩ := HK2.out w4 h24
  have HB4 := Lib.hid (bel_trans HB2.out h24)
  clear hw4 hb4 hk4 hg3 hb3 h24 HS1 HBR HB2 HK2
  go_upto_region 6 with fail
  obtain ⟨w5, hw5⟩ : ∃ w5, w5 = ((((((((((((w4.alloc (.cells #[.int .i64 0] 3)).alloc (.cells #[.slice (some ⟨w4.heap.size, 0, none⟩) 1 1] 25)).alloc (.cells #[.int .i64 3] 3)).alloc (.cells #[.slice (some ⟨w4.heap.size + 1 + 1, 0, none⟩) 1 1] 25)).alloc (.cells #[.int .i64 1] 3)).alloc (.cells #[.int .i64 (-3)] 3)).alloc
    (.cells #[.slice (some ⟨w4.heap.size + 1 + 1 + 1 + 1, 0, none⟩) 1 1, .slice (some ⟨w4.heap.size + 1 + 1 + 1 + 1 + 1, 0, none⟩) 1 1] 25)).alloc (.cells #[.int .i64 4611686018427387904] 3)).alloc (.cells #[.slice (some ⟨w4.heap.size + 1 + 1 + 1 + 1 + 1 + 1 + 1, 0, none⟩) 1 1] 25)).alloc
    (.cells #[.int .i64 (-9223372036854775808)] 3)).alloc (.cells #[.slice (some ⟨w4.heap.size + 1 + 1 + 1 + 1 + 1 + 1 + 1 + 1 + 1, 0, none⟩) 1 1] 25)).alloc
    (.cells #[.slice (some ⟨w4.heap.size + 1, 0, none⟩) 1 1, .slice (some ⟨w4.heap.size + 1 + 1 + 1, 0, none⟩) 1 1, .slice (some ⟨w4.heap.size + 1 + 1 + 1 + 1 + 1 + 1, 0, none⟩) 2 2, .slice (some ⟨w4.heap.size + 1 + 1 + 1 + 1 + 1 + 1 + 1 + 1, 0, none⟩) 1 1, .slice (some ⟨w4.heap.size + 1 + 1 + 1 + 1 + 1 + 1 + 1 + 1 + 1 + 1, 0, none⟩) 1 1] 22)) := ⟨_, rfl⟩
  obtain ⟨hb5, hX5⟩ := bad_mem hw5
  rw [← hw5]
  obtain ⟨g5, hg5⟩ : ∃ g5, g5 = w4.heap.size + 1 + 1 + 1 + 1 + 1 + 1 + 1 + 1 + 1 + 1 + 1 := ⟨_, rfl⟩
  rw [← hg5] at hX5 ⊢
  have HX5 := Lib.hid hX5
  have HB5 := Lib.hid (bel_trans HB4.out hb5)
  clear hw5 hb5 hX5 hg5 z0 p0 p1 p2 HB4
  go_loopw [74] (fun i wr => ∃ k : Nat, k ≤ 5 ∧ i = .int .i64 k ∧ Hid (Below w5.heap.size w5 wr)) (fun i _ => 5 - (intOf i).toNat)
  case atStart => exact ⟨0, by omega, rfl, Lib.hid (Below.refl _ _)⟩
  case round =>
    obtain ⟨k, hk, rfl, HB⟩ := hrel
    by_cases hlt : k < 5
    · have hki : (k : Int) < 5 := by omega
      obtain ⟨ao, X, cap, avX, cvX, hcell, hrows, hB1, hB2, hB3, hB4⟩ := HX5.out k hlt
      have hcw : wr.cell? ⟨g5, k, none⟩ = some (.slice ao X.length cap) := (bel_cell HB.out hcell).trans hcell
      have HS := Lib.hid (names_bad (cap := cap) hB1 hB2 hB3 hB4 (hrows.below HB.out))
      clear hcell hrows hB1 hB2 hB3 hB4
      go_wp2_with (go_at_call 13; (with_reducible refine HS.out.mono ?_); rintro e w6 ⟨hb6, rfl⟩)
      go_roundw
      case rel =>
        have h7 := bel_new HB.out HB.out.size hb6
        exact ⟨k + 1, by omega, by go_num, Lib.hid (h7.alloc h7.size _)⟩
      case measure => simp [intOf]; omega
    · obtain rfl : k = 5 := by omega
      have HB6 := Lib.hid (bel_new HB5.out HB5.out.size HB.out)
      obtain ⟨w6, hw6⟩ : ∃ w6 : World, w6 = wr := ⟨_, rfl⟩
      subst hw6
      clear HX5 HB5 HB
      rw [show (((5 : Nat) : Int)) = (5 : Int) from rfl]
      go_upto_region 18 with (first
        | (go_at_call 13; (with_reducible refine (names_neg _).mono ?_); rintro e w7 ⟨hb7, rfl⟩)
        | (go_at_call 13; (with_reducible refine (names_big _).mono ?_); rintro e w8 ⟨hb8, rfl⟩)
        | (go_at_call 13; (with_reducible refine (names_under _).mono ?_); rintro e w9 ⟨hb9, rfl⟩)
        | (go_at_call 13; (with_reducible refine (names_over _).mono ?_); rintro e w10 ⟨hb10, rfl⟩))
      have c7 := bel_trans HB6.out hb7
      have c8 := bel_trans (c7.alloc c7.size _) hb8
      have c9 := bel_trans (c8.alloc c8.size _) hb9
      have c10 := bel_trans (c9.alloc c9.size _) hb10
      have c11 := c10.alloc c10.size (.cells #[.bool false, .slice none 0 0, .int .i64 0, .slice none 0 0, .slice none 0 0] 30)
      have HB11 := Lib.hid c11
      clear c7 c8 c9 c10 c11 hb7 hb8 hb9 hb10 HB6
      obtain ⟨w11, hw11⟩ : ∃ w11, w11 = w10.alloc (.cells #[.bool false, .slice none 0 0, .int .i64 0, .slice none 0 0, .slice none 0 0] 30) := ⟨_, rfl⟩
      rw [← hw11] at HB11 ⊢
      clear hw11
      obtain ⟨iS, hiS, hs0, hs1, hs2⟩ := info_parts (P := Try.prog) (e := 25) (z := .slice none 0 0) (size := 1) (bytes := 24) (by kernel_rfl)
      go_wp2_with fail
      go_loopw [17, 18] (fun s i wr => ∃ (p n : Nat) (vs : List Value) (a : Option Addr) (c : Nat), p ≤ 4 ∧ n ≤ 100 ∧ i = .int .i64 p ∧ s = .slice a n c ∧ Hid (Mk w wr a n c vs (pigP p))) (fun _ i _ => 4 - (intOf i).toNat)
      case atStart => exact ⟨0, 0, [], none, 0, by omega, by omega, rfl, rfl, Lib.hid ⟨rfl, Own.nil _ _ _, RowsN.nil _, fun k hk => by simp [Value.ownBlock] at hk, HB11.out⟩⟩
      case round =>
        obtain ⟨p, n, vs, a, c, hp, hn, rfl, rfl, HM⟩ := hrel
        by_cases hlt : p < 4
        · have hpi : (p : Int) < 4 := by omega
          have hov := HM.out.rows.rowsV.one
          have HO := Lib.hid ((HM.out.own.alloc (.cells #[.int .i64 (3 * (p : Int) + 1), .int .i64 (3 * (p : Int) + 2), .int .i64 (3 * (p : Int) + 3)] 3)).alloc (.cells #[.slice (some ⟨wr.heap.size, 0, none⟩) 3 3] 25))
          go_upto_region 23 with (first
            | (at_builtin; go_loud (refine wpList_append_S _ rfl (.tmp 120) (.tmp 131) _ _ rfl 25 iS _ 1 24 Try.underlying22 hiS hs0 hs1 hs2 rfl (by omega) (.slice a n c) n vs rfl HO.out hov _ 1 [.slice (some ⟨wr.heap.size, 0, none⟩) 3 3] rfl (src_two wr _ 3) (by simp only [maxLen]; omega) (by omega) ?_); intro ao2 cap2 w2 hn2 hm2 hown2 hg2 hat2 hlt2
               have HM2 := Lib.hid (HM.out.push (cs := #[.int .i64 (3 * (p : Int) + 1), .int .i64 (3 * (p : Int) + 2), .int .i64 (3 * (p : Int) + 3)]) (c := pigR p) (m := 3) rfl rfl (by omega) hown2 hg2 hat2)
               clear hown2 hg2 hat2 hlt2 hn2 hm2))
          have hn2 : n + 1 ≤ 100 := HM2.out.small (by have := pig_le (p := p) (q := 0) (k := 0) hp (by omega) (by omega); simpa [pigQ, pigK] using this)
          clear hov HO HM hn
          go_wp2_with fail
          go_loopw [17, 19] (fun s i wr => ∃ (q n2 : Nat) (vs : List Value) (a : Option Addr) (c : Nat), q ≤ p ∧ n2 ≤ 100 ∧ i = .int .i64 q ∧ s = .slice a n2 c ∧ Hid (Mk w wr a n2 c vs (pigP p ++ (pigR p :: pigQ p q)))) (fun _ i _ => p - (intOf i).toNat)
          case atStart => exact ⟨0, n + 1, _, _, _, Nat.zero_le _, hn2, rfl, rfl, HM2⟩
          case round =>
            obtain ⟨q, n2, vs2, a2', c2', hq, hn2', rfl, rfl, HMq⟩ := hrel
            by_cases hqt : q < p
            · have hqi : (q : Int) < (p : Int) := by omega
              have hHM0 : Hid (pigP p ++ (pigR p :: pigQ p q) = pigP p ++ (pigR p :: pigQ p q) ++ pigK p q 0) := Lib.hid (by simp [pigK])
              go_wp2_with fail
              go_loopw [17, 20] (fun s i wr => ∃ (j n3 : Nat) (vs : List Value) (a : Option Addr) (c : Nat), j ≤ 3 ∧ n3 ≤ 100 ∧ i = .int .i64 ((j : Int) + 1) ∧ s = .slice a n3 c ∧ Hid (Mk w wr a n3 c vs (pigP p ++ (pigR p :: pigQ p q) ++ pigK p q j))) (fun _ i _ => 4 - (intOf i).toNat)
              case atStart => exact ⟨0, n2, vs2, a2', c2', by omega, hn2', by go_num, rfl, Lib.hid (by rw [← hHM0.out]; exact HMq.out)⟩
              case round =>
                obtain ⟨j, n3, vs3, a3', c3', hj, hn3, rfl, rfl, HMj⟩ := hrel
                by_cases hjt : j < 3
                · have hji : (j : Int) + 1 < 4 := by omega
                  have hov := HMj.out.rows.rowsV.one
                  have HO := Lib.hid ((HMj.out.own.alloc (.cells #[.int .i64 (-(3 * (p : Int) + ((j : Int) + 1))), .int .i64 (-(3 * (q : Int) + ((j : Int) + 1)))] 3)).alloc (.cells #[.slice (some ⟨wr.heap.size, 0, none⟩) 2 2] 25))
                  go_wp2_with (first
                    | (at_builtin; go_loud (refine wpList_append_S _ rfl (.tmp 142) (.tmp 154) _ _ rfl 25 iS _ 1 24 Try.underlying22 hiS hs0 hs1 hs2 rfl (by omega) (.slice a3' n3 c3') n3 vs3 rfl HO.out hov _ 1 [.slice (some ⟨wr.heap.size, 0, none⟩) 2 2] rfl (src_two wr _ 2) (by simp only [maxLen]; omega) (by omega) ?_); intro ao4 cap4 w14 hn4 hm4 hown4 hg4 hat4 hlt4
                       have HM4 := Lib.hid (HMj.out.push (cs := #[.int .i64 (-(3 * (p : Int) + ((j : Int) + 1))), .int .i64 (-(3 * (q : Int) + ((j : Int) + 1)))]) (c := [-(3 * (p : Int) + ((j : Int) + 1)), -(3 * (q : Int) + ((j : Int) + 1))]) (m := 2) rfl rfl (by omega) hown4 hg4 hat4)
                       clear hown4 hg4 hat4 hlt4 hn4 hm4)
                    | fail)
                  go_roundw
                  case rel =>
                    have h5 := HM4.out
                    rw [List.append_assoc, ← pigK_succ] at h5
                    exact ⟨j + 1, n3 + 1, _, _, _, by omega, h5.small (pig_le hp (by omega) (by omega)), by go_num, rfl, Lib.hid h5⟩
                  case measure => simp [intOf]; omega
                · obtain rfl : j = 3 := by omega
                  have h6 : Mk w wr a3' n3 c3' vs3 (pigP p ++ (pigR p :: pigQ p (q + 1))) := by
                    have := HMj.out
                    rwa [List.append_assoc, List.cons_append, ← pigQ_succ] at this
                  have H6 := Lib.hid h6
                  clear h6
                  go_wp2_with fail
                  go_roundw
                  case rel => exact ⟨q + 1, n3, _, _, _, hqt, hn3, by go_num, rfl, H6⟩
                  case measure => simp [intOf]; omega
            · obtain rfl : q = p := by omega
              have H7 : Hid (Mk w wr a2' n2 c2' vs2 (pigP (q + 1))) := Lib.hid (by rw [pigP_succ]; exact HMq.out)
              go_wp2_with fail
              go_roundw
              case rel => exact ⟨q + 1, n2, _, _, _, by omega, hn2', by go_num, rfl, H7⟩
              case measure => simp [intOf]; omega
        · obtain rfl : p = 4 := by omega
          have h22 : n = 22 := by rw [← HM.out.len, HM.out.rows.len, pig_lens.1]
          obtain ⟨m, h21⟩ : ∃ m : Nat, m = 21 := ⟨_, rfl⟩
          obtain ⟨avP, cvP, hP⟩ := rows_at HM.out.own HM.out.len.symm HM.out.rows.rowsV
          have hcap := own_cap HM.out.own
          have hmc : (m : Int) ≤ (c : Int) := by omega
          have hmw : IntKind.i64.wrap ((n : Int) - 1) = (m : Int) := by rw [h22, h21]; decide
          have HS1 : Hid (Calls Try.prog 13 #[.int .i64 12, .slice a n c, .int .i64 106496] wr (NameOut wr false)) := Lib.hid (by rw [h22]; exact names_pig (cap := c) hP)
          have hQ : IsRows wr a ((pigP 4).take 21) avP cvP := ⟨fun h0 => by
            obtain ⟨b, off, e, hb, hc⟩ := hP.rows (by rw [pig_lens.1]; omega)
            refine ⟨b, off, e, hb, fun j hj => ?_⟩
            rw [List.length_take] at hj
            rw [List.getElem_take]
            exact hc j (by omega), fun j hj => by
            rw [List.length_take] at hj
            rw [List.getElem_take]
            exact hP.ints j (by omega)⟩
          have HQ := Lib.hid hQ
          have HBp := Lib.hid HM.out.bel
          have H21 := Lib.hid h21
          clear hP hQ HM hn h22 h21 hcap
          go_upto_region 31 with (first
            | (go_at_call 18; (with_reducible refine (enough_12 _).mono ?_); rintro e w20 ⟨rfl, rfl⟩)
            | (go_at_call 13; (with_reducible refine HS1.out.mono ?_); rintro e w21 ⟨hb21, a1x, m1x, c1x, t1x, a2x, m2x, c2x, a3x, m3x, c3x, rfl⟩))
          obtain ⟨w22, hw22, hb22, hk22⟩ := ans_new w21 #[.bool false, .slice a1x m1x c1x, .int .i64 t1x, .slice a2x m2x c2x, .slice a3x m3x c3x]
          rw [← hw22]
          obtain ⟨g21, hg21⟩ : ∃ g21, g21 = w21.heap.size := ⟨_, rfl⟩
          rw [← hg21] at hk22 ⊢
          have HK22 : Hid (∀ w', Below w22.heap.size w22 w' → w'.cell? ⟨g21, 0, none⟩ = some (.bool false)) := Lib.hid fun w' hb => hk22 w' hb 0
          have hq22 := bel_trans hb21 hb22
          have HB22 := Lib.hid (bel_trans HBp.out hq22)
          have HS2 : Hid (∀ w', Below w22.heap.size w22 w' → Calls Try.prog 13 #[.int .i64 12, .slice a m c, .int .i64 106496] w' (NameOut w' true)) := Lib.hid fun w' hb' => by rw [H21.out]; exact names_few (cap := c) (HQ.out.below (bel_trans hq22 hb'))
          have hbA : Below w22.heap.size w22 w22.drew := bel_drewN (Below.refl _ w22) 1
          have hbB : Below w22.heap.size w22 (w22.alloc (.cells #[.bool false, .slice none 0 0, .int .i64 0, .slice none 0 0, .slice none 0 0] 30)).drew := bel_drewN ((Below.refl _ w22).alloc (Nat.le_refl _) _) 1
          clear hw22 hb22 hk22 hg21 hb21 hq22 HS1
          go_region_held3 (fun _ => True) (trivial)
            ((first
              | (go_at_call 18; (with_reducible refine (enough_12 _).mono ?_); rintro e w23 ⟨rfl, rfl⟩)
              | (go_at_call 13; (with_reducible refine (HS2.out _ hbB).mono ?_); rintro e w24 ⟨hb24, a1y, m1y, c1y, t1y, a2y, m2y, c2y, a3y, m3y, c3y, rfl⟩; have hB24 := (Blk.new w22 30 #[.bool false, .slice none 0 0, .int .i64 0, .slice none 0 0, .slice none 0 0]).keep (hb24.block _ (Blk.new w22 30 #[.bool false, .slice none 0 0, .int .i64 0, .slice none 0 0, .slice none 0 0]).lt); have c00 : w24.cell? ⟨w22.heap.size, 0, none⟩ = some (.bool false) := hB24.cell 0; have f00 := hB24.frozen 0; have c01 : w24.cell? ⟨w22.heap.size, 1, none⟩ = some (.slice none 0 0) := hB24.cell 1; have f01 := hB24.frozen 1; have c02 : w24.cell? ⟨w22.heap.size, 2, none⟩ = some (.int .i64 0) := hB24.cell 2; have f02 := hB24.frozen 2; have c03 : w24.cell? ⟨w22.heap.size, 3, none⟩ = some (.slice none 0 0) := hB24.cell 3; have f03 := hB24.frozen 3; have c04 : w24.cell? ⟨w22.heap.size, 4, none⟩ = some (.slice none 0 0) := hB24.cell 4; have f04 := hB24.frozen 4)
              | (go_at_call 13; (with_reducible refine (HS2.out _ hbA).mono ?_); rintro e w24 ⟨hb24, a1y, m1y, c1y, t1y, a2y, m2y, c2y, a3y, m3y, c3y, rfl⟩)))
          all_goals
            first
              | (obtain ⟨w25, hw25, y0', hq25⟩ := ans_set hB24 (bel_trans hbB hb24) (.bool true) (.slice a1y m1y c1y) (.int .i64 t1y) (.slice a2y m2y c2y) (.slice a3y m3y c3y)
                 clear c00 c01 c02 c03 c04 f00 f01 f02 f03 f04 hB24 hb24 hbA hbB
                 rw [← hw25]
                 obtain ⟨g24, hg24⟩ : ∃ g24, g24 = w22.heap.size := ⟨_, rfl⟩
                 rw [← hg24] at y0' ⊢
                 have y0 : w25.cell? ⟨g24, 0, none⟩ = some (.bool true) := y0'
                 clear hw25 y0' hg24)
              | (obtain ⟨w25, hw25, hb25, hk25⟩ := ans_new w24 #[.bool true, .slice a1y m1y c1y, .int .i64 t1y, .slice a2y m2y c2y, .slice a3y m3y c3y]
                 rw [← hw25]
                 obtain ⟨g24, hg24⟩ : ∃ g24, g24 = w24.heap.size := ⟨_, rfl⟩
                 rw [← hg24] at hk25 ⊢
                 have y0 : w25.cell? ⟨g24, 0, none⟩ = some (.bool true) := hk25 w25 (Below.refl _ _) 0
                 have hq25 : Below w22.heap.size w22 w25 := (bel_drewN (Below.refl _ w22) 1).trans (bel_trans hb24 hb25)
                 clear hw25 hb25 hk25 hg24 hb24 hbA hbB)
            have x0 := HK22.out w25 hq25
            have HB25 := Lib.hid (bel_trans HB22.out hq25)
            clear hq25 HS2
            go_wp2_with (first
              | (go_at_call 18; (with_reducible refine (enough_neg1 _).mono ?_); rintro e w26 ⟨rfl, rfl⟩)
              | (go_at_call 18; (with_reducible refine (enough_0 _).mono ?_); rintro e w27 ⟨rfl, rfl⟩)
              | (go_at_call 18; (with_reducible refine (enough_3 _).mono ?_); rintro e w28 ⟨rfl, rfl⟩)
              | (go_at_call 18; (with_reducible refine (enough_65536 _).mono ?_); rintro e w29 ⟨rfl, rfl⟩)
              | (go_at_call 11; (with_reducible refine (awake_any _).mono ?_); rintro e w30 ⟨rfl, hb30⟩))
            go_ret
            exact ⟨rfl, bel_trans HB25.out hb30⟩

end Go.Proofs.Ytoainmkebdpikaa
