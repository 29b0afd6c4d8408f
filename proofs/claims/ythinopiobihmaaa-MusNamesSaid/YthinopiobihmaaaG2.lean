/- The walk of MusNames (printed by gennames.py). Conditions: as each theorem names them. -/
import Derived.Test.YthinopiobihmaaaG1
namespace Go.Proofs.Ythinopiobihmaaa
open Go.ChangeShapes Go.WideShapes Go.ChangeAt Go.RowKit Go.Maps Go.Deep
set_option maxRecDepth 100000

theorem items_none (w : World) : IsItems w none [] (fun _ => none) (fun _ => 0) (fun _ _ => none) (fun _ _ => 0) := ⟨fun h => absurd h (Nat.not_lt_zero _), fun _ hj => absurd hj (Nat.not_lt_zero _)⟩
def LitAt (w0 : World) (L : List Int) (m : Nat) (r lo : Int) (e : Ending) (w' : World) : Prop := Below w0.heap.size w0 w' ∧ ∃ a c s, lo ≤ s ∧ e = .returned (.tuple #[.slice a m c, .int .i64 s, .int .i64 r]) ∧ Ints w' a L
theorem lit_at {n : Nat} {base : List (List Int)} {items : List (List (List Int))} {B : Int} {L : List Int} {r lo : Int} (ho : ItOk n base items) (hk : KnownAll n base items) (hB : 0 ≤ B ∧ B ≤ 1099511627776) (h : (leastE n base items B).l = L ∧ (leastE n base items B).e = r ∧ lo ≤ (leastE n base items B).steps) {w0 w' : World} {ab ai : Option Addr} {cb ci : Nat}
    (hR : ∃ av cv, IsRows w' ab base av cv) (hI : ∃ aI cI avI cvI, IsItems w' ai items aI cI avI cvI) (hb : Below w0.heap.size w0 w') : Calls Try.prog 12 #[.int .i64 n, .slice ab base.length cb, .slice ai items.length ci, .int .i64 B] w' (LitAt w0 L L.length r lo) := by
  obtain ⟨av, cv, hR⟩ := hR
  obtain ⟨aI, cI, avI, cvI, hI⟩ := hI
  refine (least_good ho hk hR hI B hB).mono fun e w'' h2 => ?_
  rw [lout_eq ⟨h.1, h.2.1⟩] at h2
  obtain ⟨h3, a, c, h4, h5, _⟩ := h2
  exact ⟨bel_trans hb h3, a, c, _, h.2.2, h4, least_ints h5⟩
theorem litbad_at {base : List (List Int)} {items : List (List (List Int))} {vars B : Int} (hv : vars ≤ 12) (ho : ItOk 0 base items) (h6 : ∀ c ∈ allE base items (everyS items), ∀ x ∈ c, I64 x) (h : vars < 0 ∨ B < 0 ∨ 1099511627776 < B ∨ (allE base items (everyS items)).all (knownS vars.toNat) = false) {w0 w' : World} {ab ai : Option Addr} {cb ci : Nat}
    (hR : ∃ av cv, IsRows w' ab base av cv) (hI : ∃ aI cI avI cvI, IsItems w' ai items aI cI avI cvI) (hb : Below w0.heap.size w0 w') : Calls Try.prog 12 #[.int .i64 vars, .slice ab base.length cb, .slice ai items.length ci, .int .i64 B] w' (LitAt w0 [] 0 1 0) := by
  obtain ⟨av, cv, hR⟩ := hR
  obtain ⟨aI, cI, avI, cvI, hI⟩ := hI
  refine (least_bad vars B hv ho hR hI h6 h).mono fun e w'' h2 => ?_
  obtain ⟨h3, a, c, h4, h5, _⟩ := h2
  exact ⟨bel_trans hb h3, a, c, _, Int.le_refl _, h4, least_ints h5⟩
theorem lit_items {w w0 w1 : World} {g b : Nat} {items : List (List (List Int))} (h : w = putItems b items w1) (hb : b = w1.heap.size) (hg : g = b + sizeL items) (hl : items.length ≤ 1000 ∧ ∀ it ∈ items, it.length ≤ 1000) (h01 : Below w0.heap.size w0 w1) :
    (∃ aI cI avI cvI, IsItems w (some ⟨g, 0, none⟩) items aI cI avI cvI) ∧ Below w0.heap.size w0 w := by
  obtain ⟨h1, h2⟩ := items_facts h hb hg hl
  exact ⟨h2, bel_trans h01 h1⟩

def nmI1 : List (List (List Int)) := []
def nmB1 : List (List Int) := []
theorem nmK1 : KnownAll 1 nmB1 nmI1 := by decide +kernel
theorem nmL1 : (leastE 1 nmB1 nmI1 9).l = [] ∧ (leastE 1 nmB1 nmI1 9).e = 5 ∧ 0 ≤ (leastE 1 nmB1 nmI1 9).steps := by decide +kernel
def nmI2 : List (List (List Int)) := [[[1]]]
def nmB2 : List (List Int) := [[1], [-1]]
theorem nmK2 : KnownAll 1 nmB2 nmI2 := by decide +kernel
theorem nmL2 : (leastE 1 nmB2 nmI2 99).l = [] ∧ (leastE 1 nmB2 nmI2 99).e = 0 ∧ 0 ≤ (leastE 1 nmB2 nmI2 99).steps := by decide +kernel
def nmI3 : List (List (List Int)) := [[[2]]]
def nmB3 : List (List Int) := []
def nmI4 : List (List (List Int)) := []
def nmB4 : List (List Int) := []
def nmI5 : List (List (List Int)) := []
def nmB5 : List (List Int) := []
def nmI6 : List (List (List Int)) := [[[1]]]
def nmB6 : List (List Int) := []
theorem nmK6 : KnownAll 1 nmB6 nmI6 := by decide +kernel
theorem nmL6 : (leastE 1 nmB6 nmI6 99).l = [] ∧ (leastE 1 nmB6 nmI6 99).e = 5 ∧ 0 ≤ (leastE 1 nmB6 nmI6 99).steps := by decide +kernel
def nmI7 : List (List (List Int)) := [[[1]], [[]], [[-1]]]
def nmB7 : List (List Int) := []
theorem nmK7 : KnownAll 1 nmB7 nmI7 := by decide +kernel
theorem nmL7 : (leastE 1 nmB7 nmI7 99).l = [1] ∧ (leastE 1 nmB7 nmI7 99).e = 0 ∧ 0 ≤ (leastE 1 nmB7 nmI7 99).steps := by decide +kernel
def nmI8 : List (List (List Int)) := [[[1, 2]], [[-1, 2], [1, -2]], [[-1, -2]]]
def nmB8 : List (List Int) := []
theorem nmK8 : KnownAll 2 nmB8 nmI8 := by decide +kernel
theorem nmL8 : (leastE 2 nmB8 nmI8 1099511627776).l = [0, 1, 2] ∧ (leastE 2 nmB8 nmI8 1099511627776).e = 0 ∧ 1 ≤ (leastE 2 nmB8 nmI8 1099511627776).steps := by decide +kernel
def nmI9 : List (List (List Int)) := [[[1, 2]], [[-1, 2], [1, -2]], [[-1, -2]]]
def nmB9 : List (List Int) := []
theorem nmK9 : KnownAll 2 nmB9 nmI9 := by decide +kernel
theorem nmL9 : (leastE 2 nmB9 nmI9 0).l = [] ∧ (leastE 2 nmB9 nmI9 0).e = 44 ∧ 0 ≤ (leastE 2 nmB9 nmI9 0).steps := by decide +kernel
theorem nmC1 (w : World) : Calls Try.prog 12 #[.int .i64 1, .slice none 0 0, .slice none 0 0, .int .i64 9] w (LitAt w [] 0 5 0) := by
  have h1 : ∃ aI cI avI cvI, IsItems w none [] aI cI avI cvI := ⟨_, _, _, _, items_none w⟩
  have h2 : Below w.heap.size w w := Below.refl _ _
  have h3 : ∃ av cv, IsRows w none [] av cv := ⟨_, _, base_none _⟩
  exact lit_at (n := 1) (base := nmB1) (items := nmI1) (B := 9) (L := []) (cb := 0) (ci := 0) (it_ok (M := 2) (by omega) (by decide) (by decide) (by decide) (by decide)) nmK1 (by omega) nmL1 h3 h1 h2
theorem nmC2 (w : World) : Calls Try.prog 12 #[.int .i64 1, .slice (some ⟨w.heap.size + 1 + 1, 0, none⟩) 2 2, .slice (some ⟨w.heap.size + 1 + 1 + 1 + 1 + 1, 0, none⟩) 1 1, .int .i64 99] ((((((w.alloc (.cells #[.int .i64 1] 3)).alloc (.cells #[.int .i64 (-1)] 3)).alloc (.cells #[.slice (some ⟨w.heap.size, 0, none⟩) 1 1, .slice (some ⟨w.heap.size + 1, 0, none⟩) 1 1] 26)).alloc (.cells #[.int .i64 1] 3)).alloc (.cells #[.slice (some ⟨w.heap.size + 1 + 1 + 1, 0, none⟩) 1 1] 26)).alloc (.cells #[.slice (some ⟨w.heap.size + 1 + 1 + 1 + 1, 0, none⟩) 1 1] 22)) (LitAt w [] 0 0 0) := by
  obtain ⟨s1, b1, av, cv, r1⟩ := rows_facts nmB2 w (by decide)
  have e1 : (putRows w.heap.size nmB2 w).heap.size = w.heap.size + 1 + 1 + 1 := s1
  obtain ⟨h1, h2⟩ := lit_items (w0 := w) (w1 := putRows w.heap.size nmB2 w) (b := w.heap.size + 1 + 1 + 1) (g := w.heap.size + 1 + 1 + 1 + 1 + 1) (items := nmI2) rfl e1.symm rfl ⟨by decide, by decide⟩ b1
  have h3 : ∃ av cv, IsRows (putItems (w.heap.size + 1 + 1 + 1) nmI2 (putRows w.heap.size nmB2 w)) (some ⟨w.heap.size + 1 + 1, 0, none⟩) nmB2 av cv := ⟨av, cv, r1.below (by
    rw [← e1]
    exact (items_facts (g := (putRows w.heap.size nmB2 w).heap.size + sizeL nmI2) rfl rfl rfl ⟨by decide, by decide⟩).1)⟩
  exact lit_at (n := 1) (base := nmB2) (items := nmI2) (B := 99) (L := []) (cb := 2) (ci := 1) (it_ok (M := 2) (by omega) (by decide) (by decide) (by decide) (by decide)) nmK2 (by omega) nmL2 h3 h1 h2
theorem nmC3 (w : World) : Calls Try.prog 12 #[.int .i64 1, .slice none 0 0, .slice (some ⟨w.heap.size + 1 + 1, 0, none⟩) 1 1, .int .i64 9] (((w.alloc (.cells #[.int .i64 2] 3)).alloc (.cells #[.slice (some ⟨w.heap.size, 0, none⟩) 1 1] 26)).alloc (.cells #[.slice (some ⟨w.heap.size + 1, 0, none⟩) 1 1] 22)) (LitAt w [] 0 1 0) := by
  obtain ⟨h1, h2⟩ := lit_items (w0 := w) (w1 := w) (b := w.heap.size) (g := w.heap.size + 1 + 1) (items := nmI3) rfl rfl rfl ⟨by decide, by decide⟩ (Below.refl _ _)
  have h3 : ∃ av cv, IsRows (putItems w.heap.size nmI3 w) none [] av cv := ⟨_, _, base_none _⟩
  have h6 : ∀ c ∈ allE nmB3 nmI3 (everyS nmI3), ∀ x ∈ c, I64 x := fun c hc x hx => by
    have : c = [2] := by simpa [nmI3, nmB3, allE, uptoE, everyS] using hc
    subst this
    have : x = 2 := by simpa using hx
    subst this
    unfold I64
    omega
  exact litbad_at (base := nmB3) (items := nmI3) (vars := 1) (B := 9) (cb := 0) (ci := 1) (by omega) (it_ok (M := 2) (by omega) (by decide) (by decide) (by decide) (by decide)) h6 (.inr (.inr (.inr (by decide +kernel)))) h3 h1 h2
theorem nmC4 (w : World) : Calls Try.prog 12 #[.int .i64 (-1), .slice none 0 0, .slice none 0 0, .int .i64 9] w (LitAt w [] 0 1 0) := by
  have h1 : ∃ aI cI avI cvI, IsItems w none [] aI cI avI cvI := ⟨_, _, _, _, items_none w⟩
  have h2 : Below w.heap.size w w := Below.refl _ _
  have h3 : ∃ av cv, IsRows w none [] av cv := ⟨_, _, base_none _⟩
  have h6 : ∀ c ∈ allE nmB4 nmI4 (everyS nmI4), ∀ x ∈ c, I64 x := fun c hc => by simp [nmI4, nmB4, allE, uptoE] at hc
  exact litbad_at (base := nmB4) (items := nmI4) (vars := -1) (B := 9) (cb := 0) (ci := 0) (by omega) (it_ok (M := 2) (by omega) (by decide) (by decide) (by decide) (by decide)) h6 (.inl (by omega)) h3 h1 h2
theorem nmC5 (w : World) : Calls Try.prog 12 #[.int .i64 1, .slice none 0 0, .slice none 0 0, .int .i64 (-1)] w (LitAt w [] 0 1 0) := by
  have h1 : ∃ aI cI avI cvI, IsItems w none [] aI cI avI cvI := ⟨_, _, _, _, items_none w⟩
  have h2 : Below w.heap.size w w := Below.refl _ _
  have h3 : ∃ av cv, IsRows w none [] av cv := ⟨_, _, base_none _⟩
  have h6 : ∀ c ∈ allE nmB5 nmI5 (everyS nmI5), ∀ x ∈ c, I64 x := fun c hc => by simp [nmI5, nmB5, allE, uptoE] at hc
  exact litbad_at (base := nmB5) (items := nmI5) (vars := 1) (B := -1) (cb := 0) (ci := 0) (by omega) (it_ok (M := 2) (by omega) (by decide) (by decide) (by decide) (by decide)) h6 (.inr (.inl (by omega))) h3 h1 h2
theorem nmC6 (w : World) : Calls Try.prog 12 #[.int .i64 1, .slice none 0 0, .slice (some ⟨w.heap.size + 1 + 1, 0, none⟩) 1 1, .int .i64 99] (((w.alloc (.cells #[.int .i64 1] 3)).alloc (.cells #[.slice (some ⟨w.heap.size, 0, none⟩) 1 1] 26)).alloc (.cells #[.slice (some ⟨w.heap.size + 1, 0, none⟩) 1 1] 22)) (LitAt w [] 0 5 0) := by
  obtain ⟨h1, h2⟩ := lit_items (w0 := w) (w1 := w) (b := w.heap.size) (g := w.heap.size + 1 + 1) (items := nmI6) rfl rfl rfl ⟨by decide, by decide⟩ (Below.refl _ _)
  have h3 : ∃ av cv, IsRows (putItems w.heap.size nmI6 w) none [] av cv := ⟨_, _, base_none _⟩
  exact lit_at (n := 1) (base := nmB6) (items := nmI6) (B := 99) (L := []) (cb := 0) (ci := 1) (it_ok (M := 2) (by omega) (by decide) (by decide) (by decide) (by decide)) nmK6 (by omega) nmL6 h3 h1 h2
theorem nmC7 (w : World) : Calls Try.prog 12 #[.int .i64 1, .slice none 0 0, .slice (some ⟨w.heap.size + 1 + 1 + 1 + 1 + 1 + 1, 0, none⟩) 3 3, .int .i64 99] (((((((w.alloc (.cells #[.int .i64 1] 3)).alloc (.cells #[.slice (some ⟨w.heap.size, 0, none⟩) 1 1] 26)).alloc (.cells #[] 3)).alloc (.cells #[.slice (some ⟨w.heap.size + 1 + 1, 0, none⟩) 0 0] 26)).alloc (.cells #[.int .i64 (-1)] 3)).alloc (.cells #[.slice (some ⟨w.heap.size + 1 + 1 + 1 + 1, 0, none⟩) 1 1] 26)).alloc (.cells #[.slice (some ⟨w.heap.size + 1, 0, none⟩) 1 1, .slice (some ⟨w.heap.size + 1 + 1 + 1, 0, none⟩) 1 1, .slice (some ⟨w.heap.size + 1 + 1 + 1 + 1 + 1, 0, none⟩) 1 1] 22)) (LitAt w [1] 1 0 0) := by
  obtain ⟨h1, h2⟩ := lit_items (w0 := w) (w1 := w) (b := w.heap.size) (g := w.heap.size + 1 + 1 + 1 + 1 + 1 + 1) (items := nmI7) rfl rfl rfl ⟨by decide, by decide⟩ (Below.refl _ _)
  have h3 : ∃ av cv, IsRows (putItems w.heap.size nmI7 w) none [] av cv := ⟨_, _, base_none _⟩
  exact lit_at (n := 1) (base := nmB7) (items := nmI7) (B := 99) (L := [1]) (cb := 0) (ci := 3) (it_ok (M := 2) (by omega) (by decide) (by decide) (by decide) (by decide)) nmK7 (by omega) nmL7 h3 h1 h2
theorem nmC8 (w : World) : Calls Try.prog 12 #[.int .i64 2, .slice none 0 0, .slice (some ⟨w.heap.size + 1 + 1 + 1 + 1 + 1 + 1 + 1, 0, none⟩) 3 3, .int .i64 1099511627776] ((((((((w.alloc (.cells #[.int .i64 1, .int .i64 2] 3)).alloc (.cells #[.slice (some ⟨w.heap.size, 0, none⟩) 2 2] 26)).alloc (.cells #[.int .i64 (-1), .int .i64 2] 3)).alloc (.cells #[.int .i64 1, .int .i64 (-2)] 3)).alloc (.cells #[.slice (some ⟨w.heap.size + 1 + 1, 0, none⟩) 2 2, .slice (some ⟨w.heap.size + 1 + 1 + 1, 0, none⟩) 2 2] 26)).alloc (.cells #[.int .i64 (-1), .int .i64 (-2)] 3)).alloc (.cells #[.slice (some ⟨w.heap.size + 1 + 1 + 1 + 1 + 1, 0, none⟩) 2 2] 26)).alloc (.cells #[.slice (some ⟨w.heap.size + 1, 0, none⟩) 1 1, .slice (some ⟨w.heap.size + 1 + 1 + 1 + 1, 0, none⟩) 2 2, .slice (some ⟨w.heap.size + 1 + 1 + 1 + 1 + 1 + 1, 0, none⟩) 1 1] 22)) (LitAt w [0, 1, 2] 3 0 1) := by
  obtain ⟨h1, h2⟩ := lit_items (w0 := w) (w1 := w) (b := w.heap.size) (g := w.heap.size + 1 + 1 + 1 + 1 + 1 + 1 + 1) (items := nmI8) rfl rfl rfl ⟨by decide, by decide⟩ (Below.refl _ _)
  have h3 : ∃ av cv, IsRows (putItems w.heap.size nmI8 w) none [] av cv := ⟨_, _, base_none _⟩
  exact lit_at (n := 2) (base := nmB8) (items := nmI8) (B := 1099511627776) (L := [0, 1, 2]) (cb := 0) (ci := 3) (it_ok (M := 2) (by omega) (by decide) (by decide) (by decide) (by decide)) nmK8 (by omega) nmL8 h3 h1 h2
theorem nmC9 (w : World) : Calls Try.prog 12 #[.int .i64 2, .slice none 0 0, .slice (some ⟨w.heap.size + 1 + 1 + 1 + 1 + 1 + 1 + 1, 0, none⟩) 3 3, .int .i64 0] ((((((((w.alloc (.cells #[.int .i64 1, .int .i64 2] 3)).alloc (.cells #[.slice (some ⟨w.heap.size, 0, none⟩) 2 2] 26)).alloc (.cells #[.int .i64 (-1), .int .i64 2] 3)).alloc (.cells #[.int .i64 1, .int .i64 (-2)] 3)).alloc (.cells #[.slice (some ⟨w.heap.size + 1 + 1, 0, none⟩) 2 2, .slice (some ⟨w.heap.size + 1 + 1 + 1, 0, none⟩) 2 2] 26)).alloc (.cells #[.int .i64 (-1), .int .i64 (-2)] 3)).alloc (.cells #[.slice (some ⟨w.heap.size + 1 + 1 + 1 + 1 + 1, 0, none⟩) 2 2] 26)).alloc (.cells #[.slice (some ⟨w.heap.size + 1, 0, none⟩) 1 1, .slice (some ⟨w.heap.size + 1 + 1 + 1 + 1, 0, none⟩) 2 2, .slice (some ⟨w.heap.size + 1 + 1 + 1 + 1 + 1 + 1, 0, none⟩) 1 1] 22)) (LitAt w [] 0 44 0) := by
  obtain ⟨h1, h2⟩ := lit_items (w0 := w) (w1 := w) (b := w.heap.size) (g := w.heap.size + 1 + 1 + 1 + 1 + 1 + 1 + 1) (items := nmI9) rfl rfl rfl ⟨by decide, by decide⟩ (Below.refl _ _)
  have h3 : ∃ av cv, IsRows (putItems w.heap.size nmI9 w) none [] av cv := ⟨_, _, base_none _⟩
  exact lit_at (n := 2) (base := nmB9) (items := nmI9) (B := 0) (L := []) (cb := 0) (ci := 3) (it_ok (M := 2) (by omega) (by decide) (by decide) (by decide) (by decide)) nmK9 (by omega) nmL9 h3 h1 h2

set_option maxHeartbeats 4000000 in
theorem mnames_walk (w : World) : Calls Try.prog 7 #[] w fun e w' => e = .returned (.bool true) ∧ Below w.heap.size w w' := by
  have HC1 := Lib.hid nmC1
  have HC2 := Lib.hid nmC2
  have HC3 := Lib.hid nmC3
  have HC4 := Lib.hid nmC4
  have HC5 := Lib.hid nmC5
  have HC6 := Lib.hid nmC6
  have HC7 := Lib.hid nmC7
  have HC8 := Lib.hid nmC8
  have HC9 := Lib.hid nmC9
  unfold LitAt at HC1 HC2 HC3 HC4 HC5 HC6 HC7 HC8 HC9
  have HE1 : Hid (∀ w, Calls Try.prog 19 #[.int .i64 0, .int .i64 0] w fun e w' => e = .returned (.int .i64 2) ∧ w = w') := Lib.hid fun w => menough_any 0 0 (by omega) (by omega) w
  have HE2 : Hid (∀ w, Calls Try.prog 19 #[.int .i64 2, .int .i64 1] w fun e w' => e = .returned (.int .i64 24) ∧ w = w') := Lib.hid fun w => menough_any 2 1 (by omega) (by omega) w
  have HE3 : Hid (∀ w, Calls Try.prog 19 #[.int .i64 (-5), .int .i64 (-5)] w fun e w' => e = .returned (.int .i64 2) ∧ w = w') := Lib.hid fun w => menough_any (-5) (-5) (by omega) (by omega) w
  have HE4 : Hid (∀ w, Calls Try.prog 19 #[.int .i64 1000, .int .i64 1000] w fun e w' => e = .returned (.int .i64 1099511627776) ∧ w = w') := Lib.hid fun w => by
    have h := menough_any 1000 1000 (by omega) (by omega) w
    rw [show enoughM (1000 : Int).toNat (1000 : Int).toNat = 1099511627776 by unfold enoughM; rw [show enoughE (((1000 : Int).toNat : Nat) : Int) = 1099511627776 from rfl]; decide] at h
    exact h
  have HE5 : Hid (∀ w, Calls Try.prog 20 #[.int .i64 0] w fun e w' => e = .returned (.int .i64 2) ∧ w = w') := Lib.hid fun w => renough_any 0 (by omega) w
  go_enter Try.func7, Try.ntmps7
  have HD1 := Lib.hid (HC1.out w)
  clear HC1
  go_upto_region 2 with (first
    | (go_at_call 12; (with_reducible refine HD1.out.mono ?_); rintro e w1 ⟨hb1, a1, c1, s1, hs1, rfl, hi1⟩)
    | fail)
  have HB1 := Lib.hid hb1
  clear hi1
  skip
  clear HD1 hb1
  clear hs1
  have HD2 := Lib.hid (HC2.out w1)
  clear HC2
  go_upto_region 3 with (first
    | (go_at_call 12; (with_reducible refine HD2.out.mono ?_); rintro e w2 ⟨hb2, a2, c2, s2, hs2, rfl, hi2⟩)
    | fail)
  have HB2 := Lib.hid (bel_trans HB1.out hb2)
  clear hi2
  skip
  clear HD2 hb2
  clear hs2
  have HD3 := Lib.hid (HC3.out w2)
  clear HC3
  go_upto_region 4 with (first
    | (go_at_call 12; (with_reducible refine HD3.out.mono ?_); rintro e w3 ⟨hb3, a3, c3, s3, hs3, rfl, hi3⟩)
    | fail)
  have HB3 := Lib.hid (bel_trans HB2.out hb3)
  clear hi3
  skip
  clear HD3 hb3
  clear hs3
  have HD4 := Lib.hid (HC4.out w3)
  clear HC4
  go_upto_region 5 with (first
    | (go_at_call 12; (with_reducible refine HD4.out.mono ?_); rintro e w4 ⟨hb4, a4, c4, s4, hs4, rfl, hi4⟩)
    | fail)
  have HB4 := Lib.hid (bel_trans HB3.out hb4)
  clear hi4
  skip
  clear HD4 hb4
  clear hs4
  have HD5 := Lib.hid (HC5.out w4)
  clear HC5
  go_upto_region 6 with (first
    | (go_at_call 12; (with_reducible refine HD5.out.mono ?_); rintro e w5 ⟨hb5, a5, c5, s5, hs5, rfl, hi5⟩)
    | fail)
  have HB5 := Lib.hid (bel_trans HB4.out hb5)
  clear hi5
  skip
  clear HD5 hb5
  clear hs5
  have HD6 := Lib.hid (HC6.out w5)
  clear HC6
  go_upto_region 7 with (first
    | (go_at_call 12; (with_reducible refine HD6.out.mono ?_); rintro e w6 ⟨hb6, a6, c6, s6, hs6, rfl, hi6⟩)
    | fail)
  have HB6 := Lib.hid (bel_trans HB5.out hb6)
  clear hi6
  skip
  clear HD6 hb6
  have HD7 := Lib.hid (HC7.out w6)
  clear HC7
  go_upto_region 8 with (first
    | (go_at_call 12; (with_reducible refine HD7.out.mono ?_); rintro e w7 ⟨hb7, a7, c7, s7, hs7, rfl, hi7⟩)
    | fail)
  have HB7 := Lib.hid (bel_trans HB6.out hb7)
  have HI7 := Lib.hid hi7
  skip
  clear HD7 hb7 hi7
  clear hs7
  have HD8 := Lib.hid (HC8.out w7)
  clear HC8
  go_upto_region 9 with (first
    | (go_at_call 12; (with_reducible refine HD8.out.mono ?_); rintro e w8 ⟨hb8, a8, c8, s8, hs8, rfl, hi8⟩)
    | fail)
  have HB8 := Lib.hid (bel_trans HB7.out hb8)
  have HI8 := Lib.hid hi8
  have HX8 := Lib.hid hb8
  clear HD8 hb8 hi8
  have HD9 := Lib.hid (HC9.out w8)
  clear HC9
  go_upto_region 10 with (first
    | (go_at_call 12; (with_reducible refine HD9.out.mono ?_); rintro e w9 ⟨hb9, a9, c9, s9, hs9, rfl, hi9⟩)
    | fail)
  have HB9 := Lib.hid (bel_trans HB8.out hb9)
  clear hi9
  have HX9 := Lib.hid hb9
  clear HD9 hb9
  clear hs9
  have hsx : decide (0 ≤ s6) = true := by simpa using hs6
  have hsy : decide (0 < s8) = true := by simp; omega
  have HN1 : Hid (∀ w', Below w9.heap.size w9 w' → Calls Try.prog 14 #[.slice a7 1 c7, .slice (some ⟨w'.heap.size, 0, none⟩) 1 1] (w'.alloc (.cells #[.int .i64 1] 3)) fun e w'' => e = .returned (.bool true) ∧ Below w'.heap.size w' w'') := Lib.hid fun w' hb => num_at (l := [1]) HI7.out (bel_trans HX8.out (bel_trans HX9.out hb)) (by decide) [1]
  have HN2 : Hid (∀ w', Below w9.heap.size w9 w' → Calls Try.prog 14 #[.slice a8 3 c8, .slice (some ⟨w'.heap.size, 0, none⟩) 3 3] (w'.alloc (.cells #[.int .i64 0, .int .i64 1, .int .i64 2] 3)) fun e w'' => e = .returned (.bool true) ∧ Below w'.heap.size w' w'') := Lib.hid fun w' hb => num_at (l := [0, 1, 2]) HI8.out (bel_trans HX9.out hb) (by decide) [0, 1, 2]
  clear hs6 hs8 HI7 HI8 HX8 HX9
  go_wp2_with (first
    | (go_at_call 14; (with_reducible refine (HN1.out _ (Below.refl _ _)).mono ?_); rintro e wa ⟨rfl, hba⟩)
    | (go_at_call 14; (with_reducible refine (HN2.out _ hba).mono ?_); rintro e wb ⟨rfl, hbb⟩; have hbab := bel_trans hba hbb)
    | (go_at_call 19; (with_reducible refine (HE1.out _).mono ?_); rintro e wc ⟨rfl, rfl⟩)
    | (go_at_call 19; (with_reducible refine (HE2.out _).mono ?_); rintro e wc ⟨rfl, rfl⟩)
    | (go_at_call 19; (with_reducible refine (HE3.out _).mono ?_); rintro e wc ⟨rfl, rfl⟩)
    | (go_at_call 19; (with_reducible refine (HE4.out _).mono ?_); rintro e wc ⟨rfl, rfl⟩)
    | (go_at_call 20; (with_reducible refine (HE5.out _).mono ?_); rintro e wc ⟨rfl, rfl⟩)
    | (go_at_call 10; (with_reducible refine (awake_any _).mono ?_); rintro e wd ⟨rfl, hbd⟩)
    | fail)
  go_ret
  exact ⟨rfl, bel_trans HB9.out (bel_trans hbab hbd)⟩

end Go.Proofs.Ythinopiobihmaaa
