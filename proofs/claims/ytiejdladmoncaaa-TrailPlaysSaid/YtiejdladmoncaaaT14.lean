/- The law's examples: works. -/
import Derived.Test.YtiejdladmoncaaaT13
namespace Go.Proofs.Ytiejdladmoncaaa
open Go.ChangeShapes Go.WideShapes Go.ChangeAt Go.RowKit
set_option maxRecDepth 100000

section
variable {w0 w : World} {X : Nat → Prop} {L : List (Nat × TrD)} {g n : Nat} {es : List En}

/-- i64's numbers. -/
def I64 (x : Int) : Prop := -9223372036854775808 ≤ x ∧ x ≤ 9223372036854775807

theorem value_eq (h : Trails w0 w X L) (i : Nat) (hL : L[i]? = some (g, trE n es)) (hn : n ≤ 5000) (x : Int) (hx : I64 x) (v : Int) (hv : valE n es x = v) :
    Calls Try.prog 10 #[.pointer (some ⟨g, 0, none⟩), .int .i64 x] w fun e w' => e = .returned (.int .i64 v) ∧ w = w' := hv ▸ value_tr h i hL hn x hx.1 hx.2
theorem levelOf_eq (h : Trails w0 w X L) (i : Nat) (hL : L[i]? = some (g, trE n es)) (hn : n ≤ 5000) (v : Int) (x : Int) (hv : (ofE n es v).level = x) :
    Calls Try.prog 11 #[.pointer (some ⟨g, 0, none⟩), .int .i64 v] w fun e w' => e = .returned (.int .i64 x) ∧ Below w.heap.size w w' ∧ Trails w0 w' X L := by
  refine (levelOf_tr h i hL hn v).mono ?_
  rintro e w' ⟨rfl, hb⟩
  exact ⟨by rw [hv], hb, h.below hb⟩
theorem reason_eq (h : Trails w0 w X L) (i : Nat) (hL : L[i]? = some (g, trE n es)) (hn : n ≤ 5000) (v : Int) (x : Int) (hv : (ofE n es v).reason = x) :
    Calls Try.prog 14 #[.pointer (some ⟨g, 0, none⟩), .int .i64 v] w fun e w' => e = .returned (.int .i64 x) ∧ Below w.heap.size w w' ∧ Trails w0 w' X L := by
  refine (reason_tr h i hL hn v).mono ?_
  rintro e w' ⟨rfl, hb⟩
  exact ⟨by rw [hv], hb, h.below hb⟩
theorem level_eq (h : Trails w0 w X L) (i : Nat) (hL : L[i]? = some (g, trE n es)) (hg : Good n es) (x : Int) (hx : hi es = x) :
    Calls Try.prog 15 #[.pointer (some ⟨g, 0, none⟩)] w fun e w' => e = .returned (.int .i64 x) ∧ w = w' := hx ▸ level_tr h i hL hg
theorem len_eq (h : Trails w0 w X L) (i : Nat) (hL : L[i]? = some (g, trE n es)) (x : Int) (hx : (es.length : Int) = x) :
    Calls Try.prog 12 #[.pointer (some ⟨g, 0, none⟩)] w fun e w' => e = .returned (.int .i64 x) ∧ w = w' := hx ▸ len_tr h i hL
theorem at_eq (h : Trails w0 w X L) (i : Nat) (hL : L[i]? = some (g, trE n es)) (j : Int) (x : Int) (hx : atE es j = x) :
    Calls Try.prog 13 #[.pointer (some ⟨g, 0, none⟩), .int .i64 j] w fun e w' => e = .returned (.int .i64 x) ∧ w = w' := hx ▸ at_tr h i hL j
theorem decide_eq' (h : Trails w0 w X L) (i : Nat) (hL : L[i]? = some (g, trE n es)) (hg : Good n es) (hn : n ≤ 5000) (x : Int) (hx : I64 x) (c : Int) (es' : List En) (hc : decC n es x = (c, es')) :
    Calls Try.prog 18 #[.pointer (some ⟨g, 0, none⟩), .int .i64 x] w fun e w' => e = .returned (.int .i64 c) ∧ Trails w0 w' X (L.set i (g, trE n es')) ∧ Touch (fun k => ¬ X k) w w' := by
  have := decide_tr h i hL hg hn x hx.1 hx.2
  rwa [hc] at this
theorem assign_eq' (h : Trails w0 w X L) (i : Nat) (hL : L[i]? = some (g, trE n es)) (hg : Good n es) (hn : n ≤ 5000) (x r : Int) (hx : I64 x) (c : Int) (es' : List En) (hc : asnC n es x r = (c, es')) :
    Calls Try.prog 17 #[.pointer (some ⟨g, 0, none⟩), .int .i64 x, .int .i64 r] w fun e w' => e = .returned (.int .i64 c) ∧ Trails w0 w' X (L.set i (g, trE n es')) ∧ Touch (fun k => ¬ X k) w w' := by
  have := assign_tr h i hL hg hn x r hx.1 hx.2
  rwa [hc] at this
theorem back_eq' (h : Trails w0 w X L) (i : Nat) (hL : L[i]? = some (g, trE n es)) (hg : Good n es) (hn : n ≤ 5000) (x : Int) (hx : I64 x) (c : Int) (es' : List En) (hc : backC es x = (c, es')) :
    Calls Try.prog 21 #[.pointer (some ⟨g, 0, none⟩), .int .i64 x] w fun e w' => e = .returned (.int .i64 c) ∧ Trails w0 w' X (L.set i (g, trE n es')) ∧ Touch (fun k => ¬ X k) w w' := by
  have := back_tr h i hL hg hn x hx.1 hx.2
  rwa [hc] at this
theorem new_eq (h : Trails w0 w X L) (hn : n ≤ 5000) (x : Int) (hx : (n : Int) = x) :
    Calls Try.prog 23 #[.int .i64 x] w fun e w' => ∃ g, e = .returned (.tuple #[.pointer (some ⟨g, 0, none⟩), .int .i64 0]) ∧ Trails w0 w' X (L ++ [(g, trE n [])]) ∧ Below w.heap.size w w' := hx ▸ new_tr h hn
end

theorem good0 {n : Nat} : Good n [] := trivial
def e1 : En := ⟨1, 1, -1⟩
def e2 : En := ⟨-2, 1, 7⟩
theorem good1 : Good 2 [e1] := by
  have h := decC_good (n := 2) (es := []) 1 trivial
  have e : decC 2 [] 1 = (0, [e1]) := by kernel_rfl
  rwa [e] at h
theorem good2 : Good 2 [e2, e1] := by
  have h := asnC_good (-2) 7 good1
  have e : asnC 2 [e1] (-2) 7 = (0, [e2, e1]) := by kernel_rfl
  rwa [e] at h

theorem works_any (w : World) : Calls Try.prog 8 #[] w fun e w' => e = .returned (.bool true) ∧ Below w.heap.size w w' := by
  have h0 := Trails.none (Below.refl w.heap.size w)
  go_enter Try.func8, Try.ntmps8
  go_wp2_with (first
    | (go_at_call 23; (with_reducible refine (new_eq (n := 2) h0 (by omega) 2 (by kernel_rfl)).mono ?_); rintro e w1 ⟨g, rfl, h1, hb1⟩)
    | (go_at_call 18; (with_reducible refine (decide_eq' (g := g) (n := 2) (es := []) h1 0 (by kernel_rfl) good0 (by omega) 1 (by unfold I64; omega) 0 [e1] (by kernel_rfl)).mono ?_); rintro e w2 ⟨rfl, h2, _⟩)
    | (go_at_call 15; (with_reducible refine (level_eq (g := g) (n := 2) (es := [e1]) h2 0 (by kernel_rfl) good1 1 (by kernel_rfl)).mono ?_); rintro e w2' ⟨rfl, rfl⟩)
    | (go_at_call 10; (with_reducible refine (value_eq (g := g) (n := 2) (es := [e1]) h2 0 (by kernel_rfl) (by omega) 1 (by unfold I64; omega) 1 (by kernel_rfl)).mono ?_); rintro e w2' ⟨rfl, rfl⟩)
    | (go_at_call 10; (with_reducible refine (value_eq (g := g) (n := 2) (es := [e1]) h2 0 (by kernel_rfl) (by omega) (-1) (by unfold I64; omega) (-1) (by kernel_rfl)).mono ?_); rintro e w2' ⟨rfl, rfl⟩)
    | (go_at_call 17; (with_reducible refine (assign_eq' (g := g) (n := 2) (es := [e1]) h2 0 (by kernel_rfl) good1 (by omega) (-2) 7 (by unfold I64; omega) 0 [e2, e1] (by kernel_rfl)).mono ?_); rintro e w3 ⟨rfl, h3, _⟩)
    | (go_at_call 14; (with_reducible refine (reason_eq (g := g) (n := 2) (es := [e2, e1]) h3 0 (by kernel_rfl) (by omega) 1 7 (by kernel_rfl)).mono ?_); rintro e w4 ⟨rfl, _, h4⟩)
    | (go_at_call 11; (with_reducible refine (levelOf_eq (g := g) (n := 2) (es := [e2, e1]) h4 0 (by kernel_rfl) (by omega) 1 1 (by kernel_rfl)).mono ?_); rintro e w5 ⟨rfl, _, h5⟩)
    | (go_at_call 18; (with_reducible refine (decide_eq' (g := g) (n := 2) (es := [e2, e1]) h5 0 (by kernel_rfl) good2 (by omega) 1 (by unfold I64; omega) 7 [e2, e1] (by kernel_rfl)).mono ?_); rintro e w6 ⟨rfl, h6, _⟩)
    | (go_at_call 21; (with_reducible refine (back_eq' (g := g) (n := 2) (es := [e2, e1]) h6 0 (by kernel_rfl) good2 (by omega) 0 (by unfold I64; omega) 0 [] (by kernel_rfl)).mono ?_); rintro e w7 ⟨rfl, h7, _⟩)
    | (go_at_call 12; (with_reducible refine (len_eq (g := g) (n := 2) (es := []) h7 0 (by kernel_rfl) 0 (by kernel_rfl)).mono ?_); rintro e w8 ⟨rfl, rfl⟩))
  go_ret
  exact ⟨rfl, h7.bel⟩

end Go.Proofs.Ytiejdladmoncaaa
