/- The law's examples: works. -/
import Derived.Test.YtnachllhjojlcaaT13
namespace Go.Proofs.Ytnachllhjojlcaa
open Go.ChangeShapes Go.WideShapes Go.ChangeAt Go.RowKit
set_option maxRecDepth 100000

section
variable {w0 w : World} {X : Nat → Prop} {L : List (Nat × TrD)} {g n : Nat} {es : List En}

/-- i64's numbers. -/
def I64 (x : Int) : Prop := -9223372036854775808 ≤ x ∧ x ≤ 9223372036854775807

theorem value_eq (h : Trails w0 w X L) (i : Nat) (hL : L[i]? = some (g, trE n es)) (hn : n ≤ 5000) (x : Int) (hx : I64 x) (v : Int) (hv : valE n es x = v) :
    Calls Try.prog 46 #[.pointer (some ⟨g, 0, none⟩), .int .i64 x] w fun e w' => e = .returned (.int .i64 v) ∧ w = w' := hv ▸ value_tr h i hL hn x hx.1 hx.2
theorem levelOf_eq (h : Trails w0 w X L) (i : Nat) (hL : L[i]? = some (g, trE n es)) (hn : n ≤ 5000) (v : Int) (x : Int) (hv : (ofE n es v).level = x) :
    Calls Try.prog 68 #[.pointer (some ⟨g, 0, none⟩), .int .i64 v] w fun e w' => e = .returned (.int .i64 x) ∧ Below w.heap.size w w' ∧ Trails w0 w' X L := by
  refine (levelOf_tr h i hL hn v).mono ?_
  rintro e w' ⟨rfl, hb⟩
  exact ⟨by rw [hv], hb, h.below hb⟩
theorem reason_eq (h : Trails w0 w X L) (i : Nat) (hL : L[i]? = some (g, trE n es)) (hn : n ≤ 5000) (v : Int) (x : Int) (hv : (ofE n es v).reason = x) :
    Calls Try.prog 57 #[.pointer (some ⟨g, 0, none⟩), .int .i64 v] w fun e w' => e = .returned (.int .i64 x) ∧ Below w.heap.size w w' ∧ Trails w0 w' X L := by
  refine (reason_tr h i hL hn v).mono ?_
  rintro e w' ⟨rfl, hb⟩
  exact ⟨by rw [hv], hb, h.below hb⟩
theorem level_eq (h : Trails w0 w X L) (i : Nat) (hL : L[i]? = some (g, trE n es)) (hg : Good n es) (x : Int) (hx : hi es = x) :
    Calls Try.prog 51 #[.pointer (some ⟨g, 0, none⟩)] w fun e w' => e = .returned (.int .i64 x) ∧ w = w' := hx ▸ level_tr h i hL hg
theorem len_eq (h : Trails w0 w X L) (i : Nat) (hL : L[i]? = some (g, trE n es)) (x : Int) (hx : (es.length : Int) = x) :
    Calls Try.prog 32 #[.pointer (some ⟨g, 0, none⟩)] w fun e w' => e = .returned (.int .i64 x) ∧ w = w' := hx ▸ len_tr h i hL
theorem at_eq (h : Trails w0 w X L) (i : Nat) (hL : L[i]? = some (g, trE n es)) (j : Int) (x : Int) (hx : atE es j = x) :
    Calls Try.prog 45 #[.pointer (some ⟨g, 0, none⟩), .int .i64 j] w fun e w' => e = .returned (.int .i64 x) ∧ w = w' := hx ▸ at_tr h i hL j
theorem decide_eq' (h : Trails w0 w X L) (i : Nat) (hL : L[i]? = some (g, trE n es)) (hg : Good n es) (hn : n ≤ 5000) (x : Int) (hx : I64 x) (c : Int) (es' : List En) (hc : decC n es x = (c, es')) :
    Calls Try.prog 33 #[.pointer (some ⟨g, 0, none⟩), .int .i64 x] w fun e w' => e = .returned (.int .i64 c) ∧ Trails w0 w' X (L.set i (g, trE n es')) ∧ Touch (fun k => ¬ X k) w w' := by
  have := decide_tr h i hL hg hn x hx.1 hx.2
  rwa [hc] at this
theorem assign_eq' (h : Trails w0 w X L) (i : Nat) (hL : L[i]? = some (g, trE n es)) (hg : Good n es) (hn : n ≤ 5000) (x r : Int) (hx : I64 x) (c : Int) (es' : List En) (hc : asnC n es x r = (c, es')) :
    Calls Try.prog 63 #[.pointer (some ⟨g, 0, none⟩), .int .i64 x, .int .i64 r] w fun e w' => e = .returned (.int .i64 c) ∧ Trails w0 w' X (L.set i (g, trE n es')) ∧ Touch (fun k => ¬ X k) w w' := by
  have := assign_tr h i hL hg hn x r hx.1 hx.2
  rwa [hc] at this
theorem back_eq' (h : Trails w0 w X L) (i : Nat) (hL : L[i]? = some (g, trE n es)) (hg : Good n es) (hn : n ≤ 5000) (x : Int) (hx : I64 x) (c : Int) (es' : List En) (hc : backC es x = (c, es')) :
    Calls Try.prog 34 #[.pointer (some ⟨g, 0, none⟩), .int .i64 x] w fun e w' => e = .returned (.int .i64 c) ∧ Trails w0 w' X (L.set i (g, trE n es')) ∧ Touch (fun k => ¬ X k) w w' := by
  have := back_tr h i hL hg hn x hx.1 hx.2
  rwa [hc] at this
theorem new_eq (h : Trails w0 w X L) (hn : n ≤ 5000) (x : Int) (hx : (n : Int) = x) :
    Calls Try.prog 37 #[.int .i64 x] w fun e w' => ∃ g, e = .returned (.tuple #[.pointer (some ⟨g, 0, none⟩), .int .i64 0]) ∧ Trails w0 w' X (L ++ [(g, trE n [])]) ∧ Below w.heap.size w w' := hx ▸ new_tr h hn
end

theorem good0 {n : Nat} : Good n [] := trivial

end Go.Proofs.Ytnachllhjojlcaa
