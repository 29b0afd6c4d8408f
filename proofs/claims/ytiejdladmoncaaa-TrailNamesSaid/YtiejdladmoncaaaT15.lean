/- TrailNames: the walk. -/
import Derived.Test.YtiejdladmoncaaaT14
namespace Go.Proofs.Ytiejdladmoncaaa
open Go.ChangeShapes Go.WideShapes Go.ChangeAt Go.RowKit
set_option maxRecDepth 100000

theorem at_nil (i : Int) (w : World) : Calls Try.prog 13 #[.pointer none, .int .i64 i] w fun e w' => e = .returned (.int .i64 0) ∧ w = w' := by
  have HL := Lib.hid (len_nil w)
  go_enter Try.func13, Try.ntmps13
  by_cases hi : i < 0
  · go_wp2_with (go_at_call 12; refine HL.out.mono ?_; rintro e w' ⟨rfl, rfl⟩)
    go_ret
    exact ⟨rfl, rfl⟩
  · have hi' : decide (i < 0) = false := by simpa using hi
    have hi2 : decide ((0 : Int) ≤ i) = true := by simp; omega
    go_wp2_with (go_at_call 12; refine HL.out.mono ?_; rintro e w' ⟨rfl, rfl⟩)
    go_ret
    exact ⟨rfl, rfl⟩
theorem levelOf_nil (v : Int) (w : World) : Calls Try.prog 11 #[.pointer none, .int .i64 v] w fun e w' => e = .returned (.int .i64 (-1)) ∧ Below w.heap.size w w' := by
  have HO := Lib.hid (of_nil v w)
  have hfd := fun W => (field_kn 0 (-1) (-1) W).1
  go_enter Try.func11, Try.ntmps11
  go_wp2_with (go_at_call 30; refine HO.out.mono ?_; rintro e w1 ⟨rfl, hB⟩; simp only [Kn.agg])
  go_ret
  exact ⟨rfl, hB⟩
theorem reason_nil (v : Int) (w : World) : Calls Try.prog 14 #[.pointer none, .int .i64 v] w fun e w' => e = .returned (.int .i64 (-1)) ∧ Below w.heap.size w w' := by
  have HO := Lib.hid (of_nil v w)
  have hfd := fun W => (field_kn 0 (-1) (-1) W).2.1
  go_enter Try.func14, Try.ntmps14
  go_wp2_with (go_at_call 30; refine HO.out.mono ?_; rintro e w1 ⟨rfl, hB⟩; simp only [Kn.agg])
  go_ret
  exact ⟨rfl, hB⟩

def n1 : En := ⟨-3, 0, 9⟩
def n2 : En := ⟨1, 1, -1⟩
def n3 : En := ⟨2, 2, -1⟩
def n4 : En := ⟨-2, 2, -1⟩
theorem gn1 : Good 3 [n1] := by
  have h := asnC_good (n := 3) (-3) 9 good0
  have e : asnC 3 [] (-3) 9 = (0, [n1]) := by kernel_rfl
  rwa [e] at h
theorem gn2 : Good 3 [n2, n1] := by
  have h := decC_good (n := 3) 1 gn1
  have e : decC 3 [n1] 1 = (0, [n2, n1]) := by kernel_rfl
  rwa [e] at h
theorem gn3 : Good 3 [n3, n2, n1] := by
  have h := decC_good (n := 3) 2 gn2
  have e : decC 3 [n2, n1] 2 = (0, [n3, n2, n1]) := by kernel_rfl
  rwa [e] at h
theorem gn4 : Good 3 [n4, n2, n1] := by
  have h := decC_good (n := 3) (-2) gn2
  have e : decC 3 [n2, n1] (-2) = (0, [n4, n2, n1]) := by kernel_rfl
  rwa [e] at h

set_option maxHeartbeats 2000000 in
theorem names_walk (w : World) : Calls Try.prog 6 #[] w fun e w' => e = .returned (.bool true) ∧ Below w.heap.size w w' := by
  go_enter Try.func6, Try.ntmps6
  go_wp2_with (first
    | (go_at_call 8; refine (works_any w).mono ?_; rintro e u1 ⟨rfl, b1⟩)
    | (go_at_call 18; (with_reducible refine (decide_nil 1 _).mono ?_); rintro e w' ⟨rfl, rfl⟩)
    | (go_at_call 17; (with_reducible refine (assign_nil 1 0 _).mono ?_); rintro e w' ⟨rfl, rfl⟩)
    | (go_at_call 21; (with_reducible refine (back_nil 0 _).mono ?_); rintro e w' ⟨rfl, rfl⟩)
    | (go_at_call 10; (with_reducible refine (value_nil 1 _).mono ?_); rintro e w' ⟨rfl, rfl⟩)
    | (go_at_call 15; (with_reducible refine (level_nil _).mono ?_); rintro e w' ⟨rfl, rfl⟩)
    | (go_at_call 22; (with_reducible refine (vars_nil _).mono ?_); rintro e w' ⟨rfl, rfl⟩)
    | (go_at_call 12; (with_reducible refine (len_nil _).mono ?_); rintro e w' ⟨rfl, rfl⟩)
    | (go_at_call 13; (with_reducible refine (at_nil 0 _).mono ?_); rintro e w' ⟨rfl, rfl⟩)
    | (go_at_call 11; (with_reducible refine (levelOf_nil 0 _).mono ?_); rintro e u2 ⟨rfl, b2⟩)
    | (go_at_call 14; (with_reducible refine (reason_nil 0 _).mono ?_); rintro e u3 ⟨rfl, b3⟩)
    | (go_at_call 16; (with_reducible refine (copy_nil _).mono ?_); rintro e w' ⟨rfl, rfl⟩; have h0 := Trails.none (bel_trans (bel_trans b1 b2) b3))
    | (go_at_call 23; (with_reducible refine (new_bad (-1) _ (by omega)).mono ?_); rintro e w' ⟨rfl, rfl⟩)
    | (go_at_call 23; (with_reducible refine (new_bad 2097153 _ (by omega)).mono ?_); rintro e w' ⟨rfl, rfl⟩)
    | (go_at_call 23; (with_reducible refine (new_eq (n := 3) h0 (by omega) 3 (by kernel_rfl)).mono ?_); rintro e w1 ⟨g, rfl, h1, _⟩)
    | (go_at_call 18; (with_reducible refine (decide_eq' (g := g) (n := 3) (es := []) h1 0 (by kernel_rfl) good0 (by omega) 0 (by unfold I64; omega) 1 [] (by kernel_rfl)).mono ?_); rintro e w2 ⟨rfl, h2, _⟩)
    | (go_at_call 18; (with_reducible refine (decide_eq' (g := g) (n := 3) (es := []) h2 0 (by kernel_rfl) good0 (by omega) 4 (by unfold I64; omega) 1 [] (by kernel_rfl)).mono ?_); rintro e w3 ⟨rfl, h3, _⟩)
    | (go_at_call 18; (with_reducible refine (decide_eq' (g := g) (n := 3) (es := []) h3 0 (by kernel_rfl) good0 (by omega) (-4) (by unfold I64; omega) 1 [] (by kernel_rfl)).mono ?_); rintro e w4 ⟨rfl, h4, _⟩)
    | (go_at_call 17; (with_reducible refine (assign_eq' (g := g) (n := 3) (es := []) h4 0 (by kernel_rfl) good0 (by omega) (-9223372036854775808) 0 (by unfold I64; omega) 1 [] (by kernel_rfl)).mono ?_); rintro e w5 ⟨rfl, h5, _⟩)
    | (go_at_call 17; (with_reducible refine (assign_eq' (g := g) (n := 3) (es := []) h5 0 (by kernel_rfl) good0 (by omega) 9223372036854775807 0 (by unfold I64; omega) 1 [] (by kernel_rfl)).mono ?_); rintro e w6 ⟨rfl, h6, _⟩)
    | (go_at_call 17; (with_reducible refine (assign_eq' (g := g) (n := 3) (es := []) h6 0 (by kernel_rfl) good0 (by omega) 1 (-1) (by unfold I64; omega) 1 [] (by kernel_rfl)).mono ?_); rintro e w7 ⟨rfl, h7, _⟩)
    | (go_at_call 10; (with_reducible refine (value_eq (g := g) (n := 3) (es := []) h7 0 (by kernel_rfl) (by omega) (-9223372036854775808) (by unfold I64; omega) 0 (by kernel_rfl)).mono ?_); rintro e w' ⟨rfl, rfl⟩)
    | (go_at_call 21; (with_reducible refine (back_eq' (g := g) (n := 3) (es := []) h7 0 (by kernel_rfl) good0 (by omega) 1 (by unfold I64; omega) 1 [] (by kernel_rfl)).mono ?_); rintro e w8 ⟨rfl, h8, _⟩)
    | (go_at_call 21; (with_reducible refine (back_eq' (g := g) (n := 3) (es := []) h8 0 (by kernel_rfl) good0 (by omega) (-1) (by unfold I64; omega) 1 [] (by kernel_rfl)).mono ?_); rintro e w9 ⟨rfl, h9, _⟩)
    | (go_at_call 17; (with_reducible refine (assign_eq' (g := g) (n := 3) (es := []) h9 0 (by kernel_rfl) good0 (by omega) (-3) 9 (by unfold I64; omega) 0 [n1] (by kernel_rfl)).mono ?_); rintro e w10 ⟨rfl, h10, _⟩)
    | (go_at_call 11; (with_reducible refine (levelOf_eq (g := g) (n := 3) (es := [n1]) h10 0 (by kernel_rfl) (by omega) 2 0 (by kernel_rfl)).mono ?_); rintro e w11 ⟨rfl, _, h11⟩)
    | (go_at_call 18; (with_reducible refine (decide_eq' (g := g) (n := 3) (es := [n1]) h11 0 (by kernel_rfl) gn1 (by omega) 1 (by unfold I64; omega) 0 [n2, n1] (by kernel_rfl)).mono ?_); rintro e w12 ⟨rfl, h12, _⟩)
    | (go_at_call 17; (with_reducible refine (assign_eq' (g := g) (n := 3) (es := [n2, n1]) h12 0 (by kernel_rfl) gn2 (by omega) 3 1 (by unfold I64; omega) 7 [n2, n1] (by kernel_rfl)).mono ?_); rintro e w13 ⟨rfl, h13, _⟩)
    | (go_at_call 17; (with_reducible refine (assign_eq' (g := g) (n := 3) (es := [n2, n1]) h13 0 (by kernel_rfl) gn2 (by omega) (-1) 1 (by unfold I64; omega) 7 [n2, n1] (by kernel_rfl)).mono ?_); rintro e w14 ⟨rfl, h14, _⟩)
    | (go_at_call 18; (with_reducible refine (decide_eq' (g := g) (n := 3) (es := [n2, n1]) h14 0 (by kernel_rfl) gn2 (by omega) 2 (by unfold I64; omega) 0 [n3, n2, n1] (by kernel_rfl)).mono ?_); rintro e w15 ⟨rfl, h15, _⟩)
    | (go_at_call 15; (with_reducible refine (level_eq (g := g) (n := 3) (es := [n3, n2, n1]) h15 0 (by kernel_rfl) gn3 2 (by kernel_rfl)).mono ?_); rintro e w' ⟨rfl, rfl⟩)
    | (go_at_call 14; (with_reducible refine (reason_eq (g := g) (n := 3) (es := [n3, n2, n1]) h15 0 (by kernel_rfl) (by omega) 1 (-1) (by kernel_rfl)).mono ?_); rintro e w16 ⟨rfl, _, h16⟩)
    | (go_at_call 11; (with_reducible refine (levelOf_eq (g := g) (n := 3) (es := [n3, n2, n1]) h16 0 (by kernel_rfl) (by omega) 1 2 (by kernel_rfl)).mono ?_); rintro e w17 ⟨rfl, _, h17⟩)
    | (go_at_call 16; (with_reducible refine (copy_tr (g := g) (n := 3) (es := [n3, n2, n1]) h17 0 (by kernel_rfl) gn3 (by omega)).mono ?_); rintro e w18 ⟨g2, rfl, h18, _⟩)
    | (go_at_call 21; (with_reducible refine (back_eq' (g := g) (n := 3) (es := [n3, n2, n1]) h18 0 (by kernel_rfl) gn3 (by omega) 1 (by unfold I64; omega) 0 [n2, n1] (by kernel_rfl)).mono ?_); rintro e w19 ⟨rfl, h19, _⟩)
    | (go_at_call 12; (with_reducible refine (len_eq (g := g) (n := 3) (es := [n2, n1]) h19 0 (by kernel_rfl) 2 (by kernel_rfl)).mono ?_); rintro e w' ⟨rfl, rfl⟩)
    | (go_at_call 13; (with_reducible refine (at_eq (g := g) (n := 3) (es := [n2, n1]) h19 0 (by kernel_rfl) 1 1 (by kernel_rfl)).mono ?_); rintro e w' ⟨rfl, rfl⟩)
    | (go_at_call 10; (with_reducible refine (value_eq (g := g) (n := 3) (es := [n2, n1]) h19 0 (by kernel_rfl) (by omega) 2 (by unfold I64; omega) 0 (by kernel_rfl)).mono ?_); rintro e w' ⟨rfl, rfl⟩)
    | (go_at_call 12; (with_reducible refine (len_eq (g := g2) (n := 3) (es := [n3, n2, n1]) h19 1 (by kernel_rfl) 3 (by kernel_rfl)).mono ?_); rintro e w' ⟨rfl, rfl⟩)
    | (go_at_call 10; (with_reducible refine (value_eq (g := g2) (n := 3) (es := [n3, n2, n1]) h19 1 (by kernel_rfl) (by omega) 2 (by unfold I64; omega) 1 (by kernel_rfl)).mono ?_); rintro e w' ⟨rfl, rfl⟩)
    | (go_at_call 18; (with_reducible refine (decide_eq' (g := g) (n := 3) (es := [n2, n1]) h19 0 (by kernel_rfl) gn2 (by omega) (-2) (by unfold I64; omega) 0 [n4, n2, n1] (by kernel_rfl)).mono ?_); rintro e w20 ⟨rfl, h20, _⟩)
    | (go_at_call 10; (with_reducible refine (value_eq (g := g2) (n := 3) (es := [n3, n2, n1]) h20 1 (by kernel_rfl) (by omega) 2 (by unfold I64; omega) 1 (by kernel_rfl)).mono ?_); rintro e w' ⟨rfl, rfl⟩)
    | (go_at_call 21; (with_reducible refine (back_eq' (g := g) (n := 3) (es := [n4, n2, n1]) h20 0 (by kernel_rfl) gn4 (by omega) 0 (by unfold I64; omega) 0 [n1] (by kernel_rfl)).mono ?_); rintro e w21 ⟨rfl, h21, _⟩)
    | (go_at_call 12; (with_reducible refine (len_eq (g := g) (n := 3) (es := [n1]) h21 0 (by kernel_rfl) 1 (by kernel_rfl)).mono ?_); rintro e w' ⟨rfl, rfl⟩)
    | (go_at_call 10; (with_reducible refine (value_eq (g := g) (n := 3) (es := [n1]) h21 0 (by kernel_rfl) (by omega) (-3) (by unfold I64; omega) 1 (by kernel_rfl)).mono ?_); rintro e w' ⟨rfl, rfl⟩)
    | (go_at_call 10; (with_reducible refine (value_eq (g := g) (n := 3) (es := [n1]) h21 0 (by kernel_rfl) (by omega) 3 (by unfold I64; omega) (-1) (by kernel_rfl)).mono ?_); rintro e w' ⟨rfl, rfl⟩))
  go_ret
  exact ⟨rfl, h21.bel⟩

end Go.Proofs.Ytiejdladmoncaaa
