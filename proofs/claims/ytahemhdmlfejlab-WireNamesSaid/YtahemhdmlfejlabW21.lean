/- WireNames: the walk. -/
import Derived.Test.YtahemhdmlfejlabW20
namespace Go.Proofs.Ytahemhdmlfejlab
open Go.ChangeShapes Go.WideShapes Go.ChangeAt Go.RowKit
set_option maxRecDepth 100000

theorem rnumC {g : Nat} (s : ByteArray) (at_ : Nat) (e lo hi n : Int) (at2 : Nat) (e2 : Int) (h : rNum s at_ e lo hi = (n, at2, e2)) {w : World} (hb : Blk w g 56 (RB s at_ e)) (hat : at_ ≤ s.size) (hs : s.size ≤ 140737488351232) :
    Calls Try.prog 16 #[.pointer (some ⟨g, 0, none⟩), .int .i64 lo, .int .i64 hi] w fun r w' => r = .returned (.int .i64 n) ∧ Blk w' g 56 (RB s at2 e2) ∧ Touch (· = g) w w' := by
  have h1 := rnum_any g s at_ e lo hi w hb hat hs
  rwa [h] at h1
theorem rtextC {g : Nat} (s : ByteArray) (at_ : Nat) (e hi : Int) (t : ByteArray) (at2 : Nat) (e2 : Int) (h : rText s at_ e hi = (t, at2, e2)) {w : World} (hb : Blk w g 56 (RB s at_ e)) (hat : at_ ≤ s.size) (hs : s.size ≤ 140737488351232) :
    Calls Try.prog 17 #[.pointer (some ⟨g, 0, none⟩), .int .i64 hi] w fun r w' => r = .returned (.string t) ∧ Blk w' g 56 (RB s at2 e2) ∧ Touch (· = g) w w' := by
  have h1 := rtext_any g s at_ e hi w hb hat hs
  rwa [h] at h1
theorem endC {g : Nat} (s : ByteArray) (at_ : Nat) (e e2 : Int) (h : eEnd s at_ e = e2) {w : World} (hb : Blk w g 56 (RB s at_ e)) (hat : at_ ≤ s.size) (hs : s.size ≤ 140737488351232) :
    Calls Try.prog 18 #[.pointer (some ⟨g, 0, none⟩)] w fun r w' => r = .returned (.int .i64 e2) ∧ Blk w' g 56 (RB s at_ e2) ∧ Touch (· = g) w w' := by
  have h1 := end_any g s at_ e w hb hat hs
  rwa [h] at h1
theorem failC {g : Nat} (s : ByteArray) (at_ : Nat) (e p x r : Int) (at2 : Nat) (e2 : Int) (h : eFail at_ e p x = (r, at2, e2)) {w : World} (hb : Blk w g 56 (RB s at_ e)) (hat : at_ ≤ s.size) (hs : s.size ≤ 140737488351232) :
    Calls Try.prog 21 #[.pointer (some ⟨g, 0, none⟩), .int .i64 p, .int .i64 x] w fun r' w' => r' = .returned (.int .i64 r) ∧ Blk w' g 56 (RB s at2 e2) ∧ Touch (· = g) w w' := by
  have h1 := fail_any g s at_ e p x w hb hat hs
  rwa [h] at h1

/-- The bytes of the greatest number, and those with 0 behind. -/
abbrev xS : ByteArray := ⟨#[255, 255, 255, 255, 255, 255, 255, 255]⟩ ++ ⟨#[127]⟩
abbrev xT : ByteArray := ⟨#[255, 255, 255, 255, 255, 255, 255, 255, 127, 0]⟩
abbrev yS : ByteArray := ⟨#[255, 255, 255, 255, 255, 255, 255, 255, 127, 0]⟩ ++ ⟨#[7, 122]⟩

theorem wr_max {B : Nat} {w0 w : World} {g : Nat} {v : Value} (h : Wr B w g v []) (hb : Below B w0 w) (hB : B ≤ w0.heap.size) :
    Calls Try.prog 9 #[.pointer (some ⟨g, 0, none⟩), .int .i64 9223372036854775807] w fun e w' => e = .returned (.int .i64 0) ∧ ∃ v', Wr B w' g v' xS.data.toList ∧ Below B w0 w' := by
  have h1 := wr_num 9223372036854775807 h hb hB (by decide) (by decide +kernel)
  rw [show [] ++ numL 9223372036854775807 = xS.data.toList from by decide +kernel] at h1
  exact h1
theorem wr_0 {B : Nat} {w0 w : World} {g : Nat} {v : Value} (X : ByteArray) (hX : X = xT) (h : Wr B w g v xS.data.toList) (hb : Below B w0 w) (hB : B ≤ w0.heap.size) :
    Calls Try.prog 9 #[.pointer (some ⟨g, 0, none⟩), .int .i64 0] w fun e w' => e = .returned (.int .i64 0) ∧ ∃ v', Wr B w' g v' X.data.toList ∧ Below B w0 w' := by
  subst hX
  have h1 := wr_num 0 h hb hB (by decide) (by decide +kernel)
  rw [show xS.data.toList ++ numL 0 = xT.data.toList from by decide +kernel] at h1
  exact h1

set_option maxHeartbeats 1000000 in
theorem names_walk (w : World) : Calls Try.prog 6 #[] w fun r w' => r = .returned (.bool true) ∧ Below w.heap.size w w' := by
  have m9 : ∀ w, Calls Try.prog 23 #[.int .i64 9, .string ⟨#[128]⟩] w fun r w' => r = .returned (.string ⟨#[128, 128, 128, 128, 128, 128, 128, 128, 128]⟩) ∧ w = w' := fun w => by
    have h := many_any 9 ⟨#[128]⟩ w (by decide) (by decide)
    rw [show manyB ⟨#[128]⟩ 9 = ⟨#[128, 128, 128, 128, 128, 128, 128, 128, 128]⟩ from by decide +kernel] at h
    exact h
  have m8 : ∀ w, Calls Try.prog 23 #[.int .i64 8, .string ⟨#[128]⟩] w fun r w' => r = .returned (.string ⟨#[128, 128, 128, 128, 128, 128, 128, 128]⟩) ∧ w = w' := fun w => by
    have h := many_any 8 ⟨#[128]⟩ w (by decide) (by decide)
    rw [show manyB ⟨#[128]⟩ 8 = ⟨#[128, 128, 128, 128, 128, 128, 128, 128]⟩ from by decide +kernel] at h
    exact h
  have f8 : ∀ w, Calls Try.prog 23 #[.int .i64 8, .string ⟨#[255]⟩] w fun r w' => r = .returned (.string ⟨#[255, 255, 255, 255, 255, 255, 255, 255]⟩) ∧ w = w' := fun w => by
    have h := many_any 8 ⟨#[255]⟩ w (by decide) (by decide)
    rw [show manyB ⟨#[255]⟩ 8 = ⟨#[255, 255, 255, 255, 255, 255, 255, 255]⟩ from by decide +kernel] at h
    exact h
  have n1 := fun w => no_num (⟨#[128, 128, 128, 128, 128, 128, 128, 128, 128]⟩ ++ ⟨#[1]⟩) 4611686018427387904 0 20 w (by decide +kernel) (by decide +kernel) (by decide +kernel) (by decide) (by decide +kernel)
  have n2 := fun w => no_num (⟨#[128, 128, 128, 128, 128, 128, 128, 128]⟩ ++ ⟨#[0]⟩) 4611686018427387904 0 11 w (by decide +kernel) (by decide +kernel) (by decide +kernel) (by decide) (by decide +kernel)
  have n3 := fun w => no_num ⟨#[]⟩ 9 0 8 w (by decide +kernel) (by decide +kernel) (by decide +kernel) (by decide) (by decide +kernel)
  have n4 := fun w => no_text ⟨#[2, 97, 98]⟩ 1 0 20 w (by decide +kernel) (by decide +kernel) (by decide +kernel) (by decide) (by decide +kernel)
  obtain ⟨X, hX⟩ : ∃ X : ByteArray, X = xT := ⟨_, rfl⟩
  have hX1 : X.size + 2 ≤ 140737488351232 := by rw [hX]; decide +kernel
  have hX2 : X.size + (ByteArray.mk #[7, 122]).size ≤ 140737488351232 := by rw [hX]; decide +kernel
  have q0 : (X ++ ⟨#[7, 122]⟩).size ≤ 4194304 := by rw [hX]; decide +kernel
  have q1 : rNum (X ++ ⟨#[7, 122]⟩) 0 0 5 9223372036854775807 = (9223372036854775807, 9, 0) := by rw [hX]; decide +kernel
  have q2 : rNum (X ++ ⟨#[7, 122]⟩) 9 0 0 0 = (0, 10, 0) := by rw [hX]; decide +kernel
  have q3 : eFail 10 0 11 4 = (1, 10, 0) := by decide +kernel
  have q4 : eFail 10 0 3 0 = (1, 10, 0) := by decide +kernel
  have q5 : rNum (X ++ ⟨#[7, 122]⟩) 10 0 8 9 = (0, 10, 20) := by rw [hX]; decide +kernel
  have q6 : rNum (X ++ ⟨#[7, 122]⟩) 10 20 0 9 = (0, 10, 20) := by rw [hX]; decide +kernel
  have q7 : rText (X ++ ⟨#[7, 122]⟩) 10 20 9 = (⟨#[]⟩, 10, 20) := by rw [hX]; decide +kernel
  have q8 : eEnd (X ++ ⟨#[7, 122]⟩) 10 20 = 20 := by rw [hX]; decide +kernel
  have q9 : eFail 10 20 0 4 = (20, 10, 20) := by decide +kernel
  have q10 : 10 ≤ (X ++ ⟨#[7, 122]⟩).size := by rw [hX]; decide +kernel
  have HX := Lib.hid hX
  have HQ := Lib.hid (And.intro q0 (And.intro q1 (And.intro q2 (And.intro q5 (And.intro q6 (And.intro q7 (And.intro q8 q10)))))))
  clear hX q0 q1 q2 q5 q6 q7 q8 q10 q3 q4 q9
  go_enter Try.func6, Try.ntmps6
  go_wp2_with (first
    | (go_at_call 20; with_reducible refine (wrong_nil _).mono ?_; rintro r w' ⟨rfl, rfl⟩)
    | (go_at_call 14; refine (works_any _).mono ?_; rintro r w1 ⟨rfl, hB1⟩)
    | (go_at_call 9; with_reducible refine (num_nil _ _).mono ?_; rintro r w' ⟨rfl, rfl⟩)
    | (go_at_call 11; with_reducible refine (text_nil _ _).mono ?_; rintro r w' ⟨rfl, rfl⟩)
    | (go_at_call 13; with_reducible refine (bytes_nil _).mono ?_; rintro r w' ⟨rfl, rfl⟩)
    | (go_at_call 16; with_reducible refine (rnum_nil _ _ _).mono ?_; rintro r w' ⟨rfl, rfl⟩)
    | (go_at_call 17; with_reducible refine (rtext_nil _ _).mono ?_; rintro r w' ⟨rfl, rfl⟩)
    | (go_at_call 19; with_reducible refine (at_nil _).mono ?_; rintro r w' ⟨rfl, rfl⟩)
    | (go_at_call 18; with_reducible refine (end_nil _).mono ?_; rintro r w' ⟨rfl, rfl⟩)
    | (go_at_call 21; with_reducible refine (fail_nil _ _ _).mono ?_; rintro r w' ⟨rfl, rfl⟩)
    | (go_at_call 23; with_reducible refine (m9 _).mono ?_; rintro r w' ⟨rfl, rfl⟩)
    | (go_at_call 23; with_reducible refine (m8 _).mono ?_; rintro r w' ⟨rfl, rfl⟩)
    | (go_at_call 22; with_reducible refine (n1 _).mono ?_; rintro r w2 ⟨rfl, hB2⟩)
    | (go_at_call 22; with_reducible refine (n2 _).mono ?_; rintro r w3 ⟨rfl, hB3⟩)
    | (go_at_call 22; with_reducible refine (n3 _).mono ?_; rintro r w4 ⟨rfl, hB4⟩)
    | (go_at_call 22; with_reducible refine (n4 _).mono ?_; rintro r w5 ⟨rfl, hB5⟩)
    | (go_at_call 8; refine (new_any _).mono ?_; rintro e w6 ⟨rfl, hw6, hB6⟩; have hWr : Wr w5.heap.size w6 w5.heap.size (.slice none 0 0) [] := ⟨hw6, Nat.le_refl _, fun k hk => by simp [Value.ownBlock] at hk⟩)
    | (go_at_call 9; with_reducible refine (num_neg _ _ _ (by decide)).mono ?_; rintro e w' ⟨rfl, rfl⟩)
    | (go_at_call 9; with_reducible refine (wr_max hWr hB6 (Nat.le_refl _)).mono ?_; rintro e w7 ⟨rfl, v7, hw7, hB7⟩)
    | (go_at_call 13; with_reducible refine (wr_bytes_of (X := xS) hw7).mono ?_; rintro e w' ⟨rfl, rfl⟩)
    | (go_at_call 23; with_reducible refine (f8 _).mono ?_; rintro r w' ⟨rfl, rfl⟩)
    | (go_at_call 9; with_reducible refine (wr_0 X HX.out hw7 hB7 (Nat.le_refl _)).mono ?_; rintro e w8 ⟨rfl, v8, hw8, hB8⟩)
    | (go_at_call 13; refine (wr_bytes_of hw8).mono ?_; rintro e w' ⟨rfl, rfl⟩)
    | (go_at_call 15; with_reducible refine (newreader_any (X ++ ⟨#[7, 122]⟩) _ HQ.out.1).mono ?_; rintro r y0 ⟨rfl, hk0, hY0⟩)
    | (go_at_call 16; with_reducible refine (rnumC (X ++ ⟨#[7, 122]⟩) 0 0 5 9223372036854775807 9223372036854775807 9 0 (HQ.out.2.1) hk0 (by have := HQ.out.2.2.2.2.2.2.2; omega) (by have := HQ.out.1; omega)).mono ?_; rintro r y1 ⟨rfl, hk1, ht1⟩)
    | (go_at_call 16; with_reducible refine (rnumC (X ++ ⟨#[7, 122]⟩) 9 0 0 0 0 10 0 (HQ.out.2.2.1) hk1 (by have := HQ.out.2.2.2.2.2.2.2; omega) (by have := HQ.out.1; omega)).mono ?_; rintro r y2 ⟨rfl, hk2, ht2⟩)
    | (go_at_call 19; with_reducible refine (at_any _ (X ++ ⟨#[7, 122]⟩) 10 0 _ hk2).mono ?_; rintro e w' ⟨rfl, rfl⟩)
    | (go_at_call 21; with_reducible refine (failC (X ++ ⟨#[7, 122]⟩) 10 0 11 4 1 10 0 (by decide +kernel) hk2 (by have := HQ.out.2.2.2.2.2.2.2; omega) (by have := HQ.out.1; omega)).mono ?_; rintro r y3 ⟨rfl, hk3, ht3⟩)
    | (go_at_call 21; with_reducible refine (failC (X ++ ⟨#[7, 122]⟩) 10 0 3 0 1 10 0 (by decide +kernel) hk3 (by have := HQ.out.2.2.2.2.2.2.2; omega) (by have := HQ.out.1; omega)).mono ?_; rintro r y4 ⟨rfl, hk4, ht4⟩)
    | (go_at_call 16; with_reducible refine (rnumC (X ++ ⟨#[7, 122]⟩) 10 0 8 9 0 10 20 (HQ.out.2.2.2.1) hk4 (by have := HQ.out.2.2.2.2.2.2.2; omega) (by have := HQ.out.1; omega)).mono ?_; rintro r y5 ⟨rfl, hk5, ht5⟩)
    | (go_at_call 16; with_reducible refine (rnumC (X ++ ⟨#[7, 122]⟩) 10 20 0 9 0 10 20 (HQ.out.2.2.2.2.1) hk5 (by have := HQ.out.2.2.2.2.2.2.2; omega) (by have := HQ.out.1; omega)).mono ?_; rintro r y6 ⟨rfl, hk6, ht6⟩)
    | (go_at_call 17; with_reducible refine (rtextC (X ++ ⟨#[7, 122]⟩) 10 20 9 ⟨#[]⟩ 10 20 (HQ.out.2.2.2.2.2.1) hk6 (by have := HQ.out.2.2.2.2.2.2.2; omega) (by have := HQ.out.1; omega)).mono ?_; rintro r y7 ⟨rfl, hk7, ht7⟩)
    | (go_at_call 18; with_reducible refine (endC (X ++ ⟨#[7, 122]⟩) 10 20 20 (HQ.out.2.2.2.2.2.2.1) hk7 (by have := HQ.out.2.2.2.2.2.2.2; omega) (by have := HQ.out.1; omega)).mono ?_; rintro r y8 ⟨rfl, hk8, ht8⟩)
    | (go_at_call 21; with_reducible refine (failC (X ++ ⟨#[7, 122]⟩) 10 20 0 4 20 10 20 (by decide +kernel) hk8 (by have := HQ.out.2.2.2.2.2.2.2; omega) (by have := HQ.out.1; omega)).mono ?_; rintro r y9 ⟨rfl, hk9, ht9⟩)
    | (go_at_call 15; with_reducible refine (newreader_any ⟨#[1, 97, 98]⟩ _ (by decide +kernel)).mono ?_; rintro r z0 ⟨rfl, hz0, hZ0⟩)
    | (go_at_call 17; with_reducible refine (rtextC ⟨#[1, 97, 98]⟩ 0 0 5 ⟨#[97]⟩ 2 0 (by decide +kernel) hz0 (by decide +kernel) (by decide +kernel)).mono ?_; rintro r z1 ⟨rfl, hz1, hs1⟩)
    | (go_at_call 18; with_reducible refine (endC ⟨#[1, 97, 98]⟩ 2 0 10 (by decide +kernel) hz1 (by decide +kernel) (by decide +kernel)).mono ?_; rintro r z2 ⟨rfl, hz2, hs2⟩)
    | (go_at_call 20; with_reducible refine (wrong_bad _ ⟨#[1, 97, 98]⟩ 2 10 _ hz2 (by decide)).mono ?_; rintro r z3 ⟨rfl, nz, rfl⟩)
    | (go_at_call 15; (with_reducible refine (newreader_any ⟨#[97, 98]⟩ _ (by decide +kernel)).mono ?_); rintro r v0 ⟨rfl, hv0, hV0⟩; have hv0 : Blk v0 z2.heap.size 56 (RB ⟨#[97, 98]⟩ 0 0) := hv0)
    | (go_at_call 16; with_reducible refine (rnumC ⟨#[97, 98]⟩ 0 0 0 200 97 1 0 (by decide +kernel) hv0 (by decide +kernel) (by decide +kernel)).mono ?_; rintro r v1 ⟨rfl, hv1, hq1⟩)
    | (go_at_call 21; (with_reducible refine (failC ⟨#[97, 98]⟩ 1 0 0 4 4 0 4 (by decide +kernel) hv1 (by decide +kernel) (by decide +kernel)).mono ?_); rintro r v2 ⟨rfl, hv2, hq2⟩; obtain ⟨N, M, T, hT, hmk, hcv⟩ := big_make v2)
    | (go_at_call 15; with_reducible refine (newreader_long T _ hT).mono ?_; rintro r w' ⟨rfl, rfl⟩)
    | (go_at_call 19; refine (at_any _ ⟨#[97, 98]⟩ 0 4 _ (hv2.alloc _)).mono ?_; rintro r w' ⟨rfl, rfl⟩))
  have a2 := bel_trans (bel_trans (bel_trans (bel_trans (bel_trans hB1 hB2) hB3) hB4) hB5) hB8
  have a3 := bel_trans a2 (touch_bel (touch_bel (touch_bel (touch_bel (touch_bel (touch_bel (touch_bel (touch_bel (touch_bel hY0 ht1) ht2) ht3) ht4) ht5) ht6) ht7) ht8) ht9)
  have a4 := bel_trans a3 (touch_bel (touch_bel hZ0 hs1) hs2)
  have a5 := bel_trans (bel_drewN a4 nz) (touch_bel (w := z2.drewN nz) (touch_bel (w := z2.drewN nz) hV0 hq1) hq2)
  go_ret
  exact ⟨rfl, a5.alloc a5.size _⟩

end Go.Proofs.Ytahemhdmlfejlab
