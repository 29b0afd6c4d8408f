/- The walk of CoreNames. Conditions: none. -/
import Derived.Test.YthaonmmjoednnaaC11
namespace Go.Proofs.Ythaonmmjoednnaa
open Go.ChangeShapes Go.WideShapes Go.ChangeAt Go.RowKit Go.Maps Go.Deep
set_option maxRecDepth 100000

/-- Three rows, made one behind the other, and what holds them. -/
theorem made_three {w w' : World} {l m n : List Int} {cl cm cn : Array Value} {nl nm nn : Nat}
    (h : w' = (((w.alloc (.cells cl 3)).alloc (.cells cm 3)).alloc (.cells cn 3)).alloc (.cells #[.slice (some ⟨w.heap.size, 0, none⟩) nl nl, .slice (some ⟨w.heap.size + 1, 0, none⟩) nm nm, .slice (some ⟨w.heap.size + 1 + 1, 0, none⟩) nn nn] 24))
    (hl : cl = (inC l).toArray) (hm : cm = (inC m).toArray) (hn : cn = (inC n).toArray) (h1 : nl = l.length) (h2 : nm = m.length) (h3 : nn = n.length) :
    Below w.heap.size w w' ∧ w'.heap.size = w.heap.size + 1 + 1 + 1 + 1 ∧ ∃ av cv, IsRows w' (some ⟨w.heap.size + 1 + 1 + 1, 0, none⟩) [l, m, n] av cv := by
  subst h
  subst h1
  subst h2
  subst h3
  have k0 := Blk.new w 3 cl
  have k1 := Blk.new (w.alloc (.cells cl 3)) 3 cm
  have k2 := Blk.new ((w.alloc (.cells cl 3)).alloc (.cells cm 3)) 3 cn
  have k3 := Blk.new (((w.alloc (.cells cl 3)).alloc (.cells cm 3)).alloc (.cells cn 3)) 24 #[.slice (some ⟨w.heap.size, 0, none⟩) l.length l.length, .slice (some ⟨w.heap.size + 1, 0, none⟩) m.length m.length, .slice (some ⟨w.heap.size + 1 + 1, 0, none⟩) n.length n.length]
  rw [World.size_alloc] at k1
  rw [World.size_alloc, World.size_alloc] at k2
  rw [World.size_alloc, World.size_alloc, World.size_alloc] at k3
  exact ⟨((((Below.refl _ w).alloc (Nat.le_refl _) _).alloc (by simp) _).alloc (by simp; omega) _).alloc (by simp; omega) _, by simp, rows_at (n := 3) (cap := 3) (Own.of_blk k3 3 rfl (by decide)) rfl ⟨rfl, fun j hj => by
    match j, hj with
    | 0, _ => exact ⟨some ⟨w.heap.size, 0, none⟩, l.length, rfl, ints_blk (((k0.alloc _).alloc _).alloc _) hl⟩
    | 1, _ => exact ⟨some ⟨w.heap.size + 1, 0, none⟩, m.length, rfl, ints_blk ((k1.alloc _).alloc _) hm⟩
    | 2, _ => exact ⟨some ⟨w.heap.size + 1 + 1, 0, none⟩, n.length, rfl, ints_blk (k2.alloc _) hn⟩⟩⟩

/-- is, of rows and numbers made just ahead of the call, and no numbers wanted. -/
theorem is_three {w : World} : Calls Try.prog 7 #[.int .i64 1, .slice (some ⟨w.heap.size + 1 + 1 + 1, 0, none⟩) 3 3, .slice (some ⟨w.heap.size + 1 + 1 + 1 + 1, 0, none⟩) 1 1, .slice none 0 0]
    (((((w.alloc (.cells #[] 3)).alloc (.cells #[.int .i64 1] 3)).alloc (.cells #[.int .i64 0, .int .i64 2] 3)).alloc (.cells #[.slice (some ⟨w.heap.size, 0, none⟩) 0 0, .slice (some ⟨w.heap.size + 1, 0, none⟩) 1 1, .slice (some ⟨w.heap.size + 1 + 1, 0, none⟩) 2 2] 24)).alloc (.cells #[.int .i64 2] 3)) fun e w' => e = .returned (.bool true) ∧ Below w.heap.size w w' := by
  obtain ⟨w1, hw1⟩ : ∃ w1, w1 = (((w.alloc (.cells #[] 3)).alloc (.cells #[.int .i64 1] 3)).alloc (.cells #[.int .i64 0, .int .i64 2] 3)).alloc (.cells #[.slice (some ⟨w.heap.size, 0, none⟩) 0 0, .slice (some ⟨w.heap.size + 1, 0, none⟩) 1 1, .slice (some ⟨w.heap.size + 1 + 1, 0, none⟩) 2 2] 24) := ⟨_, rfl⟩
  obtain ⟨hb1, hs1, av, cv, hr1⟩ := made_three (l := []) (m := [1]) (n := [0, 2]) hw1 rfl rfl rfl rfl rfl rfl
  rw [← hw1, ← hs1]
  have hb : Below w1.heap.size w1 (w1.alloc (.cells #[.int .i64 2] 3)) := (Below.refl _ _).alloc (Nat.le_refl _) _
  refine (is_yes 1 [[], [1], [0, 2]] [2] [] _ _ none 3 1 0 av cv _ (hr1.below hb) (ints_new (l := [2]) rfl) (nil_ints _) (by simp) (by simp) (by simp) (by simp) (by decide +kernel)).mono ?_
  rintro e w' ⟨h1, h2⟩
  exact ⟨h1, bel_trans (bel_trans hb1 hb) h2⟩
theorem is_four {w : World} : Calls Try.prog 7 #[.int .i64 1, .slice (some ⟨w.heap.size + 1 + 1 + 1, 0, none⟩) 3 3, .slice (some ⟨w.heap.size + 1 + 1 + 1 + 1, 0, none⟩) 1 1, .slice (some ⟨w.heap.size + 1 + 1 + 1 + 1 + 1, 0, none⟩) 1 1]
    ((((((w.alloc (.cells #[] 3)).alloc (.cells #[.int .i64 1] 3)).alloc (.cells #[.int .i64 0, .int .i64 2] 3)).alloc (.cells #[.slice (some ⟨w.heap.size, 0, none⟩) 0 0, .slice (some ⟨w.heap.size + 1, 0, none⟩) 1 1, .slice (some ⟨w.heap.size + 1 + 1, 0, none⟩) 2 2] 24)).alloc (.cells #[.int .i64 3] 3)).alloc (.cells #[.int .i64 0] 3)) fun e w' => e = .returned (.bool true) ∧ Below w.heap.size w w' := by
  obtain ⟨w1, hw1⟩ : ∃ w1, w1 = (((w.alloc (.cells #[] 3)).alloc (.cells #[.int .i64 1] 3)).alloc (.cells #[.int .i64 0, .int .i64 2] 3)).alloc (.cells #[.slice (some ⟨w.heap.size, 0, none⟩) 0 0, .slice (some ⟨w.heap.size + 1, 0, none⟩) 1 1, .slice (some ⟨w.heap.size + 1 + 1, 0, none⟩) 2 2] 24) := ⟨_, rfl⟩
  obtain ⟨hb1, hs1, av, cv, hr1⟩ := made_three (l := []) (m := [1]) (n := [0, 2]) hw1 rfl rfl rfl rfl rfl rfl
  rw [← hw1, ← hs1]
  refine (is_made 1 [[], [1], [0, 2]] [3] [0] _ 3 1 1 av cv _ _ hr1 (Below.refl _ _) rfl rfl rfl rfl (by simp) (by decide +kernel)).mono ?_
  rintro e w' ⟨h1, h2⟩
  exact ⟨h1, bel_trans hb1 h2⟩

/-- A row of the table: what is asked, what is wanted. -/
def RowAt (W : World) (g k : Nat) : Prop := ∃ (inputs want : Int) (ao al : Option Addr) (cl : List (List Int)) (last : List Int) (cap capl : Nat) (av : Nat → Option Addr) (cv : Nat → Nat),
  W.cell? ⟨g, k * 4, none⟩ = some (.int .i64 inputs) ∧ W.cell? ⟨g, k * 4 + 1, none⟩ = some (.slice ao cl.length cap) ∧ W.cell? ⟨g, k * 4 + 2, none⟩ = some (.slice al last.length capl) ∧ W.cell? ⟨g, k * 4 + 3, none⟩ = some (.int .i64 want) ∧
  IsRows W ao cl av cv ∧ Ints W al last ∧ ofE inputs cl last = ([], want) ∧ cl.length ≤ 1000 ∧ (∀ c ∈ cl, c.length ≤ 1000) ∧ last.length ≤ 1000
theorem tab_rows {W W6 : World} {p1 p2 p3 p4 p5 p6 p7 : Nat} {v3 v4 v5 v7 : Nat → Option Addr} {u3 u4 u5 u7 : Nat → Nat} (h : W6 = W.alloc (.cells #[.int .i64 (-1), .slice none 0 0, .slice none 0 0, .int .i64 1, .int .i64 4194305, .slice none 0 0, .slice none 0 0, .int .i64 1, .int .i64 2, .slice none 0 0, .slice (some ⟨p1, 0, none⟩) 1 1, .int .i64 4,
      .int .i64 2, .slice none 0 0, .slice (some ⟨p2, 0, none⟩) 1 1, .int .i64 4, .int .i64 2, .slice (some ⟨p3, 0, none⟩) 1 1, .slice none 0 0, .int .i64 4, .int .i64 2, .slice (some ⟨p4, 0, none⟩) 2 2, .slice none 0 0, .int .i64 4,
      .int .i64 2, .slice (some ⟨p5, 0, none⟩) 2 2, .slice (some ⟨p6, 0, none⟩) 1 1, .int .i64 4, .int .i64 2, .slice (some ⟨p7, 0, none⟩) 2 2, .slice none 0 0, .int .i64 4] 27))
    (HT : Ints W (some ⟨p1, 0, none⟩) [2] ∧ Ints W (some ⟨p2, 0, none⟩) [-1] ∧ IsRows W (some ⟨p3, 0, none⟩) [[2]] v3 u3 ∧ IsRows W (some ⟨p4, 0, none⟩) [[0], [3]] v4 u4 ∧ IsRows W (some ⟨p5, 0, none⟩) [[0], [2]] v5 u5 ∧ Ints W (some ⟨p6, 0, none⟩) [4] ∧ IsRows W (some ⟨p7, 0, none⟩) [[0], [-1]] v7 u7) :
    Below W.heap.size W W6 ∧ ∀ k, k < 8 → RowAt W6 W.heap.size k := by
  obtain ⟨i1, i2, r3, r4, r5, i6, r7⟩ := HT
  have hb : Below W.heap.size W W6 := by rw [h]; exact (Below.refl _ _).alloc (Nat.le_refl _) _
  have hk : Blk W6 W.heap.size 27 #[.int .i64 (-1), .slice none 0 0, .slice none 0 0, .int .i64 1, .int .i64 4194305, .slice none 0 0, .slice none 0 0, .int .i64 1, .int .i64 2, .slice none 0 0, .slice (some ⟨p1, 0, none⟩) 1 1, .int .i64 4,
      .int .i64 2, .slice none 0 0, .slice (some ⟨p2, 0, none⟩) 1 1, .int .i64 4, .int .i64 2, .slice (some ⟨p3, 0, none⟩) 1 1, .slice none 0 0, .int .i64 4, .int .i64 2, .slice (some ⟨p4, 0, none⟩) 2 2, .slice none 0 0, .int .i64 4,
      .int .i64 2, .slice (some ⟨p5, 0, none⟩) 2 2, .slice (some ⟨p6, 0, none⟩) 1 1, .int .i64 4, .int .i64 2, .slice (some ⟨p7, 0, none⟩) 2 2, .slice none 0 0, .int .i64 4] := by rw [h]; exact Blk.new W _ _
  refine ⟨hb, fun k hk8 => ?_⟩
  match k, hk8 with
  | 0, _ => exact ⟨-1, 1, none, none, [], [], 0, 0, _, _, hk.cell 0, hk.cell 1, hk.cell 2, hk.cell 3, nil_rows _, nil_ints _, by decide +kernel, by simp, by simp, by simp⟩
  | 1, _ => exact ⟨4194305, 1, none, none, [], [], 0, 0, _, _, hk.cell 4, hk.cell 5, hk.cell 6, hk.cell 7, nil_rows _, nil_ints _, by decide +kernel, by simp, by simp, by simp⟩
  | 2, _ => exact ⟨2, 4, none, _, [], [2], 0, 1, _, _, hk.cell 8, hk.cell 9, hk.cell 10, hk.cell 11, nil_rows _, i1.below hb, by decide +kernel, by simp, by simp, by simp⟩
  | 3, _ => exact ⟨2, 4, none, _, [], [-1], 0, 1, _, _, hk.cell 12, hk.cell 13, hk.cell 14, hk.cell 15, nil_rows _, i2.below hb, by decide +kernel, by simp, by simp, by simp⟩
  | 4, _ => exact ⟨2, 4, _, none, [[2]], [], 1, 0, _, _, hk.cell 16, hk.cell 17, hk.cell 18, hk.cell 19, r3.below hb, nil_ints _, by decide +kernel, by simp, by simp, by simp⟩
  | 5, _ => exact ⟨2, 4, _, none, [[0], [3]], [], 2, 0, _, _, hk.cell 20, hk.cell 21, hk.cell 22, hk.cell 23, r4.below hb, nil_ints _, by decide +kernel, by simp, by simp, by simp⟩
  | 6, _ => exact ⟨2, 4, _, _, [[0], [2]], [4], 2, 1, _, _, hk.cell 24, hk.cell 25, hk.cell 26, hk.cell 27, r5.below hb, i6.below hb, by decide +kernel, by simp, by simp, by simp⟩
  | 7, _ => exact ⟨2, 4, _, none, [[0], [-1]], [], 2, 0, _, _, hk.cell 28, hk.cell 29, hk.cell 30, hk.cell 31, r7.below hb, nil_ints _, by decide +kernel, by simp, by simp, by simp⟩
theorem grp_none {w : World} : Calls Try.prog 10 #[.slice none 0 0, .slice (some ⟨w.heap.size, 0, none⟩) 1 1] (w.alloc (.cells #[.int .i64 1] 3)) fun e w' => ∃ a c, e = .returned (.slice a 0 c) ∧ Below w.heap.size w w' := by
  have hb : Below w.heap.size w (w.alloc (.cells #[.int .i64 1] 3)) := (Below.refl _ _).alloc (Nat.le_refl _) _
  refine (cGroups_any [] [1] none _ 0 1 _ (nil_ints _) (ints_new (l := [1]) rfl) (by simp) (by simp) (i64_all _ (by decide))).mono ?_
  rintro e w' ⟨a, c, h1, _, h3⟩
  exact ⟨a, c, h1, bel_trans hb h3⟩
theorem grp_none2 {w : World} : Calls Try.prog 10 #[.slice (some ⟨w.heap.size, 0, none⟩) 1 1, .slice none 0 0] (w.alloc (.cells #[.int .i64 0] 3)) fun e w' => ∃ a c, e = .returned (.slice a 0 c) ∧ Below w.heap.size w w' := by
  have hb : Below w.heap.size w (w.alloc (.cells #[.int .i64 0] 3)) := (Below.refl _ _).alloc (Nat.le_refl _) _
  refine (cGroups_any [0] [] _ none 1 0 _ (ints_new (l := [0]) rfl) (nil_ints _) (by simp) (by simp) (i64_all _ (by decide))).mono ?_
  rintro e w' ⟨a, c, h1, _, h3⟩
  exact ⟨a, c, h1, bel_trans hb h3⟩

set_option maxHeartbeats 4000000 in
theorem names_walk (w : World) : Calls Try.prog 3 #[] w fun e w' => e = .returned (.bool true) ∧ Below w.heap.size w w' := by
  have HW : Hid (∀ w', Calls Try.prog 6 #[] w' fun e w'' => e = .returned (.bool true) ∧ Below w'.heap.size w' w'') := Lib.hid works_any
  have H1 : Hid (∀ w', Calls Try.prog 7 #[.int .i64 0, .slice none 0 0, .slice none 0 0, .slice none 0 0] w' fun e w'' => e = .returned (.bool true) ∧ Below w'.heap.size w' w'') := Lib.hid fun w' => is_yes 0 [] [] [] none none none 0 0 0 _ _ w' (nil_rows w') (nil_ints w') (nil_ints w') (by simp) (by simp) (by simp) (by simp) (by decide +kernel)
  have H2 : Hid (∀ w2 : World, Calls Try.prog 7 #[.int .i64 5, .slice none 0 0, .slice (some ⟨w2.heap.size, 0, none⟩) 3 3, .slice (some ⟨w2.heap.size + 1, 0, none⟩) 2 2] ((w2.alloc (.cells #[.int .i64 4, .int .i64 1, .int .i64 4] 3)).alloc (.cells #[.int .i64 1, .int .i64 4] 3)) fun e w' => e = .returned (.bool true) ∧ Below w2.heap.size w2 w') := Lib.hid fun w2 =>
    is_made 5 [] [4, 1, 4] [1, 4] none 0 3 2 _ _ _ _ (nil_rows w2) (Below.refl _ _) rfl rfl rfl rfl (by simp) (by decide +kernel)
  have H3 := Lib.hid (fun w2 : World => is_three (w := w2))
  have H4 := Lib.hid (fun w2 : World => is_four (w := w2))
  go_enter Try.func3, Try.ntmps3
  go_upto_region 3 with (first
    | (go_at_call 6; (with_reducible refine (HW.out _).mono ?_); rintro e w1 ⟨rfl, hb1⟩)
    | (go_at_call 7; (with_reducible refine (H1.out _).mono ?_); rintro e w2 ⟨rfl, hb2⟩; have hb12 := bel_trans hb1 hb2; clear hb1 hb2)
    | (go_at_call 7; (with_reducible refine (H2.out _).mono ?_); rintro e w3 ⟨rfl, hb3⟩; have hb13 := bel_trans hb12 hb3; clear hb12 hb3)
    | (go_at_call 7; (with_reducible refine (H3.out _).mono ?_); rintro e w4 ⟨rfl, hb4⟩; have hb14 := bel_trans hb13 hb4; clear hb13 hb4)
    | (go_at_call 7; (with_reducible refine (H4.out _).mono ?_); rintro e w5 ⟨rfl, hb5⟩; have hb15 := bel_trans hb14 hb5; clear hb14 hb5)
    | fail)
  have HB5 := Lib.hid hb15
  clear hb15 HW H1 H2 H3 H4
  go_wp2_with fail
  obtain ⟨B1, e1⟩ : ∃ B, B = w5.alloc (.cells #[.int .i64 2] 3) := ⟨_, rfl⟩
  have s1 : B1.heap.size = w5.heap.size + 1 := by rw [e1]; simp
  have b1 : Below w5.heap.size w5 B1 := by rw [e1]; exact (Below.refl _ _).alloc (Nat.le_refl _) _
  have i1 : Ints B1 (some ⟨w5.heap.size, 0, none⟩) [2] := by rw [e1]; exact ints_new rfl
  rw [← e1, ← s1]
  obtain ⟨B2, e2⟩ : ∃ B, B = B1.alloc (.cells #[.int .i64 (-1)] 3) := ⟨_, rfl⟩
  have s2 : B2.heap.size = B1.heap.size + 1 := by rw [e2]; simp
  have b2 : Below B1.heap.size B1 B2 := by rw [e2]; exact (Below.refl _ _).alloc (Nat.le_refl _) _
  have i2 : Ints B2 (some ⟨B1.heap.size, 0, none⟩) [-1] := by rw [e2]; exact ints_new rfl
  rw [← e2, ← s2]
  obtain ⟨B3, e3⟩ : ∃ B, B = (B2.alloc (.cells #[.int .i64 2] 3)).alloc (.cells #[.slice (some ⟨B2.heap.size, 0, none⟩) 1 1] 24) := ⟨_, rfl⟩
  obtain ⟨b3, s3, v3, u3, r3⟩ := one_row e3
  rw [← e3, ← s3]
  obtain ⟨B4, e4⟩ : ∃ B, B = ((B3.alloc (.cells #[.int .i64 0] 3)).alloc (.cells #[.int .i64 3] 3)).alloc (.cells #[.slice (some ⟨B3.heap.size, 0, none⟩) 1 1, .slice (some ⟨B3.heap.size + 1, 0, none⟩) 1 1] 24) := ⟨_, rfl⟩
  obtain ⟨b4, s4, v4, u4, r4⟩ := made_two (l := [0]) (m := [3]) e4 rfl rfl rfl rfl
  rw [← e4, ← s4]
  obtain ⟨B5, e5⟩ : ∃ B, B = ((B4.alloc (.cells #[.int .i64 0] 3)).alloc (.cells #[.int .i64 2] 3)).alloc (.cells #[.slice (some ⟨B4.heap.size, 0, none⟩) 1 1, .slice (some ⟨B4.heap.size + 1, 0, none⟩) 1 1] 24) := ⟨_, rfl⟩
  obtain ⟨b5, s5, v5, u5, r5⟩ := made_two (l := [0]) (m := [2]) e5 rfl rfl rfl rfl
  rw [← e5, ← s5]
  obtain ⟨B6, e6⟩ : ∃ B, B = B5.alloc (.cells #[.int .i64 4] 3) := ⟨_, rfl⟩
  have s6 : B6.heap.size = B5.heap.size + 1 := by rw [e6]; simp
  have b6 : Below B5.heap.size B5 B6 := by rw [e6]; exact (Below.refl _ _).alloc (Nat.le_refl _) _
  have i6 : Ints B6 (some ⟨B5.heap.size, 0, none⟩) [4] := by rw [e6]; exact ints_new rfl
  rw [← e6, ← s6]
  obtain ⟨B7, e7⟩ : ∃ B, B = ((B6.alloc (.cells #[.int .i64 0] 3)).alloc (.cells #[.int .i64 (-1)] 3)).alloc (.cells #[.slice (some ⟨B6.heap.size, 0, none⟩) 1 1, .slice (some ⟨B6.heap.size + 1, 0, none⟩) 1 1] 24) := ⟨_, rfl⟩
  obtain ⟨b7, s7, v7, u7, r7⟩ := made_two (l := [0]) (m := [-1]) e7 rfl rfl rfl rfl
  rw [← e7, ← s7]
  clear e1 e2 e3 e4 e5 e6 e7 s1 s2 s3 s4 s5 s6 s7
  have c36 := bel_trans b3 (bel_trans b4 (bel_trans b5 b6))
  have c27 := bel_trans c36 b7
  have c17 := bel_trans b2 c27
  have c47 := bel_trans b4 (bel_trans b5 (bel_trans b6 b7))
  have c57 := bel_trans b5 (bel_trans b6 b7)
  have c67 := bel_trans b6 b7
  have c07 := bel_trans b1 c17
  have HT := Lib.hid (And.intro (i1.below c17) (And.intro (i2.below c27) (And.intro (r3.below c47) (And.intro (r4.below c57) (And.intro (r5.below c67) (And.intro (i6.below b7) r7))))))
  have HB7 := Lib.hid (bel_trans HB5.out c07)
  clear i1 i2 r3 r4 r5 i6 r7 b1 b2 b3 b4 b5 b6 b7 c36 c27 c17 c47 c57 c67 c07 HB5
  obtain ⟨W6, hw6⟩ : ∃ W6, W6 = B7.alloc (.cells #[.int .i64 (-1), .slice none 0 0, .slice none 0 0, .int .i64 1, .int .i64 4194305, .slice none 0 0, .slice none 0 0, .int .i64 1, .int .i64 2, .slice none 0 0, .slice (some ⟨w5.heap.size, 0, none⟩) 1 1, .int .i64 4,
      .int .i64 2, .slice none 0 0, .slice (some ⟨B1.heap.size, 0, none⟩) 1 1, .int .i64 4, .int .i64 2, .slice (some ⟨B2.heap.size + 1, 0, none⟩) 1 1, .slice none 0 0, .int .i64 4, .int .i64 2, .slice (some ⟨B3.heap.size + 1 + 1, 0, none⟩) 2 2, .slice none 0 0, .int .i64 4,
      .int .i64 2, .slice (some ⟨B4.heap.size + 1 + 1, 0, none⟩) 2 2, .slice (some ⟨B5.heap.size, 0, none⟩) 1 1, .int .i64 4, .int .i64 2, .slice (some ⟨B6.heap.size + 1 + 1, 0, none⟩) 2 2, .slice none 0 0, .int .i64 4] 27) := ⟨_, rfl⟩
  obtain ⟨b76, hrows⟩ := tab_rows hw6 HT.out
  rw [← hw6]
  obtain ⟨gT, hgT⟩ : ∃ gT, gT = B7.heap.size := ⟨_, rfl⟩
  rw [← hgT] at hrows ⊢
  have HRo := Lib.hid hrows
  have HB6 := Lib.hid (bel_trans HB7.out b76)
  clear hw6 hrows hgT b76 HT HB7
  go_loopw [66] (fun i wr => ∃ k : Nat, k ≤ 8 ∧ i = .int .i64 k ∧ Hid (Below W6.heap.size W6 wr)) (fun i _ => 8 - (intOf i).toNat)
  case atStart => exact ⟨0, by omega, rfl, Lib.hid (Below.refl _ _)⟩
  case round =>
    obtain ⟨k, hk, rfl, HBr⟩ := hrel
    by_cases hlt : k < 8
    · have hki : (k : Int) < 8 := by omega
      obtain ⟨inputs, want, ao, al, cl, last, cap, capl, av, cv, t0, t1, t2, t3, hr, hl, ho, q1, q2, q3⟩ := HRo.out k hlt
      have m0 := (bel_cell HBr.out t0).trans t0
      have m1 := (bel_cell HBr.out t1).trans t1
      have m2 := (bel_cell HBr.out t2).trans t2
      have m3 := (bel_cell HBr.out t3).trans t3
      have hbx : Below wr.heap.size wr (wr.alloc (.cells #[.int .i64 inputs, .slice ao cl.length cap, .slice al last.length capl, .int .i64 want] 27)) := (Below.refl _ _).alloc (Nat.le_refl _) _
      have HC : Hid (Calls Try.prog 8 #[.int .i64 inputs, .slice ao cl.length cap, .slice al last.length capl] (wr.alloc (.cells #[.int .i64 inputs, .slice ao cl.length cap, .slice al last.length capl, .int .i64 want] 27)) fun e w' => ∃ a c, e = .returned (.tuple #[.slice a 0 c, .int .i64 want]) ∧ w'.cell? ⟨wr.heap.size, 3, none⟩ = some (.int .i64 want) ∧ Below wr.heap.size wr w') := Lib.hid (by
        have h := cOf_any inputs cl last ao al cap capl av cv _ ((hr.below HBr.out).below hbx) ((hl.below HBr.out).below hbx) (by omega) (fun c hc => Nat.le_trans (q2 c hc) (by omega)) (by omega)
        rw [ho] at h
        refine h.mono ?_
        rintro e w' ⟨a, c, h1, _, _, h4⟩
        have kx := Blk.new wr 27 #[.int .i64 inputs, .slice ao cl.length cap, .slice al last.length capl, .int .i64 want]
        exact ⟨a, c, h1, (kx.below h4 kx.lt).cell 3, bel_trans hbx h4⟩)
      have hww : (want != want) = false := by simp
      clear t0 t1 t2 t3 hr hl ho q1 q2 q3 hbx
      go_wp2_with (go_at_call 8; (with_reducible refine HC.out.mono ?_); rintro e w7 ⟨a7, c7, rfl, m7, hb7⟩)
      go_roundw
      case rel => exact ⟨k + 1, by omega, by go_num, Lib.hid (bel_trans HBr.out hb7)⟩
      case measure => simp [intOf]; omega
    · obtain rfl : k = 8 := by omega
      have HBy := Lib.hid (bel_trans HB6.out HBr.out)
      have HG1 : Hid (∀ w2 : World, Calls Try.prog 10 #[.slice (some ⟨w2.heap.size, 0, none⟩) 6 6, .slice (some ⟨w2.heap.size + 1, 0, none⟩) 4 4] ((w2.alloc (.cells #[.int .i64 3, .int .i64 0, .int .i64 9, .int .i64 (-1), .int .i64 1, .int .i64 0] 3)).alloc (.cells #[.int .i64 5, .int .i64 2, .int .i64 8, .int .i64 2] 3)) fun e w' => ∃ ao' cap', e = .returned (.slice ao' 2 cap') ∧ Ints w' ao' [2, 5] ∧ Below w2.heap.size w2 w') :=
        Lib.hid fun w2 => grp_made [3, 0, 9, -1, 1, 0] [5, 2, 8, 2] 6 4 _ _ rfl rfl rfl rfl (by simp) (i64_all _ (by decide)) (o := [2, 5]) (by decide +kernel)
      have HNu : Hid (∀ (w2 : World) ao cap, Ints w2 ao [2, 5] → Calls Try.prog 9 #[.slice ao 2 cap, .slice (some ⟨w2.heap.size, 0, none⟩) 2 2] (w2.alloc (.cells #[.int .i64 2, .int .i64 5] 3)) fun e w' => e = .returned (.bool true) ∧ Below w2.heap.size w2 w') := Lib.hid fun w2 ao cap h => by
        have hb : Below w2.heap.size w2 (w2.alloc (.cells #[.int .i64 2, .int .i64 5] 3)) := (Below.refl _ _).alloc (Nat.le_refl _) _
        exact (numbers_same [2, 5] ao _ cap 2 _ (h.below hb) (ints_new (l := [2, 5]) rfl) (by simp)).mono fun e w' ⟨h1, h2⟩ => ⟨h1, bel_trans hb h2⟩
      have HG2 := Lib.hid (fun w2 : World => grp_none (w := w2))
      have HG3 := Lib.hid (fun w2 : World => grp_none2 (w := w2))
      clear HRo HB6
      go_wp2_with (first
        | (go_at_call 10; (with_reducible refine (HG1.out _).mono ?_); rintro e w8 ⟨a8, c8, rfl, hi8, hb8⟩)
        | (go_at_call 9; (with_reducible refine (HNu.out _ _ _ hi8).mono ?_); rintro e w9 ⟨rfl, hb9⟩; have hb89 := bel_trans hb8 hb9)
        | (go_at_call 10; (with_reducible refine (HG2.out _).mono ?_); rintro e w10 ⟨a10, c10, rfl, hb10⟩; have hb8a := bel_trans hb89 hb10)
        | (go_at_call 10; (with_reducible refine (HG3.out _).mono ?_); rintro e w11 ⟨a11, c11, rfl, hb11⟩; have hb8b := bel_trans hb8a hb11)
        | fail)
      go_ret
      exact ⟨rfl, bel_trans HBy.out hb8b⟩

end Go.Proofs.Ythaonmmjoednnaa
