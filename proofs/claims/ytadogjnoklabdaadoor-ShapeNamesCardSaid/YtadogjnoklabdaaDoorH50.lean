/- The law's deep. Conditions: as each theorem names them. -/
import Derived.Test.YtadogjnoklabdaaDoorH42
import Derived.Deep.RegionHeld3
namespace Go.Proofs.YtadogjnoklabdaaDoor
open Go.ChangeShapes Go.WideShapes Go.ChangeAt Go.RowKit Go.Deep
set_option maxRecDepth 100000

theorem in_leaf (B : Nat → Prop) (w : World) (k : Int) (d : DepD) (h : fitR k d) : ArgsIn B w (listR k d []) (.slice none 0 0) :=
  .mk (listR k d []) none 0 (fun _ => nilS) h (Nat.zero_le _) (fun j hj => absurd hj (Nat.not_lt_zero j)) (fun j hj => absurd hj (Nat.not_lt_zero j))
theorem in_two {B : Nat → Prop} {w : World} {g c : Nat} {k : Int} {d : DepD} {x y : RichD} {sx sy : Value} (hd : fitR k d) (hB : B g) (hb : Blk w g 28 (twoC x y sx sy)) (i1 : ArgsIn B w x sx) (i2 : ArgsIn B w y sy) : ArgsIn B w (listR k d [x, y]) (.slice (some ⟨g, 0, none⟩) 2 c) :=
  .mk (listR k d [x, y]) (some ⟨g, 0, none⟩) c (fun j => if j = 0 then sx else sy) hd (by show 2 ≤ _; omega)
    (fun j hj => ⟨g, 0, rfl, hB, fun i => hb.frozen i, by
      have : j = 0 ∨ j = 1 := by have : j < 2 := hj; omega
      rcases this with rfl | rfl
      · exact ⟨hb.cell 0, hb.cell 1, hb.cell 2, hb.cell 3, hb.cell 4, hb.cell 5, hb.cell 6, hb.lt⟩
      · exact ⟨hb.cell 7, hb.cell 8, hb.cell 9, hb.cell 10, hb.cell 11, hb.cell 12, hb.cell 13, hb.lt⟩⟩)
    (fun j hj => by
      have : j = 0 ∨ j = 1 := by have : j < 2 := hj; omega
      rcases this with rfl | rfl
      · exact i1
      · exact i2)
theorem fit_at (b : UInt8) : fitR 1 (dN (oneS b)) := ⟨⟨show (1 : Nat) ≤ 9223372036854775807 from by decide, show (⟨#[]⟩ : ByteArray).size ≤ 9223372036854775807 from by decide, show (⟨#[]⟩ : ByteArray).size ≤ 9223372036854775807 from by decide⟩, by decide, by decide⟩
/-- deep's own blocks: the result's at g, the variable's at b. -/
structure DpSt (w : World) (g b k : Nat) (s : Value) (W : World) : Prop where
  bl : Below w.heap.size w W
  rz : Blk W g 28 zeroR
  bx : RichB W b (deepR k) s
  ia : ArgsIn (fun x => b < x) W (deepR k) s
theorem DpSt.below {w W W' : World} {g b k : Nat} {s : Value} (h : DpSt w g b k s W) (hb : Below W.heap.size W W') : DpSt w g b k s W' := ⟨below_t' h.bl hb, h.rz.below hb h.rz.lt, h.bx.below hb, h.ia.new_ hb⟩
theorem fin7_gen {W : World} {b : Nat} {c0 c1 c2 c3 c4 c5 c6 : Value} (h : Blk W b 28 #[c0, c1, c2, c3, c4, c5, c6]) (x0 x1 x2 x3 x4 x5 x6 : Value) :
    Blk (((((((W.setCell ⟨b, 0, none⟩ x0).setCell ⟨b, 1, none⟩ x1).setCell ⟨b, 2, none⟩ x2).setCell ⟨b, 3, none⟩ x3).setCell ⟨b, 4, none⟩ x4).setCell ⟨b, 5, none⟩ x5).setCell ⟨b, 6, none⟩ x6) b 28 #[x0, x1, x2, x3, x4, x5, x6] := by
  have h0 : Blk _ b 28 #[x0, c1, c2, c3, c4, c5, c6] := h.set_ 0 x0
  have h1 : Blk _ b 28 #[x0, x1, c2, c3, c4, c5, c6] := h0.set_ 1 x1
  have h2 : Blk _ b 28 #[x0, x1, x2, c3, c4, c5, c6] := h1.set_ 2 x2
  have h3 : Blk _ b 28 #[x0, x1, x2, x3, c4, c5, c6] := h2.set_ 3 x3
  have h4 : Blk _ b 28 #[x0, x1, x2, x3, x4, c5, c6] := h3.set_ 4 x4
  have h5 : Blk _ b 28 #[x0, x1, x2, x3, x4, x5, c6] := h4.set_ 5 x5
  exact h5.set_ 6 x6
theorem fin7_of {W : World} {b : Nat} {r0 : RichD} {v0 : Value} (h : RichB W b r0 v0) (r : RichD) (v : Value) : Blk (fin7 W b r v) b 28 (richA r v) :=
  fin7_gen h _ _ _ _ _ _ _
theorem DpSt.put {w W W6 W7 : World} {g b k : Nat} {s : Value} (h : DpSt w g b k s W) (hgb : g < b) (hwg : w.heap.size ≤ g) (h6 : Below W.heap.size W W6) (h7 : Below (W6.alloc (.cells (twoC bR (deepR k) nilS s) 28)).heap.size (W6.alloc (.cells (twoC bR (deepR k) nilS s) 28)) W7) :
    DpSt w g b (k + 1) (.slice (some ⟨W6.heap.size, 0, none⟩) 2 2) (fin7 W7 b (deepR (k + 1)) (.slice (some ⟨W6.heap.size, 0, none⟩) 2 2)) ∧ RichB W7 b (deepR k) s := by
  have h8 := (h.below h6).below (below_t' (new_b _ _) h7)
  have hlt : b < W.heap.size := h.bx.lt
  have h6s := h6.size
  have hblk := Blk.below (Blk.new W6 28 (twoC bR (deepR k) nilS s)) h7 (by simp)
  refine ⟨⟨fin7_below _ _ h8.bl (by omega), ?_, ?_, ?_⟩, h8.bx⟩
  · exact h8.rz.keep (fin7_far _ _ _ _ g (by omega))
  · exact fin7_of h8.bx _ _
  · have h9 : ArgsIn (fun x => b < x) W7 (deepR (k + 1)) (.slice (some ⟨W6.heap.size, 0, none⟩) 2 2) := in_two (fit_no 2 (by decide)) (by omega) hblk (in_leaf _ _ 1 _ (fit_at 98)) h8.ia
    exact h9.keep (by rw [fin7_size]; exact Nat.le_refl _) fun x h1 _ => ⟨fin7_far _ _ _ _ x (by omega), h1⟩
abbrev ldB (n : Nat) : Op := Op.load 28 (.tmp n)

set_option maxHeartbeats 4000000 in
theorem deep_any (n : Nat) (hn : n ≤ 100) (w : World) : Calls Tryd.prog 23 #[.int .i64 n] w fun e w' => ∃ s, e = .returned ((deepR n).val s) ∧ ArgsIn (fun x => w.heap.size ≤ x) w' (deepR n) s ∧ Below w.heap.size w w' := by
  have HA := Lib.hid atom_any
  have HRi := Lib.hid rich_any
  obtain ⟨g, hg⟩ : ∃ g, g = w.heap.size := ⟨_, rfl⟩
  have HG := Lib.hid hg
  go_enter Tryd.func23, Tryd.ntmps23
  go_upto_region 2 with (first
    | (go_at_call 21; (with_reducible refine (HA.out { data := #[97] } _).mono ?_); rintro e wa ⟨rfl, HBc⟩; have HBa := Lib.hid HBc; clear HBc)
    | fail)
  obtain ⟨b, hb⟩ : ∃ b, b = wa.heap.size := ⟨_, rfl⟩
  obtain ⟨w3, hw3⟩ : ∃ w3, w3 = wa.alloc (.cells #[.int .u8 1, .string { data := #[97] }, .int .u8 0, .int .i64 0, .string ⟨#[]⟩, .string ⟨#[]⟩, .slice none 0 0] 28) := ⟨_, rfl⟩
  have HS3 := Lib.hid (show DpSt w g b 0 (.slice none 0 0) w3 ∧ g < b from ⟨⟨by rw [hw3]; exact below_t' (new_b _ _) (below_t' HBa.out (new_b _ _)), by rw [hw3, hg]; exact ((Blk.new w 28 zeroR).below HBa.out (by simp)).alloc _, by rw [hw3, hb]; exact Blk.new _ _ _, in_leaf _ _ 1 _ (fit_at 97)⟩, by
    have := HBa.out.size
    rw [World.size_alloc] at this
    omega⟩)
  rw [← hw3, ← hb, ← hg]
  clear hw3 hb hg HBa
  go_wp2_with fail
  go_loopw [4] (fun i wr => ∃ (k : Nat) (s : Value), k ≤ n ∧ i = .int .i64 k ∧ Hid (DpSt w g b k s wr ∧ g < b)) (fun i wr => n - (intOf i).toNat)
  case atStart => exact ⟨0, _, by omega, rfl, HS3⟩
  case round =>
    obtain ⟨k, s, hk, rfl, HSk⟩ := hrel
    by_cases hlt : k < n
    · have hki : (k : Int) < (n : Int) := by omega
      obtain ⟨xa, xc, rfl⟩ := HSk.out.1.ia.is.form
      obtain ⟨r, hr⟩ : ∃ r, r = deepR k := ⟨_, rfl⟩
      have HR := Lib.hid hr
      have HBx := Lib.hid (show ∀ W, Below wr.heap.size wr W → RichB W b r (.slice xa r.n xc) from fun W h => by rw [hr]; exact HSk.out.1.bx.below h)
      obtain ⟨d0, d1, d2, d3, d4, d5, d6, d7⟩ := (HBx.out _ (Below.refl _ wr)).at_
      simp only [Nat.zero_add] at d1 d2 d3 d4 d5 d6
      have HDr := Lib.hid (show Below wr.heap.size wr wr.drew from (Below.refl _ wr).drew)
      have HWg := Lib.hid (show w.heap.size ≤ g by rw [HG.out]; exact Nat.le_refl _)
      rw [← hr] at HSk
      clear hr
      go_upto_region 5 with fail
      rw [show Op.load 28 (Operand.tmp 3) = ldB 3 from rfl]
      go_region_held3 (fun _ => True) (trivial)
        ((first
          | (go_at_call 21; (with_reducible refine (HA.out { data := #[98] } _).mono ?_); rintro e w6 ⟨rfl, HBc⟩; have HDr := Lib.hid (below_t' HDr.out HBc); clear HBc; obtain ⟨e0, e1, e2, e3, e4, e5, e6, e7⟩ := (HBx.out _ HDr.out).at_; simp only [Nat.zero_add] at e1 e2 e3 e4 e5 e6)
          | (go_at_call 14; (with_reducible refine (HRi.out 2 (some ⟨w6.heap.size, 0, none⟩) 2 2 _).mono ?_); rintro e w7 ⟨rfl, HBc⟩; have HP := Lib.hid (DpSt.put (k := k) (s := .slice xa r.n xc) HSk.out.1 HSk.out.2 HWg.out HDr.out (by rw [← HR.out]; exact HBc)); clear HBc; have hb7 := HP.out.2; rw [← HR.out] at hb7; have p0 := hb7.cell 0; have p1 := hb7.cell 1; have p2 := hb7.cell 2; have p3 := hb7.cell 3; have p4 := hb7.cell 4; have p5 := hb7.cell 5; have p6 := hb7.cell 6; have q0 := hb7.frozen 0; have q1 := hb7.frozen 1; have q2 := hb7.frozen 2; have q3 := hb7.frozen 3; have q4 := hb7.frozen 4; have q5 := hb7.frozen 5; have q6 := hb7.frozen 6; have p7 := hb7.lt; clear hb7)))
      all_goals
        go_wp2_with fail
        go_roundw
        case rel => exact ⟨k + 1, _, by omega, by go_num, Lib.hid ⟨HP.out.1, HSk.out.2⟩⟩
        case measure => simp [intOf]; omega
    · obtain rfl : k = n := by omega
      obtain ⟨xa, xc, rfl⟩ := HSk.out.1.ia.is.form
      obtain ⟨r, hr⟩ : ∃ r, r = deepR k := ⟨_, rfl⟩
      have hbx : RichB wr b r (.slice xa r.n xc) := by rw [hr]; exact HSk.out.1.bx
      have HR := Lib.hid hr
      rw [← hr] at HSk
      clear hr
      have o0 := hbx.cell 0
      have o1 := hbx.cell 1
      have o2 := hbx.cell 2
      have o3 := hbx.cell 3
      have o4 := hbx.cell 4
      have o5 := hbx.cell 5
      have o6 := hbx.cell 6
      have ol := hbx.lt
      have hrz := HSk.out.1.rz
      have z0 := hrz.cell 0
      have z1 := hrz.cell 1
      have z2 := hrz.cell 2
      have z3 := hrz.cell 3
      have z4 := hrz.cell 4
      have z5 := hrz.cell 5
      have z6 := hrz.cell 6
      have f0 := hrz.frozen 0
      have f1 := hrz.frozen 1
      have f2 := hrz.frozen 2
      have f3 := hrz.frozen 3
      have f4 := hrz.frozen 4
      have f5 := hrz.frozen 5
      have f6 := hrz.frozen 6
      have zl := hrz.lt
      clear hrz hbx
      go_wp2_with fail
      have h1 := fin7_blk HSk.out.1.rz r (.slice xa r.n xc)
      refine bodyPost_ret (results_cell_row rfl _ _ g 28 _ (0, 0) _ rfl h1 Tryd.underlying28 rfl (by kernel_rfl)) rfl ⟨_, by rw [HR.out], ?_, fin7_below r _ HSk.out.1.bl (by rw [HG.out]; exact Nat.le_refl _)⟩
      have h2 := HSk.out.1.ia.keep (B' := fun x => w.heap.size ≤ x) (w' := fin7 wr g r (.slice xa r.n xc)) (by rw [fin7_size]; exact Nat.le_refl _) (fun x h3 _ => ⟨fin7_far _ _ _ _ x (by have := HSk.out.2; omega), by have := HSk.out.2; have := HG.out; omega⟩)
      rw [HR.out] at h2 ⊢
      exact h2
end Go.Proofs.YtadogjnoklabdaaDoor
