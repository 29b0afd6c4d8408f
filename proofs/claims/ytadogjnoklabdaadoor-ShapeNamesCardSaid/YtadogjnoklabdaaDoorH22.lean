/- works. Conditions: as each theorem names them. -/
import Derived.Test.YtadogjnoklabdaaDoorH21
namespace Go.Proofs.YtadogjnoklabdaaDoor
open Go.ChangeShapes Go.WideShapes Go.ChangeAt Go.RowKit Go.Deep
set_option maxRecDepth 100000

abbrev nilS : Value := .slice none 0 0
theorem is_atom (w : World) (s : ByteArray) (hs : s.size ≤ 9223372036854775807) : IsArgs w (atomR s) nilS :=
  .mk (atomR s) none 0 (fun _ => nilS) ⟨⟨hs, show (⟨#[]⟩ : ByteArray).size ≤ 9223372036854775807 from by decide, show (⟨#[]⟩ : ByteArray).size ≤ 9223372036854775807 from by decide⟩, show (0 : Int) ≤ 1 from by decide, show (1 : Int) < 256 from by decide⟩ (Nat.zero_le _) (fun j hj => absurd hj (Nat.not_lt_zero j)) (fun j hj => absurd hj (Nat.not_lt_zero j))
theorem is_two {w : World} {g c : Nat} {k : Int} {x y : RichD} {sx sy : Value} (hk : 0 ≤ k ∧ k < 256) (h1 : RichAt w g 0 x sx) (h2 : RichAt w g 7 y sy) (i1 : IsArgs w x sx) (i2 : IsArgs w y sy) : IsArgs w (twoR k x y) (.slice (some ⟨g, 0, none⟩) 2 c) :=
  .mk (twoR k x y) (some ⟨g, 0, none⟩) c (fun j => if j = 0 then sx else sy) ⟨⟨show (⟨#[]⟩ : ByteArray).size ≤ 9223372036854775807 from by decide, show (⟨#[]⟩ : ByteArray).size ≤ 9223372036854775807 from by decide, show (⟨#[]⟩ : ByteArray).size ≤ 9223372036854775807 from by decide⟩, hk.1, hk.2⟩ (by show 2 ≤ _; omega)
    (fun j hj => ⟨g, 0, rfl, by
      have : j = 0 ∨ j = 1 := by have : j < 2 := hj; omega
      rcases this with rfl | rfl
      · exact h1
      · exact h2⟩)
    (fun j hj => by
      have : j = 0 ∨ j = 1 := by have : j < 2 := hj; omega
      rcases this with rfl | rfl
      · exact i1
      · exact i2)
theorem is_one {w : World} {g c : Nat} {k : Int} {x : RichD} {sx : Value} (hk : 0 ≤ k ∧ k < 256) (h1 : RichAt w g 0 x sx) (i1 : IsArgs w x sx) : IsArgs w (oneR k x) (.slice (some ⟨g, 0, none⟩) 1 c) :=
  .mk (oneR k x) (some ⟨g, 0, none⟩) c (fun _ => sx) ⟨⟨show (⟨#[]⟩ : ByteArray).size ≤ 9223372036854775807 from by decide, show (⟨#[]⟩ : ByteArray).size ≤ 9223372036854775807 from by decide, show (⟨#[]⟩ : ByteArray).size ≤ 9223372036854775807 from by decide⟩, hk.1, hk.2⟩ (by show 1 ≤ _; omega)
    (fun j hj => ⟨g, 0, rfl, by
      have : j = 0 := by have : j < 1 := hj; omega
      subst this
      exact h1⟩)
    (fun j hj => i1)
/-- Cells of two parts in a new block. -/
abbrev twoC (x y : RichD) (sx sy : Value) : Array Value := #[.int .u8 x.kind, .string x.dep.name, .int .u8 x.dep.op, .int .i64 x.dep.ep, .string x.dep.ver, .string x.dep.rel, sx, .int .u8 y.kind, .string y.dep.name, .int .u8 y.dep.op, .int .i64 y.dep.ep, .string y.dep.ver, .string y.dep.rel, sy]
theorem two_new (w : World) (x y : RichD) (sx sy : Value) : RichAt (w.alloc (.cells (twoC x y sx sy) 28)) w.heap.size 0 x sx ∧ RichAt (w.alloc (.cells (twoC x y sx sy) 28)) w.heap.size 7 y sy := by
  have h := Blk.new w 28 (twoC x y sx sy)
  exact ⟨⟨h.cell 0, h.cell 1, h.cell 2, h.cell 3, h.cell 4, h.cell 5, h.cell 6, h.lt⟩, ⟨h.cell 7, h.cell 8, h.cell 9, h.cell 10, h.cell 11, h.cell 12, h.cell 13, h.lt⟩⟩
structure WSt (w : World) (g : Nat) (W : World) : Prop where
  bl : Below w.heap.size w W
  a : RichAt W g 0 (atomR bashS) nilS
  b : RichAt W (g + 1) 0 (atomR zshS) nilS
theorem WSt.below {w W W' : World} {g : Nat} (h : WSt w g W) (hb : Below W.heap.size W W') : WSt w g W' := ⟨below_t h.bl hb, h.a.below hb, h.b.below hb⟩
theorem WSt.alloc {w W : World} {g : Nat} (h : WSt w g W) (o : Obj) : WSt w g (W.alloc o) := h.below (below_new _ _)
theorem WSt.drew {w W : World} {g : Nat} (h : WSt w g W) : WSt w g W.drew := h.below (Below.refl _ W).drew
theorem WSt.cells {w W : World} {g : Nat} (h : WSt w g W) : W.cell? ⟨g, 0, none⟩ = some (.int .u8 1) ∧ W.cell? ⟨g, 1, none⟩ = some (.string bashS) ∧ W.cell? ⟨g, 2, none⟩ = some (.int .u8 0) ∧ W.cell? ⟨g, 3, none⟩ = some (.int .i64 0) ∧ W.cell? ⟨g, 4, none⟩ = some (.string ⟨#[]⟩) ∧ W.cell? ⟨g, 5, none⟩ = some (.string ⟨#[]⟩) ∧ W.cell? ⟨g, 6, none⟩ = some nilS ∧
    W.cell? ⟨g + 1, 0, none⟩ = some (.int .u8 1) ∧ W.cell? ⟨g + 1, 1, none⟩ = some (.string zshS) ∧ W.cell? ⟨g + 1, 2, none⟩ = some (.int .u8 0) ∧ W.cell? ⟨g + 1, 3, none⟩ = some (.int .i64 0) ∧ W.cell? ⟨g + 1, 4, none⟩ = some (.string ⟨#[]⟩) ∧ W.cell? ⟨g + 1, 5, none⟩ = some (.string ⟨#[]⟩) ∧ W.cell? ⟨g + 1, 6, none⟩ = some nilS := by
  obtain ⟨_, ⟨a0, a1, a2, a3, a4, a5, a6, _⟩, ⟨b0, b1, b2, b3, b4, b5, b6, _⟩⟩ := h
  exact ⟨a0, a1, a2, a3, a4, a5, a6, b0, b1, b2, b3, b4, b5, b6⟩

set_option maxHeartbeats 8000000 in
theorem works_any : WorksC := fun w hW hO => by
  have HW := Lib.hid hW
  have HO := Lib.hid hO
  clear hW hO
  have HA := Lib.hid atom_any
  go_enter Tryd.func9, Tryd.ntmps9
  go_upto_region 2 with (first
    | (go_at_call 21; (with_reducible refine (HA.out bashS _).mono ?_); rintro e wa ⟨rfl, HBa⟩; have HBa2 := Lib.hid HBa; clear HBa)
    | (go_at_call 21; (with_reducible refine (HA.out zshS _).mono ?_); rintro e wb ⟨rfl, HBb⟩; have HBb2 := Lib.hid HBb; clear HBb)
    | fail)
  obtain ⟨w2, hw2⟩ : ∃ w2, w2 = (wb.alloc (richObj (atomR bashS) nilS)).alloc (richObj (atomR zshS) nilS) := ⟨_, rfl⟩
  obtain ⟨g, hg⟩ : ∃ g, g = wb.heap.size := ⟨_, rfl⟩
  have HS2 := Lib.hid (show WSt w g w2.drew from WSt.drew ⟨by rw [hw2]; exact below_t HBa2.out (below_t HBb2.out (below_t (below_new _ _) (below_new _ _))), by rw [hw2, hg]; exact (rich_new wb (atomR bashS) nilS).below (below_new _ _), by
    rw [hw2, hg]
    have h := rich_new (wb.alloc (richObj (atomR bashS) nilS)) (atomR zshS) nilS
    rw [World.size_alloc] at h
    exact h⟩)
  have HD := Lib.hid (fun (W : World) => depth_any W (atomR bashS) nilS (is_atom W bashS (by decide)) W (Below.refl _ _) (by decide))
  have HRi := Lib.hid rich_any
  have HOn := Lib.hid (fun (W : World) (h : WSt w g W) (r : RichD) (s : Value) (hs : IsArgs W r s) (hc : r.count ≤ 4611686018427387904) (most : Int) => only_any W r s hs W (Below.refl _ _) hc most (HW.out.below h.bl) (HO.out.below h.bl))
  have HA1 := Lib.hid (show ∀ W, WSt w g W → Calls Tryd.prog 22 #[.agg #[.int .u8 1, .string bashS, .int .u8 0, .int .i64 0, .string ⟨#[]⟩, .string ⟨#[]⟩, .slice none 0 0], .int .u8 3] W fun e w' => e = .returned (.bool true) ∧ Below W.heap.size W w' from fun W h => by
    have := HOn.out W h (atomR bashS) nilS (is_atom W bashS (by decide)) (by decide) 3
    rw [only_atom] at this
    exact this)
  have HD1 := Lib.hid (show ∀ W, Calls Tryd.prog 13 #[.agg #[.int .u8 1, .string bashS, .int .u8 0, .int .i64 0, .string ⟨#[]⟩, .string ⟨#[]⟩, .slice none 0 0]] W fun e w' => e = .returned (.int .i64 0) ∧ Below W.heap.size W w' from fun W => HD.out W)
  have HA2 := Lib.hid (show ∀ W q, WSt w g W → (RichAt W q 0 (atomR bashS) nilS ∧ RichAt W q 7 (atomR zshS) nilS) → Calls Tryd.prog 22 #[.agg #[.int .u8 4, .string ⟨#[]⟩, .int .u8 0, .int .i64 0, .string ⟨#[]⟩, .string ⟨#[]⟩, .slice (some ⟨q, 0, none⟩) 2 2], .int .u8 1] W fun e w' => e = .returned (.bool true) ∧ Below W.heap.size W w' from fun W q h h2 => by
    have := HOn.out W h ifR (.slice (some ⟨q, 0, none⟩) 2 2) (is_two (by decide) h2.1 h2.2 (is_atom W bashS (by decide)) (is_atom W zshS (by decide))) (by decide) 1
    rw [only_if] at this
    exact this)
  have HA3 := Lib.hid (show ∀ W q p, WSt w g W → (RichAt W q 0 (atomR bashS) nilS ∧ RichAt W q 7 (atomR zshS) nilS) → (RichAt W p 0 (atomR bashS) nilS ∧ RichAt W p 7 unlR (.slice (some ⟨q, 0, none⟩) 2 2)) → Calls Tryd.prog 22 #[.agg #[.int .u8 6, .string ⟨#[]⟩, .int .u8 0, .int .i64 0, .string ⟨#[]⟩, .string ⟨#[]⟩, .slice (some ⟨p, 0, none⟩) 2 2], .int .u8 0] W fun e w' => e = .returned (.bool true) ∧ Below W.heap.size W w' from fun W q p h h2 h3 => by
    have := HOn.out W h withR (.slice (some ⟨p, 0, none⟩) 2 2) (is_two (by decide) h3.1 h3.2 (is_atom W bashS (by decide)) (is_two (by decide) h2.1 h2.2 (is_atom W bashS (by decide)) (is_atom W zshS (by decide)))) (by decide) 0
    rw [only_with] at this
    exact this)
  have HA4 := Lib.hid (show ∀ W q, WSt w g W → RichAt W q 0 (atomR bashS) nilS → Calls Tryd.prog 22 #[.agg #[.int .u8 2, .string ⟨#[]⟩, .int .u8 0, .int .i64 0, .string ⟨#[]⟩, .string ⟨#[]⟩, .slice (some ⟨q, 0, none⟩) 1 1], .int .u8 0] W fun e w' => e = .returned (.bool true) ∧ Below W.heap.size W w' from fun W q h h2 => by
    have := HOn.out W h andR (.slice (some ⟨q, 0, none⟩) 1 1) (is_one (by decide) h2 (is_atom W bashS (by decide))) (by decide) 0
    rw [only_and] at this
    exact this)
  rw [← hg]
  have HW2 := Lib.hid hw2
  have hw3 : (wb.alloc (.cells #[.int .u8 1, .string bashS, .int .u8 0, .int .i64 0, .string ⟨#[]⟩, .string ⟨#[]⟩, .slice none 0 0] 28)).alloc (.cells #[.int .u8 1, .string zshS, .int .u8 0, .int .i64 0, .string ⟨#[]⟩, .string ⟨#[]⟩, .slice none 0 0] 28) = w2 := hw2.symm
  rw [hw3]
  clear hw2 hw3 hg HA HD HOn
  go_region_held3 (fun w' => w'.cell? ⟨g, 0, none⟩ = some (.int .u8 1) ∧ w'.cell? ⟨g, 1, none⟩ = some (.string bashS) ∧ w'.cell? ⟨g, 2, none⟩ = some (.int .u8 0) ∧ w'.cell? ⟨g, 3, none⟩ = some (.int .i64 0) ∧ w'.cell? ⟨g, 4, none⟩ = some (.string ⟨#[]⟩) ∧ w'.cell? ⟨g, 5, none⟩ = some (.string ⟨#[]⟩) ∧ w'.cell? ⟨g, 6, none⟩ = some (.slice none 0 0) ∧ w'.cell? ⟨g + 1, 0, none⟩ = some (.int .u8 1) ∧ w'.cell? ⟨g + 1, 1, none⟩ = some (.string zshS) ∧ w'.cell? ⟨g + 1, 2, none⟩ = some (.int .u8 0) ∧ w'.cell? ⟨g + 1, 3, none⟩ = some (.int .i64 0) ∧ w'.cell? ⟨g + 1, 4, none⟩ = some (.string ⟨#[]⟩) ∧ w'.cell? ⟨g + 1, 5, none⟩ = some (.string ⟨#[]⟩) ∧ w'.cell? ⟨g + 1, 6, none⟩ = some (.slice none 0 0)) (first | exact HS2.out.cells | exact HS11.out.cells | exact (HS11.out.alloc _).cells | exact HS10.out.cells | exact (HS10.out.alloc _).cells | exact HS9.out.cells | exact (HS9.out.alloc _).cells | exact HS8.out.cells | exact (HS8.out.alloc _).cells | exact HS7.out.cells | exact (HS7.out.alloc _).cells | exact HS6.out.cells | exact (HS6.out.alloc _).cells | exact HS5.out.cells | exact (HS5.out.alloc _).cells | exact HS4.out.cells | exact (HS4.out.alloc _).cells | exact HS3.out.cells | exact (HS3.out.alloc _).cells)
    ((first
      | (go_at_call 22; (with_reducible refine (HA1.out _ HS2.out).mono ?_); rintro e w3 ⟨rfl, HBc⟩; have HS3 := Lib.hid (HS2.out.below HBc); clear HBc)
      | (go_at_call 13; (with_reducible refine (HD1.out _).mono ?_); rintro e w4 ⟨rfl, HBc⟩; have HS4 := Lib.hid (HS3.out.below HBc); clear HBc)
      | (go_at_call 14; (with_reducible refine (HRi.out 4 _ _ _ _).mono ?_); rintro e w5 ⟨rfl, HBc⟩; have HS5 := Lib.hid ((HS4.out.alloc _).below HBc); have HT5 := Lib.hid (show RichAt w5 w4.heap.size 0 (atomR bashS) nilS ∧ RichAt w5 w4.heap.size 7 (atomR zshS) nilS from ⟨(two_new w4 (atomR bashS) (atomR zshS) nilS nilS).1.below HBc, (two_new w4 (atomR bashS) (atomR zshS) nilS nilS).2.below HBc⟩); clear HBc)
      | (go_at_call 22; (with_reducible refine (HA2.out _ _ HS5.out HT5.out).mono ?_); rintro e w6 ⟨rfl, HBc⟩; have HS6 := Lib.hid (HS5.out.below HBc); clear HBc)
      | (go_at_call 14; (with_reducible refine (HRi.out 5 _ _ _ _).mono ?_); rintro e w7 ⟨rfl, HBc⟩; have HS7 := Lib.hid ((HS6.out.alloc _).below HBc); have HT7 := Lib.hid (show RichAt w7 w6.heap.size 0 (atomR bashS) nilS ∧ RichAt w7 w6.heap.size 7 (atomR zshS) nilS from ⟨(two_new w6 (atomR bashS) (atomR zshS) nilS nilS).1.below HBc, (two_new w6 (atomR bashS) (atomR zshS) nilS nilS).2.below HBc⟩); clear HBc)
      | (go_at_call 14; (with_reducible refine (HRi.out 6 _ _ _ _).mono ?_); rintro e w8 ⟨rfl, HBc⟩; have HS8 := Lib.hid ((HS7.out.alloc _).below HBc); have HT8 := Lib.hid (show RichAt w8 w6.heap.size 0 (atomR bashS) nilS ∧ RichAt w8 w6.heap.size 7 (atomR zshS) nilS from ⟨(HT7.out.1.below (below_new _ _)).below HBc, (HT7.out.2.below (below_new _ _)).below HBc⟩); have HU8 := Lib.hid (show RichAt w8 w7.heap.size 0 (atomR bashS) nilS ∧ RichAt w8 w7.heap.size 7 unlR (.slice (some ⟨w6.heap.size, 0, none⟩) 2 2) from ⟨(two_new w7 (atomR bashS) unlR nilS (.slice (some ⟨w6.heap.size, 0, none⟩) 2 2)).1.below HBc, (two_new w7 (atomR bashS) unlR nilS (.slice (some ⟨w6.heap.size, 0, none⟩) 2 2)).2.below HBc⟩); clear HBc)
      | (go_at_call 22; (with_reducible refine (HA3.out _ _ _ HS8.out HT8.out HU8.out).mono ?_); rintro e w9 ⟨rfl, HBc⟩; have HS9 := Lib.hid (HS8.out.below HBc); clear HBc)
      | (go_at_call 14; (with_reducible refine (HRi.out 2 _ _ _ _).mono ?_); rintro e w10 ⟨rfl, HBc⟩; have HS10 := Lib.hid ((HS9.out.alloc _).below HBc); have HV10 := Lib.hid (show RichAt w10 w9.heap.size 0 (atomR bashS) nilS from (rich_new w9 (atomR bashS) nilS).below HBc); clear HBc)
      | (go_at_call 22; (with_reducible refine (HA4.out _ _ HS10.out HV10.out).mono ?_); rintro e w11 ⟨rfl, HBc⟩; have HS11 := Lib.hid (HS10.out.below HBc); clear HBc)))
  all_goals
    go_wp2_with fail
    go_ret
    exact ⟨rfl, HS11.out.bl⟩
end Go.Proofs.YtadogjnoklabdaaDoor
