/- ShapeNames: the table and its loop. Conditions: as each theorem names them. -/
import Derived.Test.YtadogjnoklabdaaDoorH52
import Derived.Deep.Cut
import Derived.Deep.RegionHeld3
namespace Go.Proofs.YtadogjnoklabdaaDoor
open Go.ChangeShapes Go.WideShapes Go.ChangeAt Go.RowKit Go.Deep
set_option maxRecDepth 100000

theorem NSt.cells {w W : World} {g : Nat} (h : NSt w g W) : W.cell? ⟨g, 0, none⟩ = some (.int .u8 1) ∧ W.cell? ⟨g, 1, none⟩ = some (.string { data := #[97] }) ∧ W.cell? ⟨g, 2, none⟩ = some (.int .u8 0) ∧ W.cell? ⟨g, 3, none⟩ = some (.int .i64 0) ∧ W.cell? ⟨g, 4, none⟩ = some (.string ⟨#[]⟩) ∧ W.cell? ⟨g, 5, none⟩ = some (.string ⟨#[]⟩) ∧ W.cell? ⟨g, 6, none⟩ = some (.slice none 0 0) ∧ W.cell? ⟨g + 1, 0, none⟩ = some (.int .u8 1) ∧ W.cell? ⟨g + 1, 1, none⟩ = some (.string { data := #[98] }) ∧ W.cell? ⟨g + 1, 2, none⟩ = some (.int .u8 0) ∧ W.cell? ⟨g + 1, 3, none⟩ = some (.int .i64 0) ∧ W.cell? ⟨g + 1, 4, none⟩ = some (.string ⟨#[]⟩) ∧ W.cell? ⟨g + 1, 5, none⟩ = some (.string ⟨#[]⟩) ∧ W.cell? ⟨g + 1, 6, none⟩ = some (.slice none 0 0) ∧ W.cell? ⟨g + 2, 0, none⟩ = some (.int .u8 1) ∧ W.cell? ⟨g + 2, 1, none⟩ = some (.string { data := #[99] }) ∧ W.cell? ⟨g + 2, 2, none⟩ = some (.int .u8 0) ∧ W.cell? ⟨g + 2, 3, none⟩ = some (.int .i64 0) ∧ W.cell? ⟨g + 2, 4, none⟩ = some (.string ⟨#[]⟩) ∧ W.cell? ⟨g + 2, 5, none⟩ = some (.string ⟨#[]⟩) ∧ W.cell? ⟨g + 2, 6, none⟩ = some (.slice none 0 0) :=
  ⟨h.a.cell 0, h.a.cell 1, h.a.cell 2, h.a.cell 3, h.a.cell 4, h.a.cell 5, h.a.cell 6, h.b.cell 0, h.b.cell 1, h.b.cell 2, h.b.cell 3, h.b.cell 4, h.b.cell 5, h.b.cell 6, h.c.cell 0, h.c.cell 1, h.c.cell 2, h.c.cell 3, h.c.cell 4, h.c.cell 5, h.c.cell 6⟩

/-- A load that the region's tactic leaves to the walk. -/
abbrev ldS (n : Nat) : Op := Op.load 9 (.tmp n)
def AllIs (L : List PartV) (w : World) : Prop := ∀ p ∈ L, IsArgs w p.1 p.2
theorem AllIs.below {L : List PartV} {w w' : World} (h : AllIs L w) (hb : Below w.heap.size w w') : AllIs L w' := fun p hp => (h p hp).kept hb
theorem fit_one (b : UInt8) : fitR 1 (dN (oneS b)) := ⟨⟨show (1 : Nat) ≤ 9223372036854775807 from by decide, show (⟨#[]⟩ : ByteArray).size ≤ 9223372036854775807 from by decide, show (⟨#[]⟩ : ByteArray).size ≤ 9223372036854775807 from by decide⟩, by decide, by decide⟩
theorem fit_three (b : UInt8) : fitR 3 (dN (oneS b)) := ⟨(fit_one b).1, by decide, by decide⟩
theorem fit_bad : fitR 1 ⟨oneS 97, 5, 0, ⟨#[]⟩, ⟨#[]⟩⟩ := ⟨(fit_one 97).1, by decide, by decide⟩
theorem names_step {wA wB : World} {L : List PartV} (hL : AllIs L wA) (k : Int) (hk : 0 ≤ k ∧ k < 256) (ps : List PartV) (hps : ∀ p ∈ ps, IsArgs wA p.1 p.2) (hl : ps.length ≤ 9223372036854775807) (n : Nat) (hn : wA.heap.size = n)
    (hB : Below (wA.alloc (.cells (partsC ps).toArray 28)).heap.size (wA.alloc (.cells (partsC ps).toArray 28)) wB) : AllIs ((kR k (ps.map (·.1)), .slice (some ⟨n, 0, none⟩) ps.length ps.length) :: L) wB := by
  subst hn
  have hb2 := below_t' (new_b wA _) hB
  have hblk := Blk.below (Blk.new wA 28 (partsC ps).toArray) hB (by simp)
  refine List.forall_mem_cons.2 ⟨is_parts ps (fit_no k hk) hl (fun i v hv => ?_) (fun p hp => (hps p hp).kept hb2), fun p hp => (hL p hp).kept hb2⟩
  rw [hblk.cell i, ← hv]
  simp

set_option maxHeartbeats 16000000 in
theorem names_start (w : World) (hW : Words w) (hO : Ops w) : Calls Tryd.prog 7 #[] w fun e w' => e = .returned (.bool true) ∧ Below w.heap.size w w' := by
  have HW := Lib.hid hW
  have HO := Lib.hid hO
  have HWk := Lib.hid (works_any w hW hO)
  have HA := Lib.hid atom_any
  clear hW hO
  go_enter Tryd.func7, Tryd.ntmps7
  go_upto_region 4 with (first
    | (go_at_call 9; (with_reducible refine (HWk.out).mono ?_); rintro e wx ⟨rfl, HBc⟩; have HB0 := Lib.hid HBc; clear HBc)
    | (go_at_call 21; (with_reducible refine (HA.out { data := #[97] } _).mono ?_); rintro e wa ⟨rfl, HBc⟩; have HBa := Lib.hid (below_t' HB0.out HBc); clear HBc)
    | (go_at_call 21; (with_reducible refine (HA.out { data := #[98] } _).mono ?_); rintro e wb ⟨rfl, HBc⟩; have HBb := Lib.hid (below_t' HBa.out HBc); clear HBc)
    | (go_at_call 21; (with_reducible refine (HA.out { data := #[99] } _).mono ?_); rintro e wc ⟨rfl, HBc⟩; have HBc := Lib.hid (below_t' HBb.out HBc))
    | fail)
  obtain ⟨g, hg⟩ : ∃ g, g = wc.heap.size := ⟨_, rfl⟩
  obtain ⟨w3, hw3⟩ : ∃ w3, w3 = ((wc.alloc (.cells #[.int .u8 1, .string { data := #[97] }, .int .u8 0, .int .i64 0, .string ⟨#[]⟩, .string ⟨#[]⟩, .slice none 0 0] 28)).alloc (.cells #[.int .u8 1, .string { data := #[98] }, .int .u8 0, .int .i64 0, .string ⟨#[]⟩, .string ⟨#[]⟩, .slice none 0 0] 28)).alloc (.cells #[.int .u8 1, .string { data := #[99] }, .int .u8 0, .int .i64 0, .string ⟨#[]⟩, .string ⟨#[]⟩, .slice none 0 0] 28) := ⟨_, rfl⟩
  have HN3 := Lib.hid (show NSt w g w3 from ⟨by rw [hw3]; exact below_t' HBc.out (below_t' (new_b _ _) (below_t' (new_b _ _) (new_b _ _))), by rw [hw3, hg]; exact ((RichB.new wc aR nilS).below (new_b _ _)).below (new_b _ _), by
      rw [hw3, hg]
      have h := RichB.new (wc.alloc (.cells #[.int .u8 1, .string { data := #[97] }, .int .u8 0, .int .i64 0, .string ⟨#[]⟩, .string ⟨#[]⟩, .slice none 0 0] 28)) bR nilS
      rw [World.size_alloc] at h
      exact h.below (new_b _ _), by
      rw [hw3, hg]
      have h := RichB.new ((wc.alloc (.cells #[.int .u8 1, .string { data := #[97] }, .int .u8 0, .int .i64 0, .string ⟨#[]⟩, .string ⟨#[]⟩, .slice none 0 0] 28)).alloc (.cells #[.int .u8 1, .string { data := #[98] }, .int .u8 0, .int .i64 0, .string ⟨#[]⟩, .string ⟨#[]⟩, .slice none 0 0] 28)) cR nilS
      rw [World.size_alloc, World.size_alloc] at h
      exact h⟩)
  have HWg := Lib.hid (show w.heap.size ≤ g by rw [hg]; exact HBc.out.size)
  rw [← hw3, ← hg]
  clear hw3 hg HBa HBb HBc
  go_upto_region 6 with (first
    | (go_at_call 21; (with_reducible refine (HA.out { data := #[97] } _).mono ?_); rintro e wd ⟨rfl, HBd⟩; have HN4 := Lib.hid (HN3.out.below HBd); clear HBd)
    | fail)
  obtain ⟨gb, hgb⟩ : ∃ gb, gb = wd.heap.size := ⟨_, rfl⟩
  obtain ⟨w5, hw5⟩ : ∃ w5, w5 = wd.alloc (.cells #[.int .u8 1, .string { data := #[97] }, .int .u8 5, .int .i64 0, .string ⟨#[]⟩, .string ⟨#[]⟩, .slice none 0 0] 28) := ⟨_, rfl⟩
  have HN5 := Lib.hid (show NSt w g w5 from by rw [hw5]; exact HN4.out.below (new_b _ _))
  have HBad := Lib.hid (show RichB w5 gb (listR 1 ⟨oneS 97, 5, 0, ⟨#[]⟩, ⟨#[]⟩⟩ []) nilS from by rw [hw5, hgb]; exact Blk.new _ _ _)
  have hz5 : w5.heap.size = gb + 1 := by rw [hw5, hgb]; simp
  have HGb := Lib.hid (show g + 2 < gb from by rw [hgb]; exact HN4.out.c.lt)
  rw [← hw5, ← hgb]
  clear hw5 hgb HN3 HN4
  obtain ⟨a0, a1, a2, a3, a4, a5, a6, b0, b1, b2, b3, b4, b5, b6, c0, c1, c2, c3, c4, c5, c6⟩ := HN5.out.cells
  go_upto_region 7 with fail
  obtain ⟨w6, hw6⟩ : ∃ w6, w6 = w5.alloc (.cells #[.int .u8 1, .string { data := #[97] }, .int .u8 0, .int .i64 0, .string ⟨#[]⟩, .string ⟨#[]⟩, .slice none 0 0] 28) := ⟨_, rfl⟩
  have HN6 := Lib.hid (show NSt w g w6 from by rw [hw6]; exact HN5.out.below (new_b _ _))
  have HBad := Lib.hid (show RichB w6 gb (listR 1 ⟨oneS 97, 5, 0, ⟨#[]⟩, ⟨#[]⟩⟩ []) nilS from by rw [hw6]; exact HBad.out.below (new_b _ _))
  have HWth := Lib.hid (show RichB w6 (gb + 1) aR nilS from by rw [hw6, ← hz5]; exact Blk.new _ _ _)
  have hz6 : w6.heap.size = gb + 2 := by rw [hw6]; simp [hz5]
  rw [← hw6]
  clear hw6 HN5 hz5 a0 a1 a2 a3 a4 a5 a6 b0 b1 b2 b3 b4 b5 b6 c0 c1 c2 c3 c4 c5 c6
  obtain ⟨a0, a1, a2, a3, a4, a5, a6, b0, b1, b2, b3, b4, b5, b6, c0, c1, c2, c3, c4, c5, c6⟩ := HN6.out.cells
  have f6 := HWth.out.frozen 6
  have x6 : w6.cell? ⟨gb + 1, 6, none⟩ = some (.slice none 0 0) := HWth.out.cell 6
  have l6 := HWth.out.lt
  go_upto_region 8 with fail
  obtain ⟨w8, hw8⟩ : ∃ w8, w8 = (w6.setCell ⟨gb + 1, 6, none⟩ (.slice (some ⟨gb + 2, 0, none⟩) 1 1)).alloc (.cells #[.int .u8 1, .string { data := #[98] }, .int .u8 0, .int .i64 0, .string ⟨#[]⟩, .string ⟨#[]⟩, .slice none 0 0] 28) := ⟨_, rfl⟩
  have HN8 := Lib.hid (show NSt w g w8 from by rw [hw8]; exact (HN6.out.far HWg.out (p := ⟨gb + 1, 6, none⟩) (by have := HGb.out; show g + 2 < gb + 1; omega) _).below (new_b _ _))
  have HBad := Lib.hid (show RichB w8 gb (listR 1 ⟨oneS 97, 5, 0, ⟨#[]⟩, ⟨#[]⟩⟩ []) nilS from by rw [hw8]; exact (show RichB _ gb (listR 1 ⟨oneS 97, 5, 0, ⟨#[]⟩, ⟨#[]⟩⟩ []) nilS from HBad.out.far (p := ⟨gb + 1, 6, none⟩) (by show gb ≠ gb + 1; omega) _).below (new_b _ _))
  have HWth := Lib.hid (show RichB w8 (gb + 1) (listR 1 (dN (oneS 97)) [bR]) (.slice (some ⟨gb + 2, 0, none⟩) 1 1) from by rw [hw8]; exact (show RichB _ (gb + 1) (listR 1 (dN (oneS 97)) [bR]) (.slice (some ⟨gb + 2, 0, none⟩) 1 1) from HWth.out.set_ 6 _).below (new_b _ _))
  have hbk8 : Blk w8 (gb + 2) 28 (partsC [(bR, nilS)]).toArray := by
    rw [hw8, ← hz6]
    have h := Blk.new (w6.setCell ⟨gb + 1, 6, none⟩ (.slice (some ⟨gb + 2, 0, none⟩) 1 1)) 28 (partsC [(bR, nilS)]).toArray
    rw [show (w6.setCell ⟨gb + 1, 6, none⟩ (.slice (some ⟨gb + 2, 0, none⟩) 1 1)).heap.size = w6.heap.size from by simp] at h
    rw [hz6] at h ⊢
    exact h
  have HIw := Lib.hid (show IsArgs w8 (listR 1 (dN (oneS 97)) [bR]) (.slice (some ⟨gb + 2, 0, none⟩) 1 1) from is_parts [(bR, nilS)] (fit_one 97) (by decide) (fun i v hv => by rw [hbk8.cell i, ← hv]; simp) (List.forall_mem_cons.2 ⟨is_leaf _ 1 (dN (oneS 98)) (fit_one 98), List.forall_mem_nil _⟩))
  rw [← hw8]
  clear hw8 HN6 hbk8 hz6 f6 x6 l6 a0 a1 a2 a3 a4 a5 a6 b0 b1 b2 b3 b4 b5 b6 c0 c1 c2 c3 c4 c5 c6
  obtain ⟨a0, a1, a2, a3, a4, a5, a6, b0, b1, b2, b3, b4, b5, b6, c0, c1, c2, c3, c4, c5, c6⟩ := HN8.out.cells
  have HRi := Lib.hid rich_any
  go_upto_region 9 with (first
    | (go_at_call 14; (with_reducible refine (HRi.out 3 (some ⟨w8.heap.size, 0, none⟩) 2 2 _).mono ?_); rintro e w9 ⟨rfl, HBc⟩; have HN9 := Lib.hid ((HN8.out.below (new_b _ _)).below HBc); have HB9 := Lib.hid (below_t' (new_b _ _) HBc); have HL9 := Lib.hid (names_step (L := []) (List.forall_mem_nil _) 3 (by decide) [(aR, nilS), (bR, nilS)] (List.forall_mem_cons.2 ⟨is_leaf _ 1 (dN (oneS 97)) (fit_one 97), List.forall_mem_cons.2 ⟨is_leaf _ 1 (dN (oneS 98)) (fit_one 98), List.forall_mem_nil _⟩⟩) (by decide) _ rfl HBc); clear HBc)
    | fail)
  obtain ⟨gn, hgn⟩ : ∃ gn, gn = w9.heap.size := ⟨_, rfl⟩
  obtain ⟨w10, hw10⟩ : ∃ w10, w10 = w9.alloc (.cells #[.int .u8 3, .string ⟨#[]⟩, .int .u8 0, .int .i64 0, .string ⟨#[]⟩, .string ⟨#[]⟩, .slice (some ⟨w8.heap.size, 0, none⟩) 2 2] 28) := ⟨_, rfl⟩
  have hb10 : Below w9.heap.size w9 w10 := by rw [hw10]; exact new_b _ _
  have hb8 : Below w8.heap.size w8 w10 := below_t' HB9.out hb10
  have h89 : w8.heap.size ≤ gn := by rw [hgn]; exact HB9.out.size
  have hgbn : gb + 2 < gn := by
    have h1 := HWth.out.lt
    have h2 : gb + 2 < w8.heap.size := by
      have h3 := HIw.out
      obtain ⟨S, hA, _⟩ := IsArgs.elems2 (r := listR 1 (dN (oneS 97)) [bR]) h3
      obtain ⟨b, o, e, h4⟩ := hA 0 (by decide)
      injection e with e
      injection e with e
      rw [e]
      exact h4.lt
    omega
  have HN11 := Lib.hid (show NSt w g (w10.setCell ⟨gn, 1, none⟩ (.string { data := #[120] })) from (HN9.out.below hb10).far HWg.out (p := ⟨gn, 1, none⟩) (by have := HGb.out; show g + 2 < gn; omega) _)
  have Hx := Lib.hid (show RichB (w10.setCell ⟨gn, 1, none⟩ (.string { data := #[120] })) gb (listR 1 ⟨oneS 97, 5, 0, ⟨#[]⟩, ⟨#[]⟩⟩ []) nilS from Blk.far (HBad.out.below hb8) (p := ⟨gn, 1, none⟩) (by show gb ≠ gn; omega) _)
  have Hy := Lib.hid (show RichB (w10.setCell ⟨gn, 1, none⟩ (.string { data := #[120] })) (gb + 1) (listR 1 (dN (oneS 97)) [bR]) (.slice (some ⟨gb + 2, 0, none⟩) 1 1) from Blk.far (HWth.out.below hb8) (p := ⟨gn, 1, none⟩) (by show gb + 1 ≠ gn; omega) _)
  have hnm : Blk w10 gn 28 #[.int .u8 3, .string ⟨#[]⟩, .int .u8 0, .int .i64 0, .string ⟨#[]⟩, .string ⟨#[]⟩, .slice (some ⟨w8.heap.size, 0, none⟩) 2 2] := by rw [hw10, hgn]; exact Blk.new _ _ _
  have n10 : w10.cell? ⟨gn, 1, none⟩ = some (.string ⟨#[]⟩) := hnm.cell 1
  have f10 := hnm.frozen 1
  have l10 := hnm.lt
  have Hz := Lib.hid (show RichB (w10.setCell ⟨gn, 1, none⟩ (.string { data := #[120] })) gn (listR 3 (dN (oneS 120)) [aR, bR]) (.slice (some ⟨w8.heap.size, 0, none⟩) 2 2) from hnm.set_ 1 _)
  have hb11 : Below w8.heap.size w8 (w10.setCell ⟨gn, 1, none⟩ (.string { data := #[120] })) := hb8.setCell (p := ⟨gn, 1, none⟩) h89 _
  have hb119 : Below w9.heap.size w9 (w10.setCell ⟨gn, 1, none⟩ (.string { data := #[120] })) := hb10.setCell (p := ⟨gn, 1, none⟩) (by show w9.heap.size ≤ gn; omega) _
  have HIw := Lib.hid (HIw.out.kept hb11)
  have HIn := Lib.hid (show IsArgs (w10.setCell ⟨gn, 1, none⟩ (.string { data := #[120] })) (listR 3 (dN (oneS 120)) [aR, bR]) (.slice (some ⟨w8.heap.size, 0, none⟩) 2 2) from (is_dep (HL9.out (kR 3 [aR, bR], .slice (some ⟨w8.heap.size, 0, none⟩) 2 2) List.mem_cons_self) (fit_three 120)).kept hb119)
  rw [← hw10, ← hgn]
  clear hw10 hgn hb10 hb8 h89 hgbn hnm hb11 hb119 HBad HWth HN9 HL9 HB9 HN8 a0 a1 a2 a3 a4 a5 a6 b0 b1 b2 b3 b4 b5 b6 c0 c1 c2 c3 c4 c5 c6
  go_upto_region 10 with fail
  obtain ⟨w11, hw11⟩ : ∃ w11, w11 = w10.setCell ⟨gn, 1, none⟩ (.string { data := #[120] }) := ⟨_, rfl⟩
  rw [← hw11] at HN11 Hx Hy Hz HIw HIn ⊢
  clear hw11 n10 f10 l10
  go_cut [170, 171, 172] from 38 (fun x y z wy => ∃ q, x = .slice (some ⟨q, 0, none⟩) 26 26 ∧ y = .int .i64 26 ∧ z = .int .i64 0 ∧ Hid (NSt w g wy ∧ TabAt wy q))
  case first =>
    refine table_region (by kernel_rfl) (by kernel_rfl) (by kernel_rfl) (by kernel_rfl) (by kernel_rfl) ?_ ?_
    · intro W hW p r hp
      rcases box_cases hp with ⟨rfl, rfl⟩ | ⟨rfl, rfl⟩ | ⟨rfl, rfl⟩ | ⟨rfl, rfl⟩ | ⟨rfl, rfl⟩ | ⟨rfl, rfl⟩
      · exact ⟨by omega, g, nilS, rfl, HN11.out.a.below hW, is_leaf _ 1 (dN (oneS 97)) (fit_one 97)⟩
      · exact ⟨by omega, g + 1, nilS, rfl, HN11.out.b.below hW, is_leaf _ 1 (dN (oneS 98)) (fit_one 98)⟩
      · exact ⟨by omega, g + 2, nilS, rfl, HN11.out.c.below hW, is_leaf _ 1 (dN (oneS 99)) (fit_one 99)⟩
      · exact ⟨by omega, gb, nilS, rfl, Hx.out.below hW, is_leaf _ 1 ⟨oneS 97, 5, 0, ⟨#[]⟩, ⟨#[]⟩⟩ fit_bad⟩
      · exact ⟨by omega, gb + 1, _, rfl, Hy.out.below hW, HIw.out.kept hW⟩
      · exact ⟨by omega, gn, _, rfl, Hz.out.below hW, HIn.out.kept hW⟩
    · intro a' W q hb hT hEx
      have HH := Lib.hid (show NSt w g W ∧ TabAt W q from ⟨HN11.out.below hb, hT⟩)
      have hE2 := hEx.imp (q := fun l => (∃ q', (l[132]?).getD undef = .slice (some ⟨q', 0, none⟩) 26 26 ∧ (l[133]?).getD undef = .int .i64 26 ∧ (l[134]?).getD undef = .int .i64 0 ∧ Hid (NSt w g W ∧ TabAt W q')) ∧ a' = frm _ l []) (fun l h => ⟨⟨q, h.1.1, h.1.2.1, h.1.2.2, HH⟩, h.2⟩)
      go_step
      go_step
      refine Met.intro ?_
      go_step
      exact Eq.mp (by kernel_rfl) hE2
  case rest =>
    obtain ⟨q, rfl, rfl, rfl, HSt⟩ := hcut
    have HOn := Lib.hid (fun (W : World) (h : NSt w g W) (r : RichD) (s : Value) (hs : IsArgs W r s) (hc : r.count ≤ 100) (m : Int) (ho : onlyE r m = true) => show Calls Tryd.prog 22 #[r.val s, .int .u8 m] W fun e w' => e = .returned (.bool true) ∧ Below W.heap.size W w' from by
      have := only_any W r s hs W (Below.refl _ _) (by omega) m (HW.out.below h.bl) (HO.out.below h.bl)
      rw [ho] at this
      exact this)
    clear HN11 Hx Hy Hz HIw HIn
    go_step
    go_wp2_with fail
    go_loopw [172] (fun i wr => ∃ k : Nat, k ≤ 26 ∧ i = .int .i64 k ∧ Hid (NSt w g wr ∧ TabAt wr q)) (fun i wr => 26 - (intOf i).toNat)
    case atStart => exact ⟨0, by omega, rfl, HSt⟩
    case round =>
      obtain ⟨k, hk, rfl, HSk⟩ := hrel
      by_cases hlt : k < 26
      · have hki : (k : Int) < 26 := by omega
        obtain ⟨s, hs, y0, y1, y2, y3, y4, y5, y6, y7⟩ := HSk.out.2.row hlt
        have yl := HSk.out.2.lt
        obtain ⟨ho, hc⟩ := row_facts hlt
        obtain ⟨r, hr⟩ : ∃ r, r = (rowT k).1 := ⟨_, rfl⟩
        obtain ⟨m, hm⟩ : ∃ m, m = (rowT k).2 := ⟨_, rfl⟩
        rw [← hr] at hs y0 y1 y2 y3 y4 y5 ho hc
        rw [← hm] at y7 ho
        obtain ⟨a', c', rfl⟩ := hs.form
        have hb := new_b wr (.cells #[.int .u8 r.kind, .string r.dep.name, .int .u8 r.dep.op, .int .i64 r.dep.ep, .string r.dep.ver, .string r.dep.rel, .slice a' r.n c', .int .u8 m] 44)
        have HSn := Lib.hid (show NSt w g (wr.alloc (.cells #[.int .u8 r.kind, .string r.dep.name, .int .u8 r.dep.op, .int .i64 r.dep.ep, .string r.dep.ver, .string r.dep.rel, .slice a' r.n c', .int .u8 m] 44)) ∧ TabAt (wr.alloc (.cells #[.int .u8 r.kind, .string r.dep.name, .int .u8 r.dep.op, .int .i64 r.dep.ep, .string r.dep.ver, .string r.dep.rel, .slice a' r.n c', .int .u8 m] 44)) q from ⟨HSk.out.1.below hb, HSk.out.2.below hb⟩)
        have HCl := Lib.hid (HOn.out _ HSn.out.1 r (.slice a' r.n c') (hs.kept hb) hc m ho)
        clear hr hm hs hb ho hc
        go_wp2_with (first
          | (go_at_call 22; (with_reducible refine (HCl.out).mono ?_); rintro e w5 ⟨rfl, HBc⟩; have HS5 := Lib.hid (show NSt w g w5 ∧ TabAt w5 q from ⟨HSn.out.1.below HBc, HSn.out.2.below HBc⟩); clear HBc)
          | fail)
        go_roundw
        case rel => exact ⟨k + 1, by omega, by go_num, HS5⟩
        case measure => simp [intOf]; omega
      · obtain rfl : k = 26 := by omega
        obtain ⟨r8, hr8⟩ : ∃ r, r = deepR 8 := ⟨_, rfl⟩
        obtain ⟨r9, hr9⟩ : ∃ r, r = deepR 9 := ⟨_, rfl⟩
        obtain ⟨r3, hr3⟩ : ∃ r, r = deepR 3 := ⟨_, rfl⟩
        obtain ⟨r2, hr2⟩ : ∃ r, r = deepR 2 := ⟨_, rfl⟩
        have HR8 := Lib.hid hr8
        have HR9 := Lib.hid hr9
        have HR3 := Lib.hid hr3
        have HR2 := Lib.hid hr2
        clear hr8 hr9 hr3 hr2
        obtain ⟨iR, hiR, hz0, hz1, hz2⟩ := iRich
        have HL0 := Lib.hid (LSt.new HSk.out.1)
        clear HOn HWk HA HGb HSk hk hlt
        go_wp2_with fail
        go_loopw [9, 10] (fun x i wr => ∃ (k : Nat) (ao : Option Addr) (cp : Nat), k ≤ 24 ∧ x = .slice ao k cp ∧ i = .int .i64 k ∧ Hid (LSt w g k (.slice ao k cp) wr)) (fun _ i _ => 24 - (intOf i).toNat)
        case atStart => exact ⟨0, none, 0, by omega, rfl, rfl, HL0⟩
        case round =>
          obtain ⟨k, ao, cp, hk, rfl, rfl, HLk⟩ := hrel
          obtain ⟨a0, a1, a2, a3, a4, a5, a6, b0, b1, b2, b3, b4, b5, b6, c0, c1, c2, c3, c4, c5, c6⟩ := HLk.out.st.cells
          by_cases hlt : k < 24
          · have hki : (k : Int) < 24 := by omega
            go_wp2_with (first
              | (at_builtin; refine wpList_append_S _ rfl (.tmp 187) (.tmp 189) _ _ rfl 28 iR _ 7 96 Tryd.underlying26 hiR hz0 hz1 hz2 rfl (by omega) (.slice ao k cp) k (manyC k) rfl (HLk.out.ow.alloc _) (many_one k) (.slice (some ⟨wr.heap.size, 0, none⟩) 1 1) 1 (richCs aR nilS) rfl (src_rich wr aR nilS rfl) (by simp only [maxLen]; omega) (by omega) ?_; rintro ao2 cp2 w10 hn2 hm2 hown2 hg2 hat2 hlt2; have HL10 := Lib.hid (HLk.out.put HWg.out _ hown2 hg2 hat2); clear hn2 hm2 hown2 hg2 hat2 hlt2)
              | fail)
            go_roundw
            case rel =>
              have hk1 : Value.int .i64 ((k : Int) + 1) = .int .i64 ((k + 1 : Nat) : Int) := by go_num
              exact ⟨_, _, _, _, _, _, _, _, _, _, ⟨k + 1, ao2, cp2, by omega, rfl, hk1, HL10⟩, rfl⟩
            case measure => simp [intOf]; omega
          · obtain rfl : k = 24 := by omega
            obtain ⟨ao', c', he, h24, hcm, hfo⟩ := HLk.out.ow.form
            injection he with he1 _ he2
            subst he1 he2
            obtain ⟨bl, ol, rfl, _, _, _⟩ := hfo (by decide)
            have h24i : (24 : Int) ≤ (cp : Int) := by omega
            have h23i : ¬ (cp : Int) < 23 := by omega
            have h23n : ¬ cp < 23 := by omega
            have h24n : ¬ cp < 24 := by omega
            clear hcm hfo
            go_upto_region 24 with (first
              | (go_at_call 14; (with_reducible refine (HRi.out 3 (some ⟨bl, ol, none⟩) 23 _ _).mono ?_); rintro e v1 ⟨rfl, HBc⟩; have HL1 := Lib.hid (HLk.out.below HBc); clear HBc)
              | (go_at_call 11; (with_reducible refine (c_may23 HW.out HO.out _ (some ⟨bl, ol, none⟩) cp HL1.out).mono ?_); rintro e v2 ⟨rfl, HBc⟩; have HL2 := Lib.hid (HL1.out.below HBc); clear HBc)
              | (go_at_call 14; (with_reducible refine (HRi.out 3 (some ⟨bl, ol, none⟩) 24 _ _).mono ?_); rintro e v3 ⟨rfl, HBc⟩; have HL3 := Lib.hid (HL2.out.below HBc); clear HBc)
              | (go_at_call 11; (with_reducible refine (c_may24 HW.out HO.out _ (some ⟨bl, ol, none⟩) cp HL3.out).mono ?_); rintro e v4 ⟨rfl, HBc⟩; have HL4 := Lib.hid (HL3.out.below HBc); clear HBc)
              | (go_at_call 23; (with_reducible refine (c_deep8 HR8.out _).mono ?_); rintro e v5 ⟨a8, c8, rfl, hI, HBc⟩; have HI8 := Lib.hid hI.is; have HL5 := Lib.hid (HL4.out.below HBc); clear HBc hI)
              | (go_at_call 11; (with_reducible refine (c_may8 HW.out HO.out HR8.out _ a8 c8 HL5.out.st.bl HI8.out).mono ?_); rintro e v6 ⟨rfl, HBc⟩; have HL6 := Lib.hid (HL5.out.below HBc); clear HBc HI8)
              | (go_at_call 11; (with_reducible refine (c_may9 HW.out HO.out HR9.out _ a9 c9 HL7.out.st.bl HI9.out).mono ?_); rintro e v8 ⟨rfl, HBc⟩; have HL8 := Lib.hid (HL7.out.below HBc); clear HBc; obtain ⟨a0, a1, a2, a3, a4, a5, a6, b0, b1, b2, b3, b4, b5, b6, c0, c1, c2, c3, c4, c5, c6⟩ := HL8.out.st.cells)
              | (go_at_call 11; (with_reducible refine (c_maya HW.out HO.out _ HL8.out.st.bl).mono ?_); rintro e v9 ⟨rfl, HBc⟩; have HL9 := Lib.hid (HL8.out.below HBc); clear HBc)
              | (go_at_call 11; (with_reducible refine (c_may9w HW.out HO.out HR9.out _ b9 d9 HL10.out.st.bl HJ9.out).mono ?_); rintro e v11 ⟨rfl, HBc⟩; have HL11 := Lib.hid (HL10.out.below HBc); clear HBc)
              | (go_at_call 23; (with_reducible refine (c_deep9 HR9.out v11).mono ?_); rintro e v12 ⟨e9, f9, rfl, hI, HBc⟩; have HK9 := Lib.hid hI; have HB12 := Lib.hid HBc; have hOw12 := (HL11.out.below (below_t' HBc (new_b v12 (.cells (richA r9 (.slice e9 r9.n f9)) 28)))).ow; clear HBc hI)
              | (go_at_call 23; (with_reducible refine (c_deep9 HR9.out v9).mono ?_); rintro e v10 ⟨b9, d9, rfl, hI, HBc⟩; have HJ9 := Lib.hid hI.is; have HL10 := Lib.hid (HL9.out.below HBc); clear HBc hI)
              | (go_at_call 23; (with_reducible refine (c_deep9 HR9.out v6).mono ?_); rintro e v7 ⟨a9, c9, rfl, hI, HBc⟩; have HI9 := Lib.hid hI.is; have HL7 := Lib.hid (HL6.out.below HBc); clear HBc hI)
              | (at_builtin; refine wpList_want (by rfl) (wp_append_S _ (.tmp 223) (.tmp 225) _ _ rfl 28 iR _ 7 96 Tryd.underlying26 hiR hz0 hz1 hz2 rfl (by omega) (.slice (some ⟨bl, ol, none⟩) 24 cp) 24 (manyC 24) rfl hOw12 (many_one 24) (.slice (some ⟨v12.heap.size, 0, none⟩) 1 1) 1 (richCs r9 (.slice e9 r9.n f9)) rfl (src_rich v12 r9 (.slice e9 r9.n f9) rfl) (by simp only [maxLen]; omega) (by omega) ?_); rintro ao2 cp2 v13 hn2 hm2 hown2 hg2 hat2 hlt2; have HN13 := Lib.hid (HL11.out.last HWg.out HB12.out HK9.out _ hown2 hg2); clear hn2 hm2 hown2 hg2 hat2 hlt2 hOw12)
              | (go_at_call 14; (with_reducible refine (HRi.out 3 ao2 _ cp2 _).mono ?_); rintro e v14 ⟨rfl, HBc⟩; have HN14 := Lib.hid (show NSt w g v14 ∧ IsArgs v14 (manyR 24 [r9]) (.slice ao2 25 cp2) from ⟨HN13.out.1.below HBc, HN13.out.2.kept HBc⟩); clear HBc)
              | (go_at_call 11; (with_reducible refine (c_may25 HW.out HO.out HR9.out _ ao2 cp2 _ rfl HN14.out.1 HN14.out.2).mono ?_); rintro e v15 ⟨rfl, HBc⟩; have HB15 := Lib.hid (below_t' HN14.out.1.bl HBc); clear HBc)
              | (go_at_call 23; (with_reducible refine (c_deep3 HR3.out _).mono ?_); rintro e v16 ⟨a3, c3, rfl, hI, HBc⟩; have HI3 := Lib.hid hI.is; have HB16 := Lib.hid (below_t' HB15.out HBc); clear HBc hI)
              | fail)
            obtain ⟨g3, hg3⟩ : ∃ g3, g3 = v16.heap.size := ⟨_, rfl⟩
            obtain ⟨w17, hw17⟩ : ∃ w17, w17 = v16.alloc (richObj r3 (.slice a3 r3.n c3)) := ⟨_, rfl⟩
            have HDs := Lib.hid (show DSt w g3 r3 (.slice a3 r3.n c3) w17.drew from DSt.below ⟨by rw [hw17]; exact below_t' HB16.out (new_b _ _), by rw [hw17, hg3]; exact RichB.new _ _ _, by rw [hw17]; exact HI3.out.kept (new_b _ _)⟩ (Below.refl _ w17).drew)
            rw [← hg3, ← hw17]
            clear hg3 hw17
            have HCells := Lib.hid (show ∀ w', DSt w g3 r3 (.slice a3 r3.n c3) w' → (w'.cell? ⟨g3, 0, none⟩ = some (.int .u8 r3.kind) ∧ w'.cell? ⟨g3, 1, none⟩ = some (.string r3.dep.name) ∧ w'.cell? ⟨g3, 2, none⟩ = some (.int .u8 r3.dep.op) ∧ w'.cell? ⟨g3, 3, none⟩ = some (.int .i64 r3.dep.ep) ∧ w'.cell? ⟨g3, 4, none⟩ = some (.string r3.dep.ver) ∧ w'.cell? ⟨g3, 5, none⟩ = some (.string r3.dep.rel) ∧ w'.cell? ⟨g3, 6, none⟩ = some (.slice a3 r3.n c3)) from fun w' h => ⟨h.bx.cell 0, h.bx.cell 1, h.bx.cell 2, h.bx.cell 3, h.bx.cell 4, h.bx.cell 5, h.bx.cell 6⟩)
            rw [show Op.load 9 (Operand.tmp 250) = ldS 250 from rfl]
            go_region_held3 (fun w' => w'.cell? ⟨g3, 0, none⟩ = some (.int .u8 r3.kind) ∧ w'.cell? ⟨g3, 1, none⟩ = some (.string r3.dep.name) ∧ w'.cell? ⟨g3, 2, none⟩ = some (.int .u8 r3.dep.op) ∧ w'.cell? ⟨g3, 3, none⟩ = some (.int .i64 r3.dep.ep) ∧ w'.cell? ⟨g3, 4, none⟩ = some (.string r3.dep.ver) ∧ w'.cell? ⟨g3, 5, none⟩ = some (.string r3.dep.rel) ∧ w'.cell? ⟨g3, 6, none⟩ = some (.slice a3 r3.n c3)) (exact HCells.out _ HDs.out)
              ((first
                | (go_at_call 12; (with_reducible refine (c_count3 HR3.out _ a3 c3 HDs.out.ia).mono ?_); rintro e wx ⟨rfl, HBc⟩; have HDs := Lib.hid (HDs.out.below HBc); clear HBc)
                | (go_at_call 12; (with_reducible refine (c_countz _).mono ?_); rintro e wx ⟨rfl, HBc⟩; have HDs := Lib.hid (HDs.out.below HBc); clear HBc)
                | (go_at_call 13; (with_reducible refine (c_depth3 HR3.out _ a3 c3 HDs.out.ia).mono ?_); rintro e wx ⟨rfl, HBc⟩; have HDs := Lib.hid (HDs.out.below HBc); clear HBc)
                | (go_at_call 13; (with_reducible refine (c_depthz _).mono ?_); rintro e wx ⟨rfl, HBc⟩; have HDs := Lib.hid (HDs.out.below HBc); clear HBc)
                | (go_at_call 15; (with_reducible refine (c_atoms3 HR3.out _ a3 c3 HDs.out.ia).mono ?_); rintro e wx ⟨bq, oq, cq, rfl, ⟨hql, hqc⟩, HBc⟩; have HDs := Lib.hid (HDs.out.below HBc); clear HBc)
                | (go_at_call 15; (with_reducible refine (c_atomsz _).mono ?_); rintro e wx ⟨az, cz, rfl, HBc⟩; have HDs := Lib.hid (HDs.out.below HBc); clear HBc)
                | (go_at_call 23; (with_reducible refine (c_deep2 HR2.out _).mono ?_); rintro e wx ⟨a2, c2, rfl, hI, HBc⟩; have HI2 := Lib.hid hI.is; have HDs := Lib.hid (HDs.out.below HBc); clear HBc hI)
                | (go_at_call 18; (with_reducible refine (c_same HR3.out HR2.out _ a3 c3 HDs.out.ia a2 c2 HI2.out).mono ?_); rintro e wx ⟨rfl, HBc⟩; have HDs := Lib.hid (HDs.out.below HBc); clear HBc)))
            all_goals
              go_wp2_with fail
              go_ret
              exact ⟨rfl, HDs.out.bl⟩
end Go.Proofs.YtadogjnoklabdaaDoor
