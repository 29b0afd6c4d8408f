/- shape.of: what a Kind asks. Conditions: as each theorem names them. -/
import Derived.Test.YtadogjnoklabdaaDoorH14
import Derived.Laws.Rows
import Derived.Great.BuildSlice
import Derived.Deep.WholeRow
import Derived.Deep.Cut
namespace Go.Proofs.YtadogjnoklabdaaDoor
open Go.ChangeShapes Go.WideShapes Go.ChangeAt Go.RowKit Go.Deep
set_option maxRecDepth 100000

structure AskD where
  least : Int
  most : Int
  alone : Bool
  wher : Int
def askE (k : Int) : AskD :=
  if k = 1 then ⟨0, 0, true, 3⟩ else if k = 2 then ⟨2, 24, true, 3⟩ else if k = 3 then ⟨2, 24, true, 3⟩ else if k = 4 then ⟨2, 3, false, 1⟩ else if k = 5 then ⟨2, 3, false, 2⟩ else if k = 6 then ⟨2, 24, true, 3⟩ else if k = 7 then ⟨2, 2, true, 3⟩ else ⟨0, 0, false, 0⟩
abbrev AskD.val (a : AskD) : Value := .agg #[.int .i64 a.least, .int .i64 a.most, .bool a.alone, .int .u8 a.wher]
abbrev allC : Array Value := #[.int .i64 0, .int .i64 0, .bool false, .int .u8 0, .int .i64 0, .int .i64 0, .bool true, .int .u8 3, .int .i64 2, .int .i64 24, .bool true, .int .u8 3, .int .i64 2, .int .i64 24, .bool true, .int .u8 3, .int .i64 2, .int .i64 3, .bool false, .int .u8 1, .int .i64 2, .int .i64 3, .bool false, .int .u8 2, .int .i64 2, .int .i64 24, .bool true, .int .u8 3, .int .i64 2, .int .i64 2, .bool true, .int .u8 3]
abbrev zeroC : Array Value := #[.int .i64 0, .int .i64 0, .bool false, .int .u8 0, .int .i64 0, .int .i64 0, .bool false, .int .u8 0, .int .i64 0, .int .i64 0, .bool false, .int .u8 0, .int .i64 0, .int .i64 0, .bool false, .int .u8 0, .int .i64 0, .int .i64 0, .bool false, .int .u8 0, .int .i64 0, .int .i64 0, .bool false, .int .u8 0, .int .i64 0, .int .i64 0, .bool false, .int .u8 0, .int .i64 0, .int .i64 0, .bool false, .int .u8 0]
theorem blk_four {w : World} {g : Nat} {o0 o1 o2 o3 : Value} (h : Blk w g 52 #[o0, o1, o2, o3]) (a b c d : Value) : Blk ((((w.setCell ⟨g, 0, none⟩ a).setCell ⟨g, 1, none⟩ b).setCell ⟨g, 2, none⟩ c).setCell ⟨g, 3, none⟩ d) g 52 #[a, b, c, d] :=
  (((h.set_ 0 a).set_ 1 b).set_ 2 c).set_ 3 d
theorem below_four {w0 w : World} {g : Nat} (h : Below w0.heap.size w0 w) (hg : w0.heap.size ≤ g) (a b c d : Value) : Below w0.heap.size w0 ((((w.setCell ⟨g, 0, none⟩ a).setCell ⟨g, 1, none⟩ b).setCell ⟨g, 2, none⟩ c).setCell ⟨g, 3, none⟩ d) :=
  (((h.setCell (p := ⟨g, 0, none⟩) hg a).setCell (p := ⟨g, 1, none⟩) hg b).setCell (p := ⟨g, 2, none⟩) hg c).setCell (p := ⟨g, 3, none⟩) hg d
set_option maxHeartbeats 4000000 in
theorem of_any (k : Int) (h0 : 0 ≤ k) (h1 : k < 256) (w : World) : Calls Tryd.prog 30 #[.int .u8 k] w fun e w' => e = .returned (askE k).val ∧ Below w.heap.size w w' := by
  obtain ⟨w1, hw1⟩ : ∃ w1, w1 = w.alloc (.cells #[.int .i64 0, .int .i64 0, .bool false, .int .u8 0] 52) := ⟨_, rfl⟩
  obtain ⟨w2, hw2⟩ : ∃ w2, w2 = w1.alloc (.cells allC 59) := ⟨_, rfl⟩
  obtain ⟨g, hg⟩ : ∃ g, g = w.heap.size := ⟨_, rfl⟩
  have hg1 : w1.heap.size = g + 1 := by rw [hw1, hg]; simp
  have hb1 : Below w.heap.size w w1 := by rw [hw1]; exact below_new _ _
  have hb2 : Below w.heap.size w w2 := by rw [hw2]; exact hb1.trans ((below_new w1 _).mono (by omega))
  have hk1 : Blk w1 g 52 #[.int .i64 0, .int .i64 0, .bool false, .int .u8 0] := by rw [hw1, hg]; exact Blk.new _ _ _
  have hk2 : Blk w2 g 52 #[.int .i64 0, .int .i64 0, .bool false, .int .u8 0] := by rw [hw2]; exact hk1.alloc _
  have hk3 : Blk w2 (g + 1) 59 allC := by rw [hw2, ← hg1]; exact Blk.new _ _ _
  have HB2 := Lib.hid hb2
  have HK2 := Lib.hid hk2
  have HK3 := Lib.hid hk3
  have HG := Lib.hid hg
  have HG1 := Lib.hid hg1
  have HW1 := Lib.hid hw1
  clear hb1 hk1 hb2 hk2 hk3 hg1 hg
  go_enter Tryd.func30, Tryd.ntmps30
  go_upto_region 1 with fail
  rw [← hw1]
  clear hw1
  go_upto_region 2 with (first
    | (refine wpList_buildTo rfl 59 _ rfl (some 11) rfl allC (by kernel_rfl) ?_)
    | (refine wpList_store_rowTo rfl 59 _ _ rfl rfl w1.heap.size allC rfl rfl 59 zeroC (heap_alloc_last w1 _) (by kernel_rfl) rfl (by kernel_rfl) ?_; rw [World.setRow_alloc_new, ← hw2]))
  rw [HG1.out, ← HG.out]
  have c0 : w2.cell? ⟨g, 0, none⟩ = some (.int .i64 0) := HK2.out.cell 0
  have c1 : w2.cell? ⟨g, 1, none⟩ = some (.int .i64 0) := HK2.out.cell 1
  have c2 : w2.cell? ⟨g, 2, none⟩ = some (.bool false) := HK2.out.cell 2
  have c3 : w2.cell? ⟨g, 3, none⟩ = some (.int .u8 0) := HK2.out.cell 3
  have f0 : w2.frozen? ⟨g, 0, none⟩ = false := HK2.out.frozen 0
  have f1 : w2.frozen? ⟨g, 1, none⟩ = false := HK2.out.frozen 1
  have f2 : w2.frozen? ⟨g, 2, none⟩ = false := HK2.out.frozen 2
  have f3 : w2.frozen? ⟨g, 3, none⟩ = false := HK2.out.frozen 3
  clear hw2
  by_cases hk : 8 ≤ k
  · have hw : wrap64 k = k := by unfold wrap64; omega
    have hd : decide (8 ≤ k) = true := by simpa using hk
    have hE : askE k = ⟨0, 0, false, 0⟩ := by
      unfold askE
      rw [if_neg (by omega), if_neg (by omega), if_neg (by omega), if_neg (by omega), if_neg (by omega), if_neg (by omega), if_neg (by omega)]
    have HEk := Lib.hid hE
    clear hE
    go_wp2_with fail
    refine bodyPost_ret (results_cell_row rfl _ _ g 52 _ (0, 0) _ rfl (blk_four HK2.out _ _ _ _) Tryd.underlying52 rfl (by kernel_rfl)) rfl ⟨?_, below_four HB2.out (by rw [HG.out]; exact Nat.le_refl _) _ _ _ _⟩
    rw [HEk.out]
  · have : k = 0 ∨ k = 1 ∨ k = 2 ∨ k = 3 ∨ k = 4 ∨ k = 5 ∨ k = 6 ∨ k = 7 := by omega
    have HE := Lib.hid (fun i => HK3.out.cell i)
    clear h0 h1 hk
    rcases this with rfl | rfl | rfl | rfl | rfl | rfl | rfl | rfl
    · have e0 : w2.cell? ⟨g + 1, 0, none⟩ = some (.int .i64 0) := HE.out 0
      have e1 : w2.cell? ⟨g + 1, 1, none⟩ = some (.int .i64 0) := HE.out 1
      have e2 : w2.cell? ⟨g + 1, 2, none⟩ = some (.bool false) := HE.out 2
      have e3 : w2.cell? ⟨g + 1, 3, none⟩ = some (.int .u8 0) := HE.out 3
      go_wp2_with fail
      exact bodyPost_ret (results_cell_row rfl _ _ g 52 _ (0, 0) _ rfl (blk_four HK2.out _ _ _ _) Tryd.underlying52 rfl (by kernel_rfl)) rfl ⟨rfl, below_four HB2.out (by rw [HG.out]; exact Nat.le_refl _) _ _ _ _⟩
    · have e0 : w2.cell? ⟨g + 1, 4, none⟩ = some (.int .i64 0) := HE.out 4
      have e1 : w2.cell? ⟨g + 1, 5, none⟩ = some (.int .i64 0) := HE.out 5
      have e2 : w2.cell? ⟨g + 1, 6, none⟩ = some (.bool true) := HE.out 6
      have e3 : w2.cell? ⟨g + 1, 7, none⟩ = some (.int .u8 3) := HE.out 7
      go_wp2_with fail
      exact bodyPost_ret (results_cell_row rfl _ _ g 52 _ (0, 0) _ rfl (blk_four HK2.out _ _ _ _) Tryd.underlying52 rfl (by kernel_rfl)) rfl ⟨rfl, below_four HB2.out (by rw [HG.out]; exact Nat.le_refl _) _ _ _ _⟩
    · have e0 : w2.cell? ⟨g + 1, 8, none⟩ = some (.int .i64 2) := HE.out 8
      have e1 : w2.cell? ⟨g + 1, 9, none⟩ = some (.int .i64 24) := HE.out 9
      have e2 : w2.cell? ⟨g + 1, 10, none⟩ = some (.bool true) := HE.out 10
      have e3 : w2.cell? ⟨g + 1, 11, none⟩ = some (.int .u8 3) := HE.out 11
      go_wp2_with fail
      exact bodyPost_ret (results_cell_row rfl _ _ g 52 _ (0, 0) _ rfl (blk_four HK2.out _ _ _ _) Tryd.underlying52 rfl (by kernel_rfl)) rfl ⟨rfl, below_four HB2.out (by rw [HG.out]; exact Nat.le_refl _) _ _ _ _⟩
    · have e0 : w2.cell? ⟨g + 1, 12, none⟩ = some (.int .i64 2) := HE.out 12
      have e1 : w2.cell? ⟨g + 1, 13, none⟩ = some (.int .i64 24) := HE.out 13
      have e2 : w2.cell? ⟨g + 1, 14, none⟩ = some (.bool true) := HE.out 14
      have e3 : w2.cell? ⟨g + 1, 15, none⟩ = some (.int .u8 3) := HE.out 15
      go_wp2_with fail
      exact bodyPost_ret (results_cell_row rfl _ _ g 52 _ (0, 0) _ rfl (blk_four HK2.out _ _ _ _) Tryd.underlying52 rfl (by kernel_rfl)) rfl ⟨rfl, below_four HB2.out (by rw [HG.out]; exact Nat.le_refl _) _ _ _ _⟩
    · have e0 : w2.cell? ⟨g + 1, 16, none⟩ = some (.int .i64 2) := HE.out 16
      have e1 : w2.cell? ⟨g + 1, 17, none⟩ = some (.int .i64 3) := HE.out 17
      have e2 : w2.cell? ⟨g + 1, 18, none⟩ = some (.bool false) := HE.out 18
      have e3 : w2.cell? ⟨g + 1, 19, none⟩ = some (.int .u8 1) := HE.out 19
      go_wp2_with fail
      exact bodyPost_ret (results_cell_row rfl _ _ g 52 _ (0, 0) _ rfl (blk_four HK2.out _ _ _ _) Tryd.underlying52 rfl (by kernel_rfl)) rfl ⟨rfl, below_four HB2.out (by rw [HG.out]; exact Nat.le_refl _) _ _ _ _⟩
    · have e0 : w2.cell? ⟨g + 1, 20, none⟩ = some (.int .i64 2) := HE.out 20
      have e1 : w2.cell? ⟨g + 1, 21, none⟩ = some (.int .i64 3) := HE.out 21
      have e2 : w2.cell? ⟨g + 1, 22, none⟩ = some (.bool false) := HE.out 22
      have e3 : w2.cell? ⟨g + 1, 23, none⟩ = some (.int .u8 2) := HE.out 23
      go_wp2_with fail
      exact bodyPost_ret (results_cell_row rfl _ _ g 52 _ (0, 0) _ rfl (blk_four HK2.out _ _ _ _) Tryd.underlying52 rfl (by kernel_rfl)) rfl ⟨rfl, below_four HB2.out (by rw [HG.out]; exact Nat.le_refl _) _ _ _ _⟩
    · have e0 : w2.cell? ⟨g + 1, 24, none⟩ = some (.int .i64 2) := HE.out 24
      have e1 : w2.cell? ⟨g + 1, 25, none⟩ = some (.int .i64 24) := HE.out 25
      have e2 : w2.cell? ⟨g + 1, 26, none⟩ = some (.bool true) := HE.out 26
      have e3 : w2.cell? ⟨g + 1, 27, none⟩ = some (.int .u8 3) := HE.out 27
      go_wp2_with fail
      exact bodyPost_ret (results_cell_row rfl _ _ g 52 _ (0, 0) _ rfl (blk_four HK2.out _ _ _ _) Tryd.underlying52 rfl (by kernel_rfl)) rfl ⟨rfl, below_four HB2.out (by rw [HG.out]; exact Nat.le_refl _) _ _ _ _⟩
    · have e0 : w2.cell? ⟨g + 1, 28, none⟩ = some (.int .i64 2) := HE.out 28
      have e1 : w2.cell? ⟨g + 1, 29, none⟩ = some (.int .i64 2) := HE.out 29
      have e2 : w2.cell? ⟨g + 1, 30, none⟩ = some (.bool true) := HE.out 30
      have e3 : w2.cell? ⟨g + 1, 31, none⟩ = some (.int .u8 3) := HE.out 31
      go_wp2_with fail
      exact bodyPost_ret (results_cell_row rfl _ _ g 52 _ (0, 0) _ rfl (blk_four HK2.out _ _ _ _) Tryd.underlying52 rfl (by kernel_rfl)) rfl ⟨rfl, below_four HB2.out (by rw [HG.out]; exact Nat.le_refl _) _ _ _ _⟩
end Go.Proofs.YtadogjnoklabdaaDoor
