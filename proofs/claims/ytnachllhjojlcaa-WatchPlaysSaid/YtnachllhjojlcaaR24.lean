/- The document's trail: put, Decide, Assign. -/
import Derived.Test.YtnachllhjojlcaaR23
namespace Go.Proofs.Ytnachllhjojlcaa
open Go.ChangeShapes Go.WideShapes Go.ChangeAt Go.RowKit
set_option maxRecDepth 100000

theorem grow_below {B : Nat} {a b c : World} {row : Option Nat} (h : Below B a b) (g : b.grownBy c row) (hr : ∀ k, row = some k → B ≤ k) (hB : B ≤ b.heap.size) : Below B a c :=
  h.trans ⟨g.os, g.tape, g.output, g.size, fun k hk => g.block k (by omega) (fun e => by have := hr k e.symm; omega)⟩

theorem own_new {w : World} {p : Nat} {v : Value} {B n m cap : Nat} {ao : Option Addr} (hv : v = .slice (some ⟨p, 0, none⟩) 0 0 ∨ ∀ k, v.ownBlock = some k → B ≤ k) (hp : B ≤ p) (hat : (Value.slice ao (n + m) cap).ownBlock = v.ownBlock ∨ (Value.slice ao (n + m) cap).ownBlock = some w.heap.size) (hB : B ≤ w.heap.size) :
    ∀ k, (Value.slice ao (n + m) cap).ownBlock = some k → B ≤ k := by
  intro k hk
  rcases hat with h | h
  · rcases hv with rfl | hv
    · rw [h] at hk
      simp [Value.ownBlock] at hk
      omega
    · exact hv k (h ▸ hk)
  · rw [h] at hk
    injection hk with hk
    omega

set_option maxHeartbeats 4000000 in
theorem put_any (x n : Nat) (hv : Int) (v : Value) (l : List En) (e : En) (w : World) (hb : Blk w x 50 #[.int .i64 n, v, .int .i64 hv]) (hO : Own w 75 3 v l.length (enC l)) (hl : l.length ≤ 5000) :
    Calls Try.prog 49 #[.pointer (some ⟨x, 0, none⟩), .agg #[.int .i64 e.lit, .int .i64 e.level, .int .i64 e.reason]] w fun e' w' => e' = .returned (.tuple #[]) ∧ ∃ v', Blk w' x 50 #[.int .i64 n, v', .int .i64 hv] ∧ Own w' 75 3 v' (l.length + 1) (enC (l ++ [e])) ∧
      Touch (fun k => k = x) w w' ∧ ∀ k, v'.ownBlock = some k → w.heap.size ≤ k := by
  obtain ⟨i, hi, hz0, hz1, hz2⟩ := info_parts (P := Try.prog) (e := 75) (z := .agg #[.int .i64 0, .int .i64 0, .int .i64 0]) (size := 3) (bytes := 24) (by kernel_rfl)
  obtain ⟨ao, cap, rfl, _, _, _⟩ := hO.form
  obtain ⟨el, lv, rs⟩ := e
  simp only
  have hxl := hb.lt
  obtain ⟨W, hW⟩ : ∃ W, W = w.alloc (.cells #[.int .i64 el, .int .i64 lv, .int .i64 rs] 75) := ⟨_, rfl⟩
  have hWs : W.heap.size = w.heap.size + 1 := by rw [hW]; simp
  have hBW : Below w.heap.size w W := by rw [hW]; exact (Below.refl _ _).alloc (Nat.le_refl _) _
  have hbW : Blk W x 50 #[.int .i64 n, .slice ao l.length cap, .int .i64 hv] := hb.below hBW hxl
  have hOW : Own W 75 3 (.slice ao l.length cap) l.length (enC l) := hO.new hBW
  have hXW : Blk W w.heap.size 75 #[.int .i64 el, .int .i64 lv, .int .i64 rs] := by rw [hW]; exact Blk.new w _ _
  obtain ⟨q, hq⟩ : ∃ q, q = w.heap.size := ⟨_, rfl⟩
  have hqW : q < W.heap.size := by omega
  have hxW : x < W.heap.size := by omega
  have hoV : ∀ u ∈ [Value.int .i64 el, .int .i64 lv, .int .i64 rs], u.oneCell' = true := by
    intro u hu
    simp only [List.mem_cons, List.not_mem_nil, or_false] at hu
    rcases hu with rfl | rfl | rfl <;> rfl
  have hc1 := hbW.cell 1
  have hf1 := hbW.frozen 1
  have hd0 := hXW.cell 0
  have hd1 := hXW.cell 1
  have hd2 := hXW.cell 2
  simp at hc1 hd0 hd1 hd2
  rw [← hq] at hd0 hd1 hd2 hXW
  have Hq := Lib.hid hq
  have HW := Lib.hid hWs
  have HBW := Lib.hid hBW
  have hn1 : ¬ x = W.heap.size := by omega
  have hn2 : ¬ W.heap.size = x := by omega
  have hn3 : ¬ q = W.heap.size := by omega
  have hn4 : ¬ W.heap.size = q := by omega
  have hn5 : ¬ x = W.heap.size + 1 := by omega
  have hn6 : ¬ W.heap.size + 1 = x := by omega
  have hn7 : ¬ q = W.heap.size + 1 := by omega
  have hn8 : ¬ W.heap.size + 1 = q := by omega
  -- the three worlds in which the first append may stand
  have bA : Below W.heap.size W (W.alloc (.cells #[] 75)).drew := bel_drewN ((Below.refl _ _).alloc (Nat.le_refl _) _) 1
  have bB : Below W.heap.size W ((W.alloc (.cells #[] 75)).alloc (.cells #[.int .i64 el, .int .i64 lv, .int .i64 rs] 75)).drew := bel_drewN (((Below.refl _ _).alloc (Nat.le_refl _) _).alloc (by simp) _) 1
  have bC : Below W.heap.size W ((W.alloc (.cells #[.int .i64 el, .int .i64 lv, .int .i64 rs] 75)).alloc (.cells #[] 75)).drew := bel_drewN (((Below.refl _ _).alloc (Nat.le_refl _) _).alloc (by simp) _) 1
  have eA : Own (W.alloc (.cells #[] 75)).drew 75 3 (.slice (some ⟨W.heap.size, 0, none⟩) 0 0) 0 [] := (Own.made W 75 3 #[] 0 rfl (by decide)).drew
  have eB : Own ((W.alloc (.cells #[] 75)).alloc (.cells #[.int .i64 el, .int .i64 lv, .int .i64 rs] 75)).drew 75 3 (.slice (some ⟨W.heap.size, 0, none⟩) 0 0) 0 [] := ((Own.made W 75 3 #[] 0 rfl (by decide)).alloc _).drew
  have eC : Own ((W.alloc (.cells #[.int .i64 el, .int .i64 lv, .int .i64 rs] 75)).alloc (.cells #[] 75)).drew 75 3 (.slice (some ⟨W.heap.size + 1, 0, none⟩) 0 0) 0 [] := by
    have h := (Own.made (W.alloc (.cells #[.int .i64 el, .int .i64 lv, .int .i64 rs] 75)) 75 3 #[] 0 rfl (by decide)).drew
    simpa using h
  have vB : Own ((W.alloc (.cells #[] 75)).alloc (.cells #[.int .i64 el, .int .i64 lv, .int .i64 rs] 75)).drew 75 3 (.slice (some ⟨W.heap.size + 1, 0, none⟩) 1 1) 1 [.int .i64 el, .int .i64 lv, .int .i64 rs] := by
    have h := (Own.made (W.alloc (.cells #[] 75)) 75 3 #[.int .i64 el, .int .i64 lv, .int .i64 rs] 1 rfl (by decide)).drew
    simpa using h
  have vC : Own ((W.alloc (.cells #[.int .i64 el, .int .i64 lv, .int .i64 rs] 75)).alloc (.cells #[] 75)).drew 75 3 (.slice (some ⟨W.heap.size, 0, none⟩) 1 1) 1 [.int .i64 el, .int .i64 lv, .int .i64 rs] := ((Own.made W 75 3 #[.int .i64 el, .int .i64 lv, .int .i64 rs] 1 rfl (by decide)).alloc _).drew
  have sA := (hOW.new bA).src (P := Try.prog) (tx := 48) Try.underlying48 (enC_one l)
  have sB := (hOW.new bB).src (P := Try.prog) (tx := 48) Try.underlying48 (enC_one l)
  have sC := (hOW.new bC).src (P := Try.prog) (tx := 48) Try.underlying48 (enC_one l)
  have HbW := Lib.hid hbW
  have HXW := Lib.hid hXW
  clear hbW hXW hOW hO hb hq hWs hBW
  go_enter Try.func49, Try.ntmps49
  go_wp2_with fail
  rw [← hW, ← Hq.out]
  clear hW
  go_region_law (first
      | (refine step_append_S _ rfl (.tmp 5) (.tmp 9) _ _ rfl 75 i _ 3 24 Try.underlying48 hi hz0 hz1 hz2 rfl (by omega) (.slice (some ⟨W.heap.size, 0, none⟩) 0 0) 0 [] (by first | rfl | simp [Act.eval, Act.put]) eA (by simp) (.slice ao l.length cap) l.length (enC l) (by first | rfl | simp [Act.eval, Act.put]) sA (by simp only [maxLen]; omega) (by omega) ?_; intro ao1 cap1 w1 hn1 hm1 hown1 hg1 hat1 hlt1; have b1 := grow_below bA hg1 (by simp [Value.ownBlock]) bA.size; have k1 := HbW.out.below b1 hxW; have k2 := HXW.out.below b1 hqW; have j1 := k1.cell 1; have j2 := k2.cell 0; have j3 := k2.cell 1; have j4 := k2.cell 2; simp at j1 j2 j3 j4; simp only [Nat.zero_add, List.nil_append] at hown1; have nw1 := own_new (.inl rfl) (Nat.le_refl _) hat1 bA.size; simp only [Nat.zero_add] at nw1)
      | (refine step_append_S _ rfl (.tmp 5) (.tmp 9) _ _ rfl 75 i _ 3 24 Try.underlying48 hi hz0 hz1 hz2 rfl (by omega) (.slice (some ⟨W.heap.size, 0, none⟩) 0 0) 0 [] (by first | rfl | simp [Act.eval, Act.put]) eB (by simp) (.slice ao l.length cap) l.length (enC l) (by first | rfl | simp [Act.eval, Act.put]) sB (by simp only [maxLen]; omega) (by omega) ?_; intro ao1 cap1 w1 hn1 hm1 hown1 hg1 hat1 hlt1; have b1 := grow_below bB hg1 (by simp [Value.ownBlock]) bB.size; have k1 := HbW.out.below b1 hxW; have k2 := HXW.out.below b1 hqW; have j1 := k1.cell 1; have j2 := k2.cell 0; have j3 := k2.cell 1; have j4 := k2.cell 2; simp at j1 j2 j3 j4; simp only [Nat.zero_add, List.nil_append] at hown1; have nw1 := own_new (.inl rfl) (Nat.le_refl _) hat1 bB.size; simp only [Nat.zero_add] at nw1; have s1 := (vB.grown hg1 (.inr (by simp [Value.ownBlock]))).src (P := Try.prog) (tx := 48) Try.underlying48 hoV)
      | (refine step_append_S _ rfl (.tmp 5) (.tmp 9) _ _ rfl 75 i _ 3 24 Try.underlying48 hi hz0 hz1 hz2 rfl (by omega) (.slice (some ⟨W.heap.size + 1, 0, none⟩) 0 0) 0 [] (by first | rfl | simp [Act.eval, Act.put]) eC (by simp) (.slice ao l.length cap) l.length (enC l) (by first | rfl | simp [Act.eval, Act.put]) sC (by simp only [maxLen]; omega) (by omega) ?_; intro ao1 cap1 w1 hn1 hm1 hown1 hg1 hat1 hlt1; have b1 := grow_below bC hg1 (by intro k hk; simp [Value.ownBlock] at hk; omega) bC.size; have k1 := HbW.out.below b1 hxW; have k2 := HXW.out.below b1 hqW; have j1 := k1.cell 1; have j2 := k2.cell 0; have j3 := k2.cell 1; have j4 := k2.cell 2; simp at j1 j2 j3 j4; simp only [Nat.zero_add, List.nil_append] at hown1; have nw1 := own_new (.inl rfl) (Nat.le_succ _) hat1 bC.size; simp only [Nat.zero_add] at nw1; have s1 := (vC.grown hg1 (.inr (by simp [Value.ownBlock]))).src (P := Try.prog) (tx := 48) Try.underlying48 hoV)
      | (refine step_append_S _ rfl (.tmp 10) (.tmp 12) _ _ rfl 75 i _ 3 24 Try.underlying48 hi hz0 hz1 hz2 rfl (by omega) (.slice ao1 l.length cap1) l.length (enC l) (by first | rfl | simp [Act.eval, Act.put]) hown1 (enC_one l) _ 1 [.int .i64 el, .int .i64 lv, .int .i64 rs] (by first | rfl | simp [Act.eval, Act.put]) s1 (by simp only [maxLen]; omega) (by omega) ?_; intro ao2 cap2 w2 hn2 hm2 hown2 hg2 hat2 hlt2; have b2 := grow_below b1 hg2 nw1 b1.size; have k3 := HbW.out.below b2 hxW; have j5 := k3.cell 1; have j6 := k3.frozen 1; simp at j5; have nw2 := own_new (p := W.heap.size) (.inr nw1) (Nat.le_refl _) hat2 b1.size)
      | (refine step_append_S _ rfl (.tmp 10) (.tmp 12) _ _ rfl 75 i _ 3 24 Try.underlying48 hi hz0 hz1 hz2 rfl (by omega) (.slice ao1 l.length cap1) l.length (enC l) (by first | rfl | simp [Act.eval, Act.put]) (hown1.alloc _) (enC_one l) _ 1 [.int .i64 el, .int .i64 lv, .int .i64 rs] (by first | rfl | simp [Act.eval, Act.put]) ((Own.made w1 75 3 #[.int .i64 el, .int .i64 lv, .int .i64 rs] 1 rfl (by decide)).src (P := Try.prog) (tx := 48) Try.underlying48 hoV) (by simp only [maxLen]; omega) (by omega) ?_; intro ao2 cap2 w2 hn2 hm2 hown2 hg2 hat2 hlt2; have b1' := b1.alloc b1.size (.cells #[.int .i64 el, .int .i64 lv, .int .i64 rs] 75); have b2 := grow_below b1' hg2 nw1 b1'.size; have k3 := HbW.out.below b2 hxW; have j5 := k3.cell 1; have j6 := k3.frozen 1; simp at j5; have nw2 := own_new (p := W.heap.size) (.inr nw1) (Nat.le_refl _) hat2 b1'.size))
  all_goals
    try go_wp2_with fail
    refine bodyPost_end (results_none Try.results49 _ _ _) rfl ?_
    have b3 : Touch (fun k => k = x) W (w2.setCell ⟨x, 1, none⟩ (.slice ao2 (l.length + 1) cap2)) := ⟨b2.os, b2.tape, b2.output, by simpa [World.setCell] using b2.size, fun k hk hx => (Below.heap_setCell w2 ⟨x, 1, none⟩ _ k hx).trans (b2.block k hk)⟩
    refine ⟨rfl, .slice ao2 (l.length + 1) cap2, k3.set_ 1 _, ?_, (Touch.of_below HBW.out (fun k => k = x)).trans b3 fun _ _ h => h, fun k hk => Nat.le_trans (by have := HW.out; omega) (nw2 k hk)⟩
    rw [enC_app]
    exact hown2.far (p := ⟨x, 1, none⟩) (hown2.ne_blk k3 (by decide)) _

end Go.Proofs.Ytnachllhjojlcaa
