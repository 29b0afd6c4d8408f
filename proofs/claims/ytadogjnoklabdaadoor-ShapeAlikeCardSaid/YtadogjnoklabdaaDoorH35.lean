/- The document's Copy. Conditions: as each theorem names them. -/
import Derived.Test.YtadogjnoklabdaaDoorH34
namespace Go.Proofs.YtadogjnoklabdaaDoor
open Go.ChangeShapes Go.WideShapes Go.ChangeAt Go.RowKit Go.Deep
set_option maxRecDepth 100000

set_option maxHeartbeats 4000000 in
theorem rcopy_any (W : World) (r : RichD) : ∀ (s : Value) (w : World), IsArgs W r s → Below W.heap.size W w → r.count ≤ 600 →
    Calls Tryd.prog 19 #[r.val s] w fun e w' => ∃ s', e = .returned (r.val s') ∧ NewArgs w.heap.size w' r s' ∧ Below w.heap.size w w' := by
  have step : ∀ (r : RichD) (s : Value) (w : World), IsArgs W r s → Below W.heap.size W w → r.count ≤ 600 →
      (∀ j, j < r.n → ∀ (s : Value) (w : World), IsArgs W (r.args j) s → Below W.heap.size W w → (r.args j).count ≤ 600 → Calls Tryd.prog 19 #[(r.args j).val s] w fun e w' => ∃ s', e = .returned ((r.args j).val s') ∧ NewArgs w.heap.size w' (r.args j) s' ∧ Below w.heap.size w w') →
      Calls Tryd.prog 19 #[r.val s] w fun e w' => ∃ s', e = .returned (r.val s') ∧ NewArgs w.heap.size w' r s' ∧ Below w.heap.size w w' := by
    intro r s w hs hB hc ih
    obtain ⟨a, c, rfl⟩ := hs.form
    obtain ⟨S, hA, hS⟩ := hs.elems2
    obtain ⟨g, hg⟩ : ∃ g, g = w.heap.size := ⟨_, rfl⟩
    have hn600 := n_lt r
    have HFit := Lib.hid (IsArgs.node_n hs)
    have HE := Lib.hid (show ∀ w', Below W.heap.size W w' → ∀ j, j < r.n → ∃ b o, a = some ⟨b, o, none⟩ ∧ b < W.heap.size ∧ RichAt w' b (o + j * 7) (r.args j) (S j) from fun w' h j hj => by
      obtain ⟨b, o, h1, h2⟩ := hA j hj
      exact ⟨b, o, h1, h2.lt, h2.below h⟩)
    have HI := Lib.hid (show ∀ j, j < r.n → ∀ w', Below W.heap.size W w' → Calls Tryd.prog 19 #[(r.args j).val (S j)] w' fun e w'' => ∃ s', e = .returned ((r.args j).val s') ∧ NewArgs w'.heap.size w'' (r.args j) s' ∧ Below w'.heap.size w' w'' from fun j hj w' h => ih j hj _ w' (hS j hj) h (by have := arg_count hj; omega))
    have HSf := Lib.hid (show ∀ j, j < r.n → ∃ a' c', S j = .slice a' (r.args j).n c' from fun j hj => (hS j hj).form)
    have HBW := Lib.hid hB
    have HG := Lib.hid hg
    clear hA hS hs ih hB
    unfold RichD.val richV
    go_enter Tryd.func19, Tryd.ntmps19
    go_upto_region 2 with fail
    obtain ⟨w3, hw3⟩ : ∃ w3, w3 = ((w.alloc (.cells (richA r (.slice a r.n c)) 28)).alloc (.cells zeroR 28)).alloc (.cells (richA r (.slice none 0 0)) 28) := ⟨_, rfl⟩
    have HC3 := Lib.hid (show CpSt w g r (.slice a r.n c) 0 (fun _ => .slice none 0 0) (.slice none 0 0) w3 from by rw [hw3, hg]; exact cp_new _ _ _ _)
    rw [← hw3, ← hg]
    clear hw3 hg
    have d6 : w3.cell? ⟨g, 6, none⟩ = some (.slice a r.n c) := HC3.out.ri.cell 6
    obtain ⟨iR, hiR, hz0, hz1, hz2⟩ := iRich
    go_wp2_with fail
    clear d6
    go_loopw [4] (fun i wr => ∃ (k : Nat) (Sx : Nat → Value) (ao : Option Addr) (cp : Nat), k ≤ r.n ∧ i = .int .i64 k ∧ Hid (CpSt w g r (.slice a r.n c) k Sx (.slice ao k cp) wr)) (fun i wr => r.n - (intOf i).toNat)
    case atStart => exact ⟨0, _, none, 0, by omega, rfl, HC3⟩
    case round =>
      obtain ⟨k, Sx, ao, cp, hk, rfl, HCk⟩ := hrel
      have d6 := HCk.out.ri.cell 6
      have dl := HCk.out.ri.lt
      by_cases hlt : k < r.n
      · have hki : (k : Int) < (r.n : Int) := by omega
        have HB2 := Lib.hid (HBW.out.trans (HCk.out.bl.mono HBW.out.size))
        obtain ⟨b, o, ha, hbW, hy⟩ := HE.out wr HB2.out k hlt
        subst ha
        obtain ⟨xa, xc, hx⟩ := HSf.out k hlt
        have HWg := Lib.hid (show w.heap.size ≤ g by rw [HG.out]; exact Nat.le_refl _)
        have hbg : b < g := by have := HWg.out; have := HBW.out.size; omega
        have HM := Lib.hid (fun w' (h : Below wr.heap.size wr w') => HI.out k hlt w' (HB2.out.trans (h.mono HB2.out.size)))
        rw [hx] at hy
        simp only [hx] at HM
        have HSS := Lib.hid (show ∀ w', Below wr.heap.size wr w' → (w'.cell? ⟨g, 6, none⟩ = some (.slice (some ⟨b, o, none⟩) r.n c) ∧ w'.cell? ⟨b, o + k * 7, none⟩ = some (.int .u8 (r.args k).kind) ∧ w'.cell? ⟨b, o + k * 7 + 1, none⟩ = some (.string (r.args k).dep.name) ∧ w'.cell? ⟨b, o + k * 7 + 2, none⟩ = some (.int .u8 (r.args k).dep.op) ∧ w'.cell? ⟨b, o + k * 7 + 3, none⟩ = some (.int .i64 (r.args k).dep.ep) ∧ w'.cell? ⟨b, o + k * 7 + 4, none⟩ = some (.string (r.args k).dep.ver) ∧ w'.cell? ⟨b, o + k * 7 + 5, none⟩ = some (.string (r.args k).dep.rel) ∧ w'.cell? ⟨b, o + k * 7 + 6, none⟩ = some (.slice xa (r.args k).n xc)) from fun w' h => by
          have h2 := hy.below h
          exact ⟨(HCk.out.ri.below h).cell 6, h2.c0, h2.c1, h2.c2, h2.c3, h2.c4, h2.c5, h2.c6⟩)
        have HKp := Lib.hid (show ∀ (w6 w10 : World) (ob : Obj) (v' : Value), Below wr.heap.size wr w6 → (w6.alloc ob).grownBy w10 (Value.slice ao k cp).ownBlock → (w10.cell? ⟨g, 6, none⟩ = some (.slice (some ⟨b, o, none⟩) r.n c) ∧ w10.cell? ⟨b, o + k * 7, none⟩ = some (.int .u8 (r.args k).kind) ∧ w10.cell? ⟨b, o + k * 7 + 1, none⟩ = some (.string (r.args k).dep.name) ∧ w10.cell? ⟨b, o + k * 7 + 2, none⟩ = some (.int .u8 (r.args k).dep.op) ∧ w10.cell? ⟨b, o + k * 7 + 3, none⟩ = some (.int .i64 (r.args k).dep.ep) ∧ w10.cell? ⟨b, o + k * 7 + 4, none⟩ = some (.string (r.args k).dep.ver) ∧ w10.cell? ⟨b, o + k * 7 + 5, none⟩ = some (.string (r.args k).dep.rel) ∧ w10.cell? ⟨b, o + k * 7 + 6, none⟩ = some (.slice xa (r.args k).n xc)) ∧ ((w10.setCell ⟨g + 2, 6, none⟩ v').cell? ⟨g, 6, none⟩ = some (.slice (some ⟨b, o, none⟩) r.n c) ∧ (w10.setCell ⟨g + 2, 6, none⟩ v').cell? ⟨b, o + k * 7, none⟩ = some (.int .u8 (r.args k).kind) ∧ (w10.setCell ⟨g + 2, 6, none⟩ v').cell? ⟨b, o + k * 7 + 1, none⟩ = some (.string (r.args k).dep.name) ∧ (w10.setCell ⟨g + 2, 6, none⟩ v').cell? ⟨b, o + k * 7 + 2, none⟩ = some (.int .u8 (r.args k).dep.op) ∧ (w10.setCell ⟨g + 2, 6, none⟩ v').cell? ⟨b, o + k * 7 + 3, none⟩ = some (.int .i64 (r.args k).dep.ep) ∧ (w10.setCell ⟨g + 2, 6, none⟩ v').cell? ⟨b, o + k * 7 + 4, none⟩ = some (.string (r.args k).dep.ver) ∧ (w10.setCell ⟨g + 2, 6, none⟩ v').cell? ⟨b, o + k * 7 + 5, none⟩ = some (.string (r.args k).dep.rel) ∧ (w10.setCell ⟨g + 2, 6, none⟩ v').cell? ⟨b, o + k * 7 + 6, none⟩ = some (.slice xa (r.args k).n xc)) from fun w6 w10 ob v' h6 hg6 => by
          have hb7 := below_t' h6 (new_b w6 ob)
          have h7 := hy.below hb7
          have h7g := HCk.out.ri.below hb7
          have hne : ∀ q, q < g + 3 → (Value.slice ao k cp).ownBlock ≠ some q := fun q hq e => by have := HCk.out.hi q e; omega
          have hlb : b < (w6.alloc ob).heap.size := h7.lt
          have h8 : RichAt w10 b (o + k * 7) (r.args k) (.slice xa (r.args k).n xc) := h7.same (hg6.block b hlb (fun e => hne b (by omega) e.symm)) hg6.size
          have h8g : RichB w10 g r (.slice (some ⟨b, o, none⟩) r.n c) := Blk.grown h7g hg6 (fun e => hne g (by omega) e.symm)
          have h9 : RichAt (w10.setCell ⟨g + 2, 6, none⟩ v') b (o + k * 7) (r.args k) (.slice xa (r.args k).n xc) := h8.same (Below.heap_setCell w10 ⟨g + 2, 6, none⟩ v' b (by show b ≠ g + 2; omega)) (by simp)
          have h9g : RichB (w10.setCell ⟨g + 2, 6, none⟩ v') g r (.slice (some ⟨b, o, none⟩) r.n c) := Blk.far h8g (by show g ≠ g + 2; omega) v'
          exact ⟨⟨h8g.cell 6, h8.c0, h8.c1, h8.c2, h8.c3, h8.c4, h8.c5, h8.c6⟩, h9g.cell 6, h9.c0, h9.c1, h9.c2, h9.c3, h9.c4, h9.c5, h9.c6⟩)
        have HOu := Lib.hid (show ∀ w', Below wr.heap.size wr w' → w'.cell? ⟨g + 2, 6, none⟩ = some (.slice ao k cp) from fun w' h => (HCk.out.ou.below h).cell 6)
        have HOw := Lib.hid (show ∀ w', Below wr.heap.size wr w' → Own w' 28 7 (.slice ao k cp) k (enR r.args Sx k) from fun w' h => HCk.out.ow.new h)
        have HOne := Lib.hid HCk.out.one
        have HDr := Lib.hid (show Below wr.heap.size wr wr.drew from (Below.refl _ wr).drew)
        have q5 := HOu.out _ (Below.refl _ wr)
        obtain ⟨d6, y0, y1, y2, y3, y4, y5, y6⟩ := HSS.out _ (Below.refl _ wr)
        clear hy
        go_upto_region 5 with fail
        clear y0 y1 y2 y3 y4 y5 y6
        rw [show Op.load 26 (Operand.tmp 17) = ldR 17 from rfl]
        go_region_held3 (fun w' => w'.cell? ⟨g, 6, none⟩ = some (.slice (some ⟨b, o, none⟩) r.n c) ∧ w'.cell? ⟨b, o + k * 7, none⟩ = some (.int .u8 (r.args k).kind) ∧ w'.cell? ⟨b, o + k * 7 + 1, none⟩ = some (.string (r.args k).dep.name) ∧ w'.cell? ⟨b, o + k * 7 + 2, none⟩ = some (.int .u8 (r.args k).dep.op) ∧ w'.cell? ⟨b, o + k * 7 + 3, none⟩ = some (.int .i64 (r.args k).dep.ep) ∧ w'.cell? ⟨b, o + k * 7 + 4, none⟩ = some (.string (r.args k).dep.ver) ∧ w'.cell? ⟨b, o + k * 7 + 5, none⟩ = some (.string (r.args k).dep.rel) ∧ w'.cell? ⟨b, o + k * 7 + 6, none⟩ = some (.slice xa (r.args k).n xc)) (first | exact HSS.out _ HDr.out | exact HSS.out _ (below_t' HDr.out (new_b _ _)) | exact HS10.out.1 | exact HS10.out.2)
          ((first
            | (go_at_call 19; (with_reducible refine (HM.out _ HDr.out).mono ?_); rintro e w6 ⟨sk, rfl, hNk, HBc⟩; have HDr := Lib.hid (below_t' HDr.out HBc); obtain ⟨ak, ck, rfl⟩ := hNk.form; have HNk := Lib.hid (show ArgsIn (fun b => wr.heap.size ≤ b) w6 (r.args k) (.slice ak (r.args k).n ck) from hNk.in_); have q6 := HOu.out _ HDr.out; have q7 := HOu.out _ (below_t' HDr.out (new_b w6 (.cells (richA (r.args k) (.slice ak (r.args k).n ck)) 28))); clear hNk HBc)
            | (refine step_append_S _ (by rfl) (.tmp 18) (.tmp 25) _ _ (by rfl) 28 iR _ 7 96 Tryd.underlying26 hiR hz0 hz1 hz2 rfl (by omega) (.slice ao k cp) k (enR r.args Sx k) (by rfl) (HOw.out _ (below_t' HDr.out (new_b w6 (.cells (richA (r.args k) (.slice ak (r.args k).n ck)) 28)))) HOne.out (.slice (some ⟨w6.heap.size, 0, none⟩) 1 1) 1 (richCs (r.args k) (.slice ak (r.args k).n ck)) (by rfl) (src_rich w6 (r.args k) (.slice ak (r.args k).n ck) rfl) (by simp only [maxLen]; omega) (by omega) ?_; intro ao2 cap2 w10 hn2 hm2 hown2 hg2 hat2 hlt2; have HP := Lib.hid (HCk.out.put HWg.out HDr.out HNk.out hown2 (.cells (richA (r.args k) (.slice ak (r.args k).n ck)) 28) hg2 hat2); have HS10 := Lib.hid (HKp.out w6 w10 _ (.slice ao2 (k + 1) cap2) HDr.out hg2); have c10 := HP.out.2.cell 6; have f10 := HP.out.2.frozen 6; have l10 := HP.out.2.lt; clear hown2 hg2 hat2 hlt2 hn2 hm2)))
        all_goals
          go_wp2_with fail
          go_roundw
          case rel => exact ⟨k + 1, _, ao2, cap2, by omega, by go_num, Lib.hid HP.out.1⟩
          case measure => simp [intOf]; omega
      · obtain rfl : k = r.n := by omega
        have hou := HCk.out.ou
        have o0 := hou.cell 0
        have o1 := hou.cell 1
        have o2 := hou.cell 2
        have o3 := hou.cell 3
        have o4 := hou.cell 4
        have o5 := hou.cell 5
        have o6 := hou.cell 6
        have ol : g + 2 < wr.heap.size := hou.lt
        have hrz := HCk.out.rz
        have z0 := hrz.cell 0
        have z1 := hrz.cell 1
        have z2 := hrz.cell 2
        have z3 := hrz.cell 3
        have z4 := hrz.cell 4
        have z5 := hrz.cell 5
        have z6 := hrz.cell 6
        have f0 := hrz.frozen 0
        have f1 := hrz.frozen 1
        have f2 := hrz.frozen 2
        have f3 := hrz.frozen 3
        have f4 := hrz.frozen 4
        have f5 := hrz.frozen 5
        have f6 := hrz.frozen 6
        have zl := hrz.lt
        clear hou hrz
        go_wp2_with fail
        have hn6 : r.n ≤ 9223372036854775807 := by omega
        obtain ⟨h1, h2, h3⟩ := HCk.out.fin (by rw [HG.out]; exact Nat.le_refl _) HFit.out hn6
        exact bodyPost_ret (results_cell_row rfl _ _ (g + 1) 28 _ (0, 0) _ rfl h1 Tryd.underlying28 rfl (by kernel_rfl)) rfl ⟨_, rfl, h2, h3⟩
  induction r with
  | nil => exact fun s w h1 h2 h3 => step .nil s w h1 h2 h3 (fun j hj => absurd hj (Nat.not_lt_zero j))
  | node k d n f ih => exact fun s w h1 h2 h3 => step (.node k d n f) s w h1 h2 h3 (fun j _ => ih j)
end Go.Proofs.YtadogjnoklabdaaDoor
