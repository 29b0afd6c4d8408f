/- shape.May. Conditions: as each theorem names them. -/
import Derived.Test.YtadogjnoklabdaaDoorH16
namespace Go.Proofs.YtadogjnoklabdaaDoor
open Go.ChangeShapes Go.WideShapes Go.ChangeAt Go.RowKit Go.Deep Go.Shelf
set_option maxRecDepth 100000
attribute [local go_sem] Oper.semAt_some

theorem below_t {A B C : World} (h : Below A.heap.size A B) (k : Below B.heap.size B C) : Below A.heap.size A C := h.trans (k.mono h.size)

/-- May's own blocks. -/
structure MaySt (w : World) (g : Nat) (r : RichD) (s : Value) (wh : Int) (W : World) : Prop where
  bl : Below w.heap.size w W
  ri : RichAt W g 0 r s
  bw : Blk W (g + 1) 5 #[.int .u8 wh]
  br : Blk W (g + 2) 31 #[.int .i64 0]
theorem MaySt.below {w W W' : World} {g : Nat} {r : RichD} {s : Value} {wh : Int} (h : MaySt w g r s wh W) (hb : Below W.heap.size W W') : MaySt w g r s wh W' :=
  ⟨below_t h.bl hb, h.ri.below hb, h.bw.below hb h.bw.lt, h.br.below hb h.br.lt⟩

theorem MaySt.grown {w W W' : World} {g : Nat} {r : RichD} {s : Value} {wh : Int} {row : Option Nat} {n0 : Nat} (h : MaySt w g r s wh W) (hg : W.grownBy W' row) (hr : ∀ r, row = some r → n0 ≤ r ∧ ∃ o : Obj, W.heap[r]? = some o ∧ o.isCells = false) (hn : g + 3 ≤ n0) (hw : w.heap.size ≤ n0) : MaySt w g r s wh W' := by
  have hk : ∀ k, k < n0 → k < W.heap.size → W'.heap[k]? = W.heap[k]? := fun k h1 h2 => hg.block k h2 fun e => by have := (hr k e.symm).1; omega
  have kc : ∀ c, W'.cell? ⟨g, c, none⟩ = W.cell? ⟨g, c, none⟩ := fun c => World.cell?_of_block (w := W) (hk g (by omega) h.ri.lt)
  exact ⟨h.bl.trans ⟨hg.os, hg.tape, hg.output, hg.size, fun k h1 => hk k (by omega) (Nat.lt_of_lt_of_le h1 h.bl.size)⟩,
    ⟨(kc _).trans h.ri.c0, (kc _).trans h.ri.c1, (kc _).trans h.ri.c2, (kc _).trans h.ri.c3, (kc _).trans h.ri.c4, (kc _).trans h.ri.c5, (kc _).trans h.ri.c6, Nat.lt_of_lt_of_le h.ri.lt hg.size⟩,
    (hk _ (by omega) h.bw.lt).trans h.bw, (hk _ (by omega) h.br.lt).trans h.br⟩
theorem wp_frame {P : Program} {c : Code} {Q : Exit → Act → World → Prop} {a : Act} {w : World} (h : ∀ a0, a0 = a → c.wp P Q a0 w) : c.wp P Q a w := h a rfl
abbrev askC (q : AskD) : Array Value := #[.int .i64 q.least, .int .i64 q.most, .bool q.alone, .int .u8 q.wher]
theorem none_yes {d : DepD} (h0 : d.name.toList = []) (h1 : d.op = 0) (h2 : d.ep = 0) (h3 : d.ver.toList = []) (h4 : d.rel.toList = []) : d.none = true := by unfold DepD.none; rw [h0, h1, zero_yes h2 h3 h4]; rfl
theorem none_of_zero {d : DepD} (h : d.zero = false) : d.none = false := by unfold DepD.none; rw [h]; simp
theorem none_name {d : DepD} (h : ¬ d.name.toList = []) : d.none = false := by
  unfold DepD.none
  have : d.name.toList.isEmpty = false := by cases e : d.name.toList with | nil => exact absurd e h | cons => rfl
  rw [this]; rfl
theorem none_op {d : DepD} (h : ¬ d.op = 0) : d.none = false := by
  unfold DepD.none
  have : (d.op == 0) = false := by simpa using h
  rw [this]; simp
theorem none_ep {d : DepD} (h : ¬ d.ep = 0) : d.none = false := none_of_zero (zero_ep h)
theorem none_ver {d : DepD} (h : ¬ d.ver.toList = []) : d.none = false := none_of_zero (zero_ver h)
theorem none_rel {d : DepD} (h : ¬ d.rel.toList = []) : d.none = false := none_of_zero (zero_rel h)
/-- A round's own block: the part. -/
abbrev partC (x : PartD) : Array Value := #[.int .u8 x.kind, .string x.dep.name, .int .u8 x.dep.op, .int .i64 x.dep.ep, .string x.dep.ver, .string x.dep.rel, .slice x.a x.n x.c]

set_option maxHeartbeats 1200000 in
theorem may_any (W0 : World) (r : RichD) (s : Value) (hs0 : IsArgs W0 r s) (w : World) (hB : Below W0.heap.size W0 w) (hc : r.count ≤ 4611686018427387904) (wh : Int) (hwh : 0 ≤ wh ∧ wh < 256) (hW : Words w) (hO : Ops w) :
    Calls Tryd.prog 11 #[r.val s, .int .u8 wh] w fun e w' => e = .returned (.int .i64 (mayE r wh)) ∧ Below w.heap.size w w' := by
  have hs := hs0.kept hB
  obtain ⟨a, c, rfl⟩ := hs.form
  obtain ⟨T, hT⟩ : ∃ T, T = mayE r wh := ⟨_, rfl⟩
  rw [← hT]
  obtain ⟨g, hg⟩ : ∃ g, g = w.heap.size := ⟨_, rfl⟩
  obtain ⟨w1, hw1⟩ : ∃ w1, w1 = w.alloc (richObj r (.slice a r.n c)) := ⟨_, rfl⟩
  obtain ⟨w2, hw2⟩ : ∃ w2, w2 = w1.alloc (.cells #[.int .u8 wh] 5) := ⟨_, rfl⟩
  obtain ⟨w3, hw3⟩ : ∃ w3, w3 = w2.alloc (.cells #[.int .i64 0] 31) := ⟨_, rfl⟩
  have z1 : w1.heap.size = g + 1 := by rw [hw1, hg]; simp
  have z2 : w2.heap.size = g + 2 := by rw [hw2]; simp [z1]
  have z3 : w3.heap.size = g + 3 := by rw [hw3]; simp [z2]
  have b1 : Below w.heap.size w w1 := by rw [hw1]; exact below_new _ _
  have b2 : Below w1.heap.size w1 w2 := by rw [hw2]; exact below_new _ _
  have b3 : Below w2.heap.size w2 w3 := by rw [hw3]; exact below_new _ _
  have k1 : RichAt w1 g 0 r (.slice a r.n c) := by rw [hw1, hg]; exact rich_new _ _ _
  have k2 : Blk w2 (g + 1) 5 #[.int .u8 wh] := by rw [hw2, ← z1]; exact Blk.new _ _ _
  have k3 : Blk w3 (g + 2) 31 #[.int .i64 0] := by rw [hw3, ← z2]; exact Blk.new _ _ _
  have HM3 := Lib.hid (⟨below_t b1 (below_t b2 b3), (k1.below b2).below b3, k2.below b3 (by omega), k3⟩ : MaySt w g r (.slice a r.n c) wh w3)
  have HS := Lib.hid hs
  have HG := Lib.hid hg
  have HWO := Lib.hid (⟨hW, hO⟩ : Words w ∧ Ops w)
  have HCn := Lib.hid (fun (W : World) (hb : Below w.heap.size w W) => count_any w r _ hs W hb hc)
  have HDp := Lib.hid (fun (W : World) (hb : Below w.heap.size w W) => depth_any w r _ hs W hb hc)
  have HDc := Lib.hid (show r.depth ≤ r.count ∧ r.count ≤ 4611686018427387904 from ⟨depth_le r, hc⟩)
  clear b1 b2 b3 k1 k2 k3 hs hs0 hB hW hO z1 z2 z3 hc
  obtain ⟨d0, d1, d2, d3, d4, d5, d6, d7⟩ := HM3.out.ri
  have e0 : w3.cell? ⟨g + 1, 0, none⟩ = some (.int .u8 wh) := HM3.out.bw.cell 0
  have q0 : w3.cell? ⟨g + 2, 0, none⟩ = some (.int .i64 0) := HM3.out.br.cell 0
  have f0 : w3.frozen? ⟨g + 2, 0, none⟩ = false := HM3.out.br.frozen 0
  have HBs := Lib.hid (show ∀ (W : World) (v : Value), MaySt w g r (.slice a r.n c) wh W → Below w.heap.size w (W.setCell ⟨g + 2, 0, none⟩ v) from fun W v h => h.bl.setCell (p := ⟨g + 2, 0, none⟩) (by show w.heap.size ≤ g + 2; omega) v)
  refine (callsIn_wide (n := 5)).1 ?_
  refine callsIn_of_wp_marks Tryd.func11 rfl trivial ?_ rfl
  simp only [Tryd.ntmps11, List.size_toArray, List.length_cons, List.length_nil, Nat.reduceAdd, Nat.reduceSub, Array.replicate_succ, Array.replicate_zero, List.push_toArray, List.append_toArray, List.nil_append, List.cons_append]
  unfold RichD.val richV
  refine wpIn_wide.2 ?_
  go_upto_region 1 with fail
  rw [← hw1, ← hg, ← hw2, ← hw3]
  clear hw1 hw2 hw3 hg
  by_cases h1 : wh < 1
  · have hd : decide (wh < 1) = true := by simpa using h1
    obtain rfl : T = 1 := by rw [hT]; unfold mayE; rw [if_pos (.inl h1)]
    clear hT h1
    go_wp2_with fail
    exact ⟨_, results_cell_one rfl _ _ (g + 2) (.int .i64 1) rfl (load31 (HM3.out.br.set_ 0 _)), rfl, HBs.out w3 _ HM3.out⟩
  · have hd : decide (wh < 1) = false := by simpa using h1
    by_cases h3 : 3 < wh
    · have hd3 : decide (3 < wh) = true := by simpa using h3
      obtain rfl : T = 1 := by rw [hT]; unfold mayE; rw [if_pos (.inr h3)]
      clear hT h1 h3
      go_wp2_with fail
      exact ⟨_, results_cell_one rfl _ _ (g + 2) (.int .i64 1) rfl (load31 (HM3.out.br.set_ 0 _)), rfl, HBs.out w3 _ HM3.out⟩
    · have hd3 : decide (3 < wh) = false := by simpa using h3
      obtain ⟨n1, hn1⟩ : ∃ n1, n1 = r.count := ⟨_, rfl⟩
      obtain ⟨n2, hn2⟩ : ∃ n2, n2 = r.depth := ⟨_, rfl⟩
      have hT2 : T = if 24 < n1 then 40 else if 8 < n2 then 21 else if (r.parts false).all (keyE wh) then 0 else 4 := by rw [hT, hn1, hn2]; unfold mayE; rw [if_neg (by omega)]
      have HC1 := Lib.hid (HCn.out w3 HM3.out.bl)
      rw [← hn1] at HC1
      have hA := HM3.out
      clear hT h1 h3
      by_cases h24 : 24 < n1
      · rw [if_pos h24] at hT2
        obtain rfl : T = 40 := hT2
        have hd24 : decide ((24 : Int) < (n1 : Int)) = true := by rw [decide_eq_true]; omega
        have hd24' : (24 : Int) < (n1 : Int) := by omega
        clear h24
        go_wp2_with (first
          | (go_at_call 12; (with_reducible refine (HC1.out).mono ?_); rintro e w4 ⟨rfl, HBc⟩; have HM4 := Lib.hid (HM3.out.below HBc); clear HBc; have q4 : w4.cell? ⟨g + 2, 0, none⟩ = some (.int .i64 0) := HM4.out.br.cell 0; have f4 : w4.frozen? ⟨g + 2, 0, none⟩ = false := HM4.out.br.frozen 0)
          | fail)
        exact ⟨_, results_cell_one rfl _ _ (g + 2) (.int .i64 40) rfl (load31 (HM4.out.br.set_ 0 _)), rfl, HBs.out w4 _ HM4.out⟩
      · rw [if_neg h24] at hT2
        have hd24 : decide ((24 : Int) < (n1 : Int)) = false := by rw [decide_eq_false]; omega
        have hd24' : ¬ (24 : Int) < (n1 : Int) := by omega
        have HC2 := Lib.hid (show ∀ W, Below w.heap.size w W → Calls Tryd.prog 13 #[r.val (.slice a r.n c)] W fun e w' => e = .returned (.int .i64 (n2 : Int)) ∧ Below W.heap.size W w' from fun W hb => by rw [hn2]; exact HDp.out W hb)
        clear h24 hA
        by_cases h8 : 8 < n2
        · rw [if_pos h8] at hT2
          obtain rfl : T = 21 := hT2
          have hd8 : decide ((8 : Int) < (n2 : Int)) = true := by rw [decide_eq_true]; omega
          have hd8' : (8 : Int) < (n2 : Int) := by omega
          clear h8
          go_wp2_with (first
            | (go_at_call 12; (with_reducible refine (HC1.out).mono ?_); rintro e w4 ⟨rfl, HBc⟩; have HM4 := Lib.hid (HM3.out.below HBc); clear HBc; obtain ⟨x0, x1, x2, x3, x4, x5, x6, x7⟩ := HM4.out.ri)
            | (go_at_call 13; (with_reducible refine (HC2.out _ HM4.out.bl).mono ?_); rintro e w5 ⟨rfl, HBc⟩; have HM5 := Lib.hid (HM4.out.below HBc); clear HBc; have q5 : w5.cell? ⟨g + 2, 0, none⟩ = some (.int .i64 0) := HM5.out.br.cell 0; have f5 : w5.frozen? ⟨g + 2, 0, none⟩ = false := HM5.out.br.frozen 0)
            | fail)
          exact ⟨_, results_cell_one rfl _ _ (g + 2) (.int .i64 21) rfl (load31 (HM5.out.br.set_ 0 _)), rfl, HBs.out w5 _ HM5.out⟩
        · rw [if_neg h8] at hT2
          have hd8 : decide ((8 : Int) < (n2 : Int)) = false := by rw [decide_eq_false]; omega
          have hd8' : ¬ (8 : Int) < (n2 : Int) := by omega
          have HT2 := Lib.hid hT2
          clear h8 hT2
          have HPa := Lib.hid (parts_any r (.slice a r.n c))
          go_wp2_with (first
            | (go_at_call 12; (with_reducible refine (HC1.out).mono ?_); rintro e w4 ⟨rfl, HBc⟩; have HM4 := Lib.hid (HM3.out.below HBc); clear HBc; obtain ⟨x0, x1, x2, x3, x4, x5, x6, x7⟩ := HM4.out.ri)
            | (go_at_call 13; (with_reducible refine (HC2.out _ HM4.out.bl).mono ?_); rintro e w5 ⟨rfl, HBc⟩; have HM5 := Lib.hid (HM4.out.below HBc); clear HBc; obtain ⟨y0, y1, y2, y3, y4, y5, y6, y7⟩ := HM5.out.ri)
            | (go_at_call 29; (with_reducible refine (HPa.out _).mono ?_); rintro e w6 ⟨rfl, hw6⟩; have HW6 := Lib.hid hw6; clear hw6)
            | fail)
          have hw6 := HW6.out
          have hb56 : Below w5.heap.size w5 w6 := by rw [hw6]; exact ((Below.refl _ w5).alloc (Nat.le_refl _) _).alloc (by simp) _
          have hz6 : w6.heap.size = w5.heap.size + 2 := by rw [hw6]; simp
          have hself : Blk w6 (w5.heap.size + 1) 57 #[selfV (w5.heap.size + 1)] := by
            rw [hw6]
            have := Blk.new (w5.alloc (richObj r (.slice a r.n c))) 57 #[selfV (w5.heap.size + 1)]
            rw [World.size_alloc] at this
            exact this
          have hrb : RichB w6 w5.heap.size r (.slice a r.n c) := by
            rw [hw6]
            exact (RichB.new w5 r (.slice a r.n c)).below (below_new _ _)
          have h5g : g + 2 < w5.heap.size := HM5.out.br.lt
          have h5w : w.heap.size ≤ w5.heap.size := HM5.out.bl.size
          have hwg : w.heap.size ≤ g + 2 := by rw [HG.out]; omega
          have HM6 := Lib.hid (HM5.out.below hb56)
          have HST := Lib.hid (parts_stops w w6 (w5.heap.size + 1) w5.heap.size (g + 2) 4 hwg (by omega) r _ HS.out HM6.out.bl (by omega) (by omega) hself hrb)
          clear hself hrb hw6 hb56
          refine wp_frame ?_
          intro a0 ha0
          refine wpIn_wide.1 (wpIn_rangeFunc_ownH (F := Fence.wide) (n := 5) rfl (by omega) (gf := 35) (lb := #[.pointer (some ⟨w5.heap.size + 1, 0, none⟩), .pointer (some ⟨w5.heap.size, 0, none⟩)]) (by rw [ha0]; rfl) trivial (enters_of Tryd.func35 (by kernel_rfl) rfl) HST.out Kp.t (Kp.b (by omega)) (Below.refl _ _) (fun _ => rfl)
            (fun pre W => MaySt w g r (.slice a r.n c) wh W ∧ pre.all (fun x => keyE wh x.key) = true)
            (fun cd pre W => cd = .ret ∧ Below w.heap.size w W ∧ Blk W (g + 2) 31 #[.int .i64 4] ∧ pre.all (fun x => keyE wh x.key) = false)
            (fun s A B row hs hg' hr => ⟨hs.1.grown hg' hr (by omega) (by omega), hs.2⟩)
            (fun cd s A B row hs hg' hr => ⟨hs.1, hs.2.1.trans ⟨hg'.os, hg'.tape, hg'.output, hg'.size, fun k h1 => hg'.block k (Nat.lt_of_lt_of_le h1 hs.2.1.size) (fun e => by have := (hr k e.symm).1; omega)⟩, blk_walk hs.2.2.1 hg' hr, hs.2.2.2⟩)
            ⟨HM6.out, rfl⟩
            (fun x a' W => ∃ Bx, g + 2 < Bx ∧ Blk W Bx 28 (partC x) ∧ a' = { tmps := (((a0.tmps.setIfInBounds 25 (richV x.kind x.dep (.slice x.a x.n x.c))).setIfInBounds 26 (.bool x.alone)).setIfInBounds 5 (.pointer (some ⟨Bx, 0, none⟩))).setIfInBounds 6 (.bool x.alone), defers := [] })
            (fun x a' s A B row hs hg' hr => by
              obtain ⟨Bx, h1, h2, h3⟩ := hs
              exact ⟨Bx, h1, blk_walk h2 hg' hr, h3⟩) ?assign ?body ?done ?stop)
          case assign =>
            rintro l pre x W K ⟨hm, hp⟩ hK
            subst ha0
            have HKK := Lib.hid hK
            have HMW := Lib.hid hm
            clear hK hm
            gi_wp2
            refine HKK.out _ _ ((KeepsOthers.alloc _ _).from _) (Kp.of_below HMW.out.bl.size (below_new W (.cells (partC x) 28))) ⟨HMW.out.below (below_new W (.cells (partC x) 28)), hp⟩ ⟨W.heap.size, HMW.out.br.lt, Blk.new W 28 (partC x), ?_⟩
            rfl
          case body =>
            rintro l pre x a' W hl ⟨rr, hrr⟩ ⟨hm, hp⟩ ⟨Bx, hBx, hbx, rfl⟩ hlen
            subst ha0
            simp only [List.setIfInBounds_toArray, List.set_cons_succ, List.set_cons_zero]
            obtain ⟨q, hq⟩ : ∃ q, q = askE x.kind := ⟨_, rfl⟩
            have HOf := Lib.hid (of_any x.kind x.fit.2.1 x.fit.2.2 W)
            rw [← hq] at HOf
            have HQk := Lib.hid (show keyE wh x.key = (!(decide (q.wher < wh)) && (!(x.alone && !q.alone) && (!(decide ((x.n : Int) < q.least)) && (!(decide (q.most < (x.n : Int))) && (if x.kind = 1 then depE x.dep else x.dep.none))))) by rw [hq]; rfl)
            have HMW := Lib.hid hm
            have HBX := Lib.hid hbx
            have HP := Lib.hid hp
            have HDM := Lib.hid (fun (W' : World) (h1 : Words W') (h2 : Ops W') => depmay_any x.dep W' x.fit.1 h1 h2)
            have p0 : W.cell? ⟨Bx, 0, none⟩ = some (.int .u8 x.kind) := hbx.cell 0
            -- WHERE THE ROUND GOES ON, AND WHERE IT LEAVES
            have HGo := Lib.hid (show ∀ W', Below W.heap.size W W' → keyE wh x.key = true → KeepsFrom w6.heap.size W W' ∧ Kp (g + 2) w.heap.size W W' ∧ MaySt w g r (.slice a r.n c) wh W' ∧ (pre ++ [x]).all (fun x => keyE wh x.key) = true from fun W' hb hk =>
              ⟨KC.keeps hb _, Kp.of_below hm.bl.size hb, hm.below hb, by rw [List.all_append, hp]; simp [hk]⟩)
            have HLe := Lib.hid (show ∀ W', Below W.heap.size W W' → keyE wh x.key = false → KeepsFrom w6.heap.size W (W'.setCell ⟨g + 2, 0, none⟩ (.int .i64 4)) ∧ (Below w.heap.size w (W'.setCell ⟨g + 2, 0, none⟩ (.int .i64 4)) ∧ Blk (W'.setCell ⟨g + 2, 0, none⟩ (.int .i64 4)) (g + 2) 31 #[.int .i64 4] ∧ (pre ++ [x]).all (fun x => keyE wh x.key) = false) from fun W' hb hk =>
              ⟨(KC.keeps hb _).trans ((KeepsOthers.setCell _ _ _).from _), (hm.below hb).bl.setCell (p := ⟨g + 2, 0, none⟩) hwg _, (hm.below hb).br.set_ 0 _, by rw [List.all_append]; simp [hk]⟩)
            have HLa := Lib.hid (show ∀ W' o, Below W.heap.size W W' → keyE wh x.key = false → KeepsFrom w6.heap.size W ((W'.setCell ⟨g + 2, 0, none⟩ (.int .i64 4)).alloc o) ∧ (Below w.heap.size w ((W'.setCell ⟨g + 2, 0, none⟩ (.int .i64 4)).alloc o) ∧ Blk ((W'.setCell ⟨g + 2, 0, none⟩ (.int .i64 4)).alloc o) (g + 2) 31 #[.int .i64 4] ∧ (pre ++ [x]).all (fun x => keyE wh x.key) = false) from fun W' o hb hk => by
              obtain ⟨h1, h2, h3, h4⟩ := HLe.out W' hb hk
              exact ⟨h1.trans ((KeepsOthers.alloc _ _).from _), below_t h2 (below_new _ _), h3.alloc _, h4⟩)
            clear hm hbx hp hq HCn HDp HM3 HM6 HST HC1 HC2 HPa d0 d1 d2 d3 d4 d5 d6 d7 e0 q0 f0 x0 x1 x2 x3 x4 x5 x6 x7 y0 y1 y2 y3 y4 y5 y6 y7
            have HWW := Lib.hid (show ∀ W2, Below W.heap.size W W2 → Words W2 ∧ Ops W2 from fun W2 hb => ⟨HWO.out.1.below (HMW.out.below hb).bl, HWO.out.2.below (HMW.out.below hb).bl⟩)
            by_cases hA : q.wher < wh
            · have hdA : decide (q.wher < wh) = true := by simpa using hA
              gi_wp2_with (first
                | (refine ⟨trivial, ?_⟩; gi_at_call 30; refine (CallsIn.inRound l (callsIn_wide.2 HOf.out)).mono ?_; rintro e w7 ⟨rfl, hb7⟩; have HB7 := Lib.hid hb7; have HM7 := Lib.hid (HMW.out.below hb7); have HX7 := Lib.hid (HBX.out.below hb7 HBX.out.lt); clear hb7; have l1 : g + 1 < w7.heap.size := HM7.out.bw.lt; have l2 : g + 2 < w7.heap.size := HM7.out.br.lt; have l3 : Bx < w7.heap.size := HX7.out.lt; have t0 : w7.cell? ⟨g + 1, 0, none⟩ = some (.int .u8 wh) := HM7.out.bw.cell 0; have u0 : w7.cell? ⟨g + 2, 0, none⟩ = some (.int .i64 0) := HM7.out.br.cell 0; have v0 : w7.frozen? ⟨g + 2, 0, none⟩ = false := HM7.out.br.frozen 0; have p70 : w7.cell? ⟨Bx, 0, none⟩ = some (.int .u8 x.kind) := HX7.out.cell 0; have p71 : w7.cell? ⟨Bx, 1, none⟩ = some (.string x.dep.name) := HX7.out.cell 1; have p72 : w7.cell? ⟨Bx, 2, none⟩ = some (.int .u8 x.dep.op) := HX7.out.cell 2; have p73 : w7.cell? ⟨Bx, 3, none⟩ = some (.int .i64 x.dep.ep) := HX7.out.cell 3; have p74 : w7.cell? ⟨Bx, 4, none⟩ = some (.string x.dep.ver) := HX7.out.cell 4; have p75 : w7.cell? ⟨Bx, 5, none⟩ = some (.string x.dep.rel) := HX7.out.cell 5; have p76 : w7.cell? ⟨Bx, 6, none⟩ = some (.slice x.a x.n x.c) := HX7.out.cell 6)
                | fail)
              have hkf : keyE wh x.key = false := by rw [HQk.out]; rw [hdA]; rfl
              exact ⟨(HLa.out w7 _ HB7.out hkf).1, rfl, (HLa.out w7 _ HB7.out hkf).2⟩
            · have hdA : decide (q.wher < wh) = false := by simpa using hA
              have hB2 : (x.alone = true ∧ q.alone = false) ∨ (x.alone = true ∧ q.alone = true) ∨ x.alone = false := by cases x.alone <;> cases q.alone <;> simp
              rcases hB2 with ⟨hx1, hq1⟩ | hB3
              · have HF := Lib.hid hx1
                have HF2 := Lib.hid hq1
                gi_wp2_with (first
                  | (refine ⟨trivial, ?_⟩; gi_at_call 30; refine (CallsIn.inRound l (callsIn_wide.2 HOf.out)).mono ?_; rintro e w7 ⟨rfl, hb7⟩; have HB7 := Lib.hid hb7; have HM7 := Lib.hid (HMW.out.below hb7); have HX7 := Lib.hid (HBX.out.below hb7 HBX.out.lt); clear hb7; have l1 : g + 1 < w7.heap.size := HM7.out.bw.lt; have l2 : g + 2 < w7.heap.size := HM7.out.br.lt; have l3 : Bx < w7.heap.size := HX7.out.lt; have t0 : w7.cell? ⟨g + 1, 0, none⟩ = some (.int .u8 wh) := HM7.out.bw.cell 0; have u0 : w7.cell? ⟨g + 2, 0, none⟩ = some (.int .i64 0) := HM7.out.br.cell 0; have v0 : w7.frozen? ⟨g + 2, 0, none⟩ = false := HM7.out.br.frozen 0; have p70 : w7.cell? ⟨Bx, 0, none⟩ = some (.int .u8 x.kind) := HX7.out.cell 0; have p71 : w7.cell? ⟨Bx, 1, none⟩ = some (.string x.dep.name) := HX7.out.cell 1; have p72 : w7.cell? ⟨Bx, 2, none⟩ = some (.int .u8 x.dep.op) := HX7.out.cell 2; have p73 : w7.cell? ⟨Bx, 3, none⟩ = some (.int .i64 x.dep.ep) := HX7.out.cell 3; have p74 : w7.cell? ⟨Bx, 4, none⟩ = some (.string x.dep.ver) := HX7.out.cell 4; have p75 : w7.cell? ⟨Bx, 5, none⟩ = some (.string x.dep.rel) := HX7.out.cell 5; have p76 : w7.cell? ⟨Bx, 6, none⟩ = some (.slice x.a x.n x.c) := HX7.out.cell 6)
                  | fail)
                have hkf : keyE wh x.key = false := by rw [HQk.out]; rw [hdA, HF.out, HF2.out]; rfl
                exact ⟨(HLa.out w7 _ HB7.out hkf).1, rfl, (HLa.out w7 _ HB7.out hkf).2⟩
              · have HBk := Lib.hid (show (x.alone && !q.alone) = false by rcases hB3 with ⟨h1, h2⟩ | h1 <;> simp [*])
                have hxq : x.alone = false ∨ x.alone = true ∧ q.alone = true := hB3.symm
                clear hB3
                by_cases hC : (x.n : Int) < q.least
                · have hdC : decide ((x.n : Int) < q.least) = true := by simpa using hC
                  rcases hxq with hx1 | ⟨hx1, hq1⟩
                  all_goals
                    gi_wp2_with (first
                      | (refine ⟨trivial, ?_⟩; gi_at_call 30; refine (CallsIn.inRound l (callsIn_wide.2 HOf.out)).mono ?_; rintro e w7 ⟨rfl, hb7⟩; have HB7 := Lib.hid hb7; have HM7 := Lib.hid (HMW.out.below hb7); have HX7 := Lib.hid (HBX.out.below hb7 HBX.out.lt); clear hb7; have l1 : g + 1 < w7.heap.size := HM7.out.bw.lt; have l2 : g + 2 < w7.heap.size := HM7.out.br.lt; have l3 : Bx < w7.heap.size := HX7.out.lt; have t0 : w7.cell? ⟨g + 1, 0, none⟩ = some (.int .u8 wh) := HM7.out.bw.cell 0; have u0 : w7.cell? ⟨g + 2, 0, none⟩ = some (.int .i64 0) := HM7.out.br.cell 0; have v0 : w7.frozen? ⟨g + 2, 0, none⟩ = false := HM7.out.br.frozen 0; have p70 : w7.cell? ⟨Bx, 0, none⟩ = some (.int .u8 x.kind) := HX7.out.cell 0; have p71 : w7.cell? ⟨Bx, 1, none⟩ = some (.string x.dep.name) := HX7.out.cell 1; have p72 : w7.cell? ⟨Bx, 2, none⟩ = some (.int .u8 x.dep.op) := HX7.out.cell 2; have p73 : w7.cell? ⟨Bx, 3, none⟩ = some (.int .i64 x.dep.ep) := HX7.out.cell 3; have p74 : w7.cell? ⟨Bx, 4, none⟩ = some (.string x.dep.ver) := HX7.out.cell 4; have p75 : w7.cell? ⟨Bx, 5, none⟩ = some (.string x.dep.rel) := HX7.out.cell 5; have p76 : w7.cell? ⟨Bx, 6, none⟩ = some (.slice x.a x.n x.c) := HX7.out.cell 6)
                      | fail)
                    have hkf : keyE wh x.key = false := by rw [HQk.out]; rw [hdA, HBk.out, hdC]; rfl
                    exact ⟨(HLa.out w7 _ HB7.out hkf).1, rfl, (HLa.out w7 _ HB7.out hkf).2⟩
                · have hdC : decide ((x.n : Int) < q.least) = false := by simpa using hC
                  by_cases hD2 : q.most < (x.n : Int)
                  · have hdD : decide (q.most < (x.n : Int)) = true := by simpa using hD2
                    rcases hxq with hx1 | ⟨hx1, hq1⟩
                    all_goals
                      gi_wp2_with (first
                        | (refine ⟨trivial, ?_⟩; gi_at_call 30; refine (CallsIn.inRound l (callsIn_wide.2 HOf.out)).mono ?_; rintro e w7 ⟨rfl, hb7⟩; have HB7 := Lib.hid hb7; have HM7 := Lib.hid (HMW.out.below hb7); have HX7 := Lib.hid (HBX.out.below hb7 HBX.out.lt); clear hb7; have l1 : g + 1 < w7.heap.size := HM7.out.bw.lt; have l2 : g + 2 < w7.heap.size := HM7.out.br.lt; have l3 : Bx < w7.heap.size := HX7.out.lt; have t0 : w7.cell? ⟨g + 1, 0, none⟩ = some (.int .u8 wh) := HM7.out.bw.cell 0; have u0 : w7.cell? ⟨g + 2, 0, none⟩ = some (.int .i64 0) := HM7.out.br.cell 0; have v0 : w7.frozen? ⟨g + 2, 0, none⟩ = false := HM7.out.br.frozen 0; have p70 : w7.cell? ⟨Bx, 0, none⟩ = some (.int .u8 x.kind) := HX7.out.cell 0; have p71 : w7.cell? ⟨Bx, 1, none⟩ = some (.string x.dep.name) := HX7.out.cell 1; have p72 : w7.cell? ⟨Bx, 2, none⟩ = some (.int .u8 x.dep.op) := HX7.out.cell 2; have p73 : w7.cell? ⟨Bx, 3, none⟩ = some (.int .i64 x.dep.ep) := HX7.out.cell 3; have p74 : w7.cell? ⟨Bx, 4, none⟩ = some (.string x.dep.ver) := HX7.out.cell 4; have p75 : w7.cell? ⟨Bx, 5, none⟩ = some (.string x.dep.rel) := HX7.out.cell 5; have p76 : w7.cell? ⟨Bx, 6, none⟩ = some (.slice x.a x.n x.c) := HX7.out.cell 6)
                        | fail)
                      have hkf : keyE wh x.key = false := by rw [HQk.out]; rw [hdA, HBk.out, hdC, hdD]; rfl
                      exact ⟨(HLa.out w7 _ HB7.out hkf).1, rfl, (HLa.out w7 _ HB7.out hkf).2⟩
                  · have hdD : decide (q.most < (x.n : Int)) = false := by simpa using hD2
                    have HQ2 := Lib.hid (show keyE wh x.key = if x.kind = 1 then depE x.dep else x.dep.none by rw [HQk.out, hdA, HBk.out, hdC, hdD]; rfl)
                    by_cases hk1 : x.kind = 1
                    · have HQ3 := Lib.hid (show keyE wh x.key = depE x.dep by rw [HQ2.out, if_pos hk1])
                      have HK1 := Lib.hid hk1
                      clear hk1
                      obtain ⟨dv, hdv⟩ : ∃ dv, dv = depE x.dep := ⟨_, rfl⟩
                      rw [← hdv] at HQ3 HDM
                      clear hdv
                      cases dv with
                      | true =>
                        rcases hxq with hx1 | ⟨hx1, hq1⟩
                        all_goals
                          gi_wp2_with (first
                            | (refine ⟨trivial, ?_⟩; gi_at_call 30; refine (CallsIn.inRound l (callsIn_wide.2 HOf.out)).mono ?_; rintro e w7 ⟨rfl, hb7⟩; have HB7 := Lib.hid hb7; have HM7 := Lib.hid (HMW.out.below hb7); have HX7 := Lib.hid (HBX.out.below hb7 HBX.out.lt); clear hb7; have l1 : g + 1 < w7.heap.size := HM7.out.bw.lt; have l2 : g + 2 < w7.heap.size := HM7.out.br.lt; have l3 : Bx < w7.heap.size := HX7.out.lt; have t0 : w7.cell? ⟨g + 1, 0, none⟩ = some (.int .u8 wh) := HM7.out.bw.cell 0; have u0 : w7.cell? ⟨g + 2, 0, none⟩ = some (.int .i64 0) := HM7.out.br.cell 0; have v0 : w7.frozen? ⟨g + 2, 0, none⟩ = false := HM7.out.br.frozen 0; have p70 : w7.cell? ⟨Bx, 0, none⟩ = some (.int .u8 x.kind) := HX7.out.cell 0; have p71 : w7.cell? ⟨Bx, 1, none⟩ = some (.string x.dep.name) := HX7.out.cell 1; have p72 : w7.cell? ⟨Bx, 2, none⟩ = some (.int .u8 x.dep.op) := HX7.out.cell 2; have p73 : w7.cell? ⟨Bx, 3, none⟩ = some (.int .i64 x.dep.ep) := HX7.out.cell 3; have p74 : w7.cell? ⟨Bx, 4, none⟩ = some (.string x.dep.ver) := HX7.out.cell 4; have p75 : w7.cell? ⟨Bx, 5, none⟩ = some (.string x.dep.rel) := HX7.out.cell 5; have p76 : w7.cell? ⟨Bx, 6, none⟩ = some (.slice x.a x.n x.c) := HX7.out.cell 6; have hk1 := HK1.out)
                            | (refine ⟨trivial, ?_⟩; gi_at_call 31; refine (CallsIn.inRound l (callsIn_wide.2 (HDM.out _ (HWW.out _ (below_t HB7.out (below_new w7 _))).1 (HWW.out _ (below_t HB7.out (below_new w7 _))).2))).mono ?_; rintro e w9 ⟨rfl, hb9⟩; have HB9 := Lib.hid (below_t (below_t HB7.out (below_new w7 _)) hb9); clear hb9; have p90 : w9.cell? ⟨Bx, 0, none⟩ = some (.int .u8 x.kind) := (HBX.out.below HB9.out HBX.out.lt).cell 0; have HM9 := Lib.hid (HMW.out.below HB9.out); have u9 : w9.cell? ⟨g + 2, 0, none⟩ = some (.int .i64 0) := HM9.out.br.cell 0; have v9 : w9.frozen? ⟨g + 2, 0, none⟩ = false := HM9.out.br.frozen 0)
                            | fail)
                          exact HGo.out w9 HB9.out HQ3.out
                      | false =>
                        rcases hxq with hx1 | ⟨hx1, hq1⟩
                        all_goals
                          gi_wp2_with (first
                            | (refine ⟨trivial, ?_⟩; gi_at_call 30; refine (CallsIn.inRound l (callsIn_wide.2 HOf.out)).mono ?_; rintro e w7 ⟨rfl, hb7⟩; have HB7 := Lib.hid hb7; have HM7 := Lib.hid (HMW.out.below hb7); have HX7 := Lib.hid (HBX.out.below hb7 HBX.out.lt); clear hb7; have l1 : g + 1 < w7.heap.size := HM7.out.bw.lt; have l2 : g + 2 < w7.heap.size := HM7.out.br.lt; have l3 : Bx < w7.heap.size := HX7.out.lt; have t0 : w7.cell? ⟨g + 1, 0, none⟩ = some (.int .u8 wh) := HM7.out.bw.cell 0; have u0 : w7.cell? ⟨g + 2, 0, none⟩ = some (.int .i64 0) := HM7.out.br.cell 0; have v0 : w7.frozen? ⟨g + 2, 0, none⟩ = false := HM7.out.br.frozen 0; have p70 : w7.cell? ⟨Bx, 0, none⟩ = some (.int .u8 x.kind) := HX7.out.cell 0; have p71 : w7.cell? ⟨Bx, 1, none⟩ = some (.string x.dep.name) := HX7.out.cell 1; have p72 : w7.cell? ⟨Bx, 2, none⟩ = some (.int .u8 x.dep.op) := HX7.out.cell 2; have p73 : w7.cell? ⟨Bx, 3, none⟩ = some (.int .i64 x.dep.ep) := HX7.out.cell 3; have p74 : w7.cell? ⟨Bx, 4, none⟩ = some (.string x.dep.ver) := HX7.out.cell 4; have p75 : w7.cell? ⟨Bx, 5, none⟩ = some (.string x.dep.rel) := HX7.out.cell 5; have p76 : w7.cell? ⟨Bx, 6, none⟩ = some (.slice x.a x.n x.c) := HX7.out.cell 6; have hk1 := HK1.out)
                            | (refine ⟨trivial, ?_⟩; gi_at_call 31; refine (CallsIn.inRound l (callsIn_wide.2 (HDM.out _ (HWW.out _ (below_t HB7.out (below_new w7 _))).1 (HWW.out _ (below_t HB7.out (below_new w7 _))).2))).mono ?_; rintro e w9 ⟨rfl, hb9⟩; have HB9 := Lib.hid (below_t (below_t HB7.out (below_new w7 _)) hb9); clear hb9; have p90 : w9.cell? ⟨Bx, 0, none⟩ = some (.int .u8 x.kind) := (HBX.out.below HB9.out HBX.out.lt).cell 0; have HM9 := Lib.hid (HMW.out.below HB9.out); have u9 : w9.cell? ⟨g + 2, 0, none⟩ = some (.int .i64 0) := HM9.out.br.cell 0; have v9 : w9.frozen? ⟨g + 2, 0, none⟩ = false := HM9.out.br.frozen 0)
                            | fail)
                          have hL := HLe.out w9 HB9.out HQ3.out
                          exact ⟨hL.1, rfl, hL.2⟩
                    · have HQ3 := Lib.hid (show keyE wh x.key = x.dep.none by rw [HQ2.out, if_neg hk1])
                      have HK1 := Lib.hid hk1
                      clear hk1
                      rcases hxq with hx1 | ⟨hx1, hq1⟩
                      all_goals
                        gi_wp2_with (first
                          | (refine ⟨trivial, ?_⟩; gi_at_call 30; refine (CallsIn.inRound l (callsIn_wide.2 HOf.out)).mono ?_; rintro e w7 ⟨rfl, hb7⟩; have HB7 := Lib.hid hb7; have HM7 := Lib.hid (HMW.out.below hb7); have HX7 := Lib.hid (HBX.out.below hb7 HBX.out.lt); clear hb7; have l1 : g + 1 < w7.heap.size := HM7.out.bw.lt; have l2 : g + 2 < w7.heap.size := HM7.out.br.lt; have l3 : Bx < w7.heap.size := HX7.out.lt; have t0 : w7.cell? ⟨g + 1, 0, none⟩ = some (.int .u8 wh) := HM7.out.bw.cell 0; have u0 : w7.cell? ⟨g + 2, 0, none⟩ = some (.int .i64 0) := HM7.out.br.cell 0; have v0 : w7.frozen? ⟨g + 2, 0, none⟩ = false := HM7.out.br.frozen 0; have p70 : w7.cell? ⟨Bx, 0, none⟩ = some (.int .u8 x.kind) := HX7.out.cell 0; have p71 : w7.cell? ⟨Bx, 1, none⟩ = some (.string x.dep.name) := HX7.out.cell 1; have p72 : w7.cell? ⟨Bx, 2, none⟩ = some (.int .u8 x.dep.op) := HX7.out.cell 2; have p73 : w7.cell? ⟨Bx, 3, none⟩ = some (.int .i64 x.dep.ep) := HX7.out.cell 3; have p74 : w7.cell? ⟨Bx, 4, none⟩ = some (.string x.dep.ver) := HX7.out.cell 4; have p75 : w7.cell? ⟨Bx, 5, none⟩ = some (.string x.dep.rel) := HX7.out.cell 5; have p76 : w7.cell? ⟨Bx, 6, none⟩ = some (.slice x.a x.n x.c) := HX7.out.cell 6; have hk1 := HK1.out)
                          | fail)
                        refine ⟨trivial, ?_⟩
                        gi_wp2
                        all_goals first
                          | exact HGo.out _ (below_t HB7.out (below_new w7 _)) (HQ3.out.trans (none_yes (by assumption) (by assumption) (by assumption) (by assumption) (by assumption)))
                          | exact ⟨(HLa.out w7 _ HB7.out (HQ3.out.trans (none_name (by assumption)))).1, rfl, (HLa.out w7 _ HB7.out (HQ3.out.trans (none_name (by assumption)))).2⟩
                          | exact ⟨(HLa.out w7 _ HB7.out (HQ3.out.trans (none_op (by assumption)))).1, rfl, (HLa.out w7 _ HB7.out (HQ3.out.trans (none_op (by assumption)))).2⟩
                          | exact ⟨(HLa.out w7 _ HB7.out (HQ3.out.trans (none_ep (by assumption)))).1, rfl, (HLa.out w7 _ HB7.out (HQ3.out.trans (none_ep (by assumption)))).2⟩
                          | exact ⟨(HLa.out w7 _ HB7.out (HQ3.out.trans (none_ver (by assumption)))).1, rfl, (HLa.out w7 _ HB7.out (HQ3.out.trans (none_ver (by assumption)))).2⟩
                          | exact ⟨(HLa.out w7 _ HB7.out (HQ3.out.trans (none_rel (by assumption)))).1, rfl, (HLa.out w7 _ HB7.out (HQ3.out.trans (none_rel (by assumption)))).2⟩
          case done =>
            rintro D ys W hD hS ⟨hm, hp⟩ hKD
            have hT : T = 0 := by
              have h := HT2.out
              rw [← hS, List.all_map] at h
              rw [h]
              exact if_pos hp
            subst hT
            have u0 : W.cell? ⟨g + 2, 0, none⟩ = some (.int .i64 0) := hm.br.cell 0
            have v0 : W.frozen? ⟨g + 2, 0, none⟩ = false := hm.br.frozen 0
            have HMW := Lib.hid hm
            have HKD := Lib.hid hKD
            have HD2 := Lib.hid (show w6.heap.size ≤ D from hD)
            subst ha0
            clear hm hp hS hKD hD HST HM6

            go_wp2_with fail
            have hKs := (KeepsOthers.setCell W ⟨g + 2, 0, none⟩ (.int .i64 0)).same D _ HKD.out rfl
            refine ⟨by simp, .inl ⟨_, _, rfl, run_takeDeferred hKs, ?_⟩⟩
            exact ⟨_, results_cell_one rfl _ _ (g + 2) (.int .i64 0) rfl (load31 ((HMW.out.br.set_ 0 _).grown (grownBy_putObj' _ D _) (fun e => by injection e with e; have := HD2.out; omega))), rfl,
              (HMW.out.bl.setCell (p := ⟨g + 2, 0, none⟩) hwg _).trans (belowK_b (w := w) (Nat.le_refl _) _ D _ (.deferred none) (by have := HD2.out; omega) hKs rfl rfl)⟩
          case stop =>
            rintro D cd ys W hD hS ⟨rfl, hbl, hbk, hf⟩ hKD
            have hT : T = 4 := by
              have h := HT2.out
              have h2 : (r.parts false).all (keyE wh) = false := by
                obtain ⟨zs, hz⟩ := hS
                rw [← hz, List.all_append, List.all_map]
                have : ys.all (keyE wh ∘ PartD.key) = false := hf
                rw [this]; rfl
              rw [h, h2]; rfl
            subst hT
            subst ha0
            have HBL := Lib.hid hbl
            have HBK := Lib.hid hbk
            have HKD := Lib.hid hKD
            have HD2 := Lib.hid (show w6.heap.size ≤ D from hD)
            clear hbl hbk hf hS hKD hD HST HM6
            gi_wp2
            refine ⟨by simp, .inl ⟨_, _, rfl, run_takeDeferred HKD.out, ?_⟩⟩
            exact ⟨_, results_cell_one rfl _ _ (g + 2) (.int .i64 4) rfl (load31 (HBK.out.grown (grownBy_putObj' _ D _) (fun e => by injection e with e; have := HD2.out; omega))), rfl,
              HBL.out.trans (belowK_b (w := w) (Nat.le_refl _) _ D _ (.deferred none) (by have := HD2.out; omega) HKD.out rfl rfl)⟩
end Go.Proofs.YtadogjnoklabdaaDoor
