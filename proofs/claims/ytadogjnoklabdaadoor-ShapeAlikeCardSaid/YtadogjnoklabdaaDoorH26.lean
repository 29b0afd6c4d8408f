/- ShapeJoined: its walk. Conditions: as each theorem names them. -/
import Derived.Test.YtadogjnoklabdaaDoorH25
namespace Go.Proofs.YtadogjnoklabdaaDoor
open Go.ChangeShapes Go.WideShapes Go.ChangeAt Go.RowKit Go.Deep
set_option maxRecDepth 100000

/-- Two parameters' blocks. -/
structure JSt (w : World) (g : Nat) (a b : RichD) (sa sb : Value) (W : World) : Prop where
  bl : Below w.heap.size w W
  ra : RichAt W g 0 a sa
  rb : RichAt W (g + 1) 0 b sb
theorem JSt.below {w W W' : World} {g : Nat} {a b : RichD} {sa sb : Value} (h : JSt w g a b sa sb W) (hb : Below W.heap.size W W') : JSt w g a b sa sb W' := ⟨below_t h.bl hb, h.ra.below hb, h.rb.below hb⟩
theorem JSt.drew {w W : World} {g : Nat} {a b : RichD} {sa sb : Value} (h : JSt w g a b sa sb W) : JSt w g a b sa sb W.drew := h.below (Below.refl _ W).drew
theorem JSt.alloc {w W : World} {g : Nat} {a b : RichD} {sa sb : Value} (h : JSt w g a b sa sb W) (o : Obj) : JSt w g a b sa sb (W.alloc o) := h.below (below_new _ _)
theorem JSt.cells {w W : World} {g : Nat} {a b : RichD} {sa sb : Value} (h : JSt w g a b sa sb W) : W.cell? ⟨g, 0, none⟩ = some (.int .u8 a.kind) ∧ W.cell? ⟨g, 1, none⟩ = some (.string a.dep.name) ∧ W.cell? ⟨g, 2, none⟩ = some (.int .u8 a.dep.op) ∧ W.cell? ⟨g, 3, none⟩ = some (.int .i64 a.dep.ep) ∧ W.cell? ⟨g, 4, none⟩ = some (.string a.dep.ver) ∧ W.cell? ⟨g, 5, none⟩ = some (.string a.dep.rel) ∧ W.cell? ⟨g, 6, none⟩ = some sa ∧
    W.cell? ⟨g + 1, 0, none⟩ = some (.int .u8 b.kind) ∧ W.cell? ⟨g + 1, 1, none⟩ = some (.string b.dep.name) ∧ W.cell? ⟨g + 1, 2, none⟩ = some (.int .u8 b.dep.op) ∧ W.cell? ⟨g + 1, 3, none⟩ = some (.int .i64 b.dep.ep) ∧ W.cell? ⟨g + 1, 4, none⟩ = some (.string b.dep.ver) ∧ W.cell? ⟨g + 1, 5, none⟩ = some (.string b.dep.rel) ∧ W.cell? ⟨g + 1, 6, none⟩ = some sb := by
  obtain ⟨_, ⟨a0, a1, a2, a3, a4, a5, a6, _⟩, ⟨b0, b1, b2, b3, b4, b5, b6, _⟩⟩ := h
  exact ⟨a0, by simpa using a1, by simpa using a2, by simpa using a3, by simpa using a4, by simpa using a5, by simpa using a6, b0, by simpa using b1, by simpa using b2, by simpa using b3, by simpa using b4, by simpa using b5, by simpa using b6⟩
theorem JSt.new (w : World) (a b : RichD) (sa sb : Value) : JSt w w.heap.size a b sa sb ((w.alloc (richObj a sa)).alloc (richObj b sb)) := by
  refine ⟨below_t (below_new _ _) (below_new _ _), (rich_new w a sa).below (below_new _ _), ?_⟩
  have h := rich_new (w.alloc (richObj a sa)) b sb
  rwa [World.size_alloc] at h
theorem two_below {w w' : World} (a b : RichD) (sa sb : Value) (hb : Below (w.alloc (.cells (twoC a b sa sb) 28)).heap.size (w.alloc (.cells (twoC a b sa sb) 28)) w') : RichAt w' w.heap.size 0 a sa ∧ RichAt w' w.heap.size 7 b sb :=
  ⟨(two_new w a b sa sb).1.below hb, (two_new w a b sa sb).2.below hb⟩
theorem ne_zero {x : Int} (h : ¬ x = 0) : (x == 0) = false := by simpa using h
def kd3 (k : Nat) : Int := if k = 0 then 3 else if k = 1 then 2 else 5
theorem kd_or (k : Nat) : kd3 k = 3 ∨ kd3 k = 2 ∨ kd3 k = 5 := by
  unfold kd3
  split
  · exact .inl rfl
  · split
    · exact .inr (.inl rfl)
    · exact .inr (.inr rfl)
theorem kd_cell {W : World} {q k : Nat} (h : Blk W q 5 #[.int .u8 3, .int .u8 2, .int .u8 5]) (hk : k < 3) : W.cell? ⟨q, k, none⟩ = some (.int .u8 (kd3 k)) := by
  have : k = 0 ∨ k = 1 ∨ k = 2 := by omega
  rcases this with rfl | rfl | rfl
  · exact h.cell 0
  · exact h.cell 1
  · exact h.cell 2

set_option maxHeartbeats 4000000 in
theorem joined_any (a b : RichD) (sa sb : Value) (w : World) (ha : IsArgs w a sa) (hb : IsArgs w b sb) (hW : Words w) (hO : Ops w) :
    Calls Tryd.prog 4 #[a.val sa, b.val sb] w fun e w' => e = .returned (.bool true) ∧ Below w.heap.size w w' := by
  obtain ⟨xa, ca, rfl⟩ := ha.form
  obtain ⟨xb, cb, rfl⟩ := hb.form
  obtain ⟨sa, hsa⟩ : ∃ sa, sa = Value.slice xa a.n ca := ⟨_, rfl⟩
  obtain ⟨sb, hsb⟩ : ∃ sb, sb = Value.slice xb b.n cb := ⟨_, rfl⟩
  obtain ⟨g, hg⟩ : ∃ g, g = w.heap.size := ⟨_, rfl⟩
  obtain ⟨w1, hw1⟩ : ∃ w1, w1 = (w.alloc (richObj a (.slice xa a.n ca))).alloc (richObj b (.slice xb b.n cb)) := ⟨_, rfl⟩
  have HSt := Lib.hid (show JSt w g a b (.slice xa a.n ca) (.slice xb b.n cb) w1 from by rw [hw1, hg]; exact JSt.new _ _ _ _ _)
  have HWk := Lib.hid (fun (W : World) (h : JSt w g a b (.slice xa a.n ca) (.slice xb b.n cb) W) => works_any W (hW.below h.bl) (hO.below h.bl))
  have HLa := Lib.hid (fun (W : World) (h : JSt w g a b (.slice xa a.n ca) (.slice xb b.n cb) W) => large_any a _ W (ha.kept h.bl))
  have HLb := Lib.hid (fun (W : World) (h : JSt w g a b (.slice xa a.n ca) (.slice xb b.n cb) W) => large_any b _ W (hb.kept h.bl))
  obtain ⟨d0, d1, d2, d3, d4, d5, d6, e0, e1, e2, e3, e4, e5, e6⟩ := HSt.out.cells
  clear hsa hsb
  by_cases hl : 600 ≤ a.count ∨ 600 ≤ b.count
  · have hd : decide (600 ≤ a.count) = true ∨ (decide (600 ≤ a.count) = false ∧ decide (600 ≤ b.count) = true) := by
      rcases Nat.lt_or_ge a.count 600 with h | h
      · exact .inr ⟨decide_eq_false (by omega), decide_eq_true (by omega)⟩
      · exact .inl (decide_eq_true h)
    clear ha hb hW hO hl
    rcases hd with hd | ⟨hd, hd2⟩
    · rw [hd] at HLa
      unfold RichD.val richV
      go_enter Tryd.func4, Tryd.ntmps4
      go_upto_region 1 with fail
      rw [← hw1, ← hg]
      clear hw1 hg
      go_wp2_with (first
        | (go_at_call 9; (with_reducible refine (HWk.out _ HSt.out).mono ?_); rintro e wx ⟨rfl, HBc⟩; have HSt := Lib.hid (HSt.out.below HBc); clear HBc; obtain ⟨d0, d1, d2, d3, d4, d5, d6, e0, e1, e2, e3, e4, e5, e6⟩ := HSt.out.cells)
        | (go_at_call 10; (with_reducible refine (HLa.out _ HSt.out).mono ?_); rintro e wx ⟨rfl, HBc⟩; have HSt := Lib.hid (HSt.out.below HBc); clear HBc)
        | fail)
      go_ret
      exact ⟨rfl, HSt.out.bl⟩
    · rw [hd] at HLa
      rw [hd2] at HLb
      unfold RichD.val richV
      go_enter Tryd.func4, Tryd.ntmps4
      go_upto_region 1 with fail
      rw [← hw1, ← hg]
      clear hw1 hg
      go_wp2_with (first
        | (go_at_call 9; (with_reducible refine (HWk.out _ HSt.out).mono ?_); rintro e wx ⟨rfl, HBc⟩; have HSt := Lib.hid (HSt.out.below HBc); clear HBc; obtain ⟨d0, d1, d2, d3, d4, d5, d6, e0, e1, e2, e3, e4, e5, e6⟩ := HSt.out.cells)
        | (go_at_call 10; (with_reducible refine (HLa.out _ HSt.out).mono ?_); rintro e wx ⟨rfl, HBc⟩; have HSt := Lib.hid (HSt.out.below HBc); clear HBc; obtain ⟨d0, d1, d2, d3, d4, d5, d6, e0, e1, e2, e3, e4, e5, e6⟩ := HSt.out.cells)
        | (go_at_call 10; (with_reducible refine (HLb.out _ HSt.out).mono ?_); rintro e wx ⟨rfl, HBc⟩; have HSt := Lib.hid (HSt.out.below HBc); clear HBc)
        | fail)
      go_ret
      exact ⟨rfl, HSt.out.bl⟩
  · have hda : decide (600 ≤ a.count) = false := decide_eq_false (by omega)
    have hdb : decide (600 ≤ b.count) = false := decide_eq_false (by omega)
    rw [hda] at HLa
    rw [hdb] at HLb
    have hca : a.count ≤ 4611686018427387904 := by omega
    have hcb : b.count ≤ 4611686018427387904 := by omega
    have HMa := Lib.hid (fun (W : World) (h : JSt w g a b (.slice xa a.n ca) (.slice xb b.n cb) W) (k : Int) (hk : 0 ≤ k ∧ k < 256) => may_any w a _ ha W h.bl hca k hk (hW.below h.bl) (hO.below h.bl))
    have HMb := Lib.hid (fun (W : World) (h : JSt w g a b (.slice xa a.n ca) (.slice xb b.n cb) W) (k : Int) (hk : 0 ≤ k ∧ k < 256) => may_any w b _ hb W h.bl hcb k hk (hW.below h.bl) (hO.below h.bl))
    obtain ⟨ma, hma⟩ : ∃ m, m = mayE a 1 := ⟨_, rfl⟩
    obtain ⟨mb, hmb⟩ : ∃ m, m = mayE b 1 := ⟨_, rfl⟩
    have HMa1 := Lib.hid (fun (W : World) (h : JSt w g a b (.slice xa a.n ca) (.slice xb b.n cb) W) => HMa.out W h 1 (by omega))
    have HMb1 := Lib.hid (fun (W : World) (h : JSt w g a b (.slice xa a.n ca) (.slice xb b.n cb) W) => HMb.out W h 1 (by omega))
    rw [← hma] at HMa1
    rw [← hmb] at HMb1
    by_cases hn : ¬ ma = 0 ∨ ¬ mb = 0
    · have hn2 : (¬ ma = 0) ∨ (ma = 0 ∧ ¬ mb = 0) := by
        by_cases h : ma = 0
        · exact .inr ⟨h, hn.elim (fun h2 => absurd h h2) id⟩
        · exact .inl h
      clear ha hb hW hO hl hca hcb hma hmb hn
      rcases hn2 with h1 | ⟨rfl, h2⟩
      · have hz : (ma == 0) = false := by simpa using h1
        unfold RichD.val richV
        go_enter Tryd.func4, Tryd.ntmps4
        go_upto_region 1 with fail
        rw [← hw1, ← hg]
        clear hw1 hg
        go_wp2_with (first
          | (go_at_call 9; (with_reducible refine (HWk.out _ HSt.out).mono ?_); rintro e wx ⟨rfl, HBc⟩; have HSt := Lib.hid (HSt.out.below HBc); clear HBc; obtain ⟨d0, d1, d2, d3, d4, d5, d6, e0, e1, e2, e3, e4, e5, e6⟩ := HSt.out.cells)
          | (go_at_call 10; (with_reducible refine (HLa.out _ HSt.out).mono ?_); rintro e wx ⟨rfl, HBc⟩; have HSt := Lib.hid (HSt.out.below HBc); clear HBc; obtain ⟨d0, d1, d2, d3, d4, d5, d6, e0, e1, e2, e3, e4, e5, e6⟩ := HSt.out.cells)
          | (go_at_call 10; (with_reducible refine (HLb.out _ HSt.out).mono ?_); rintro e wx ⟨rfl, HBc⟩; have HSt := Lib.hid (HSt.out.below HBc); clear HBc; obtain ⟨d0, d1, d2, d3, d4, d5, d6, e0, e1, e2, e3, e4, e5, e6⟩ := HSt.out.cells)
          | (go_at_call 11; (with_reducible refine (HMa1.out _ HSt.out).mono ?_); rintro e wx ⟨rfl, HBc⟩; have HSt := Lib.hid (HSt.out.below HBc); clear HBc)
          | fail)
        go_ret
        exact ⟨rfl, HSt.out.bl⟩
      · have hz : (mb == 0) = false := by simpa using h2
        unfold RichD.val richV
        go_enter Tryd.func4, Tryd.ntmps4
        go_upto_region 1 with fail
        rw [← hw1, ← hg]
        clear hw1 hg
        go_wp2_with (first
          | (go_at_call 9; (with_reducible refine (HWk.out _ HSt.out).mono ?_); rintro e wx ⟨rfl, HBc⟩; have HSt := Lib.hid (HSt.out.below HBc); clear HBc; obtain ⟨d0, d1, d2, d3, d4, d5, d6, e0, e1, e2, e3, e4, e5, e6⟩ := HSt.out.cells)
          | (go_at_call 10; (with_reducible refine (HLa.out _ HSt.out).mono ?_); rintro e wx ⟨rfl, HBc⟩; have HSt := Lib.hid (HSt.out.below HBc); clear HBc; obtain ⟨d0, d1, d2, d3, d4, d5, d6, e0, e1, e2, e3, e4, e5, e6⟩ := HSt.out.cells)
          | (go_at_call 10; (with_reducible refine (HLb.out _ HSt.out).mono ?_); rintro e wx ⟨rfl, HBc⟩; have HSt := Lib.hid (HSt.out.below HBc); clear HBc; obtain ⟨d0, d1, d2, d3, d4, d5, d6, e0, e1, e2, e3, e4, e5, e6⟩ := HSt.out.cells)
          | (go_at_call 11; (with_reducible refine (HMa1.out _ HSt.out).mono ?_); rintro e wx ⟨rfl, HBc⟩; have HSt := Lib.hid (HSt.out.below HBc); clear HBc; obtain ⟨d0, d1, d2, d3, d4, d5, d6, e0, e1, e2, e3, e4, e5, e6⟩ := HSt.out.cells)
          | (go_at_call 11; (with_reducible refine (HMb1.out _ HSt.out).mono ?_); rintro e wx ⟨rfl, HBc⟩; have HSt := Lib.hid (HSt.out.below HBc); clear HBc)
          | fail)
        go_ret
        exact ⟨rfl, HSt.out.bl⟩
    · obtain ⟨hna, hnb⟩ : ma = 0 ∧ mb = 0 := ⟨Classical.byContradiction fun h => hn (.inl h), Classical.byContradiction fun h => hn (.inr h)⟩
      rw [hna] at HMa1
      rw [hnb] at HMb1
      have HA0 := Lib.hid (hma.symm.trans hna)
      have HB0 := Lib.hid (hmb.symm.trans hnb)
      obtain ⟨v, hv⟩ : ∃ v, v = wantJ a b := ⟨_, rfl⟩
      have HCa := Lib.hid (fun (W : World) (h : JSt w g a b (.slice xa a.n ca) (.slice xb b.n cb) W) => count_any w a _ ha W h.bl hca)
      have HCb := Lib.hid (fun (W : World) (h : JSt w g a b (.slice xa a.n ca) (.slice xb b.n cb) W) => count_any w b _ hb W h.bl hcb)
      have HDa := Lib.hid (fun (W : World) (h : JSt w g a b (.slice xa a.n ca) (.slice xb b.n cb) W) => depth_any w a _ ha W h.bl hca)
      have HDb := Lib.hid (fun (W : World) (h : JSt w g a b (.slice xa a.n ca) (.slice xb b.n cb) W) => depth_any w b _ hb W h.bl hcb)
      obtain ⟨na, hna'⟩ : ∃ n, n = a.count := ⟨_, rfl⟩
      obtain ⟨nb, hnb'⟩ : ∃ n, n = b.count := ⟨_, rfl⟩
      obtain ⟨ta, hta⟩ : ∃ n, n = a.depth := ⟨_, rfl⟩
      obtain ⟨tb, htb⟩ : ∃ n, n = b.depth := ⟨_, rfl⟩
      have HV := Lib.hid (show v = if 24 ≤ na + nb then 40 else if 8 ≤ ta ∨ 8 ≤ tb then 21 else 0 by rw [hv, hna', hnb', hta, htb]; rfl)
      rw [← hna'] at HCa
      rw [← hnb'] at HCb
      rw [← hta] at HDa
      rw [← htb] at HDb
      have hna3 : na < 600 := by omega
      have hnb3 : nb < 600 := by omega
      have HV0 := Lib.hid hv
      have HJ := Lib.hid (fun (W : World) (q c : Nat) (k : Int) (hk : k = 3 ∨ k = 2 ∨ k = 5) (h : JSt w g a b (.slice xa a.n ca) (.slice xb b.n cb) W) (h2 : RichAt W q 0 a (.slice xa a.n ca) ∧ RichAt W q 7 b (.slice xb b.n cb)) => show Calls Tryd.prog 11 #[.agg #[.int .u8 k, .string ⟨#[]⟩, .int .u8 0, .int .i64 0, .string ⟨#[]⟩, .string ⟨#[]⟩, .slice (some ⟨q, 0, none⟩) 2 c], .int .u8 1] W fun e w' => e = .returned (.int .i64 v) ∧ Below W.heap.size W w' from by
        have := may_any W (twoR k a b) (.slice (some ⟨q, 0, none⟩) 2 c) (is_two (by omega) h2.1 h2.2 (ha.kept h.bl) (hb.kept h.bl)) W (Below.refl _ _) (by rw [two_count]; omega) 1 (by omega) (hW.below h.bl) (hO.below h.bl)
        rw [joined_may hk HA0.out HB0.out, ← HV0.out] at this
        exact this)
      have HWi := Lib.hid (fun (W : World) (u : Int) (hu : wantW a b = u) (q c : Nat) (h : JSt w g a b (.slice xa a.n ca) (.slice xb b.n cb) W) (h2 : RichAt W q 0 a (.slice xa a.n ca) ∧ RichAt W q 7 b (.slice xb b.n cb)) => show Calls Tryd.prog 11 #[.agg #[.int .u8 6, .string ⟨#[]⟩, .int .u8 0, .int .i64 0, .string ⟨#[]⟩, .string ⟨#[]⟩, .slice (some ⟨q, 0, none⟩) 2 c], .int .u8 1] W fun e w' => e = .returned (.int .i64 u) ∧ Below W.heap.size W w' from by
        have := may_any W (twoR 6 a b) (.slice (some ⟨q, 0, none⟩) 2 c) (is_two (by omega) h2.1 h2.2 (ha.kept h.bl) (hb.kept h.bl)) W (Below.refl _ _) (by rw [two_count]; omega) 1 (by omega) (hW.below h.bl) (hO.below h.bl)
        rw [joined_with HA0.out HB0.out, hu] at this
        exact this)
      have HRi := Lib.hid rich_any
      clear ha hb hW hO hl hca hcb hma hmb hn hna hnb hna' hnb' hta htb hv hda hdb
      unfold RichD.val richV
      go_enter Tryd.func4, Tryd.ntmps4
      go_upto_region 1 with fail
      rw [← hw1, ← hg]
      clear hw1 hg
      go_upto_region 5 with (first
        | (go_at_call 9; (with_reducible refine (HWk.out _ HSt.out).mono ?_); rintro e wx ⟨rfl, HBc⟩; have HSt := Lib.hid (HSt.out.below HBc); clear HBc; obtain ⟨d0, d1, d2, d3, d4, d5, d6, e0, e1, e2, e3, e4, e5, e6⟩ := HSt.out.cells)
        | (go_at_call 10; (with_reducible refine (HLa.out _ HSt.out).mono ?_); rintro e wx ⟨rfl, HBc⟩; have HSt := Lib.hid (HSt.out.below HBc); clear HBc; obtain ⟨d0, d1, d2, d3, d4, d5, d6, e0, e1, e2, e3, e4, e5, e6⟩ := HSt.out.cells)
        | (go_at_call 10; (with_reducible refine (HLb.out _ HSt.out).mono ?_); rintro e wx ⟨rfl, HBc⟩; have HSt := Lib.hid (HSt.out.below HBc); clear HBc; obtain ⟨d0, d1, d2, d3, d4, d5, d6, e0, e1, e2, e3, e4, e5, e6⟩ := HSt.out.cells)
        | (go_at_call 11; (with_reducible refine (HMa1.out _ HSt.out).mono ?_); rintro e wx ⟨rfl, HBc⟩; have HSt := Lib.hid (HSt.out.below HBc); clear HBc; obtain ⟨d0, d1, d2, d3, d4, d5, d6, e0, e1, e2, e3, e4, e5, e6⟩ := HSt.out.cells)
        | (go_at_call 11; (with_reducible refine (HMb1.out _ HSt.out).mono ?_); rintro e wx ⟨rfl, HBc⟩; have HSt := Lib.hid (HSt.out.below HBc); clear HBc)
        | fail)
      go_cut [5] from 27 (fun x wy => x = .int .i64 0 ∧ Hid (JSt w g a b (.slice xa a.n ca) (.slice xb b.n cb) wy))
      case first =>
        go_wp2_with fail
        go_meet
        case rel => exact ⟨rfl, HSt⟩
      case rest =>
        obtain ⟨rfl, HSr⟩ := hcut
        go_step
        go_step
        go_cut [5] from 27 (fun x wy => x = .int .i64 v ∧ Hid (JSt w g a b (.slice xa a.n ca) (.slice xb b.n cb) wy))
        case first =>
          have HSt := Lib.hid HSr.out.drew
          have hwr : IntKind.i64.wrap ((na : Int) + (nb : Int)) = (na : Int) + (nb : Int) := by rw [IntKind.wrap_i64]; omega
          go_upto_region 6 with fail
          go_region_held3 (fun w' => w'.cell? ⟨g, 0, none⟩ = some (.int .u8 a.kind) ∧ w'.cell? ⟨g, 1, none⟩ = some (.string a.dep.name) ∧ w'.cell? ⟨g, 2, none⟩ = some (.int .u8 a.dep.op) ∧ w'.cell? ⟨g, 3, none⟩ = some (.int .i64 a.dep.ep) ∧ w'.cell? ⟨g, 4, none⟩ = some (.string a.dep.ver) ∧ w'.cell? ⟨g, 5, none⟩ = some (.string a.dep.rel) ∧ w'.cell? ⟨g, 6, none⟩ = some (.slice xa a.n ca) ∧ w'.cell? ⟨g + 1, 0, none⟩ = some (.int .u8 b.kind) ∧ w'.cell? ⟨g + 1, 1, none⟩ = some (.string b.dep.name) ∧ w'.cell? ⟨g + 1, 2, none⟩ = some (.int .u8 b.dep.op) ∧ w'.cell? ⟨g + 1, 3, none⟩ = some (.int .i64 b.dep.ep) ∧ w'.cell? ⟨g + 1, 4, none⟩ = some (.string b.dep.ver) ∧ w'.cell? ⟨g + 1, 5, none⟩ = some (.string b.dep.rel) ∧ w'.cell? ⟨g + 1, 6, none⟩ = some (.slice xb b.n cb)) (exact HSt.out.cells)
            ((first
              | (go_at_call 12; (with_reducible refine (HCa.out _ HSt.out).mono ?_); rintro e wx ⟨rfl, HBc⟩; have HSt := Lib.hid (HSt.out.below HBc); clear HBc)
              | (go_at_call 12; (with_reducible refine (HCb.out _ HSt.out).mono ?_); rintro e wx ⟨rfl, HBc⟩; have HSt := Lib.hid (HSt.out.below HBc); clear HBc)))
          have hcase : (24 ≤ na + nb ∧ v = 40) ∨ (¬ 24 ≤ na + nb ∧ 8 ≤ ta ∧ v = 21) ∨ (¬ 24 ≤ na + nb ∧ ¬ 8 ≤ ta ∧ 8 ≤ tb ∧ v = 21) ∨ (¬ 24 ≤ na + nb ∧ ¬ 8 ≤ ta ∧ ¬ 8 ≤ tb ∧ v = 0) := by
            have h := HV.out
            by_cases h1 : 24 ≤ na + nb
            · rw [if_pos h1] at h; exact .inl ⟨h1, h⟩
            · rw [if_neg h1] at h
              by_cases h2 : 8 ≤ ta
              · rw [if_pos (.inl h2)] at h; exact .inr (.inl ⟨h1, h2, h⟩)
              · by_cases h3 : 8 ≤ tb
                · rw [if_pos (.inr h3)] at h; exact .inr (.inr (.inl ⟨h1, h2, h3, h⟩))
                · rw [if_neg (by omega)] at h; exact .inr (.inr (.inr ⟨h1, h2, h3, h⟩))
          clear HV HV0 HJ
          obtain ⟨d0, d1, d2, d3, d4, d5, d6, e0, e1, e2, e3, e4, e5, e6⟩ := HSt.out.cells
          rcases hcase with ⟨h1, rfl⟩ | ⟨h1, h2, rfl⟩ | ⟨h1, h2, h3, rfl⟩ | ⟨h1, h2, h3, rfl⟩
          · have k1 : decide ((24 : Int) ≤ (na : Int) + (nb : Int)) = true := by rw [decide_eq_true]; omega
            have k1p : (24 : Int) ≤ (na : Int) + (nb : Int) := by omega
            clear h1
            go_wp2_with fail
            go_meet
            case rel => exact ⟨rfl, HSt⟩
          · have k1 : decide ((24 : Int) ≤ (na : Int) + (nb : Int)) = false := by rw [decide_eq_false]; omega
            have k1p : (na : Int) + (nb : Int) < (24 : Int) := by omega
            have k2 : decide ((8 : Int) ≤ (ta : Int)) = true := by rw [decide_eq_true]; omega
            have k2p : (8 : Int) ≤ (ta : Int) := by omega
            clear h1 h2
            go_wp2_with (first
              | (go_at_call 13; (with_reducible refine (HDa.out _ HSt.out).mono ?_); rintro e wx ⟨rfl, HBc⟩; have HSt := Lib.hid (HSt.out.below HBc); clear HBc; obtain ⟨d0, d1, d2, d3, d4, d5, d6, e0, e1, e2, e3, e4, e5, e6⟩ := HSt.out.cells)
              | fail)
            go_meet
            case rel => exact ⟨rfl, HSt⟩
          · have k1 : decide ((24 : Int) ≤ (na : Int) + (nb : Int)) = false := by rw [decide_eq_false]; omega
            have k1p : (na : Int) + (nb : Int) < (24 : Int) := by omega
            have k2 : decide ((8 : Int) ≤ (ta : Int)) = false := by rw [decide_eq_false]; omega
            have k2p : (ta : Int) < (8 : Int) := by omega
            have k3 : decide ((8 : Int) ≤ (tb : Int)) = true := by rw [decide_eq_true]; omega
            have k3p : (8 : Int) ≤ (tb : Int) := by omega
            clear h1 h2 h3
            go_wp2_with (first
              | (go_at_call 13; (with_reducible refine (HDa.out _ HSt.out).mono ?_); rintro e wx ⟨rfl, HBc⟩; have HSt := Lib.hid (HSt.out.below HBc); clear HBc; obtain ⟨d0, d1, d2, d3, d4, d5, d6, e0, e1, e2, e3, e4, e5, e6⟩ := HSt.out.cells)
              | (go_at_call 13; (with_reducible refine (HDb.out _ HSt.out).mono ?_); rintro e wx ⟨rfl, HBc⟩; have HSt := Lib.hid (HSt.out.below HBc); clear HBc)
              | fail)
            go_meet
            case rel => exact ⟨rfl, HSt⟩
          · have k1 : decide ((24 : Int) ≤ (na : Int) + (nb : Int)) = false := by rw [decide_eq_false]; omega
            have k1p : (na : Int) + (nb : Int) < (24 : Int) := by omega
            have k2 : decide ((8 : Int) ≤ (ta : Int)) = false := by rw [decide_eq_false]; omega
            have k2p : (ta : Int) < (8 : Int) := by omega
            have k3 : decide ((8 : Int) ≤ (tb : Int)) = false := by rw [decide_eq_false]; omega
            have k3p : (tb : Int) < (8 : Int) := by omega
            clear h1 h2 h3
            go_wp2_with (first
              | (go_at_call 13; (with_reducible refine (HDa.out _ HSt.out).mono ?_); rintro e wx ⟨rfl, HBc⟩; have HSt := Lib.hid (HSt.out.below HBc); clear HBc; obtain ⟨d0, d1, d2, d3, d4, d5, d6, e0, e1, e2, e3, e4, e5, e6⟩ := HSt.out.cells)
              | (go_at_call 13; (with_reducible refine (HDb.out _ HSt.out).mono ?_); rintro e wx ⟨rfl, HBc⟩; have HSt := Lib.hid (HSt.out.below HBc); clear HBc)
              | fail)
            go_meet
            case rel => exact ⟨rfl, HSt⟩
        case rest =>
          obtain ⟨rfl, HSr⟩ := hcut
          obtain ⟨q, hq⟩ : ∃ q, q = wc.heap.size := ⟨_, rfl⟩
          have HSl := Lib.hid (show JSt w g a b (.slice xa a.n ca) (.slice xb b.n cb) (wc.alloc (.cells #[.int .u8 3, .int .u8 2, .int .u8 5] 5)) from HSr.out.alloc _)
          have HKl := Lib.hid (show Blk (wc.alloc (.cells #[.int .u8 3, .int .u8 2, .int .u8 5] 5)) q 5 #[.int .u8 3, .int .u8 2, .int .u8 5] from by rw [hq]; exact Blk.new _ _ _)
          clear HSt HCa HCb HDa HDb HMa1 HMb1 HWk HLa HLb d0 d1 d2 d3 d4 d5 d6 e0 e1 e2 e3 e4 e5 e6
          have HMa3 := Lib.hid (fun (W : World) (h : JSt w g a b (.slice xa a.n ca) (.slice xb b.n cb) W) => HMa.out W h 3 (by omega))
          have HMb3 := Lib.hid (fun (W : World) (h : JSt w g a b (.slice xa a.n ca) (.slice xb b.n cb) W) => HMb.out W h 3 (by omega))
          have HWi2 := Lib.hid (fun (W : World) (u : Int) (hu : wantW a b = u) (q c : Nat) (h : JSt w g a b (.slice xa a.n ca) (.slice xb b.n cb) W) (h2 : RichAt W q 0 a (.slice xa a.n ca) ∧ RichAt W q 7 b (.slice xb b.n cb)) => HWi.out W u hu q c h h2)
          obtain ⟨ma3, hma3⟩ : ∃ m, m = mayE a 3 := ⟨_, rfl⟩
          obtain ⟨mb3, hmb3⟩ : ∃ m, m = mayE b 3 := ⟨_, rfl⟩
          rw [← hma3] at HMa3
          rw [← hmb3] at HMb3
          have HWt := Lib.hid (show wantW a b = if v = 0 ∧ (¬ ma3 = 0 ∨ ¬ mb3 = 0) then 4 else v by rw [hma3, hmb3, HV0.out]; rfl)
          clear HMa HMb HWi hma3 hmb3 HV
          go_upto_region 11 with fail
          rw [← hq]
          clear hq
          go_wp2_with fail
          go_loopw [45] (fun i wr => ∃ k : Nat, k ≤ 3 ∧ i = .int .i64 k ∧ Hid (JSt w g a b (.slice xa a.n ca) (.slice xb b.n cb) wr) ∧ Hid (Blk wr q 5 #[.int .u8 3, .int .u8 2, .int .u8 5])) (fun i wr => 3 - (intOf i).toNat)
          case atStart => exact ⟨0, by omega, rfl, HSl, HKl⟩
          case round =>
            obtain ⟨k, hk, rfl, HSk, HKk⟩ := hrel
            obtain ⟨d0, d1, d2, d3, d4, d5, d6, e0, e1, e2, e3, e4, e5, e6⟩ := HSk.out.cells
            by_cases hlt : k < 3
            · have hki : (k : Int) < 3 := by omega
              have hkc := kd_cell HKk.out hlt
              have hkl := HKk.out.lt
              have hk3 := Lib.hid (kd_or k)
              obtain ⟨kd, hkd⟩ : ∃ kd, kd = kd3 k := ⟨_, rfl⟩
              rw [← hkd] at hkc hk3
              clear hkd
              go_wp2_with (first
                | (go_at_call 14; (with_reducible refine (HRi.out kd _ _ _ _).mono ?_); rintro e w5 ⟨rfl, HBc⟩; have HS5 := Lib.hid ((HSk.out.alloc _).below HBc); have HT5 := Lib.hid (show RichAt w5 wr.heap.size 0 a (.slice xa a.n ca) ∧ RichAt w5 wr.heap.size 7 b (.slice xb b.n cb) from ⟨(two_new wr a b (.slice xa a.n ca) (.slice xb b.n cb)).1.below HBc, (two_new wr a b (.slice xa a.n ca) (.slice xb b.n cb)).2.below HBc⟩); have HK5 := Lib.hid ((HKk.out.alloc (.cells (twoC a b (.slice xa a.n ca) (.slice xb b.n cb)) 28)).below HBc (Nat.lt_of_lt_of_le HKk.out.lt (below_new wr (.cells (twoC a b (.slice xa a.n ca) (.slice xb b.n cb)) 28)).size)); clear HBc)
                | (go_at_call 11; (with_reducible refine (HJ.out _ _ _ kd hk3.out HS5.out HT5.out).mono ?_); rintro e w6 ⟨rfl, HBc⟩; have HS6 := Lib.hid (HS5.out.below HBc); have HK6 := Lib.hid (HK5.out.below HBc HK5.out.lt); clear HBc)
                | fail)
              go_roundw
              case rel => exact ⟨k + 1, by omega, by go_num, HS6, HK6⟩
              case measure => simp [intOf]; omega
            · obtain rfl : k = 3 := by omega
              have hcase : (¬ v = 0 ∧ wantW a b = v) ∨ (v = 0 ∧ ¬ ma3 = 0 ∧ wantW a b = 4) ∨ (v = 0 ∧ ma3 = 0 ∧ ¬ mb3 = 0 ∧ wantW a b = 4) ∨ (v = 0 ∧ ma3 = 0 ∧ mb3 = 0 ∧ wantW a b = 0) := by
                have h := HWt.out
                by_cases h1 : v = 0
                · by_cases h2 : ma3 = 0
                  · by_cases h3 : mb3 = 0
                    · rw [if_neg (fun x => x.2.elim (fun y => y h2) (fun y => y h3)), h1] at h; exact .inr (.inr (.inr ⟨h1, h2, h3, h⟩))
                    · rw [if_pos ⟨h1, .inr h3⟩] at h; exact .inr (.inr (.inl ⟨h1, h2, h3, h⟩))
                  · rw [if_pos ⟨h1, .inl h2⟩] at h; exact .inr (.inl ⟨h1, h2, h⟩)
                · rw [if_neg (fun x => h1 x.1)] at h; exact .inl ⟨h1, h⟩
              clear HJ HSl HKl HWt HV0
              have HSt := Lib.hid HSk.out
              rcases hcase with ⟨h1, hu⟩ | ⟨rfl, h1, hu⟩ | ⟨rfl, rfl, h1, hu⟩ | ⟨rfl, rfl, rfl, hu⟩
              all_goals
                have HU := Lib.hid (fun W q c => HWi2.out W _ hu q c)
                clear hu
                try (have hne := ne_zero h1; clear h1)
                go_wp2_with (first
                  | (go_at_call 11; (with_reducible refine (HMa3.out _ HSt.out).mono ?_); rintro e wx ⟨rfl, HBc⟩; have HSt := Lib.hid (HSt.out.below HBc); clear HBc; obtain ⟨d0, d1, d2, d3, d4, d5, d6, e0, e1, e2, e3, e4, e5, e6⟩ := HSt.out.cells)
                  | (go_at_call 11; (with_reducible refine (HMb3.out _ HSt.out).mono ?_); rintro e wx ⟨rfl, HBc⟩; have HSt := Lib.hid (HSt.out.below HBc); clear HBc; obtain ⟨d0, d1, d2, d3, d4, d5, d6, e0, e1, e2, e3, e4, e5, e6⟩ := HSt.out.cells)
                  | (go_at_call 14; (with_reducible refine (HRi.out 6 _ _ _ _).mono ?_); rintro e w5 ⟨rfl, HBc⟩; have HS5 := Lib.hid ((HSt.out.alloc _).below HBc); have HT5 := Lib.hid (two_below a b _ _ HBc); clear HBc)
                  | (go_at_call 11; (with_reducible refine (HU.out _ _ _ HS5.out HT5.out).mono ?_); rintro e w6 ⟨rfl, HBc⟩; have HS6 := Lib.hid (HS5.out.below HBc); clear HBc)
                  | fail)
                go_ret
                exact ⟨rfl, HS6.out.bl⟩
end Go.Proofs.YtadogjnoklabdaaDoor
