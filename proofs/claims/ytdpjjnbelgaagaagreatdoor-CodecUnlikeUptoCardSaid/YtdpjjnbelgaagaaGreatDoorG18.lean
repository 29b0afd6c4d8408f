/- pkg.Same. Conditions: as each theorem names them. -/
import Derived.Test.YtdpjjnbelgaagaaGreatDoorG15
import Derived.Test.YtdpjjnbelgaagaaGreatDoorG16
import Derived.Test.YtdpjjnbelgaagaaGreatDoorG17
namespace Go.Proofs.YtdpjjnbelgaagaaGreatDoor
open Go.ChangeShapes Go.WideShapes Go.ChangeAt Go.RowKit Go.Deep
set_option maxRecDepth 100000

theorem kSame_any (p q : PkgD) (rp rq : PkgR) (w : World) (hp : PkgIn anyB w p rp) (hq : PkgIn anyB w q rq)  : Calls Tryz.prog 51 #[p.val rp, q.val rq] w fun e w' => e = .returned (.bool (samePk p q)) ∧ Below w.heap.size w w' := by
  by_cases e0 : p.name.toList = q.name.toList
  · by_cases e1 : p.ep = q.ep
    · by_cases e2 : p.ver.toList = q.ver.toList
      · by_cases e3 : p.rel.toList = q.rel.toList
        · by_cases e4 : p.arch = q.arch
          · by_cases e5 : p.vendor.toList = q.vendor.toList
            · exact ksame_6 p q rp rq w hp hq e0 e1 e2 e3 e4 e5
            · exact ksame_5 p q rp rq w hp hq e0 e1 e2 e3 e4 e5
          · exact ksame_4 p q rp rq w hp hq e0 e1 e2 e3 e4
        · exact ksame_3 p q rp rq w hp hq e0 e1 e2 e3
      · exact ksame_2 p q rp rq w hp hq e0 e1 e2
    · exact ksame_1 p q rp rq w hp hq e0 e1
  · exact ksame_0 p q rp rq w hp hq e0
end Go.Proofs.YtdpjjnbelgaagaaGreatDoor

namespace Go.Proofs.YtdpjjnbelgaagaaGreatDoor
open Go.ChangeShapes Go.WideShapes Go.ChangeAt Go.RowKit Go.Deep
set_option maxRecDepth 100000

set_option maxHeartbeats 8000000 in
theorem eqfP_any (a b : List PkgD) (va vb : Value) (w : World) (ha : LIn pkgK anyB w a va) (hb : LIn pkgK anyB w b vb) : Calls Tryz.prog 50 #[va, vb, .func (.func 51) #[] #[]] w fun e w' => e = .returned (.bool (eqL samePk a b)) ∧ Below w.heap.size w w' := by
  obtain ⟨a1, c1, rfl⟩ := ha.form
  obtain ⟨a2, c2, rfl⟩ := hb.form
  have hn1 := ha.bound
  have hn2 := hb.bound
  have HA := Lib.hid ha
  have HB := Lib.hid hb
  obtain ⟨T, hT⟩ : ∃ T, T = eqL samePk a b := ⟨_, rfl⟩
  rw [← hT]
  have HT := Lib.hid hT
  clear ha hb hT
  by_cases hnn : a.length = b.length
  · have HNN := Lib.hid hnn
    obtain ⟨n, hn⟩ : ∃ n, n = a.length := ⟨_, rfl⟩
    have HLn := Lib.hid (show a.length = n ∧ b.length = n from ⟨hn.symm, by omega⟩)
    rw [← hnn, ← hn]
    rw [← hn] at hn1
    clear hn2 hnn hn
    go_enter Tryz.func50, Tryz.ntmps50
    go_wp2_with fail
    go_loopw [17] (fun i wr => ∃ k : Nat, k ≤ n ∧ i = .int .i64 k ∧ Hid ((∀ j (h1 : j < a.length) (h2 : j < b.length), j < k → samePk a[j] b[j] = true) ∧ Below w.heap.size w wr)) (fun i wr => n - (intOf i).toNat)
    case atStart => exact ⟨0, by omega, rfl, ⟨fun j _ _ h => absurd h (Nat.not_lt_zero j), Below.refl _ _⟩⟩
    case round =>
      obtain ⟨k, hk, rfl, HQ⟩ := hrel
      by_cases hlt : k < n
      · have hki : (k : Int) < (n : Int) := by omega
        obtain ⟨b1, o1, r1, ha1, _, hcs1, hh1⟩ := HA.out.at_ k (by have := HLn.out; omega)
        have hvb : Value.slice a2 n c2 = .slice a2 b.length c2 := by rw [HLn.out.2]
        obtain ⟨b2, o2, r2, ha2, _, hcs2, hh2⟩ := HB.out.at_ k (by have := HLn.out; omega)
        obtain ⟨x, hx⟩ : ∃ x, x = a[k]'(by have := HLn.out; omega) := ⟨_, rfl⟩
        obtain ⟨y, hy⟩ : ∃ y, y = b[k]'(by have := HLn.out; omega) := ⟨_, rfl⟩
        rw [← hx] at hcs1 hh1
        rw [← hy] at hcs2 hh2
        have HXY := Lib.hid (show ∀ (h1 : k < a.length) (h2 : k < b.length), a[k] = x ∧ b[k] = y from fun _ _ => ⟨hx.symm, hy.symm⟩)
        subst ha1 ha2
        dsimp only [pkgK] at hcs1 hcs2 hh1 hh2 r1 r2
        rcases r1 with ⟨u0, u1, u2, u3, u4, u5, u6, u7, u8⟩
        rcases r2 with ⟨v0, v1, v2, v3, v4, v5, v6, v7, v8⟩
        have hi1 : PkgIn anyB w x ⟨u0, u1, u2, u3, u4, u5, u6, u7, u8⟩ := hh1
        have hi2 : PkgIn anyB w y ⟨v0, v1, v2, v3, v4, v5, v6, v7, v8⟩ := hh2
        obtain ⟨xa0, xc0, (rfl : u0 = _)⟩ := hi1.prov.form
        obtain ⟨ya0, yc0, (rfl : v0 = _)⟩ := hi2.prov.form
        obtain ⟨xa1, xc1, (rfl : u1 = _)⟩ := hi1.req.form
        obtain ⟨ya1, yc1, (rfl : v1 = _)⟩ := hi2.req.form
        obtain ⟨xa2, xc2, (rfl : u2 = _)⟩ := hi1.con.form
        obtain ⟨ya2, yc2, (rfl : v2 = _)⟩ := hi2.con.form
        obtain ⟨xa3, xc3, (rfl : u3 = _)⟩ := hi1.obs.form
        obtain ⟨ya3, yc3, (rfl : v3 = _)⟩ := hi2.obs.form
        obtain ⟨xa4, xc4, (rfl : u4 = _)⟩ := hi1.reco.form
        obtain ⟨ya4, yc4, (rfl : v4 = _)⟩ := hi2.reco.form
        obtain ⟨xa5, xc5, (rfl : u5 = _)⟩ := hi1.sup.form
        obtain ⟨ya5, yc5, (rfl : v5 = _)⟩ := hi2.sup.form
        obtain ⟨xa6, xc6, (rfl : u6 = _)⟩ := hi1.sug.form
        obtain ⟨ya6, yc6, (rfl : v6 = _)⟩ := hi2.sug.form
        obtain ⟨xa7, xc7, (rfl : u7 = _)⟩ := hi1.enh.form
        obtain ⟨ya7, yc7, (rfl : v7 = _)⟩ := hi2.enh.form
        obtain ⟨xa8, xc8, (rfl : u8 = _)⟩ := hi1.files.form
        obtain ⟨ya8, yc8, (rfl : v8 = _)⟩ := hi2.files.form
        have HFr := Lib.hid HQ.out.2
        have HLt := Lib.hid hlt
        have hd1 := hcs1.below HFr.out
        have hd2 := hcs2.below HFr.out
        obtain ⟨w2, hw2⟩ : ∃ w2, w2 = (wr.alloc (.cells #[.string x.name, .int .i64 x.ep, .string x.ver, .string x.rel, .int .u8 x.arch, .string x.vendor, .slice xa0 x.prov.length xc0, .slice xa1 (argL x.req).length xc1, .slice xa2 (argL x.con).length xc2, .slice xa3 x.obs.length xc3, .slice xa4 (argL x.reco).length xc4, .slice xa5 (argL x.sup).length xc5, .slice xa6 (argL x.sug).length xc6, .slice xa7 (argL x.enh).length xc7, .slice xa8 x.files.length xc8] 29)).alloc (.cells #[.string y.name, .int .i64 y.ep, .string y.ver, .string y.rel, .int .u8 y.arch, .string y.vendor, .slice ya0 y.prov.length yc0, .slice ya1 (argL y.req).length yc1, .slice ya2 (argL y.con).length yc2, .slice ya3 y.obs.length yc3, .slice ya4 (argL y.reco).length yc4, .slice ya5 (argL y.sup).length yc5, .slice ya6 (argL y.sug).length yc6, .slice ya7 (argL y.enh).length yc7, .slice ya8 y.files.length yc8] 29) := ⟨_, rfl⟩
        have hbn : Below wr.heap.size wr w2 := by rw [hw2]; exact below_t' (new_b _ _) (new_b _ _)
        have HB3 := Lib.hid (below_t' HFr.out hbn)
        obtain ⟨bb, hbb⟩ : ∃ bb, bb = samePk x y := ⟨_, rfl⟩
        have HM := Lib.hid (show Calls Tryz.prog 51 #[.agg #[.string x.name, .int .i64 x.ep, .string x.ver, .string x.rel, .int .u8 x.arch, .string x.vendor, .slice xa0 x.prov.length xc0, .slice xa1 (argL x.req).length xc1, .slice xa2 (argL x.con).length xc2, .slice xa3 x.obs.length xc3, .slice xa4 (argL x.reco).length xc4, .slice xa5 (argL x.sup).length xc5, .slice xa6 (argL x.sug).length xc6, .slice xa7 (argL x.enh).length xc7, .slice xa8 x.files.length xc8], .agg #[.string y.name, .int .i64 y.ep, .string y.ver, .string y.rel, .int .u8 y.arch, .string y.vendor, .slice ya0 y.prov.length yc0, .slice ya1 (argL y.req).length yc1, .slice ya2 (argL y.con).length yc2, .slice ya3 y.obs.length yc3, .slice ya4 (argL y.reco).length yc4, .slice ya5 (argL y.sup).length yc5, .slice ya6 (argL y.sug).length yc6, .slice ya7 (argL y.enh).length yc7, .slice ya8 y.files.length yc8]] w2 fun e w'' => e = .returned (.bool bb) ∧ Below w2.heap.size w2 w'' from by
          rw [hbb]
          exact kSame_any x y ⟨.slice xa0 x.prov.length xc0, .slice xa1 (argL x.req).length xc1, .slice xa2 (argL x.con).length xc2, .slice xa3 x.obs.length xc3, .slice xa4 (argL x.reco).length xc4, .slice xa5 (argL x.sup).length xc5, .slice xa6 (argL x.sug).length xc6, .slice xa7 (argL x.enh).length xc7, .slice xa8 x.files.length xc8⟩ ⟨.slice ya0 y.prov.length yc0, .slice ya1 (argL y.req).length yc1, .slice ya2 (argL y.con).length yc2, .slice ya3 y.obs.length yc3, .slice ya4 (argL y.reco).length yc4, .slice ya5 (argL y.sup).length yc5, .slice ya6 (argL y.sug).length yc6, .slice ya7 (argL y.enh).length yc7, .slice ya8 y.files.length yc8⟩ w2 (hi1.bl (below_t' HFr.out hbn)) (hi2.bl (below_t' HFr.out hbn)))
        rw [hw2] at HM HB3
        have HBb := Lib.hid hbb
        have x0 : wr.cell? ⟨b1, o1 + k * 15, none⟩ = some (.string x.name) := hd1.2 0 (show 0 < 15 by omega)
        have y0 : wr.cell? ⟨b2, o2 + k * 15, none⟩ = some (.string y.name) := hd2.2 0 (show 0 < 15 by omega)
        have x1 : wr.cell? ⟨b1, o1 + k * 15 + 1, none⟩ = some (.int .i64 x.ep) := hd1.2 1 (show 1 < 15 by omega)
        have y1 : wr.cell? ⟨b2, o2 + k * 15 + 1, none⟩ = some (.int .i64 y.ep) := hd2.2 1 (show 1 < 15 by omega)
        have x2 : wr.cell? ⟨b1, o1 + k * 15 + 2, none⟩ = some (.string x.ver) := hd1.2 2 (show 2 < 15 by omega)
        have y2 : wr.cell? ⟨b2, o2 + k * 15 + 2, none⟩ = some (.string y.ver) := hd2.2 2 (show 2 < 15 by omega)
        have x3 : wr.cell? ⟨b1, o1 + k * 15 + 3, none⟩ = some (.string x.rel) := hd1.2 3 (show 3 < 15 by omega)
        have y3 : wr.cell? ⟨b2, o2 + k * 15 + 3, none⟩ = some (.string y.rel) := hd2.2 3 (show 3 < 15 by omega)
        have x4 : wr.cell? ⟨b1, o1 + k * 15 + 4, none⟩ = some (.int .u8 x.arch) := hd1.2 4 (show 4 < 15 by omega)
        have y4 : wr.cell? ⟨b2, o2 + k * 15 + 4, none⟩ = some (.int .u8 y.arch) := hd2.2 4 (show 4 < 15 by omega)
        have x5 : wr.cell? ⟨b1, o1 + k * 15 + 5, none⟩ = some (.string x.vendor) := hd1.2 5 (show 5 < 15 by omega)
        have y5 : wr.cell? ⟨b2, o2 + k * 15 + 5, none⟩ = some (.string y.vendor) := hd2.2 5 (show 5 < 15 by omega)
        have x6 : wr.cell? ⟨b1, o1 + k * 15 + 6, none⟩ = some (.slice xa0 x.prov.length xc0) := hd1.2 6 (show 6 < 15 by omega)
        have y6 : wr.cell? ⟨b2, o2 + k * 15 + 6, none⟩ = some (.slice ya0 y.prov.length yc0) := hd2.2 6 (show 6 < 15 by omega)
        have x7 : wr.cell? ⟨b1, o1 + k * 15 + 7, none⟩ = some (.slice xa1 (argL x.req).length xc1) := hd1.2 7 (show 7 < 15 by omega)
        have y7 : wr.cell? ⟨b2, o2 + k * 15 + 7, none⟩ = some (.slice ya1 (argL y.req).length yc1) := hd2.2 7 (show 7 < 15 by omega)
        have x8 : wr.cell? ⟨b1, o1 + k * 15 + 8, none⟩ = some (.slice xa2 (argL x.con).length xc2) := hd1.2 8 (show 8 < 15 by omega)
        have y8 : wr.cell? ⟨b2, o2 + k * 15 + 8, none⟩ = some (.slice ya2 (argL y.con).length yc2) := hd2.2 8 (show 8 < 15 by omega)
        have x9 : wr.cell? ⟨b1, o1 + k * 15 + 9, none⟩ = some (.slice xa3 x.obs.length xc3) := hd1.2 9 (show 9 < 15 by omega)
        have y9 : wr.cell? ⟨b2, o2 + k * 15 + 9, none⟩ = some (.slice ya3 y.obs.length yc3) := hd2.2 9 (show 9 < 15 by omega)
        have x10 : wr.cell? ⟨b1, o1 + k * 15 + 10, none⟩ = some (.slice xa4 (argL x.reco).length xc4) := hd1.2 10 (show 10 < 15 by omega)
        have y10 : wr.cell? ⟨b2, o2 + k * 15 + 10, none⟩ = some (.slice ya4 (argL y.reco).length yc4) := hd2.2 10 (show 10 < 15 by omega)
        have x11 : wr.cell? ⟨b1, o1 + k * 15 + 11, none⟩ = some (.slice xa5 (argL x.sup).length xc5) := hd1.2 11 (show 11 < 15 by omega)
        have y11 : wr.cell? ⟨b2, o2 + k * 15 + 11, none⟩ = some (.slice ya5 (argL y.sup).length yc5) := hd2.2 11 (show 11 < 15 by omega)
        have x12 : wr.cell? ⟨b1, o1 + k * 15 + 12, none⟩ = some (.slice xa6 (argL x.sug).length xc6) := hd1.2 12 (show 12 < 15 by omega)
        have y12 : wr.cell? ⟨b2, o2 + k * 15 + 12, none⟩ = some (.slice ya6 (argL y.sug).length yc6) := hd2.2 12 (show 12 < 15 by omega)
        have x13 : wr.cell? ⟨b1, o1 + k * 15 + 13, none⟩ = some (.slice xa7 (argL x.enh).length xc7) := hd1.2 13 (show 13 < 15 by omega)
        have y13 : wr.cell? ⟨b2, o2 + k * 15 + 13, none⟩ = some (.slice ya7 (argL y.enh).length yc7) := hd2.2 13 (show 13 < 15 by omega)
        have x14 : wr.cell? ⟨b1, o1 + k * 15 + 14, none⟩ = some (.slice xa8 x.files.length xc8) := hd1.2 14 (show 14 < 15 by omega)
        have y14 : wr.cell? ⟨b2, o2 + k * 15 + 14, none⟩ = some (.slice ya8 y.files.length yc8) := hd2.2 14 (show 14 < 15 by omega)
        have p1 := hd1.1
        have p2 := hd2.1
        clear hcs1 hcs2 hh1 hh2 hd1 hd2 hx hy hvb hw2 hbn hbb
        cases bb with
        | true =>
          go_wp2_with (first
            | (go_at_call 51; (with_reducible refine (HM.out).mono ?_); rintro e w1 ⟨rfl, HBc⟩; have HB1 := Lib.hid (below_t' HB3.out HBc); clear HBc)
            | fail)
          go_roundw
          case rel => exact ⟨k + 1, by have := HLt.out; omega, by go_num, ⟨fun j h1 h2 h3 => by
            by_cases hj : j < k
            · exact HQ.out.1 j h1 h2 hj
            · obtain rfl : j = k := by omega
              obtain ⟨e1, e2⟩ := HXY.out h1 h2
              rw [e1, e2]
              exact HBb.out.symm, HB1.out⟩⟩
          case measure => simp [intOf]; omega
        | false =>
          have HT2 := Lib.hid (show T = false by
            rw [HT.out]
            have h1 : k < a.length := by have := HLn.out; have := HLt.out; omega
            have h2 : k < b.length := by have := HLn.out; have := HLt.out; omega
            obtain ⟨e1, e2⟩ := HXY.out h1 h2
            exact eqL_no h1 h2 (by rw [e1, e2]; exact HBb.out.symm))
          go_wp2_with (first
            | (go_at_call 51; (with_reducible refine (HM.out).mono ?_); rintro e w1 ⟨rfl, HBc⟩; have HB1 := Lib.hid (below_t' HB3.out HBc); clear HBc)
            | fail)
          go_ret
          exact ⟨ret_bool HT2.out.symm, HB1.out⟩
      · obtain rfl : k = n := by omega
        have HT2 := Lib.hid (show T = true by rw [HT.out]; exact (eqL_iff _ _ _).2 ⟨HNN.out, fun j h1 h2 => HQ.out.1 j h1 h2 (by have := HLn.out; omega)⟩)
        go_wp2_with fail
        go_ret
        exact ⟨ret_bool HT2.out.symm, HQ.out.2⟩
  · have h1 : ¬ (a.length : Int) = (b.length : Int) := by omega
    have HT2 := Lib.hid (show T = false by rw [HT.out]; exact eqL_len hnn)
    clear hnn
    go_enter Tryz.func50, Tryz.ntmps50
    go_wp2_with fail
    go_ret
    exact ⟨ret_bool HT2.out.symm, Below.refl _ _⟩
set_option maxHeartbeats 8000000 in
theorem cSame1_any (x y : RepoD) (vx vy : Value) (w : World) (hx : LIn pkgK anyB w x.pkgs vx) (hy : LIn pkgK anyB w y.pkgs vy) :
    Calls Tryz.prog 53 #[.agg #[.int .i64 x.prio, vx], .agg #[.int .i64 y.prio, vy]] w fun e w' => e = .returned (.bool (sameO x y)) ∧ Below w.heap.size w w' := by
  obtain ⟨a1, c1, rfl⟩ := hx.form
  obtain ⟨a2, c2, rfl⟩ := hy.form
  obtain ⟨p1, q1⟩ := x
  obtain ⟨p2, q2⟩ := y
  obtain ⟨g, hg⟩ : ∃ g, g = w.heap.size := ⟨_, rfl⟩
  obtain ⟨W, hW⟩ : ∃ W, W = (w.alloc (.cells #[.int .i64 p1, .slice a1 q1.length c1] 38)).alloc (.cells #[.int .i64 p2, .slice a2 q2.length c2] 38) := ⟨_, rfl⟩
  have HX := Lib.hid (show Blk W g 38 #[.int .i64 p1, .slice a1 q1.length c1] ∧ Blk W (g + 1) 38 #[.int .i64 p2, .slice a2 q2.length c2] ∧ Below w.heap.size w W from by
    have hb1 := new_b w (.cells #[.int .i64 p1, .slice a1 q1.length c1] 38)
    have hb2 := new_b (w.alloc (.cells #[.int .i64 p1, .slice a1 q1.length c1] 38)) (.cells #[.int .i64 p2, .slice a2 q2.length c2] 38)
    have hx1 := Blk.new w 38 #[.int .i64 p1, .slice a1 q1.length c1]
    have hx2 := Blk.new (w.alloc (.cells #[.int .i64 p1, .slice a1 q1.length c1] 38)) 38 #[.int .i64 p2, .slice a2 q2.length c2]
    rw [World.size_alloc] at hx2
    rw [hW, hg]
    exact ⟨hx1.below hb2 hx1.lt, hx2, below_t' hb1 hb2⟩)
  have d0 : W.cell? ⟨g, 0, none⟩ = some (.int .i64 p1) := HX.out.1.cell 0
  have d1 : W.cell? ⟨g, 1, none⟩ = some (.slice a1 q1.length c1) := HX.out.1.cell 1
  have d2 : W.cell? ⟨g + 1, 0, none⟩ = some (.int .i64 p2) := HX.out.2.1.cell 0
  have d3 : W.cell? ⟨g + 1, 1, none⟩ = some (.slice a2 q2.length c2) := HX.out.2.1.cell 1
  have dl : g < W.heap.size := HX.out.1.lt
  have dl' : g + 1 < W.heap.size := HX.out.2.1.lt
  have HC := Lib.hid (eqfP_any q1 q2 _ _ W (hx.below HX.out.2.2 fun _ _ _ => trivial) (hy.below HX.out.2.2 fun _ _ _ => trivial))
  clear hx hy
  by_cases hp : p1 = p2
  · have HP := Lib.hid (show sameO ⟨p1, q1⟩ ⟨p2, q2⟩ = eqL samePk q1 q2 from by unfold sameO; simp [hp])
    subst hp
    go_enter Tryz.func53, Tryz.ntmps53
    go_upto_region 1 with fail
    rw [← hg, ← hW]
    have HG := Lib.hid hg
    clear hW hg
    go_wp2_with (first
      | (go_at_call 50; (with_reducible refine HC.out.mono ?_); rintro e w1 ⟨rfl, hb1⟩; have HB1 := Lib.hid (below_t' HX.out.2.2 hb1); clear hb1)
      | fail)
    go_ret
    exact ⟨ret_bool HP.out.symm, HB1.out⟩
  · have HP := Lib.hid (show sameO ⟨p1, q1⟩ ⟨p2, q2⟩ = false from by unfold sameO; simp [hp])
    go_enter Tryz.func53, Tryz.ntmps53
    go_upto_region 1 with fail
    rw [← hg, ← hW]
    have HG := Lib.hid hg
    clear hW hg
    go_wp2_with fail
    go_ret
    exact ⟨ret_bool HP.out.symm, HX.out.2.2⟩
set_option maxHeartbeats 8000000 in
theorem eqfO_any (a b : List RepoD) (va vb : Value) (w : World) (ha : LIn repoK anyB w a va) (hb : LIn repoK anyB w b vb) : Calls Tryz.prog 52 #[va, vb, .func (.func 53) #[] #[]] w fun e w' => e = .returned (.bool (eqL sameO a b)) ∧ Below w.heap.size w w' := by
  obtain ⟨a1, c1, rfl⟩ := ha.form
  obtain ⟨a2, c2, rfl⟩ := hb.form
  have hn1 := ha.bound
  have hn2 := hb.bound
  have HA := Lib.hid ha
  have HB := Lib.hid hb
  obtain ⟨T, hT⟩ : ∃ T, T = eqL sameO a b := ⟨_, rfl⟩
  rw [← hT]
  have HT := Lib.hid hT
  clear ha hb hT
  by_cases hnn : a.length = b.length
  · have HNN := Lib.hid hnn
    obtain ⟨n, hn⟩ : ∃ n, n = a.length := ⟨_, rfl⟩
    have HLn := Lib.hid (show a.length = n ∧ b.length = n from ⟨hn.symm, by omega⟩)
    rw [← hnn, ← hn]
    rw [← hn] at hn1
    clear hn2 hnn hn
    go_enter Tryz.func52, Tryz.ntmps52
    go_wp2_with fail
    go_loopw [17] (fun i wr => ∃ k : Nat, k ≤ n ∧ i = .int .i64 k ∧ Hid ((∀ j (h1 : j < a.length) (h2 : j < b.length), j < k → sameO a[j] b[j] = true) ∧ Below w.heap.size w wr)) (fun i wr => n - (intOf i).toNat)
    case atStart => exact ⟨0, by omega, rfl, ⟨fun j _ _ h => absurd h (Nat.not_lt_zero j), Below.refl _ _⟩⟩
    case round =>
      obtain ⟨k, hk, rfl, HQ⟩ := hrel
      by_cases hlt : k < n
      · have hki : (k : Int) < (n : Int) := by omega
        obtain ⟨b1, o1, r1, ha1, _, hcs1, hh1⟩ := HA.out.at_ k (by have := HLn.out; omega)
        have hvb : Value.slice a2 n c2 = .slice a2 b.length c2 := by rw [HLn.out.2]
        obtain ⟨b2, o2, r2, ha2, _, hcs2, hh2⟩ := HB.out.at_ k (by have := HLn.out; omega)
        obtain ⟨x, hx⟩ : ∃ x, x = a[k]'(by have := HLn.out; omega) := ⟨_, rfl⟩
        obtain ⟨y, hy⟩ : ∃ y, y = b[k]'(by have := HLn.out; omega) := ⟨_, rfl⟩
        rw [← hx] at hcs1 hh1
        rw [← hy] at hcs2 hh2
        have HXY := Lib.hid (show ∀ (h1 : k < a.length) (h2 : k < b.length), a[k] = x ∧ b[k] = y from fun _ _ => ⟨hx.symm, hy.symm⟩)
        subst ha1 ha2
        dsimp only [repoK] at hcs1 hcs2 hh1 hh2 r1 r2
        obtain ⟨xa, xc, rfl⟩ := hh1.2.form
        obtain ⟨ya, yc, rfl⟩ := hh2.2.form
        have HFr := Lib.hid HQ.out.2
        have HLt := Lib.hid hlt
        have hd1 := hcs1.below HFr.out
        have hd2 := hcs2.below HFr.out
        obtain ⟨w2, hw2⟩ : ∃ w2, w2 = (wr.alloc (.cells #[.int .i64 x.prio, .slice xa x.pkgs.length xc] 38)).alloc (.cells #[.int .i64 y.prio, .slice ya y.pkgs.length yc] 38) := ⟨_, rfl⟩
        have hbn : Below wr.heap.size wr w2 := by rw [hw2]; exact below_t' (new_b _ _) (new_b _ _)
        have HB3 := Lib.hid (below_t' HFr.out hbn)
        obtain ⟨bb, hbb⟩ : ∃ bb, bb = sameO x y := ⟨_, rfl⟩
        have HM := Lib.hid (show Calls Tryz.prog 53 #[.agg #[.int .i64 x.prio, .slice xa x.pkgs.length xc], .agg #[.int .i64 y.prio, .slice ya y.pkgs.length yc]] w2 fun e w'' => e = .returned (.bool bb) ∧ Below w2.heap.size w2 w'' from by
          rw [hbb]
          exact cSame1_any x y _ _ w2 (hh1.2.below (below_t' HFr.out hbn) fun _ _ _ => trivial) (hh2.2.below (below_t' HFr.out hbn) fun _ _ _ => trivial))
        rw [hw2] at HM HB3
        have HBb := Lib.hid hbb
        have x0 : wr.cell? ⟨b1, o1 + k * 2, none⟩ = some (.int .i64 x.prio) := hd1.2 0 (show 0 < 2 by omega)
        have y0 : wr.cell? ⟨b2, o2 + k * 2, none⟩ = some (.int .i64 y.prio) := hd2.2 0 (show 0 < 2 by omega)
        have x1 : wr.cell? ⟨b1, o1 + k * 2 + 1, none⟩ = some (.slice xa x.pkgs.length xc) := hd1.2 1 (show 1 < 2 by omega)
        have y1 : wr.cell? ⟨b2, o2 + k * 2 + 1, none⟩ = some (.slice ya y.pkgs.length yc) := hd2.2 1 (show 1 < 2 by omega)
        have p1 := hd1.1
        have p2 := hd2.1
        clear hcs1 hcs2 hh1 hh2 hd1 hd2 hx hy hvb hw2 hbn hbb
        cases bb with
        | true =>
          go_wp2_with (first
            | (go_at_call 53; (with_reducible refine (HM.out).mono ?_); rintro e w1 ⟨rfl, HBc⟩; have HB1 := Lib.hid (below_t' HB3.out HBc); clear HBc)
            | fail)
          go_roundw
          case rel => exact ⟨k + 1, by have := HLt.out; omega, by go_num, ⟨fun j h1 h2 h3 => by
            by_cases hj : j < k
            · exact HQ.out.1 j h1 h2 hj
            · obtain rfl : j = k := by omega
              obtain ⟨e1, e2⟩ := HXY.out h1 h2
              rw [e1, e2]
              exact HBb.out.symm, HB1.out⟩⟩
          case measure => simp [intOf]; omega
        | false =>
          have HT2 := Lib.hid (show T = false by
            rw [HT.out]
            have h1 : k < a.length := by have := HLn.out; have := HLt.out; omega
            have h2 : k < b.length := by have := HLn.out; have := HLt.out; omega
            obtain ⟨e1, e2⟩ := HXY.out h1 h2
            exact eqL_no h1 h2 (by rw [e1, e2]; exact HBb.out.symm))
          go_wp2_with (first
            | (go_at_call 53; (with_reducible refine (HM.out).mono ?_); rintro e w1 ⟨rfl, HBc⟩; have HB1 := Lib.hid (below_t' HB3.out HBc); clear HBc)
            | fail)
          go_ret
          exact ⟨ret_bool HT2.out.symm, HB1.out⟩
      · obtain rfl : k = n := by omega
        have HT2 := Lib.hid (show T = true by rw [HT.out]; exact (eqL_iff _ _ _).2 ⟨HNN.out, fun j h1 h2 => HQ.out.1 j h1 h2 (by have := HLn.out; omega)⟩)
        go_wp2_with fail
        go_ret
        exact ⟨ret_bool HT2.out.symm, HQ.out.2⟩
  · have h1 : ¬ (a.length : Int) = (b.length : Int) := by omega
    have HT2 := Lib.hid (show T = false by rw [HT.out]; exact eqL_len hnn)
    clear hnn
    go_enter Tryz.func52, Tryz.ntmps52
    go_wp2_with fail
    go_ret
    exact ⟨ret_bool HT2.out.symm, Below.refl _ _⟩
set_option maxHeartbeats 8000000 in
theorem cSame_any (a b : DataD) (vr vi ur ui : Value) (w : World) (ha : DataIn anyB w a vr vi) (hb : DataIn anyB w b ur ui) :
    Calls Tryz.prog 23 #[.agg #[vr, vi], .agg #[ur, ui]] w fun e w' => e = .returned (.bool (sameA a b)) ∧ Below w.heap.size w w' := by
  obtain ⟨ar, cr, rfl⟩ := ha.repos.form
  obtain ⟨ai, ci, rfl⟩ := ha.inst.form
  obtain ⟨br, dr, rfl⟩ := hb.repos.form
  obtain ⟨bi, di, rfl⟩ := hb.inst.form
  obtain ⟨g, hg⟩ : ∃ g, g = w.heap.size := ⟨_, rfl⟩
  obtain ⟨W, hW⟩ : ∃ W, W = (w.alloc (.cells #[.slice ar a.repos.length cr, .slice ai a.inst.length ci] 41)).alloc (.cells #[.slice br b.repos.length dr, .slice bi b.inst.length di] 41) := ⟨_, rfl⟩
  have HX := Lib.hid (show Blk W g 41 #[.slice ar a.repos.length cr, .slice ai a.inst.length ci] ∧ Blk W (g + 1) 41 #[.slice br b.repos.length dr, .slice bi b.inst.length di] ∧ Below w.heap.size w W from by
    have hb1 := new_b w (.cells #[.slice ar a.repos.length cr, .slice ai a.inst.length ci] 41)
    have hb2 := new_b (w.alloc (.cells #[.slice ar a.repos.length cr, .slice ai a.inst.length ci] 41)) (.cells #[.slice br b.repos.length dr, .slice bi b.inst.length di] 41)
    have hx1 := Blk.new w 41 #[.slice ar a.repos.length cr, .slice ai a.inst.length ci]
    have hx2 := Blk.new (w.alloc (.cells #[.slice ar a.repos.length cr, .slice ai a.inst.length ci] 41)) 41 #[.slice br b.repos.length dr, .slice bi b.inst.length di]
    rw [World.size_alloc] at hx2
    rw [hW, hg]
    exact ⟨hx1.below hb2 hx1.lt, hx2, below_t' hb1 hb2⟩)
  have d0 : W.cell? ⟨g, 0, none⟩ = some (.slice ar a.repos.length cr) := HX.out.1.cell 0
  have d1 : W.cell? ⟨g, 1, none⟩ = some (.slice ai a.inst.length ci) := HX.out.1.cell 1
  have d2 : W.cell? ⟨g + 1, 0, none⟩ = some (.slice br b.repos.length dr) := HX.out.2.1.cell 0
  have d3 : W.cell? ⟨g + 1, 1, none⟩ = some (.slice bi b.inst.length di) := HX.out.2.1.cell 1
  have dl : g < W.heap.size := HX.out.1.lt
  have dl' : g + 1 < W.heap.size := HX.out.2.1.lt
  obtain ⟨t, ht⟩ : ∃ t, t = eqL samePk a.inst b.inst := ⟨_, rfl⟩
  have HC := Lib.hid (show Calls Tryz.prog 50 #[.slice ai a.inst.length ci, .slice bi b.inst.length di, .func (.func 51) #[] #[]] W fun e w' => e = .returned (.bool t) ∧ Below W.heap.size W w' from by
    rw [ht]
    exact eqfP_any a.inst b.inst _ _ W (ha.bl HX.out.2.2).inst (hb.bl HX.out.2.2).inst)
  have HR := Lib.hid (show ∀ w', Below W.heap.size W w' → Calls Tryz.prog 52 #[.slice ar a.repos.length cr, .slice br b.repos.length dr, .func (.func 53) #[] #[]] w' (fun e w'' => e = .returned (.bool (eqL sameO a.repos b.repos)) ∧ Below w'.heap.size w' w'') from fun w' h => eqfO_any a.repos b.repos _ _ w' ((ha.bl HX.out.2.2).bl h).repos ((hb.bl HX.out.2.2).bl h).repos)
  have HT := Lib.hid (show sameA a b = (t && eqL sameO a.repos b.repos) from by rw [ht]; rfl)
  clear ha hb ht
  go_enter Tryz.func23, Tryz.ntmps23
  go_upto_region 1 with fail
  rw [← hg, ← hW]
  have HG := Lib.hid hg
  clear hW hg
  go_wp2_with (first
    | (go_at_call 50; (with_reducible refine HC.out.mono ?_); rintro e w1 ⟨rfl, hb1⟩; have HB1 := Lib.hid hb1; have z1 : w1.cell? ⟨g, 0, none⟩ = some (.slice ar a.repos.length cr) := (HX.out.1.below hb1 HX.out.1.lt).cell 0; have z2 : w1.cell? ⟨g + 1, 0, none⟩ = some (.slice br b.repos.length dr) := (HX.out.2.1.below hb1 HX.out.2.1.lt).cell 0; have z3 := (HX.out.1.below hb1 HX.out.1.lt).lt; have z4 := (HX.out.2.1.below hb1 HX.out.2.1.lt).lt; have HBz := Lib.hid (below_t' HX.out.2.2 hb1); clear hb1; cases t)
    | (go_at_call 52; (with_reducible refine (HR.out _ HB1.out).mono ?_); rintro e w2 ⟨rfl, hb2⟩; have HBz := Lib.hid (below_t' HBz.out hb2); clear hb2)
    | fail)
  all_goals go_ret
  all_goals exact ⟨ret_bool (by rw [HT.out]; simp), HBz.out⟩
end Go.Proofs.YtdpjjnbelgaagaaGreatDoor

namespace Go.Proofs.YtdpjjnbelgaagaaGreatDoor
open Go.ChangeShapes Go.WideShapes Go.ChangeAt Go.RowKit Go.Deep
set_option maxRecDepth 100000

section
variable {o : Oper} {a : Act} {w : World} {K : Act → World → Prop} {Q : Exit → Act → World → Prop}
theorem doH_stD (t u g k : Nat) (old : Value) (aa : Option Addr) (n c : Nat) (ho : o.op = .store 25 (.tmp t) (.tmp u)) (hx : a.eval (.tmp t) = .pointer (some ⟨g, k, none⟩)) (hv : a.eval (.tmp u) = .slice aa n c) (hc : w.cell? ⟨g, k, none⟩ = some old) (hf : w.frozen? ⟨g, k, none⟩ = false) (hlt : g < w.heap.size)
    (h : K (a.put o.dst undef) (w.setCell ⟨g, k, none⟩ (.slice aa n c))) : o.wp Tryz.prog a w K Q := by
  unfold Oper.wp execOp
  simp only [ho, hx, hv]
  go_simp
  exact h
theorem doH_stS (t u g k : Nat) (old : Value) (aa : Option Addr) (n c : Nat) (ho : o.op = .store 27 (.tmp t) (.tmp u)) (hx : a.eval (.tmp t) = .pointer (some ⟨g, k, none⟩)) (hv : a.eval (.tmp u) = .slice aa n c) (hc : w.cell? ⟨g, k, none⟩ = some old) (hf : w.frozen? ⟨g, k, none⟩ = false) (hlt : g < w.heap.size)
    (h : K (a.put o.dst undef) (w.setCell ⟨g, k, none⟩ (.slice aa n c))) : o.wp Tryz.prog a w K Q := by
  unfold Oper.wp execOp
  simp only [ho, hx, hv]
  go_simp
  exact h
theorem doH_ClD (t : Nat) (v : Value) (ho : o.op = .call { callee := .value (.func 149), args := #[.tmp t], argTypes := #[25] }) (hx : a.eval (.tmp t) = v) (hc : Calls Tryz.prog 149 #[v] w fun e w' => ∃ u, e = .returned u ∧ K (a.put o.dst u) w') : o.wp Tryz.prog a w K Q := by
  unfold Oper.wp execOp
  simp only [ho, resolve, Sem.run_bind, List.map_toArray, List.map_cons, List.map_nil, hx]
  go_simp
  refine hc.mono ?_
  rintro e w' ⟨u, rfl, hk⟩
  exact hk
theorem doH_ClS (t : Nat) (v : Value) (ho : o.op = .call { callee := .value (.func 150), args := #[.tmp t], argTypes := #[27] }) (hx : a.eval (.tmp t) = v) (hc : Calls Tryz.prog 150 #[v] w fun e w' => ∃ u, e = .returned u ∧ K (a.put o.dst u) w') : o.wp Tryz.prog a w K Q := by
  unfold Oper.wp execOp
  simp only [ho, resolve, Sem.run_bind, List.map_toArray, List.map_cons, List.map_nil, hx]
  go_simp
  refine hc.mono ?_
  rintro e w' ⟨u, rfl, hk⟩
  exact hk
theorem doH_hCopy (t : Nat) (v : Value) (ho : o.op = .call { callee := .value (.func 152), args := #[.tmp t], argTypes := #[34] }) (hx : a.eval (.tmp t) = v) (hc : Calls Tryz.prog 152 #[v] w fun e w' => ∃ u, e = .returned u ∧ K (a.put o.dst u) w') : o.wp Tryz.prog a w K Q := by
  unfold Oper.wp execOp
  simp only [ho, resolve, Sem.run_bind, List.map_toArray, List.map_cons, List.map_nil, hx]
  go_simp
  refine hc.mono ?_
  rintro e w' ⟨u, rfl, hk⟩
  exact hk
theorem doH_nil (t g k : Nat) (ho : o.op = .nilCheck (.tmp t)) (hx : a.eval (.tmp t) = .pointer (some ⟨g, k, none⟩)) (h : K (a.put o.dst (.pointer (some ⟨g, k, none⟩))) w) : o.wp Tryz.prog a w K Q := by
  unfold Oper.wp execOp
  simp only [ho, hx]
  go_simp
  exact h
theorem doH_ixR (t u b q n c i : Nat) (ho : o.op = .indexAddr 26 (.tmp t) (.tmp u)) (hx : a.eval (.tmp t) = .slice (some ⟨b, q, none⟩) n c) (hu : a.eval (.tmp u) = .int .i64 i) (hi : i < n) (h : K (a.put o.dst (.pointer (some ⟨b, q + i * 7, none⟩))) w) : o.wp Tryz.prog a w K Q := by
  have hki : (i : Int) < (n : Int) := by omega
  unfold Oper.wp execOp
  simp only [ho, hx, hu]
  go_simp
  exact h
theorem doH_rich (t g : Nat) (x : RichD) (s : Value) (hs : ∃ aa cc, s = .slice aa x.n cc) (ho : o.op = .load 34 (.tmp t)) (hx : a.eval (.tmp t) = .pointer (some ⟨g, 0, none⟩)) (hc : CellsAt w g 0 (richCs x s)) (h : K (a.put o.dst (x.val s)) w) : o.wp Tryz.prog a w K Q := by
  obtain ⟨aa, cc, rfl⟩ := hs
  have x0 := hc.2 0 (show 0 < 7 by omega)
  have x1 := hc.2 1 (show 1 < 7 by omega)
  have x2 := hc.2 2 (show 2 < 7 by omega)
  have x3 := hc.2 3 (show 3 < 7 by omega)
  have x4 := hc.2 4 (show 4 < 7 by omega)
  have x5 := hc.2 5 (show 5 < 7 by omega)
  have x6 := hc.2 6 (show 6 < 7 by omega)
  dsimp only [richCs] at x0 x1 x2 x3 x4 x5 x6
  simp only [Nat.zero_add, List.getElem?_cons_zero, List.getElem?_cons_succ] at x0 x1 x2 x3 x4 x5 x6
  have hlt := hc.1
  unfold Oper.wp execOp
  simp only [ho, hx]
  go_simp
  exact h
theorem doH_stR (t u b q : Nat) (x : RichD) (s : Value) (hs : s.oneCell' = true) (ho : o.op = .store 34 (.tmp t) (.tmp u)) (hx : a.eval (.tmp t) = .pointer (some ⟨b, q, none⟩)) (hv : a.eval (.tmp u) = x.val s) (ht : w.there b q 7) (h : K (a.put o.dst undef) (w.setCells b q (richCs x s))) : o.wp Tryz.prog a w K Q :=
  wp_store_mid 34 (.tmp t) (.tmp u) ho b q (richCs x s).toArray hx hv (by simpa [richCs] using ht) (by kernel_rfl) (all_oneCell_toArray fun v hv => by
    simp only [richCs, List.mem_cons, List.not_mem_nil, or_false] at hv
    rcases hv with rfl | rfl | rfl | rfl | rfl | rfl | rfl
    · rfl
    · rfl
    · rfl
    · rfl
    · rfl
    · rfl
    · exact hs) h
end
theorem put_none (a : Act) (v : Value) : a.put none v = a := rfl
theorem LIn.far {α : Type} {K : Kd α} {N g k : Nat} {u : Value} {w : World} {l : List α} {v : Value} (h : LIn K (free N) w l v) (hg : g < N) : LIn K (free N) (w.setCell ⟨g, k, none⟩ u) l v :=
  h.keep (by simp) fun b ⟨k1, k2⟩ _ => ⟨Below.heap_setCell w ⟨g, k, none⟩ u b (by show b ≠ g; omega), k1, fun i => (World.frozen?_of_block (w := w) (Below.heap_setCell w ⟨g, k, none⟩ u b (by show b ≠ g; omega))).trans (k2 i)⟩
def okK1 (g : Nat) (p : PkgD) (r : PkgR) (N : Nat) (w : World) : Nat → Value → Prop
  | 0, v => v = .pointer (some ⟨g, 6, none⟩)
  | 1, v => v = r.prov
  | 2, v => LIn depK (free N) w p.prov v
  | 3, v => v = .pointer (some ⟨g, 9, none⟩)
  | 4, v => v = r.obs
  | 5, v => LIn depK (free N) w p.obs v
  | 6, v => v = .pointer (some ⟨g, 14, none⟩)
  | 7, v => v = r.files
  | 8, v => LIn strK (free N) w p.files v
  | _, _ => True
theorem okK1_mono {g : Nat} {p : PkgD} {r : PkgR} {N : Nat} {w w' : World} (hb : Below w.heap.size w w') : ∀ {i : Nat} {v : Value}, okK1 g p r N w i v → okK1 g p r N w' i v
  | 0, _, h => h
  | 1, _, h => h
  | 2, _, h => LIn.bel h hb
  | 3, _, h => h
  | 4, _, h => h
  | 5, _, h => LIn.bel h hb
  | 6, _, h => h
  | 7, _, h => h
  | 8, _, h => LIn.bel h hb
  | _ + 9, _, _ => trivial
abbrev opsK1 : List Op := [.fieldAddr 29 (.tmp 1) 4, .load 25 (.tmp 7), .call { callee := .value (.func 149), args := #[.tmp 8], argTypes := #[25] }, .fieldAddr 29 (.tmp 1) 7, .load 25 (.tmp 10), .call { callee := .value (.func 149), args := #[.tmp 11], argTypes := #[25] }, .fieldAddr 29 (.tmp 1) 12, .load 27 (.tmp 13), .call { callee := .value (.func 150), args := #[.tmp 14], argTypes := #[27] }, .fieldAddr 29 (.tmp 1) 4, .store 25 (.tmp 16) (.tmp 9), .fieldAddr 29 (.tmp 1) 7, .store 25 (.tmp 17) (.tmp 12), .fieldAddr 29 (.tmp 1) 12, .store 27 (.tmp 18) (.tmp 15)]
abbrev depsK1 : List (List Nat) := [[], [0], [1], [], [3], [4, 2], [], [6], [7, 5], [8, 4, 7], [9, 2, 8], [10, 5], [11, 5], [12, 8], [13, 8]]
set_option maxHeartbeats 16000000 in
theorem regK1 {L : List Value} {n0 w0 : World} {g : Nat} {p : PkgD} {r : PkgR} {ops : Array Oper} {Q : Exit → Act → World → Prop} {id : Nat} (hL : L.length = 56) (hsz : ops.size = 15)
    (hL1 : (L[1]?).getD undef = .pointer (some ⟨g, 0, none⟩)) (hbd : Blk n0 g 29 (pC p r)) (hfm : r.forms) (hin : PkgIn anyB w0 p r) (hw0 : Below w0.heap.size w0 n0) (hsm : p.small)
    (hops : (ops.toList.map fun o => (o.op, o.guard)) = opsK1.map fun x => (x, none)) (hdst : (ops.toList.map (·.dst)) = [some 7, some 8, some 9, some 10, some 11, some 12, some 13, some 14, some 15, some 16, none, some 17, none, some 18, none])
    (hdeps : ((ops.toList.zip depsK1).all fun x => x.2.all fun d => x.1.after.any fun e => e.on == d && Region.binds .any e) = true)
    (hlow : (ops.toList.zipIdx.all fun x => x.1.after.all fun e => decide (e.on < x.2)) = true)
    (hK : ∀ mid v1 v2 v3 W, mid.length = 12 → LIn depK (free n0.heap.size) W p.prov v1 → LIn depK (free n0.heap.size) W p.obs v2 → LIn strK (free n0.heap.size) W p.files v3 → Blk W g 29 (pC p { r with prov := v1, obs := v2, files := v3 }) → Touch (fun b => b = g) n0 W → Q .normal (frm (L.take 7) mid (L.drop 19)) W) :
    (Code.region id ops true).wp Tryz.prog Q { tmps := L.toArray, defers := [] } n0 := by
  obtain ⟨N, hN⟩ : ∃ N, N = n0.heap.size := ⟨_, rfl⟩
  have hF1 : ∀ mid, (frm (L.take 7) mid (L.drop 19)).eval (.tmp 1) = .pointer (some ⟨g, 0, none⟩) := fun mid => (frm_front (by rw [List.length_take]; omega)).trans (by rw [List.getElem?_take_of_lt (by omega)]; exact hL1)
  have hop_at : ∀ (i : Nat) (o : Oper) (x : Op), ops[i]? = some o → opsK1[i]? = some x → o.op = x ∧ o.guard = none := fun i o x ho hx => by
    have h4 := congrArg (fun l => l[i]?) hops
    rw [List.getElem?_map, List.getElem?_map, Array.getElem?_toList, ho, hx] at h4
    exact Prod.mk.inj (Option.some.inj h4)
  have hds_at : ∀ (i : Nat) (o : Oper) (x : Option Tmp), ops[i]? = some o → ([some 7, some 8, some 9, some 10, some 11, some 12, some 13, some 14, some 15, some 16, none, some 17, none, some 18, none] : List (Option Tmp))[i]? = some x → o.dst = x := fun i o x ho hx => by
    have h4 := congrArg (fun l => l[i]?) hdst
    rw [List.getElem?_map, Array.getElem?_toList, ho, hx] at h4
    exact Option.some.inj h4
  refine spec_tail (ok := okK1 g p r N) (fun hb h => okK1_mono hb h) (n := 7) (K := 9) (M := 12) (N := 15) (by omega) (by omega) hsz (by omega) depsK1 (by rw [List.map_take, hdst]; rfl) hdeps rfl (by kernel_rfl) hlow (fun i o mid w hi ho hm hb hdp => ?_) (fun mid w hm hb hall => ?_)
  · have hbN : N ≤ w.heap.size := hN ▸ hb.size
    have hcases : i = 0 ∨ i = 1 ∨ i = 2 ∨ i = 3 ∨ i = 4 ∨ i = 5 ∨ i = 6 ∨ i = 7 ∨ i = 8 := by omega
    rcases hcases with rfl | rfl | rfl | rfl | rfl | rfl | rfl | rfl | rfl
    all_goals
      obtain ⟨hop, hgd'⟩ := hop_at _ _ _ ho rfl
      have hd := hdp _ rfl
      clear hdp hop_at hds_at ho
    · exact ⟨guard_no hgd', fun Kc hKc => doF_f4 1 g hop (hF1 mid) (hKc _ _ rfl (Below.refl _ _))⟩
    · obtain ⟨aa, nn, cc, hv⟩ := hfm.prov
      exact ⟨guard_no hgd', fun Kc hKc => doF_slD 7 g 6 _ aa nn cc hv hop (hd 0 (by simp)) ((hbd.bel' hb).cell 6) (hKc _ _ rfl (Below.refl _ _))⟩
    · have e1 := hd 1 (by simp)
      refine ⟨guard_no hgd', fun Kc hKc => doH_ClD 8 _ hop e1 ((cloneD_any p.prov r.prov w (hin.prov.below (below_t' hw0 hb) fun _ _ _ => trivial) hsm.prov).mono ?_)⟩
      rintro e w' ⟨v', ps, rfl, k1, k2, k3, k4, k5⟩
      exact ⟨v', rfl, hKc v' w' (own_linD (N := N) k1 k2 k3 (fun b h => Nat.le_trans hbN (k4 b h)) (by have := hsm.prov; omega)) k5⟩
    · exact ⟨guard_no hgd', fun Kc hKc => doF_f7 1 g hop (hF1 mid) (hKc _ _ rfl (Below.refl _ _))⟩
    · obtain ⟨aa, nn, cc, hv⟩ := hfm.obs
      exact ⟨guard_no hgd', fun Kc hKc => doF_slD 10 g 9 _ aa nn cc hv hop (hd 3 (by simp)) ((hbd.bel' hb).cell 9) (hKc _ _ rfl (Below.refl _ _))⟩
    · have e1 := hd 4 (by simp)
      refine ⟨guard_no hgd', fun Kc hKc => doH_ClD 11 _ hop e1 ((cloneD_any p.obs r.obs w (hin.obs.below (below_t' hw0 hb) fun _ _ _ => trivial) hsm.obs).mono ?_)⟩
      rintro e w' ⟨v', ps, rfl, k1, k2, k3, k4, k5⟩
      exact ⟨v', rfl, hKc v' w' (own_linD (N := N) k1 k2 k3 (fun b h => Nat.le_trans hbN (k4 b h)) (by have := hsm.obs; omega)) k5⟩
    · exact ⟨guard_no hgd', fun Kc hKc => doF_f12 1 g hop (hF1 mid) (hKc _ _ rfl (Below.refl _ _))⟩
    · obtain ⟨aa, nn, cc, hv⟩ := hfm.files
      exact ⟨guard_no hgd', fun Kc hKc => doF_slS 13 g 14 _ aa nn cc hv hop (hd 6 (by simp)) ((hbd.bel' hb).cell 14) (hKc _ _ rfl (Below.refl _ _))⟩
    · have e1 := hd 7 (by simp)
      refine ⟨guard_no hgd', fun Kc hKc => doH_ClS 14 _ hop e1 ((cloneS_any p.files r.files w (hin.files.below (below_t' hw0 hb) fun _ _ _ => trivial) hsm.files).mono ?_)⟩
      rintro e w' ⟨v', ps, rfl, k1, k2, k3, k4, k5⟩
      exact ⟨v', rfl, hKc v' w' (own_linS (N := N) k1 k2 k3 (fun b h => Nat.le_trans hbN (k4 b h)) (by have := hsm.files; omega)) k5⟩
  · have e0 : ops.toList.drop 9 = [ops[9]'(by omega), ops[10]'(by omega), ops[11]'(by omega), ops[12]'(by omega), ops[13]'(by omega), ops[14]'(by omega)] := by
      rw [List.drop_eq_getElem_cons (by rw [Array.length_toList]; omega), List.drop_eq_getElem_cons (by rw [Array.length_toList]; omega), List.drop_eq_getElem_cons (by rw [Array.length_toList]; omega), List.drop_eq_getElem_cons (by rw [Array.length_toList]; omega), List.drop_eq_getElem_cons (by rw [Array.length_toList]; omega), List.drop_eq_getElem_cons (by rw [Array.length_toList]; omega), List.drop_eq_nil_of_le (by rw [Array.length_toList]; omega)]
      simp only [Array.getElem_toList]
    rw [e0]
    obtain ⟨hp0, hg0⟩ := hop_at 9 _ _ (Array.getElem?_eq_getElem (by omega)) rfl
    have hd0 := hds_at 9 _ _ (Array.getElem?_eq_getElem (by omega)) rfl
    obtain ⟨hp1, hg1⟩ := hop_at 10 _ _ (Array.getElem?_eq_getElem (by omega)) rfl
    have hd1 := hds_at 10 _ _ (Array.getElem?_eq_getElem (by omega)) rfl
    obtain ⟨hp2, hg2⟩ := hop_at 11 _ _ (Array.getElem?_eq_getElem (by omega)) rfl
    have hd2 := hds_at 11 _ _ (Array.getElem?_eq_getElem (by omega)) rfl
    obtain ⟨hp3, hg3⟩ := hop_at 12 _ _ (Array.getElem?_eq_getElem (by omega)) rfl
    have hd3 := hds_at 12 _ _ (Array.getElem?_eq_getElem (by omega)) rfl
    obtain ⟨hp4, hg4⟩ := hop_at 13 _ _ (Array.getElem?_eq_getElem (by omega)) rfl
    have hd4 := hds_at 13 _ _ (Array.getElem?_eq_getElem (by omega)) rfl
    obtain ⟨hp5, hg5⟩ := hop_at 14 _ _ (Array.getElem?_eq_getElem (by omega)) rfl
    have hd5 := hds_at 14 _ _ (Array.getElem?_eq_getElem (by omega)) rfl
    have hts : (frm (L.take 7) mid (L.drop 19)).tmps.size = 56 := by
      show ((L.take 7) ++ mid ++ L.drop 19).toArray.size = 56
      simp [List.length_take, List.length_drop, hL, hm]
    have hF : (L.take 7).length = 7 := by rw [List.length_take]; omega
    have z2 := hall 2 (by omega)
    have z5 := hall 5 (by omega)
    have z8 := hall 8 (by omega)
    obtain ⟨v1, hv1⟩ : ∃ v1, v1 = (frm (L.take 7) mid (L.drop 19)).eval (.tmp (7 + 2)) := ⟨_, rfl⟩
    obtain ⟨v2, hv2⟩ : ∃ v1, v1 = (frm (L.take 7) mid (L.drop 19)).eval (.tmp (7 + 5)) := ⟨_, rfl⟩
    obtain ⟨v3, hv3⟩ : ∃ v1, v1 = (frm (L.take 7) mid (L.drop 19)).eval (.tmp (7 + 8)) := ⟨_, rfl⟩
    rw [← hv1] at z2
    rw [← hv2] at z5
    rw [← hv3] at z8
    dsimp only [okK1] at z2 z5 z8
    obtain ⟨a1, c1, rfl⟩ := z2.form
    obtain ⟨a2, c2, rfl⟩ := z5.form
    obtain ⟨a3, c3, rfl⟩ := z8.form
    have b1 := hbd.bel' hb
    have b2 := b1.set_ 6 (.slice a1 p.prov.length c1)
    have b3 := b2.set_ 9 (.slice a2 p.obs.length c2)
    have b4 := b3.set_ 14 (.slice a3 p.files.length c3)
    refine ⟨hg0, doF_f4 1 g hp0 (hF1 mid) ?_⟩
    rw [hd0]
    refine ⟨hg1, doH_stD 16 9 g 6 r.prov a1 _ c1 hp1 (evp_self _ _ (by rw [hts]; decide)) ((evp_ne _ _ (by decide)).trans hv1.symm) (b1.cell 6) (b1.frozen 6) b1.lt ?_⟩
    rw [hd1, put_none]
    refine ⟨hg2, doF_f7 1 g hp2 ((evp_ne _ _ (by decide)).trans (hF1 mid)) ?_⟩
    rw [hd2]
    refine ⟨hg3, doH_stD 17 12 g 9 r.obs a2 _ c2 hp3 (evp_self _ _ (by rw [put_size, hts]; decide)) ((evp_ne _ _ (by decide)).trans ((evp_ne _ _ (by decide)).trans hv2.symm)) (b2.cell 9) (b2.frozen 9) b2.lt ?_⟩
    rw [hd3, put_none]
    refine ⟨hg4, doF_f12 1 g hp4 ((evp_ne _ _ (by decide)).trans ((evp_ne _ _ (by decide)).trans (hF1 mid))) ?_⟩
    rw [hd4]
    refine ⟨hg5, doH_stS 18 15 g 14 r.files a3 _ c3 hp5 (evp_self _ _ (by rw [put_size, put_size, hts]; decide)) ((evp_ne _ _ (by decide)).trans ((evp_ne _ _ (by decide)).trans ((evp_ne _ _ (by decide)).trans hv3.symm))) (b3.cell 14) (b3.frozen 14) b3.lt ?_⟩
    rw [hd5, put_none]
    show Q .normal _ _
    rw [frm_put (n := 7) (d := 9) hF (by rw [hm]; decide), frm_put (n := 7) (d := 10) hF (by rw [List.length_set, hm]; decide), frm_put (n := 7) (d := 11) hF (by rw [List.length_set, List.length_set, hm]; decide)]
    have hgN : g < N := hN ▸ hbd.lt
    exact hK _ _ _ _ _ (by rw [List.length_set, List.length_set, List.length_set]; exact hm) (hN ▸ ((z2.far hgN).far hgN).far hgN) (hN ▸ ((z5.far hgN).far hgN).far hgN) (hN ▸ ((z8.far hgN).far hgN).far hgN) b4 ((((Touch.of_below hb (fun b => b = g)).setCell (fun _ => rfl) _).setCell (fun _ => rfl) _).setCell (fun _ => rfl) _)
def okK9 (g f b q n c j : Nat) (x : RichD) (s : Value) (N : Nat) (w : World) : Nat → Value → Prop
  | 0, v => v = .pointer (some ⟨g, f, none⟩)
  | 1, v => v = .pointer (some ⟨g, f, none⟩)
  | 2, v => v = .slice (some ⟨b, q, none⟩) n c
  | 3, v => v = .int .i64 j
  | 4, v => v = x.val s
  | 5, v => ∃ s', v = x.val s' ∧ richK.holds (free N) w x s'
  | _, _ => True
theorem okK9_mono {g f b q n c j : Nat} {x : RichD} {s : Value} {N : Nat} {w w' : World} (hb : Below w.heap.size w w') : ∀ {i : Nat} {v : Value}, okK9 g f b q n c j x s N w i v → okK9 g f b q n c j x s N w' i v
  | 0, _, h => h
  | 1, _, h => h
  | 2, _, h => h
  | 3, _, h => h
  | 4, _, h => h
  | 5, _, ⟨s', e, h⟩ => ⟨s', e, richK.keep h hb.size fun b ⟨k1, k2⟩ hlt => ⟨hb.block b hlt, k1, fun i => (World.frozen?_of_block (w := w) (hb.block b hlt)).trans (k2 i)⟩⟩
  | _ + 6, _, _ => trivial
abbrev opsK9 : List Op := [.move (.tmp 4), .nilCheck (.tmp 46), .load 26 (.tmp 47), .move (.tmp 5), .load 34 (.tmp 6), .call { callee := .value (.func 152), args := #[.tmp 50], argTypes := #[34] }, .indexAddr 26 (.tmp 48) (.tmp 49), .store 34 (.tmp 52) (.tmp 51)]
abbrev depsK9 : List (List Nat) := [[], [0], [1], [], [], [4], [2, 3, 0, 1, 4, 5], [6, 5]]
set_option maxHeartbeats 16000000 in
theorem regK9 {L : List Value} {n0 w0 : World} {g f b q q' n c j gx : Nat} {x : RichD} {s : Value} {cs : Array Value} {ops : Array Oper} {Q : Exit → Act → World → Prop} {id : Nat} (hL : L.length = 56) (hsz : ops.size = 8)
    (hL4 : (L[4]?).getD undef = .pointer (some ⟨g, f, none⟩)) (hL5 : (L[5]?).getD undef = .int .i64 j) (hL6 : (L[6]?).getD undef = .pointer (some ⟨gx, 0, none⟩)) (hbd : Blk n0 g 29 cs) (hof : cs[f]? = some (.slice (some ⟨b, q, none⟩) n c)) (hj : j < n) (hcx : CellsAt n0 gx 0 (richCs x s)) (hIA : IsArgs w0 x s) (hw0 : Below w0.heap.size w0 n0) (hcn : x.count ≤ 1048576) (hq' : q' = q + j * 7) (hbl : b < n0.heap.size) (hthere : n0.there b q' 7)
    (hops : (ops.toList.map fun o => (o.op, o.guard)) = opsK9.map fun x => (x, none)) (hdst : (ops.toList.map (·.dst)) = [some 46, some 47, some 48, some 49, some 50, some 51, some 52, none])
    (hdeps : ((ops.toList.zip depsK9).all fun x => x.2.all fun d => x.1.after.any fun e => e.on == d && Region.binds .any e) = true)
    (hlow : (ops.toList.zipIdx.all fun x => x.1.after.all fun e => decide (e.on < x.2)) = true)
    (hK : ∀ mid s' w1, mid.length = 7 → richK.holds (free n0.heap.size) w1 x s' → Below n0.heap.size n0 w1 → Q .normal (frm (L.take 46) mid (L.drop 53)) (w1.setCells b (q + j * 7) (richCs x s'))) :
    (Code.region id ops true).wp Tryz.prog Q { tmps := L.toArray, defers := [] } n0 := by
  obtain ⟨N, hN⟩ : ∃ N, N = n0.heap.size := ⟨_, rfl⟩
  have hF4 : ∀ mid, (frm (L.take 46) mid (L.drop 53)).eval (.tmp 4) = .pointer (some ⟨g, f, none⟩) := fun mid => (frm_front (by rw [List.length_take]; omega)).trans (by rw [List.getElem?_take_of_lt (by omega)]; exact hL4)
  have hF5 : ∀ mid, (frm (L.take 46) mid (L.drop 53)).eval (.tmp 5) = .int .i64 j := fun mid => (frm_front (by rw [List.length_take]; omega)).trans (by rw [List.getElem?_take_of_lt (by omega)]; exact hL5)
  have hF6 : ∀ mid, (frm (L.take 46) mid (L.drop 53)).eval (.tmp 6) = .pointer (some ⟨gx, 0, none⟩) := fun mid => (frm_front (by rw [List.length_take]; omega)).trans (by rw [List.getElem?_take_of_lt (by omega)]; exact hL6)
  have hop_at : ∀ (i : Nat) (o : Oper) (x : Op), ops[i]? = some o → opsK9[i]? = some x → o.op = x ∧ o.guard = none := fun i o x ho hx => by
    have h4 := congrArg (fun l => l[i]?) hops
    rw [List.getElem?_map, List.getElem?_map, Array.getElem?_toList, ho, hx] at h4
    exact Prod.mk.inj (Option.some.inj h4)
  have hds_at : ∀ (i : Nat) (o : Oper) (x : Option Tmp), ops[i]? = some o → ([some 46, some 47, some 48, some 49, some 50, some 51, some 52, none] : List (Option Tmp))[i]? = some x → o.dst = x := fun i o x ho hx => by
    have h4 := congrArg (fun l => l[i]?) hdst
    rw [List.getElem?_map, Array.getElem?_toList, ho, hx] at h4
    exact Option.some.inj h4
  refine spec_tail (ok := okK9 g f b q n c j x s N) (fun hb h => okK9_mono hb h) (n := 46) (K := 6) (M := 7) (N := 8) (by omega) (by omega) hsz (by omega) depsK9 (by rw [List.map_take, hdst]; rfl) hdeps rfl (by kernel_rfl) hlow (fun i o mid w hi ho hm hb hdp => ?_) (fun mid w hm hb hall => ?_)
  · have hbN : N ≤ w.heap.size := hN ▸ hb.size
    have hcases : i = 0 ∨ i = 1 ∨ i = 2 ∨ i = 3 ∨ i = 4 ∨ i = 5 := by omega
    rcases hcases with rfl | rfl | rfl | rfl | rfl | rfl
    all_goals
      obtain ⟨hop, hgd'⟩ := hop_at _ _ _ ho rfl
      have hd := hdp _ rfl
      clear hdp hop_at hds_at ho
    · exact ⟨guard_no hgd', fun Kc hKc => doG_move 4 _ hop (hF4 mid) (hKc _ _ rfl (Below.refl _ _))⟩
    · exact ⟨guard_no hgd', fun Kc hKc => doH_nil 46 g f hop (hd 0 (by simp)) (hKc _ _ rfl (Below.refl _ _))⟩
    · exact ⟨guard_no hgd', fun Kc hKc => doF_slR 47 g f _ _ _ _ rfl hop (hd 1 (by simp)) (((hbd.bel' hb).cell f).trans hof) (hKc _ _ rfl (Below.refl _ _))⟩
    · exact ⟨guard_no hgd', fun Kc hKc => doG_move 5 _ hop (hF5 mid) (hKc _ _ rfl (Below.refl _ _))⟩
    · exact ⟨guard_no hgd', fun Kc hKc => doH_rich 6 gx x s hIA.form hop (hF6 mid) (hcx.below hb) (hKc _ _ rfl (Below.refl _ _))⟩
    · have e1 := hd 4 (by simp)
      refine ⟨guard_no hgd', fun Kc hKc => doH_hCopy 50 _ hop e1 ((copy_any w0 x s w hIA (below_t' hw0 hb) hcn).mono ?_)⟩
      rintro e w' ⟨s', rfl, k1, k2⟩
      exact ⟨_, rfl, hKc _ w' ⟨s', rfl, richK.keep (new_rich k1) (Nat.le_refl _) fun b ⟨j1, j2⟩ _ => ⟨rfl, Nat.le_trans hbN j1, j2⟩⟩ k2⟩
  · have e0 : ops.toList.drop 6 = [ops[6]'(by omega), ops[7]'(by omega)] := by
      rw [List.drop_eq_getElem_cons (by rw [Array.length_toList]; omega), List.drop_eq_getElem_cons (by rw [Array.length_toList]; omega), List.drop_eq_nil_of_le (by rw [Array.length_toList]; omega)]
      simp only [Array.getElem_toList]
    rw [e0]
    obtain ⟨hp0, hg0⟩ := hop_at 6 _ _ (Array.getElem?_eq_getElem (by omega)) rfl
    have hd0 := hds_at 6 _ _ (Array.getElem?_eq_getElem (by omega)) rfl
    obtain ⟨hp1, hg1⟩ := hop_at 7 _ _ (Array.getElem?_eq_getElem (by omega)) rfl
    have hd1 := hds_at 7 _ _ (Array.getElem?_eq_getElem (by omega)) rfl
    have hts : (frm (L.take 46) mid (L.drop 53)).tmps.size = 56 := by
      show ((L.take 46) ++ mid ++ L.drop 53).toArray.size = 56
      simp [List.length_take, List.length_drop, hL, hm]
    have hF : (L.take 46).length = 46 := by rw [List.length_take]; omega
    have z2 := hall 2 (by omega)
    have z3 := hall 3 (by omega)
    obtain ⟨s', z5, z6⟩ := hall 5 (by omega)
    dsimp only [okK9] at z2 z3
    refine ⟨hg0, doH_ixR 48 49 b q n c j hp0 z2 z3 hj ?_⟩
    rw [hd0]
    have hth : w.there b q' 7 := fun i hi => by
      obtain ⟨h1, h2⟩ := hthere i hi
      have h3 := hb.block b hbl
      exact ⟨by rw [World.cell?_of_block (w := n0) h3]; exact h1, by rw [World.frozen?_of_block (w := n0) h3]; exact h2⟩
    subst hq'
    refine ⟨hg1, doH_stR 52 51 b _ x s' (ArgsP.one z6) hp1 (evp_self _ _ (by rw [hts]; decide)) ((evp_ne _ _ (by decide)).trans z5) hth ?_⟩
    rw [hd1, put_none]
    show Q .normal _ _
    rw [frm_put (n := 46) (d := 6) hF (by rw [hm]; decide)]
    exact hK _ s' w (by rw [List.length_set]; exact hm) (hN ▸ z6) hb
end Go.Proofs.YtdpjjnbelgaagaaGreatDoor

namespace Go.Proofs.YtdpjjnbelgaagaaGreatDoor
open Go.ChangeShapes Go.WideShapes Go.ChangeAt Go.RowKit Go.Deep
set_option maxRecDepth 100000

def six (p : PkgD) : Nat → RichD
  | 0 => p.req
  | 1 => p.con
  | 2 => p.reco
  | 3 => p.sup
  | 4 => p.sug
  | _ => p.enh
def PkgR.fld (r : PkgR) : Nat → Value
  | 0 => r.req
  | 1 => r.con
  | 2 => r.reco
  | 3 => r.sup
  | 4 => r.sug
  | _ => r.enh
def PkgR.setF (r : PkgR) : Nat → Value → PkgR
  | 0, v => { r with req := v }
  | 1, v => { r with con := v }
  | 2, v => { r with reco := v }
  | 3, v => { r with sup := v }
  | 4, v => { r with sug := v }
  | _, v => { r with enh := v }
def fo : Nat → Nat
  | 0 => 7
  | 1 => 8
  | 2 => 10
  | 3 => 11
  | 4 => 12
  | _ => 13
theorem six_cases {k : Nat} (h : k < 6) : k = 0 ∨ k = 1 ∨ k = 2 ∨ k = 3 ∨ k = 4 ∨ k = 5 := by omega
theorem pC_fld (p : PkgD) (r : PkgR) {k : Nat} (h : k < 6) : (pC p r)[fo k]? = some (r.fld k) := by
  rcases six_cases h with rfl | rfl | rfl | rfl | rfl | rfl <;> rfl
theorem pC_setF (p : PkgD) (r : PkgR) {k : Nat} (h : k < 6) (v : Value) : (pC p r).setIfInBounds (fo k) v = pC p (r.setF k v) := by
  rcases six_cases h with rfl | rfl | rfl | rfl | rfl | rfl <;> rfl
theorem fld_setF (r : PkgR) {j k : Nat} (hj : j < 6) (h : k < 6) (v : Value) : (r.setF k v).fld j = if j = k then v else r.fld j := by
  rcases six_cases h with rfl | rfl | rfl | rfl | rfl | rfl <;> rcases six_cases hj with rfl | rfl | rfl | rfl | rfl | rfl <;> rfl
theorem setF_prov (r : PkgR) (k : Nat) (v : Value) : (r.setF k v).prov = r.prov ∧ (r.setF k v).obs = r.obs ∧ (r.setF k v).files = r.files := by
  unfold PkgR.setF
  split <;> exact ⟨rfl, rfl, rfl⟩
theorem LIn.touchF {α : Type} {K : Kd α} {N : Nat} {F : Nat → Prop} {w w' : World} {l : List α} {v : Value} (h : LIn K (free N) w l v) (ht : Touch F w w') (hF : ∀ b, N ≤ b → b < w.heap.size → ¬ F b) : LIn K (free N) w' l v :=
  h.keep ht.size fun b ⟨k1, k2⟩ hb => ⟨ht.block b hb (hF b k1 hb), k1, fun i => (World.frozen?_of_block (w := w) (ht.block b hb (hF b k1 hb))).trans (k2 i)⟩
/-- k of the six lists are new. -/
structure KSt (w : World) (p : PkgD) (r0 : PkgR) (g ga k : Nat) (r : PkgR) (W : World) : Prop where
  b0 : Blk W g 29 (pC p r)
  b1 : Blk W (g + 1) 29 (pC zeroP nilPR)
  ba : Blk W ga 175 #[.pointer (some ⟨g, 7, none⟩), .pointer (some ⟨g, 8, none⟩), .pointer (some ⟨g, 10, none⟩), .pointer (some ⟨g, 11, none⟩), .pointer (some ⟨g, 12, none⟩), .pointer (some ⟨g, 13, none⟩)]
  prov : LIn depK (free (g + 2)) W p.prov r.prov
  obs : LIn depK (free (g + 2)) W p.obs r.obs
  files : LIn strK (free (g + 2)) W p.files r.files
  new : ∀ j, j < k → j < 6 → LIn richK (free (g + 2)) W (argL (six p j)) (r.fld j)
  old : ∀ j, k ≤ j → j < 6 → r.fld j = r0.fld j
  bl : Below w.heap.size w W
  gw : g = w.heap.size
  ga : g + 2 ≤ ga
theorem KSt.ptr {w W : World} {p : PkgD} {r0 r : PkgR} {g ga k : Nat} (h : KSt w p r0 g ga k r W) {j : Nat} (hj : j < 6) : W.cell? ⟨ga, j, none⟩ = some (.pointer (some ⟨g, fo j, none⟩)) := by
  rw [h.ba.cell]
  rcases six_cases hj with rfl | rfl | rfl | rfl | rfl | rfl <;> rfl
theorem KSt.cell {w W : World} {p : PkgD} {r0 r : PkgR} {g ga k : Nat} (h : KSt w p r0 g ga k r W) {j : Nat} (hj : j < 6) : W.cell? ⟨g, fo j, none⟩ = some (r.fld j) := by
  rw [h.b0.cell]
  exact pC_fld p r hj
theorem KSt.next {w W W' : World} {p : PkgD} {r0 r : PkgR} {g ga k : Nat} {v : Value} (h : KSt w p r0 g ga k r W) (hk : k < 6) (ht : Touch (fun b => b = g) W W') (hb : Blk W' g 29 (pC p (r.setF k v))) (hl : LIn richK (free (g + 2)) W' (argL (six p k)) v) : KSt w p r0 g ga (k + 1) (r.setF k v) W' := by
  obtain ⟨e1, e2, e3⟩ := setF_prov r k v
  have hF : ∀ b, g + 2 ≤ b → b < W.heap.size → ¬ b = g := fun b h1 _ => by omega
  refine ⟨hb, h.b1.touch ht (by omega), h.ba.touch ht (by have := h.ga; omega), by rw [e1]; exact h.prov.touchF ht hF, by rw [e2]; exact h.obs.touchF ht hF, by rw [e3]; exact h.files.touchF ht hF, fun j hj h6 => ?_, fun j hj h6 => ?_, h.bl.trans (ht.below h.bl.size fun b hb => by have := h.gw; omega), h.gw, h.ga⟩
  · rw [fld_setF r h6 hk]
    by_cases e : j = k
    · rw [if_pos e, e]
      exact hl
    · rw [if_neg e]
      exact (h.new j (by omega) h6).touchF ht hF
  · rw [fld_setF r h6 hk, if_neg (by omega)]
    exact h.old j (by omega) h6
/-- Some cells of one's own are written. -/
theorem Own.put {w : World} {e : TypeId} {size n g off cap : Nat} {xs xs' : List Value} (h : Own w e size (.slice (some ⟨g, off, none⟩) n cap) n xs) (o : Nat) (vs : List Value) (ho : o + vs.length ≤ xs.length) (hl : xs'.length = xs.length)
    (hx : ∀ i, i < xs.length → xs'[i]? = if o ≤ i ∧ i < o + vs.length then vs[i - o]? else xs[i]?) : Own (w.setCells g (off + o) vs) e size (.slice (some ⟨g, off, none⟩) n cap) n xs' := by
  obtain ⟨h1, h2⟩ := h
  refine ⟨by rw [hl, h1], ?_⟩
  rcases h2 with ⟨h2, _⟩ | ⟨g', off', cap', cur, hv, hb, hnc, hcm, hsz, hcell⟩
  · cases h2
  · injection hv with ha _ hc
    injection ha with ha
    injection ha with hg hof
    subst hg hof hc
    have hle : n * size ≤ cap * size := Nat.mul_le_mul_right _ hnc
    refine .inr ⟨g, off, cap, _, rfl, hb.setCells vs (off + o), hnc, hcm, by rw [size_putCells]; exact hsz, fun i hi => ?_⟩
    rw [hl] at hi
    rw [get_putCells vs (off + o) cur (off + i) (by omega), hx i hi]
    by_cases hc : o ≤ i ∧ i < o + vs.length
    · rw [if_pos hc, if_pos (by omega), show off + i - (off + o) = i - o from by omega]
    · rw [if_neg hc, if_neg (by omega)]
      exact hcell i hi
theorem enL_set {α : Type} (K : Kd α) (x : α) (r : K.R) : ∀ (ps : List (α × K.R)) (j : Nat), j < ps.length → ∀ i, (enL K (ps.set j (x, r)))[i]? = if j * K.size ≤ i ∧ i < j * K.size + K.size then (K.cells x r)[i - j * K.size]? else (enL K ps)[i]?
  | p :: ps, 0, _, i => by
    show (K.cells x r ++ enL K ps)[i]? = if _ then _ else (K.cells p.1 p.2 ++ enL K ps)[i]?
    rw [Nat.zero_mul, Nat.zero_add, Nat.sub_zero]
    by_cases h : i < K.size
    · rw [if_pos ⟨Nat.zero_le _, h⟩, List.getElem?_append_left (by rw [K.len]; exact h)]
    · rw [if_neg (fun c => h c.2), List.getElem?_append_right (by rw [K.len]; omega), List.getElem?_append_right (by rw [K.len]; omega), K.len, K.len]
  | p :: ps, j + 1, hj, i => by
    show (K.cells p.1 p.2 ++ enL K (ps.set j (x, r)))[i]? = if _ then _ else (K.cells p.1 p.2 ++ enL K ps)[i]?
    have e : (j + 1) * K.size = j * K.size + K.size := by rw [Nat.add_mul, Nat.one_mul]
    by_cases h : i < K.size
    · rw [if_neg (by omega), List.getElem?_append_left (by rw [K.len]; exact h), List.getElem?_append_left (by rw [K.len]; exact h)]
    · rw [List.getElem?_append_right (by rw [K.len]; omega), List.getElem?_append_right (by rw [K.len]; omega), K.len, enL_set K x r ps j (by simpa using hj) (i - K.size)]
      by_cases h2 : j * K.size ≤ i - K.size ∧ i - K.size < j * K.size + K.size
      · rw [if_pos h2, if_pos (by omega), show i - K.size - j * K.size = i - (j + 1) * K.size from by omega]
      · rw [if_neg h2, if_neg (by omega)]
theorem set_map {α β : Type} {ps : List (α × β)} {l : List α} (h : ps.map Prod.fst = l) {j : Nat} (hj : j < l.length) (r : β) : (ps.set j (l[j], r)).map Prod.fst = l := by
  subst h
  apply List.ext_getElem
  · simp
  · intro i h1 h2
    rw [List.getElem_map, List.getElem_set]
    split
    · next e => subst e; simp
    · simp
/-- The first j elements of one list are written anew. -/
structure MSt (w : World) (l : List RichD) (v : Value) (wc : World) (j : Nat) (W : World) : Prop where
  ex : ∃ ps : List (RichD × richK.R), ps.map Prod.fst = l ∧ Own W 34 7 v l.length (enL richK ps) ∧ (∀ i (h : i < ps.length), i < j → richK.holds (freeBut wc.heap.size v) W ps[i].1 ps[i].2) ∧ (∀ i (h : i < ps.length), j ≤ i → richK.holds anyB w ps[i].1 ps[i].2)
  tc : Touch (fun b => v.ownBlock = some b) wc W
theorem MSt.at_ {w wc W : World} {l : List RichD} {v : Value} {j : Nat} (h : MSt w l v wc j W) (hj : j < l.length) : ∃ b q cap s, v = .slice (some ⟨b, q, none⟩) l.length cap ∧ CellsAt W b (q + j * 7) (richCs l[j] s) ∧ IsArgs w l[j] s ∧ W.there b (q + j * 7) 7 ∧ b < W.heap.size := by
  obtain ⟨ps, h1, h2, h3, h4⟩ := h.ex
  have hl : ps.length = l.length := by rw [← h1, List.length_map]
  have hf : ∀ (hj' : j < ps.length), ps[j].1 = l[j] := fun hj' => by
    subst h1
    rw [List.getElem_map]
  obtain ⟨ao, cap, rfl, _, _, hc⟩ := h2.form
  obtain ⟨g, off, rfl, hcell, hfz, hlt⟩ := hc (by omega)
  have hps := h4 j (by omega) (Nat.le_refl _)
  have hle : (j + 1) * 7 ≤ l.length * 7 := Nat.mul_le_mul_right _ hj
  have hlen : (enL richK ps).length = l.length * 7 := (enL_len richK ps).trans (by rw [hl]; rfl)
  have hce : ∀ i, i < 7 → W.cell? ⟨g, off + j * 7 + i, none⟩ = (richCs (l[j]) (ps[j]'(by omega)).2)[i]? := fun i hi => by
    rw [Nat.add_assoc, hcell _ (by omega)]
    have := enL_at richK ps j (by omega) i hi
    rw [show j * richK.size = j * 7 from rfl] at this
    rw [this, ← hf (by omega)]
    rfl
  refine ⟨g, off, cap, (ps[j]'(by omega)).2, rfl, ⟨hlt, fun i hi => hce i hi⟩, ?_, fun i hi => ⟨?_, hfz _⟩, hlt⟩
  · rw [← hf (by omega)]
    exact ArgsP.is hps
  · rw [hce i hi, List.getElem?_eq_getElem (by exact hi)]
    rfl
set_option maxHeartbeats 4000000 in
theorem MSt.next {w wc W w1 : World} {l : List RichD} {b q cap j m0 : Nat} {s' : Value} (h : MSt w l (.slice (some ⟨b, q, none⟩) l.length cap) wc j W) (hj : j < l.length) (hb : Below W.heap.size W w1) (hx : richK.holds (free m0) w1 (l[j]'hj) s') (hm : W.heap.size ≤ m0) : MSt w l (.slice (some ⟨b, q, none⟩) l.length cap) wc (j + 1) (w1.setCells b (q + j * 7) (richCs (l[j]'hj) s')) := by
  obtain ⟨ps, h1, h2, h3, h4⟩ := h.ex
  have hl : ps.length = l.length := by rw [← h1, List.length_map]
  have hlen : (enL richK ps).length = l.length * 7 := (enL_len richK ps).trans (by rw [hl]; rfl)
  have hle : (j + 1) * 7 ≤ l.length * 7 := Nat.mul_le_mul_right _ hj
  have hbW : b < W.heap.size := h2.lt b rfl
  have hh : ∀ (w : World) o vs k, k ≠ b → (w.setCells b o vs).heap[k]? = w.heap[k]? := fun w o vs k hk => by
    have : ∀ (vs : List Value) (o : Nat) (w : World), (w.setCells b o vs).heap[k]? = w.heap[k]? := fun vs => by
      induction vs with
      | nil => intro o w; rfl
      | cons v r ih => intro o w; rw [World.setCells, ih]; exact Below.heap_setCell w ⟨b, o, none⟩ v k hk
    exact this vs o w
  have hos : ∀ (vs : List Value) (o : Nat) (w : World), (w.setCells b o vs).os = w.os ∧ (w.setCells b o vs).output = w.output := fun vs => by
    induction vs with
    | nil => intro o w; exact ⟨rfl, rfl⟩
    | cons v r ih => intro o w; rw [World.setCells]; exact ih _ _
  have hsz := size_setCells b (richCs (l[j]'hj) s') (q + j * 7) w1
  obtain ⟨W2, hW2⟩ : ∃ W2, W2 = w1.setCells b (q + j * 7) (richCs (l[j]'hj) s') := ⟨_, rfl⟩
  have hkeep : ∀ (x : RichD) (s : Value) (w2 : World) (B : World → Nat → Prop), ArgsP B w2 x s → w2.heap.size ≤ w1.heap.size → (∀ k, B w2 k → k < w2.heap.size → k ≠ b ∧ w1.heap[k]? = w2.heap[k]? ∧ wc.heap.size ≤ k ∧ ∀ i, w2.frozen? ⟨k, i, none⟩ = false) → ArgsP (freeBut wc.heap.size (.slice (some ⟨b, q, none⟩) l.length cap)) W2 x s := by
    intro x s w2 B hx2 hs2 hB
    refine ArgsP.keep (B' := freeBut wc.heap.size (.slice (some ⟨b, q, none⟩) l.length cap)) hx2 (by rw [hW2, hsz]; exact hs2) fun k hk hlt => ?_
    obtain ⟨k1, k2, k3, k4⟩ := hB k hk hlt
    have e : W2.heap[k]? = w2.heap[k]? := by rw [hW2]; exact (hh w1 (q + j * 7) (richCs (l[j]'hj) s') k k1).trans k2
    refine ⟨e, k3, fun c => ?_, fun i => (World.frozen?_of_block (w := w2) e).trans (k4 i)⟩
    simp only [Value.ownBlock, Option.some.injEq] at c
    exact k1 c.symm
  refine ⟨⟨ps.set j ((l[j]'hj), s'), set_map h1 hj s', ?_, fun i hi hij => ?_, fun i hi hij => ?_⟩, ?_⟩
  · refine Own.put (h2.new hb) (j * 7) (richCs (l[j]'hj) s') (by rw [hlen]; simp only [richCs, List.length_cons, List.length_nil]; omega) (by exact (enL_len richK _).trans ((congrArg (· * richK.size) (List.length_set ..)).trans (enL_len richK _).symm)) fun i hi => ?_
    have e := enL_set richK (l[j]'hj) s' ps j (by omega) i
    rw [show richK.size = 7 from rfl] at e
    rw [show (richCs (l[j]'hj) s').length = 7 from rfl]
    exact e
  · by_cases e : i = j
    · subst e
      rw [List.getElem_set_self]
      exact hW2 ▸ hkeep _ _ w1 (free m0) hx (Nat.le_refl _) fun k ⟨k1, k2⟩ hlt => ⟨by omega, rfl, by have := h.tc.size; omega, k2⟩
    · rw [List.getElem_set_ne (fun c => e c.symm)]
      rw [List.length_set] at hi
      exact hW2 ▸ hkeep _ _ W _ (h3 i hi (by omega)) hb.size fun k ⟨k1, k2, k3⟩ hlt => ⟨fun c => k2 (by rw [c]; rfl), hb.block k hlt, k1, k3⟩
  · rw [List.getElem_set_ne (by omega)]
    rw [List.length_set] at hi
    exact h4 i hi (by omega)
  · refine ⟨(hos _ _ _).1.trans (hb.os.trans h.tc.os), (tape_setCells _ _ _ _).trans (hb.tape.trans h.tc.tape), (hos _ _ _).2.trans (hb.output.trans h.tc.output), by rw [hsz]; exact Nat.le_trans h.tc.size hb.size, fun k hk hF => ?_⟩
    rw [hh w1 _ _ k (fun e => hF (by rw [e]; rfl)), hb.block k (Nat.lt_of_lt_of_le hk h.tc.size)]
    exact h.tc.block k hk hF
theorem MSt.done {w wc W : World} {l : List RichD} {v : Value} {N : Nat} (h : MSt w l v wc l.length W) (hN : N ≤ wc.heap.size) (hv : ∀ b, v.ownBlock = some b → N ≤ b) (hl : l.length ≤ 4611686018427387904) : LIn richK (free N) W l v := by
  obtain ⟨ps, h1, h2, h3, h4⟩ := h.ex
  refine (show Acc richK 34 N W l v from ⟨ps, h1, h2, hv, fun p hp => ?_⟩).done hl (by decide)
  obtain ⟨i, hi, rfl⟩ := List.getElem_of_mem hp
  have hl2 : ps.length = l.length := by rw [← h1, List.length_map]
  exact richK.keep (h3 i hi (by omega)) (Nat.le_refl _) fun b ⟨k1, k2, k3⟩ _ => ⟨rfl, by omega, k2, k3⟩
end Go.Proofs.YtdpjjnbelgaagaaGreatDoor

namespace Go.Proofs.YtdpjjnbelgaagaaGreatDoor
open Go.ChangeShapes Go.WideShapes Go.ChangeAt Go.RowKit Go.Deep
set_option maxRecDepth 100000

theorem split12 {l : List Value} (h : l.length = 12) : ∃ m0 m1 m2 m3 m4 m5 m6 m7 m8 m9 m10 m11, l = [m0, m1, m2, m3, m4, m5, m6, m7, m8, m9, m10, m11] := by
  obtain ⟨m0, l0, e0, h0⟩ := split1 h
  obtain ⟨m1, m2, m3, m4, m5, m6, m7, m8, m9, m10, m11, e⟩ := split11 h0
  exact ⟨m0, m1, m2, m3, m4, m5, m6, m7, m8, m9, m10, m11, by rw [e0, e]⟩
theorem split7 {l : List Value} (h : l.length = 7) : ∃ m0 m1 m2 m3 m4 m5 m6, l = [m0, m1, m2, m3, m4, m5, m6] := by
  obtain ⟨m0, l0, e0, h0⟩ := split1 h
  obtain ⟨m1, l1, e1, h1⟩ := split1 h0
  obtain ⟨m2, l2, e2, h2⟩ := split1 h1
  obtain ⟨m3, l3, e3, h3⟩ := split1 h2
  obtain ⟨m4, l4, e4, h4⟩ := split1 h3
  obtain ⟨m5, l5, e5, h5⟩ := split1 h4
  obtain ⟨m6, l6, e6, h6⟩ := split1 h5
  have e := List.eq_nil_of_length_eq_zero h6
  exact ⟨m0, m1, m2, m3, m4, m5, m6, by rw [e0, e1, e2, e3, e4, e5, e6, e]⟩
theorem six_small {p : PkgD} (h : p.small) {k : Nat} (hk : k < 6) : (argL (six p k)).length ≤ 1048576 ∧ ∀ x ∈ argL (six p k), x.count ≤ 1048576 := by
  rcases six_cases hk with rfl | rfl | rfl | rfl | rfl | rfl
  · exact ⟨h.req, h.creq⟩
  · exact ⟨h.con, h.ccon⟩
  · exact ⟨h.reco, h.creco⟩
  · exact ⟨h.sup, h.csup⟩
  · exact ⟨h.sug, h.csug⟩
  · exact ⟨h.enh, h.cenh⟩
theorem six_in {B : World → Nat → Prop} {w : World} {p : PkgD} {r : PkgR} (h : PkgIn B w p r) {k : Nat} (hk : k < 6) : LIn richK B w (argL (six p k)) (r.fld k) := by
  rcases six_cases hk with rfl | rfl | rfl | rfl | rfl | rfl
  · exact h.req
  · exact h.con
  · exact h.reco
  · exact h.sup
  · exact h.sug
  · exact h.enh
theorem pkg_one {B : World → Nat → Prop} {w : World} {p : PkgD} {r : PkgR} (h : PkgIn B w p r) : (pC p r).all (·.oneCell') = true := by
  have h := pkgK.one (B := B) (w := w) (x := p) (r := r) h
  rw [Array.all_eq_true_iff_forall_mem]
  intro u hu
  exact h u (by simpa [pkgK, pkgCs] using hu)
set_option maxHeartbeats 8000000 in
theorem kcopy_any (p : PkgD) (r : PkgR) (w : World) (hp : PkgIn anyB w p r) (hsm : p.small) : Calls Tryz.prog 104 #[p.val r] w fun e w' => (∃ r', e = .returned (p.val r') ∧ PkgIn (free w.heap.size) w' p r') ∧ Below w.heap.size w w' := by
  have hfm := hp.forms
  obtain ⟨W, hW⟩ : ∃ W, W = ((w.alloc (.cells (pC p r) 29)).alloc (.cells (pC zeroP nilPR) 29)) := ⟨_, rfl⟩
  obtain ⟨g, hg⟩ : ∃ g, g = w.heap.size := ⟨_, rfl⟩
  have HX : Hid (Blk W g 29 (pC p r) ∧ Blk W (g + 1) 29 (pC zeroP nilPR) ∧ Below w.heap.size w W ∧ W.heap.size = w.heap.size + 2) := Lib.hid (by
    have hb1 := new_b w (.cells (pC p r) 29)
    have hb2 := new_b (w.alloc (.cells (pC p r) 29)) (.cells (pC zeroP nilPR) 29)
    have hx1 := Blk.new w 29 (pC p r)
    have hx2 := Blk.new (w.alloc (.cells (pC p r) 29)) 29 (pC zeroP nilPR)
    rw [World.size_alloc] at hx2
    rw [hW, hg]
    exact ⟨hx1.below hb2 hx1.lt, hx2, below_t' hb1 hb2, by simp⟩)
  have HP := Lib.hid hp
  have HF := Lib.hid hfm
  have HG := Lib.hid hg
  obtain ⟨⟨q1, q2, q3, e1⟩, ⟨q4, q5, q6, e2⟩, ⟨q7, q8, q9, e3⟩, ⟨q10, q11, q12, e4⟩, ⟨q13, q14, q15, e5⟩, ⟨q16, q17, q18, e6⟩, ⟨q19, q20, q21, e7⟩, ⟨q22, q23, q24, e8⟩, ⟨q25, q26, q27, e9⟩⟩ := hfm
  rcases r with ⟨r0, r1, r2, r3, r4, r5, r6, r7, r8⟩
  dsimp only at e1 e2 e3 e4 e5 e6 e7 e8 e9
  subst e1 e2 e3 e4 e5 e6 e7 e8 e9
  have HSm := Lib.hid hsm
  clear hp hsm
  go_enter Tryz.func104, Tryz.ntmps104
  go_upto_region 1 with fail
  dsimp only [pC, zeroP, nilPR] at hW
  rw [← hW, ← hg]
  clear hW hg
  refine regK1 (w0 := w) (g := g) (p := p) (r := _) (by kernel_rfl) (by kernel_rfl) rfl HX.out.1 HF.out HP.out HX.out.2.2.1 HSm.out (by kernel_rfl) (by kernel_rfl) (by kernel_rfl) (by kernel_rfl) ?_
  intro mid v1 v2 v3 V hm k1 k2 k3 k4 k5
  obtain ⟨m0, m1, m2, m3, m4, m5, m6, m7, m8, m9, m10, m11, rfl⟩ := split12 hm
  have HV := Lib.hid (And.intro k1 (And.intro k2 (And.intro k3 (And.intro k4 k5))))
  have x1l := k4.lt
  clear hm k1 k2 k3 k4 k5
  simp only [frm, List.take_succ_cons, List.take_zero, List.drop_succ_cons, List.drop_zero, List.cons_append, List.nil_append, List.append_nil]
  rename_i hk
  refine hk _ _ ?_
  obtain ⟨R0, hR0⟩ : ∃ R0 : PkgR, R0 = ⟨.slice q1 q2 q3, .slice q4 q5 q6, .slice q7 q8 q9, .slice q10 q11 q12, .slice q13 q14 q15, .slice q16 q17 q18, .slice q19 q20 q21, .slice q22 q23 q24, .slice q25 q26 q27⟩ := ⟨_, rfl⟩
  go_wp2_with fail
  obtain ⟨X, hX⟩ : ∃ X, X = V.alloc (.cells #[.pointer (some ⟨g, 7, none⟩), .pointer (some ⟨g, 8, none⟩), .pointer (some ⟨g, 10, none⟩), .pointer (some ⟨g, 11, none⟩), .pointer (some ⟨g, 12, none⟩), .pointer (some ⟨g, 13, none⟩)] 175) := ⟨_, rfl⟩
  obtain ⟨ga, hga⟩ : ∃ ga, ga = V.heap.size := ⟨_, rfl⟩
  have HK0 : Hid (KSt w p R0 g ga 0 { R0 with prov := v1, obs := v2, files := v3 } X) := Lib.hid (by
    obtain ⟨k1, k2, k3, k4, k5⟩ := HV.out
    have e0 : W.heap.size = g + 2 := by have := HX.out.2.2.2; have := HG.out; omega
    rw [e0] at k1 k2 k3
    have hb := new_b V (.cells #[.pointer (some ⟨g, 7, none⟩), .pointer (some ⟨g, 8, none⟩), .pointer (some ⟨g, 10, none⟩), .pointer (some ⟨g, 11, none⟩), .pointer (some ⟨g, 12, none⟩), .pointer (some ⟨g, 13, none⟩)] 175)
    rw [hX, hga, hR0]
    refine ⟨k4.bel' hb, (HX.out.2.1.touch k5 (by omega)).bel' hb, Blk.new _ _ _, k1.bel hb, k2.bel hb, k3.bel hb, fun j hj => absurd hj (Nat.not_lt_zero j), fun j _ hj => ?_, (HX.out.2.2.1.trans (k5.below HX.out.2.2.1.size fun b hb e => by have := HG.out; omega)).trans (hb.mono ?_), HG.out, ?_⟩
    · rcases six_cases hj with rfl | rfl | rfl | rfl | rfl | rfl <;> rfl
    · have := k5.size; have := HX.out.2.2.1.size; omega
    · have := k5.size; omega)
  have HPi := Lib.hid (show PkgIn anyB w p R0 from hR0 ▸ HP.out)
  rw [← hX, ← hga]
  clear hX hga hR0 HP HX HF HV x1l
  go_loopw [27] (fun i wr => ∃ k : Nat, k ≤ 6 ∧ i = .int .i64 k ∧ ∃ r, Hid (KSt w p R0 g ga k r wr)) (fun i _ => 6 - (intOf i).toNat)
  case atStart => exact ⟨0, by omega, rfl, _, HK0.out⟩
  case round =>
    obtain ⟨k, hk, rfl, r, HQ⟩ := hrel
    by_cases hlt : k < 6
    · have hki : (k : Int) < 6 := by omega
      obtain ⟨l, hl⟩ : ∃ l, l = argL (six p k) := ⟨_, rfl⟩
      have hin := six_in HPi.out hlt
      rw [← hl] at hin
      obtain ⟨hsl, hsc⟩ := six_small HSm.out hlt
      rw [← hl] at hsl hsc
      obtain ⟨fa, fc, hfe⟩ := hin.form
      have zp := HQ.out.ptr hlt
      have zal : ga < wr.heap.size := HQ.out.ba.lt
      have zc : wr.cell? ⟨g, fo k, none⟩ = some (.slice fa l.length fc) := (HQ.out.cell hlt).trans (by rw [HQ.out.old k (Nat.le_refl _) hlt, hfe])
      have zl : g < wr.heap.size := HQ.out.b0.lt
      have HM : Hid (Calls Tryz.prog 151 #[.slice fa l.length fc] wr (ClonePostB richK 34 w wr l)) := Lib.hid (hfe ▸ cloneR_any w l _ wr hin HQ.out.bl hsl)
      have HL := Lib.hid hl
      have HLt := Lib.hid hlt
      have HSc := Lib.hid hsc
      clear hin hfe hl hsc
      go_wp2_with (first
        | (go_at_call 151; (with_reducible refine HM.out.mono ?_); rintro e w2 ⟨v', ps, rfl, k1, k2, k3, k4, k5⟩; obtain ⟨ao, cp, rfl⟩ := own_at k3; have c2 : w2.cell? ⟨g, fo k, none⟩ = some (.slice fa l.length fc) := (World.cell?_of_block (w := wr) (k5.block g zl)).trans zc; have f2 : w2.frozen? ⟨g, fo k, none⟩ = false := (HQ.out.b0.bel' k5).frozen _; have l2 : g < w2.heap.size := (HQ.out.b0.bel' k5).lt; have HC := Lib.hid (And.intro k1 (And.intro k2 (And.intro k3 (And.intro k4 k5)))); clear k1 k2 k3 k4 k5)
        | fail)
      obtain ⟨wc, hwc⟩ : ∃ wc, wc = w2.setCell ⟨g, fo k, none⟩ (.slice ao l.length cp) := ⟨_, rfl⟩
      have HW : Hid (MSt w l (.slice ao l.length cp) wc 0 wc ∧ Blk wc g 29 (pC p (r.setF k (.slice ao l.length cp))) ∧ Touch (fun b => b = g) wr wc ∧ (∀ b, (Value.slice ao l.length cp).ownBlock = some b → wr.heap.size ≤ b ∧ b ≠ g)) := Lib.hid (by
        obtain ⟨k1, k2, k3, k4, k5⟩ := HC.out
        have hne : (Value.slice ao l.length cp).ownBlock ≠ some g := fun e => by have := k4 g e; omega
        have hto : Touch (fun b => b = g) wr wc := by rw [hwc]; exact (Touch.of_below k5 (fun b => b = g)).setCell (fun _ => rfl) _
        rw [hwc]
        rw [hwc] at hto
        refine ⟨⟨⟨ps, k1, k3.far hne _, fun i h hi => absurd hi (Nat.not_lt_zero i), fun i h _ => ?_⟩, Touch.refl _ _⟩, ?_, hto, fun b hb => ⟨k4 b hb, fun e => hne (e ▸ hb)⟩⟩
        · exact richK.keep (k2 _ (List.getElem_mem h)) (Nat.le_refl _) fun _ _ _ => ⟨rfl, trivial⟩
        · have hb := (HQ.out.b0.bel' k5).set_ (fo k) (.slice ao l.length cp)
          rw [pC_setF p r HLt.out] at hb
          exact hb)
      have zc2 : wc.cell? ⟨g, fo k, none⟩ = some (.slice ao l.length cp) := by rw [hwc]; exact World.cell?_setCell_same _ _ _ c2
      rw [← hwc]
      clear hwc c2 f2 l2 zc zp zal HC HM
      obtain ⟨wo, rfl⟩ : ∃ wo, wo = wr := ⟨_, rfl⟩
      go_loopw [41] (fun i wx => ∃ j : Nat, j ≤ l.length ∧ i = .int .i64 j ∧ Hid (MSt w l (.slice ao l.length cp) wc j wx)) (fun i _ => l.length - (intOf i).toNat)
      case atStart => exact ⟨0, by omega, rfl, Lib.hid HW.out.1⟩
      case round =>
        obtain ⟨j, hj, rfl, HJ⟩ := hrel
        by_cases hlj : j < l.length
        · have hkj : (j : Int) < (l.length : Int) := by omega
          obtain ⟨b, q, cap, s, e1, hcs, hia, hth, hbl⟩ := HJ.out.at_ hlj
          injection e1 with e1 _ e3
          subst e1 e3
          obtain ⟨x, hx⟩ : ∃ x, x = l[j]'hlj := ⟨_, rfl⟩
          rw [← hx] at hcs hia
          obtain ⟨sa, sc, rfl⟩ := hia.form
          have x0 : wr.cell? ⟨b, q + j * 7, none⟩ = some (.int .u8 x.kind) := hcs.2 0 (show 0 < 7 by omega)
          have x1 : wr.cell? ⟨b, q + j * 7 + 1, none⟩ = some (.string x.dep.name) := hcs.2 1 (show 1 < 7 by omega)
          have x2 : wr.cell? ⟨b, q + j * 7 + 2, none⟩ = some (.int .u8 x.dep.op) := hcs.2 2 (show 2 < 7 by omega)
          have x3 : wr.cell? ⟨b, q + j * 7 + 3, none⟩ = some (.int .i64 x.dep.ep) := hcs.2 3 (show 3 < 7 by omega)
          have x4 : wr.cell? ⟨b, q + j * 7 + 4, none⟩ = some (.string x.dep.ver) := hcs.2 4 (show 4 < 7 by omega)
          have x5 : wr.cell? ⟨b, q + j * 7 + 5, none⟩ = some (.string x.dep.rel) := hcs.2 5 (show 5 < 7 by omega)
          have x6 : wr.cell? ⟨b, q + j * 7 + 6, none⟩ = some (.slice sa x.n sc) := hcs.2 6 (show 6 < 7 by omega)
          have HX := Lib.hid (And.intro hx (And.intro hcs (And.intro hia (And.intro hth hbl))))
          have HLj := Lib.hid hlj
          have hbl' := hbl
          clear hx hcs hia hth hbl
          go_upto_region 9 with fail
          have hbn := new_b wr (.cells #[.int .u8 x.kind, .string x.dep.name, .int .u8 x.dep.op, .int .i64 x.dep.ep, .string x.dep.ver, .string x.dep.rel, .slice sa x.n sc] 34)
          have hbx := Blk.new wr 34 #[.int .u8 x.kind, .string x.dep.name, .int .u8 x.dep.op, .int .i64 x.dep.ep, .string x.dep.ver, .string x.dep.rel, .slice sa x.n sc]
          have hown : (Value.slice (some ⟨b, q, none⟩) l.length cp).ownBlock ≠ some g := fun e => (HW.out.2.2.2 g e).2 rfl
          have hbg := (HW.out.2.1.touch HJ.out.tc hown).bel' hbn
          have hBw : Below w.heap.size w wr := HQ.out.bl.trans (((HW.out.2.2.1.trans (G := fun b' => (Value.slice (some ⟨b, q, none⟩) l.length cp).ownBlock = some b') HJ.out.tc fun b' h1 h2 => by have := (HW.out.2.2.2 b' h2).1; omega)).below HQ.out.bl.size fun b' h1 h2 => by have := HQ.out.gw; omega)
          refine regK9 (w0 := w) (g := g) (f := fo k) (b := b) (q := q) (q' := q + j * 7) (n := l.length) (c := cp) (j := j) (gx := wr.heap.size) (x := x) (s := .slice sa x.n sc) (cs := pC p (r.setF k (.slice (some ⟨b, q, none⟩) l.length cp))) (by kernel_rfl) (by kernel_rfl) rfl rfl rfl hbg ((pC_fld p _ HLt.out).trans (by rw [fld_setF r HLt.out HLt.out, if_pos rfl])) HLj.out ⟨hbx.lt, fun i hi => (hbx.cell _).trans (by rw [Nat.zero_add]; simp [richCs])⟩ HX.out.2.2.1 (below_t' hBw hbn) (HSc.out x (HX.out.1 ▸ List.getElem_mem _)) rfl (Nat.lt_of_lt_of_le HX.out.2.2.2.2 hbn.size) (fun i hi => ⟨by rw [World.cell?_of_block (w := wr) (hbn.block b HX.out.2.2.2.2)]; exact (HX.out.2.2.2.1 i hi).1, by rw [World.frozen?_of_block (w := wr) (hbn.block b HX.out.2.2.2.2)]; exact (HX.out.2.2.2.1 i hi).2⟩) (by kernel_rfl) (by kernel_rfl) (by kernel_rfl) (by kernel_rfl) ?_
          intro mid s' w1 hm k1 k2
          obtain ⟨n0, n1, n2, n3, n4, n5, n6, rfl⟩ := split7 hm
          have HV : Hid (MSt w l (.slice (some ⟨b, q, none⟩) l.length cp) wc (j + 1) (w1.setCells b (q + j * 7) (richCs x s'))) := Lib.hid (by
            rw [HX.out.1] at k1 ⊢
            exact HJ.out.next HLj.out (below_t' hbn k2) k1 (by rw [World.size_alloc]; omega))
          clear hm k1 k2 hbn hbx hown hbg hBw
          simp only [frm, List.take_succ_cons, List.take_zero, List.drop_succ_cons, List.drop_zero, List.cons_append, List.nil_append, List.append_nil]
          rename_i hk
          refine hk _ _ ?_
          go_wp2_with fail
          go_roundw
          case rel => exact ⟨j + 1, HLj.out, by go_num, HV.out⟩
          case measure => have := HLj.out; simp [intOf]; omega
        · obtain rfl : j = l.length := by omega
          have HN : Hid (KSt w p R0 g ga (k + 1) (r.setF k (.slice ao l.length cp)) wr) := Lib.hid (by
            have hown : (Value.slice ao l.length cp).ownBlock ≠ some g := fun e => (HW.out.2.2.2 g e).2 rfl
            have hs := HQ.out.b1.lt
            have hs2 := HW.out.2.2.1.size
            refine HQ.out.next HLt.out (HW.out.2.2.1.trans HJ.out.tc fun b' h1 h2 => by have := (HW.out.2.2.2 b' h2).1; omega) (HW.out.2.1.touch HJ.out.tc hown) ?_
            rw [← HL.out]
            exact HJ.out.done (by omega) (fun b' h2 => by have := (HW.out.2.2.2 b' h2).1; omega) (by omega))
          go_wp2_with fail
          go_roundw
          case rel => exact ⟨k + 1, HLt.out, by go_num, _, HN.out⟩
          case measure => have := HLt.out; simp [intOf]; omega
    · obtain rfl : k = 6 := by omega
      have hpk : PkgIn (free (g + 2)) wr p r := ⟨HPi.out.s1, HPi.out.s2, HPi.out.s3, HPi.out.s4, HPi.out.ar, HPi.out.ep, HQ.out.prov, HQ.out.new 0 (by omega) (by omega), HQ.out.new 1 (by omega) (by omega), HQ.out.obs, HQ.out.new 2 (by omega) (by omega), HQ.out.new 3 (by omega) (by omega), HQ.out.new 4 (by omega) (by omega), HQ.out.new 5 (by omega) (by omega), HQ.out.files⟩
      have hb0 := HQ.out.b0
      have HB1 := Lib.hid HQ.out.b1
      have HBl := Lib.hid (And.intro HQ.out.bl HQ.out.gw)
      have HPK := Lib.hid hpk
      obtain ⟨⟨t1, t2, t3, e1⟩, ⟨t4, t5, t6, e2⟩, ⟨t7, t8, t9, e3⟩, ⟨t10, t11, t12, e4⟩, ⟨t13, t14, t15, e5⟩, ⟨t16, t17, t18, e6⟩, ⟨t19, t20, t21, e7⟩, ⟨t22, t23, t24, e8⟩, ⟨t25, t26, t27, e9⟩⟩ := hpk.forms
      clear hpk HQ
      rcases r with ⟨r0, r1, r2, r3, r4, r5, r6, r7, r8⟩
      dsimp only at e1 e2 e3 e4 e5 e6 e7 e8 e9
      subst e1 e2 e3 e4 e5 e6 e7 e8 e9
      have x0 := hb0.cell 0
      have x1 := hb0.cell 1
      have x2 := hb0.cell 2
      have x3 := hb0.cell 3
      have x4 := hb0.cell 4
      have x5 := hb0.cell 5
      have x6 := hb0.cell 6
      have x7 := hb0.cell 7
      have x8 := hb0.cell 8
      have x9 := hb0.cell 9
      have x10 := hb0.cell 10
      have x11 := hb0.cell 11
      have x12 := hb0.cell 12
      have x13 := hb0.cell 13
      have x14 := hb0.cell 14
      dsimp only [pC] at x0 x1 x2 x3 x4 x5 x6 x7 x8 x9 x10 x11 x12 x13 x14
      simp only [List.getElem?_toArray, List.getElem?_cons_zero, List.getElem?_cons_succ] at x0 x1 x2 x3 x4 x5 x6 x7 x8 x9 x10 x11 x12 x13 x14
      have xl := hb0.lt
      have HP1 := Lib.hid (pkg_one HPK.out)
      clear hb0
      go_wp2_with (first
        | (refine wpList_store_rowTo rfl 29 (.tmp 2) (.tmp 55) rfl rfl (g + 1) (pC p ⟨.slice t1 t2 t3, .slice t4 t5 t6, .slice t7 t8 t9, .slice t10 t11 t12, .slice t13 t14 t15, .slice t16 t17 t18, .slice t19 t20 t21, .slice t22 t23 t24, .slice t25 t26 t27⟩) rfl (by kernel_rfl) 29 (pC zeroP nilPR) HB1.out (by kernel_rfl) rfl HP1.out ?_)
        | fail)
      refine bodyPost_ret (results_cell_row rfl _ _ (g + 1) 29 _ (0, 0) _ rfl (HB1.out.row _) Tryz.underlying29 rfl (by kernel_rfl)) rfl ⟨⟨_, rfl, HPK.out.keep (by simp) fun b ⟨k1, k2⟩ _ => ?_⟩, bel_setRow HBl.out.1 (by have := HBl.out.2; omega) _⟩
      have hbk := setRow_other wr (g + 1) b (pC p ⟨.slice t1 t2 t3, .slice t4 t5 t6, .slice t7 t8 t9, .slice t10 t11 t12, .slice t13 t14 t15, .slice t16 t17 t18, .slice t19 t20 t21, .slice t22 t23 t24, .slice t25 t26 t27⟩) (by omega)
      exact ⟨hbk, by have := HBl.out.2; omega, fun i => (World.frozen?_of_block (w := wr) hbk).trans (k2 i)⟩
end Go.Proofs.YtdpjjnbelgaagaaGreatDoor

namespace Go.Proofs.YtdpjjnbelgaagaaGreatDoor
open Go.ChangeShapes Go.WideShapes Go.ChangeAt Go.RowKit Go.Deep
set_option maxRecDepth 100000

set_option maxHeartbeats 8000000 in
theorem ccopied_any (l : List PkgD) (v : Value) (w : World) (h : LIn pkgK anyB w l v) (hsm : ∀ p ∈ l, p.small) (hn : l.length ≤ 1048576) : Calls Tryz.prog 55 #[v] w (CopyPost pkgK w l) := by
  obtain ⟨a, c, rfl⟩ := h.form
  have HL := Lib.hid h
  have HS := Lib.hid hsm
  obtain ⟨iP, hiP, hz0, hz1, hz2⟩ := iPkg
  clear h hsm
  go_enter Tryz.func55, Tryz.ntmps55
  go_wp2_with fail
  go_loopw [3, 8] (fun v i wr => ∃ k : Nat, k ≤ l.length ∧ i = .int .i64 k ∧ Hid (CL pkgK 29 w l k v wr)) (fun _ i _ => l.length - (intOf i).toNat)
  case atStart => exact ⟨0, by omega, rfl, Lib.hid (CL.start _ _ _ _)⟩
  case round =>
    obtain ⟨k, hk, rfl, HQ⟩ := hrel
    by_cases hlt : k < l.length
    · have hki : (k : Int) < (l.length : Int) := by omega
      obtain ⟨b, o, r, ha, _, hcs0, hh0⟩ := HL.out.at_ k hlt
      obtain ⟨x, hx⟩ : ∃ x, x = l[k]'hlt := ⟨_, rfl⟩
      rw [← hx] at hcs0 hh0
      subst ha
      have hin : PkgIn anyB w x r := hh0
      have hfm := hin.forms
      have hd : CellsAt wr b (o + k * 15) (pkgCs x r) := hcs0.below HQ.out.bl
      have HX := Lib.hid hx
      have HM := Lib.hid (fun W' (hb : Below wr.heap.size wr W') => kcopy_any x r W' (hin.keep (Nat.le_trans HQ.out.bl.size hb.size) fun b _ hlt => ⟨(below_t' HQ.out.bl hb).block b hlt, trivial⟩) (HS.out x (hx ▸ List.getElem_mem hlt)))
      obtain ⟨⟨q1, q2, q3, e1⟩, ⟨q4, q5, q6, e2⟩, ⟨q7, q8, q9, e3⟩, ⟨q10, q11, q12, e4⟩, ⟨q13, q14, q15, e5⟩, ⟨q16, q17, q18, e6⟩, ⟨q19, q20, q21, e7⟩, ⟨q22, q23, q24, e8⟩, ⟨q25, q26, q27, e9⟩⟩ := hfm
      rcases r with ⟨r0, r1, r2, r3, r4, r5, r6, r7, r8⟩
      dsimp only at e1 e2 e3 e4 e5 e6 e7 e8 e9
      subst e1 e2 e3 e4 e5 e6 e7 e8 e9
      have x0 := hd.2 0 (show 0 < 15 by omega)
      have x1 := hd.2 1 (show 1 < 15 by omega)
      have x2 := hd.2 2 (show 2 < 15 by omega)
      have x3 := hd.2 3 (show 3 < 15 by omega)
      have x4 := hd.2 4 (show 4 < 15 by omega)
      have x5 := hd.2 5 (show 5 < 15 by omega)
      have x6 := hd.2 6 (show 6 < 15 by omega)
      have x7 := hd.2 7 (show 7 < 15 by omega)
      have x8 := hd.2 8 (show 8 < 15 by omega)
      have x9 := hd.2 9 (show 9 < 15 by omega)
      have x10 := hd.2 10 (show 10 < 15 by omega)
      have x11 := hd.2 11 (show 11 < 15 by omega)
      have x12 := hd.2 12 (show 12 < 15 by omega)
      have x13 := hd.2 13 (show 13 < 15 by omega)
      have x14 := hd.2 14 (show 14 < 15 by omega)
      dsimp only [pkgCs] at x0 x1 x2 x3 x4 x5 x6 x7 x8 x9 x10 x11 x12 x13 x14
      simp only [Nat.add_zero, List.getElem?_cons_zero, List.getElem?_cons_succ] at x0 x1 x2 x3 x4 x5 x6 x7 x8 x9 x10 x11 x12 x13 x14
      have xl : b < wr.heap.size := hd.1
      obtain ⟨xs, hown, hone⟩ := HQ.out.ac.own
      obtain ⟨ao, cp, hve⟩ := own_at hown
      have hll : (l.take k).length = k := by rw [List.length_take]; omega
      rw [hll] at hve
      subst hve
      rw [hll] at hown
      have HO4 := Lib.hid hown
      have HN4 := Lib.hid hone
      have HLL := Lib.hid hll
      have HLt := Lib.hid hlt
      clear hcs0 hh0 hin hd hx hown hone hll
      go_wp2_with (first
        | (go_at_call 104; (with_reducible refine (HM.out _ (new_b wr _)).mono ?_); rintro e w2 ⟨⟨r', rfl, hn2⟩, hb2⟩; have HB2 := Lib.hid (below_t' (new_b wr _) hb2); have hfm2 := hn2.forms; have HP2 := Lib.hid (show PkgIn (free wr.heap.size) w2 x r' from hn2.keep (Nat.le_refl _) fun b ⟨j1, j2⟩ _ => ⟨rfl, by rw [World.size_alloc] at j1; omega, j2⟩); clear hn2 hb2; obtain ⟨⟨y1, y2, y3, e1⟩, ⟨y4, y5, y6, e2⟩, ⟨y7, y8, y9, e3⟩, ⟨y10, y11, y12, e4⟩, ⟨y13, y14, y15, e5⟩, ⟨y16, y17, y18, e6⟩, ⟨y19, y20, y21, e7⟩, ⟨y22, y23, y24, e8⟩, ⟨y25, y26, y27, e9⟩⟩ := hfm2; rcases r' with ⟨s0, s1, s2, s3, s4, s5, s6, s7, s8⟩; dsimp only at e1 e2 e3 e4 e5 e6 e7 e8 e9; subst e1 e2 e3 e4 e5 e6 e7 e8 e9)
        | (at_builtin; (refine wpList_append_S _ rfl (.tmp 12) (.tmp 15) _ _ rfl 29 iP _ 15 296 Tryz.underlying36 hiP hz0 hz1 hz2 rfl (by omega) (.slice ao k cp) k xs rfl ((HO4.out.keep fun b hb => HB2.out.block b (HO4.out.lt b hb)).alloc _) HN4.out (.slice (some ⟨w2.heap.size, 0, none⟩) 1 1) 1 (pkgCs x ⟨.slice y1 y2 y3, .slice y4 y5 y6, .slice y7 y8 y9, .slice y10 y11 y12, .slice y13 y14 y15, .slice y16 y17 y18, .slice y19 y20 y21, .slice y22 y23 y24, .slice y25 y26 y27⟩) rfl (src_pkg w2 x ⟨.slice y1 y2 y3, .slice y4 y5 y6, .slice y7 y8 y9, .slice y10 y11 y12, .slice y13 y14 y15, .slice y16 y17 y18, .slice y19 y20 y21, .slice y22 y23 y24, .slice y25 y26 y27⟩ (pkgK.one (x := x) (r := ⟨.slice y1 y2 y3, .slice y4 y5 y6, .slice y7 y8 y9, .slice y10 y11 y12, .slice y13 y14 y15, .slice y16 y17 y18, .slice y19 y20 y21, .slice y22 y23 y24, .slice y25 y26 y27⟩) HP2.out)) (by simp only [maxLen]; omega) (by omega) ?_); rintro ao' cap' w7 hn1 hn2 hO7 hg7 hat7 hlt7; have HZ7 := Lib.hid (And.intro hO7 (And.intro hg7 hat7)); clear hn1 hn2 hO7 hg7 hat7 hlt7)
        | fail)
      have HS7 := Lib.hid (show CL pkgK 29 w l (k + 1) (.slice ao' (k + 1) cap') w7 from ((HQ.out.below HB2.out).below (new_b w2 (.cells #[.string x.name, .int .i64 x.ep, .string x.ver, .string x.rel, .int .u8 x.arch, .string x.vendor, .slice y1 y2 y3, .slice y4 y5 y6, .slice y7 y8 y9, .slice y10 y11 y12, .slice y13 y14 y15, .slice y16 y17 y18, .slice y19 y20 y21, .slice y22 y23 y24, .slice y25 y26 y27] 29))).push HLt.out (r := ⟨.slice y1 y2 y3, .slice y4 y5 y6, .slice y7 y8 y9, .slice y10 y11 y12, .slice y13 y14 y15, .slice y16 y17 y18, .slice y19 y20 y21, .slice y22 y23 y24, .slice y25 y26 y27⟩) ((HO4.out.keep fun b hb => HB2.out.block b (HO4.out.lt b hb)).alloc _) (m0 := wr.heap.size) HQ.out.bl.size (fun q hq => (HQ.out.ownB q hq).2) (by rw [← HX.out]; exact PkgIn.belN HP2.out (new_b _ _)) (by rw [← HX.out]; exact HZ7.out.1) HZ7.out.2.1 HZ7.out.2.2)
      go_roundw
      case rel => exact ⟨k + 1, by have := HLt.out; omega, by go_num, HS7.out⟩
      case measure => have := HLt.out; simp [intOf]; omega
    · obtain rfl : k = l.length := by omega
      have HD := Lib.hid (HQ.out.done (by omega) (by show 0 < 15; omega))
      go_wp2_with fail
      go_ret
      exact ⟨_, rfl, HD.out, HQ.out.bl⟩
end Go.Proofs.YtdpjjnbelgaagaaGreatDoor
