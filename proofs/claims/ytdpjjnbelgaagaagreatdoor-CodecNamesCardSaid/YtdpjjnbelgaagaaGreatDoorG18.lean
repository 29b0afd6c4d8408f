/- The document's Same of data. Conditions: as each theorem names them. -/
import Derived.Test.YtdpjjnbelgaagaaGreatDoorG17
import Derived.StillTailTactics
import Derived.Deep.CutRange
namespace Go.Proofs.YtdpjjnbelgaagaaGreatDoor
open Go.ChangeShapes Go.WideShapes Go.ChangeAt Go.RowKit Go.Deep
set_option maxRecDepth 100000

def sameO (x y : RepoD) : Bool := decide (x.prio = y.prio) && eqL samePk x.pkgs y.pkgs
def sameA (a b : DataD) : Bool := eqL samePk a.inst b.inst && eqL sameO a.repos b.repos
theorem sameA_no1 {a b : DataD} (h : ¬ a.repos.length = b.repos.length) : sameA a b = false := by unfold sameA; rw [eqL_len h, Bool.and_false]
theorem sameA_no2 {a b : DataD} (h : ¬ a.inst.length = b.inst.length) : sameA a b = false := by unfold sameA; rw [eqL_len h, Bool.false_and]
theorem sameA_no3 {a b : DataD} {j : Nat} (h1 : j < a.inst.length) (h2 : j < b.inst.length) (h : samePk a.inst[j] b.inst[j] = false) : sameA a b = false := by unfold sameA; rw [eqL_no h1 h2 h, Bool.false_and]
theorem sameA_no4 {a b : DataD} {j : Nat} (h1 : j < a.repos.length) (h2 : j < b.repos.length) (h : sameO a.repos[j] b.repos[j] = false) : sameA a b = false := by unfold sameA; rw [eqL_no h1 h2 h, Bool.and_false]
theorem sameA_yes {a b : DataD} (h1 : eqL samePk a.inst b.inst = true) (h2 : eqL sameO a.repos b.repos = true) : sameA a b = true := by unfold sameA; rw [h1, h2]; rfl
theorem DataIn.bl {w w' : World} {d : DataD} {vr vi : Value} (h : DataIn anyB w d vr vi) (hB : Below w.heap.size w w') : DataIn anyB w' d vr vi := h.keep hB.size fun b _ hb => ⟨hB.block b hb, trivial⟩
theorem PkgIn.bl {w w' : World} {d : PkgD} {r : PkgR} (h : PkgIn anyB w d r) (hB : Below w.heap.size w w') : PkgIn anyB w' d r := h.keep hB.size fun b _ hb => ⟨hB.block b hb, trivial⟩
theorem two_new (w : World) (t : TypeId) (A B : Array Value) : Hid (Blk ((w.alloc (.cells A t)).alloc (.cells B t)).drew w.heap.size t A ∧ Blk ((w.alloc (.cells A t)).alloc (.cells B t)).drew (w.heap.size + 1) t B ∧ Below w.heap.size w ((w.alloc (.cells A t)).alloc (.cells B t)).drew) := by
  have hb1 := new_b w (.cells A t)
  have hb2 := new_b (w.alloc (.cells A t)) (.cells B t)
  have hx1 := Blk.new w t A
  have hx2 := Blk.new (w.alloc (.cells A t)) t B
  rw [World.size_alloc] at hx2
  have hd := (Below.refl ((w.alloc (.cells A t)).alloc (.cells B t)).heap.size ((w.alloc (.cells A t)).alloc (.cells B t))).drew
  have hy1 := hx1.below hb2 hx1.lt
  exact ⟨hy1.below hd hy1.lt, hx2.below hd hx2.lt, (below_t' hb1 hb2).drew⟩
theorem two_new' (w : World) (t : TypeId) (A B : Array Value) : Hid (Blk ((w.alloc (.cells A t)).alloc (.cells B t)).drew (w.heap.size + 1) t B ∧ Blk ((w.alloc (.cells A t)).alloc (.cells B t)).drew w.heap.size t A ∧ Below w.heap.size w ((w.alloc (.cells A t)).alloc (.cells B t)).drew) :=
  ⟨(two_new w t A B).out.2.1, (two_new w t A B).out.1, (two_new w t A B).out.2.2⟩
set_option maxHeartbeats 16000000 in
theorem r11same_main (a b : DataD) (n m : Nat) (hn1 : a.repos.length = n) (hn2 : b.repos.length = n) (hm1 : a.inst.length = m) (hm2 : b.inst.length = m) (ar ai br bi : Option Addr) (cr ci dr di : Nat) (w : World)
    (ha : DataIn anyB w a (.slice ar n cr) (.slice ai m ci)) (hb : DataIn anyB w b (.slice br n dr) (.slice bi m di)) :
    Calls Tryz.prog 24 #[.agg #[.slice ar n cr, .slice ai m ci], .agg #[.slice br n dr, .slice bi m di]] w fun e w' => e = .returned (.bool (sameA a b)) ∧ Below w.heap.size w w' := by
  have HAr := Lib.hid (show LIn repoK anyB w a.repos (.slice ar a.repos.length cr) from hn1 ▸ ha.repos)
  have HBr := Lib.hid (show LIn repoK anyB w b.repos (.slice br b.repos.length dr) from hn2 ▸ hb.repos)
  have HAi := Lib.hid (show LIn pkgK anyB w a.inst (.slice ai a.inst.length ci) from hm1 ▸ ha.inst)
  have HBi := Lib.hid (show LIn pkgK anyB w b.inst (.slice bi b.inst.length di) from hm2 ▸ hb.inst)
  have hnb : n ≤ 4611686018427387904 := by have := HAr.out.bound; omega
  have hmb : m ≤ 4611686018427387904 := by have := HAi.out.bound; omega
  have HLn := Lib.hid (show a.repos.length = n ∧ b.repos.length = n ∧ a.inst.length = m ∧ b.inst.length = m from ⟨hn1, hn2, hm1, hm2⟩)
  clear ha hb hn1 hn2 hm1 hm2
  obtain ⟨T, hT⟩ : ∃ T, T = sameA a b := ⟨_, rfl⟩
  rw [← hT]
  have HT := Lib.hid hT
  clear hT
  obtain ⟨g, hg⟩ : ∃ g, g = w.heap.size := ⟨_, rfl⟩
  obtain ⟨W, hW⟩ : ∃ W, W = (w.alloc (.cells #[.slice ar n cr, .slice ai m ci] 55)).alloc (.cells #[.slice br n dr, .slice bi m di] 55) := ⟨_, rfl⟩
  have HX := Lib.hid (show Blk W g 55 #[.slice ar n cr, .slice ai m ci] ∧ Blk W (g + 1) 55 #[.slice br n dr, .slice bi m di] ∧ Below w.heap.size w W from by
    have hb1 := new_b w (.cells #[.slice ar n cr, .slice ai m ci] 55)
    have hb2 := new_b (w.alloc (.cells #[.slice ar n cr, .slice ai m ci] 55)) (.cells #[.slice br n dr, .slice bi m di] 55)
    have hx1 := Blk.new w 55 #[.slice ar n cr, .slice ai m ci]
    have hx2 := Blk.new (w.alloc (.cells #[.slice ar n cr, .slice ai m ci] 55)) 55 #[.slice br n dr, .slice bi m di]
    rw [World.size_alloc] at hx2
    rw [hW, hg]
    exact ⟨hx1.below hb2 hx1.lt, hx2, below_t' hb1 hb2⟩)
  have d0 : W.cell? ⟨g, 0, none⟩ = some (.slice ar n cr) := HX.out.1.cell 0
  have d1 : W.cell? ⟨g, 1, none⟩ = some (.slice ai m ci) := HX.out.1.cell 1
  have d2 : W.cell? ⟨g + 1, 0, none⟩ = some (.slice br n dr) := HX.out.2.1.cell 0
  have d3 : W.cell? ⟨g + 1, 1, none⟩ = some (.slice bi m di) := HX.out.2.1.cell 1
  have dl : g < W.heap.size := HX.out.1.lt
  have dl' : g + 1 < W.heap.size := HX.out.2.1.lt
  have HS0 := Lib.hid (show Below W.heap.size W ((w.alloc (.cells #[.slice ar n cr, .slice ai m ci] 55)).alloc (.cells #[.slice br n dr, .slice bi m di] 55)) from hW ▸ Below.refl _ _)
  go_enter Tryz.func24, Tryz.ntmps24
  go_upto_region 1 with fail
  rw [← hg, ← hW]
  have HG := Lib.hid hg
  clear hW hg HS0
  go_wp2_with fail
  go_loopw [5] (fun i wr => ∃ k : Nat, k ≤ m ∧ i = .int .i64 k ∧ Hid ((∀ j (h1 : j < a.inst.length) (h2 : j < b.inst.length), j < k → samePk a.inst[j] b.inst[j] = true) ∧ Below W.heap.size W wr)) (fun i wr => m - (intOf i).toNat)
  case atStart => exact ⟨0, by omega, rfl, ⟨fun j _ _ h => absurd h (Nat.not_lt_zero j), Below.refl _ _⟩⟩
  case round =>
    obtain ⟨k, hk, rfl, HQ⟩ := hrel
    have e1 : wr.cell? ⟨g, 1, none⟩ = some (.slice ai m ci) := (HX.out.1.below HQ.out.2 HX.out.1.lt).cell 1
    have el : g < wr.heap.size := (HX.out.1.below HQ.out.2 HX.out.1.lt).lt
    have HXb := Lib.hid (show Blk wr g 55 #[.slice ar n cr, .slice ai m ci] ∧ Blk wr (g + 1) 55 #[.slice br n dr, .slice bi m di] from ⟨HX.out.1.below HQ.out.2 HX.out.1.lt, HX.out.2.1.below HQ.out.2 HX.out.2.1.lt⟩)
    by_cases hlt : k < m
    · have hki : (k : Int) < (m : Int) := by omega
      obtain ⟨b1, o1, r1, ha1, _, hcs1, hh1⟩ := HAi.out.at_ k (by have := HLn.out; omega)
      obtain ⟨b2, o2, r2, ha2, _, hcs2, hh2⟩ := HBi.out.at_ k (by have := HLn.out; omega)
      obtain ⟨x, hx⟩ : ∃ x, x = a.inst[k]'(by have := HLn.out; omega) := ⟨_, rfl⟩
      obtain ⟨y, hy⟩ : ∃ y, y = b.inst[k]'(by have := HLn.out; omega) := ⟨_, rfl⟩
      rw [← hx] at hcs1 hh1
      rw [← hy] at hcs2 hh2
      have HXY := Lib.hid (show ∀ (h1 : k < a.inst.length) (h2 : k < b.inst.length), a.inst[k] = x ∧ b.inst[k] = y from fun _ _ => ⟨hx.symm, hy.symm⟩)
      subst ha1 ha2
      dsimp only [pkgK] at hcs1 hcs2 r1 r2
      rcases r1 with ⟨u0, u1, u2, u3, u4, u5, u6, u7, u8⟩
      rcases r2 with ⟨v0, v1, v2, v3, v4, v5, v6, v7, v8⟩
      have hi1 : PkgIn anyB w x ⟨u0, u1, u2, u3, u4, u5, u6, u7, u8⟩ := hh1
      have hi2 : PkgIn anyB w y ⟨v0, v1, v2, v3, v4, v5, v6, v7, v8⟩ := hh2
      obtain ⟨xa0, xc0, (rfl : u0 = _)⟩ := hi1.prov.form
      obtain ⟨ya0, yc0, (rfl : v0 = _)⟩ := hi2.prov.form
      obtain ⟨xa1, xc1, (rfl : u1 = _)⟩ := hi1.req.form
      obtain ⟨ya1, yc1, (rfl : v1 = _)⟩ := hi2.req.form
      obtain ⟨xa2, xc2, (rfl : u2 = _)⟩ := hi1.con.form
      obtain ⟨ya2, yc2, (rfl : v2 = _)⟩ := hi2.con.form
      obtain ⟨xa3, xc3, (rfl : u3 = _)⟩ := hi1.obs.form
      obtain ⟨ya3, yc3, (rfl : v3 = _)⟩ := hi2.obs.form
      obtain ⟨xa4, xc4, (rfl : u4 = _)⟩ := hi1.reco.form
      obtain ⟨ya4, yc4, (rfl : v4 = _)⟩ := hi2.reco.form
      obtain ⟨xa5, xc5, (rfl : u5 = _)⟩ := hi1.sup.form
      obtain ⟨ya5, yc5, (rfl : v5 = _)⟩ := hi2.sup.form
      obtain ⟨xa6, xc6, (rfl : u6 = _)⟩ := hi1.sug.form
      obtain ⟨ya6, yc6, (rfl : v6 = _)⟩ := hi2.sug.form
      obtain ⟨xa7, xc7, (rfl : u7 = _)⟩ := hi1.enh.form
      obtain ⟨ya7, yc7, (rfl : v7 = _)⟩ := hi2.enh.form
      obtain ⟨xa8, xc8, (rfl : u8 = _)⟩ := hi1.files.form
      obtain ⟨ya8, yc8, (rfl : v8 = _)⟩ := hi2.files.form
      have HFr := Lib.hid (show Below w.heap.size w wr from below_t' HX.out.2.2 HQ.out.2)
      have HLt := Lib.hid hlt
      have hd1 := hcs1.below HFr.out
      have hd2 := hcs2.below HFr.out
      obtain ⟨bb, hbb⟩ : ∃ bb, bb = samePk x y := ⟨_, rfl⟩
      have HBb := Lib.hid hbb
      have HM := Lib.hid (show ∀ w', Below wr.heap.size wr w' → Calls Tryz.prog 54 #[.agg #[.string x.name, .int .i64 x.ep, .string x.ver, .string x.rel, .int .u8 x.arch, .string x.vendor, .slice xa0 x.prov.length xc0, .slice xa1 (argL x.req).length xc1, .slice xa2 (argL x.con).length xc2, .slice xa3 x.obs.length xc3, .slice xa4 (argL x.reco).length xc4, .slice xa5 (argL x.sup).length xc5, .slice xa6 (argL x.sug).length xc6, .slice xa7 (argL x.enh).length xc7, .slice xa8 x.files.length xc8], .agg #[.string y.name, .int .i64 y.ep, .string y.ver, .string y.rel, .int .u8 y.arch, .string y.vendor, .slice ya0 y.prov.length yc0, .slice ya1 (argL y.req).length yc1, .slice ya2 (argL y.con).length yc2, .slice ya3 y.obs.length yc3, .slice ya4 (argL y.reco).length yc4, .slice ya5 (argL y.sup).length yc5, .slice ya6 (argL y.sug).length yc6, .slice ya7 (argL y.enh).length yc7, .slice ya8 y.files.length yc8]] w' fun e w'' => e = .returned (.bool bb) ∧ Below w'.heap.size w' w'' from fun w' h => by
        rw [hbb]
        exact r10same_any x y ⟨.slice xa0 x.prov.length xc0, .slice xa1 (argL x.req).length xc1, .slice xa2 (argL x.con).length xc2, .slice xa3 x.obs.length xc3, .slice xa4 (argL x.reco).length xc4, .slice xa5 (argL x.sup).length xc5, .slice xa6 (argL x.sug).length xc6, .slice xa7 (argL x.enh).length xc7, .slice xa8 x.files.length xc8⟩ ⟨.slice ya0 y.prov.length yc0, .slice ya1 (argL y.req).length yc1, .slice ya2 (argL y.con).length yc2, .slice ya3 y.obs.length yc3, .slice ya4 (argL y.reco).length yc4, .slice ya5 (argL y.sup).length yc5, .slice ya6 (argL y.sug).length yc6, .slice ya7 (argL y.enh).length yc7, .slice ya8 y.files.length yc8⟩ w' (hi1.keep (below_t' HFr.out h).size fun b _ hb => ⟨(below_t' HFr.out h).block b hb, trivial⟩) (hi2.keep (below_t' HFr.out h).size fun b _ hb => ⟨(below_t' HFr.out h).block b hb, trivial⟩))
      have HDr := Lib.hid (show Below wr.heap.size wr wr.drew from (Below.refl _ wr).drew)
      have x0 : wr.cell? ⟨b1, o1 + k * 15, none⟩ = some (.string x.name) := hd1.2 0 (show 0 < 15 by omega)
      have y0 : wr.cell? ⟨b2, o2 + k * 15, none⟩ = some (.string y.name) := hd2.2 0 (show 0 < 15 by omega)
      have x1 : wr.cell? ⟨b1, o1 + k * 15 + 1, none⟩ = some (.int .i64 x.ep) := hd1.2 1 (show 1 < 15 by omega)
      have y1 : wr.cell? ⟨b2, o2 + k * 15 + 1, none⟩ = some (.int .i64 y.ep) := hd2.2 1 (show 1 < 15 by omega)
      have x2 : wr.cell? ⟨b1, o1 + k * 15 + 2, none⟩ = some (.string x.ver) := hd1.2 2 (show 2 < 15 by omega)
      have y2 : wr.cell? ⟨b2, o2 + k * 15 + 2, none⟩ = some (.string y.ver) := hd2.2 2 (show 2 < 15 by omega)
      have x3 : wr.cell? ⟨b1, o1 + k * 15 + 3, none⟩ = some (.string x.rel) := hd1.2 3 (show 3 < 15 by omega)
      have y3 : wr.cell? ⟨b2, o2 + k * 15 + 3, none⟩ = some (.string y.rel) := hd2.2 3 (show 3 < 15 by omega)
      have x4 : wr.cell? ⟨b1, o1 + k * 15 + 4, none⟩ = some (.int .u8 x.arch) := hd1.2 4 (show 4 < 15 by omega)
      have y4 : wr.cell? ⟨b2, o2 + k * 15 + 4, none⟩ = some (.int .u8 y.arch) := hd2.2 4 (show 4 < 15 by omega)
      have x5 : wr.cell? ⟨b1, o1 + k * 15 + 5, none⟩ = some (.string x.vendor) := hd1.2 5 (show 5 < 15 by omega)
      have y5 : wr.cell? ⟨b2, o2 + k * 15 + 5, none⟩ = some (.string y.vendor) := hd2.2 5 (show 5 < 15 by omega)
      have x6 : wr.cell? ⟨b1, o1 + k * 15 + 6, none⟩ = some (.slice xa0 x.prov.length xc0) := hd1.2 6 (show 6 < 15 by omega)
      have y6 : wr.cell? ⟨b2, o2 + k * 15 + 6, none⟩ = some (.slice ya0 y.prov.length yc0) := hd2.2 6 (show 6 < 15 by omega)
      have x7 : wr.cell? ⟨b1, o1 + k * 15 + 7, none⟩ = some (.slice xa1 (argL x.req).length xc1) := hd1.2 7 (show 7 < 15 by omega)
      have y7 : wr.cell? ⟨b2, o2 + k * 15 + 7, none⟩ = some (.slice ya1 (argL y.req).length yc1) := hd2.2 7 (show 7 < 15 by omega)
      have x8 : wr.cell? ⟨b1, o1 + k * 15 + 8, none⟩ = some (.slice xa2 (argL x.con).length xc2) := hd1.2 8 (show 8 < 15 by omega)
      have y8 : wr.cell? ⟨b2, o2 + k * 15 + 8, none⟩ = some (.slice ya2 (argL y.con).length yc2) := hd2.2 8 (show 8 < 15 by omega)
      have x9 : wr.cell? ⟨b1, o1 + k * 15 + 9, none⟩ = some (.slice xa3 x.obs.length xc3) := hd1.2 9 (show 9 < 15 by omega)
      have y9 : wr.cell? ⟨b2, o2 + k * 15 + 9, none⟩ = some (.slice ya3 y.obs.length yc3) := hd2.2 9 (show 9 < 15 by omega)
      have x10 : wr.cell? ⟨b1, o1 + k * 15 + 10, none⟩ = some (.slice xa4 (argL x.reco).length xc4) := hd1.2 10 (show 10 < 15 by omega)
      have y10 : wr.cell? ⟨b2, o2 + k * 15 + 10, none⟩ = some (.slice ya4 (argL y.reco).length yc4) := hd2.2 10 (show 10 < 15 by omega)
      have x11 : wr.cell? ⟨b1, o1 + k * 15 + 11, none⟩ = some (.slice xa5 (argL x.sup).length xc5) := hd1.2 11 (show 11 < 15 by omega)
      have y11 : wr.cell? ⟨b2, o2 + k * 15 + 11, none⟩ = some (.slice ya5 (argL y.sup).length yc5) := hd2.2 11 (show 11 < 15 by omega)
      have x12 : wr.cell? ⟨b1, o1 + k * 15 + 12, none⟩ = some (.slice xa6 (argL x.sug).length xc6) := hd1.2 12 (show 12 < 15 by omega)
      have y12 : wr.cell? ⟨b2, o2 + k * 15 + 12, none⟩ = some (.slice ya6 (argL y.sug).length yc6) := hd2.2 12 (show 12 < 15 by omega)
      have x13 : wr.cell? ⟨b1, o1 + k * 15 + 13, none⟩ = some (.slice xa7 (argL x.enh).length xc7) := hd1.2 13 (show 13 < 15 by omega)
      have y13 : wr.cell? ⟨b2, o2 + k * 15 + 13, none⟩ = some (.slice ya7 (argL y.enh).length yc7) := hd2.2 13 (show 13 < 15 by omega)
      have x14 : wr.cell? ⟨b1, o1 + k * 15 + 14, none⟩ = some (.slice xa8 x.files.length xc8) := hd1.2 14 (show 14 < 15 by omega)
      have y14 : wr.cell? ⟨b2, o2 + k * 15 + 14, none⟩ = some (.slice ya8 y.files.length yc8) := hd2.2 14 (show 14 < 15 by omega)
      have z0 : wr.cell? ⟨g, 1, none⟩ = some (.slice (some ⟨b1, o1, none⟩) m ci) := (HXb.out.1).cell 1
      have zl0 := (HXb.out.1).lt
      have z1 : wr.cell? ⟨g + 1, 1, none⟩ = some (.slice (some ⟨b2, o2, none⟩) m di) := (HXb.out.2).cell 1
      have zl1 := (HXb.out.2).lt
      have p1 := hd1.1
      have p2 := hd2.1
      clear hcs1 hcs2 hh1 hh2 hd1 hd2 hx hy hbb hi1 hi2
      go_upto_region 6 with fail
      go_still_tail 10, (by kernel_rfl)
      change wpList _ _ _ _ _ wr.drew
      cases bb with
      | true =>
        go_wp2_with (first
          | (go_at_call 54; (with_reducible refine (HM.out _ HDr.out).mono ?_); rintro e w1 ⟨rfl, HBc⟩; have HDr := Lib.hid (below_t' HDr.out HBc); clear HBc)
          | fail)
        have HRw := Lib.hid (show Below W.heap.size W w1 from below_t' HQ.out.2 HDr.out)
        go_roundw
        case rel => exact ⟨k + 1, by have := HLt.out; omega, by go_num, ⟨fun j h1 h2 h3 => by
          by_cases hj : j < k
          · exact HQ.out.1 j h1 h2 hj
          · obtain rfl : j = k := by omega
            obtain ⟨e1, e2⟩ := HXY.out h1 h2
            rw [e1, e2]
            exact HBb.out.symm, HRw.out⟩⟩
        case measure => simp [intOf]; omega
      | false =>
        go_wp2_with (first
          | (go_at_call 54; (with_reducible refine (HM.out _ HDr.out).mono ?_); rintro e w1 ⟨rfl, HBc⟩; have HDr := Lib.hid (below_t' HDr.out HBc); clear HBc)
          | fail)
        have HRx := Lib.hid (show Below w.heap.size w w1 from below_t' HFr.out HDr.out)
        have HT2 := Lib.hid (show T = false by
          rw [HT.out]
          have h1 : k < a.inst.length := by have := HLn.out; have := HLt.out; omega
          have h2 : k < b.inst.length := by have := HLn.out; have := HLt.out; omega
          obtain ⟨e1, e2⟩ := HXY.out h1 h2
          exact sameA_no3 h1 h2 (by rw [e1, e2]; exact HBb.out.symm))
        go_ret
        exact ⟨ret_bool HT2.out.symm, HRx.out⟩
    · obtain rfl : m = k := by omega
      have HI := Lib.hid (show eqL samePk a.inst b.inst = true from (eqL_iff _ _ _).2 ⟨by have := HLn.out; omega, fun j h1 h2 => HQ.out.1 j h1 h2 (by have := HLn.out; omega)⟩)
      have HQ0 := Lib.hid (show Below w.heap.size w wr from below_t' HX.out.2.2 HQ.out.2)
      clear HQ hk
      go_wp2_with fail
      clear e1
      obtain ⟨V, hV⟩ : ∃ V, V = wr := ⟨_, rfl⟩
      rw [← hV] at el HXb HQ0 ⊢
      have HSV := Lib.hid (show Below V.heap.size V wr from hV ▸ Below.refl _ _)
      clear hV
      go_loopw [6] (fun i wr => ∃ k : Nat, k ≤ n ∧ i = .int .i64 k ∧ Hid ((∀ j (h1 : j < a.repos.length) (h2 : j < b.repos.length), j < k → sameO a.repos[j] b.repos[j] = true) ∧ Below V.heap.size V wr)) (fun i wr => n - (intOf i).toNat)
      case atStart => exact ⟨0, by omega, rfl, ⟨fun j _ _ h => absurd h (Nat.not_lt_zero j), Below.refl _ _⟩⟩
      case round =>
        obtain ⟨kk, hk, rfl, HQ⟩ := hrel
        have HXc := Lib.hid (show Blk wr g 55 #[.slice ar n cr, .slice ai m ci] ∧ Blk wr (g + 1) 55 #[.slice br n dr, .slice bi m di] from ⟨HXb.out.1.below HQ.out.2 HXb.out.1.lt, HXb.out.2.below HQ.out.2 HXb.out.2.lt⟩)
        have e0 : wr.cell? ⟨g, 0, none⟩ = some (.slice ar n cr) := HXc.out.1.cell 0
        have e2 : wr.cell? ⟨g + 1, 0, none⟩ = some (.slice br n dr) := HXc.out.2.cell 0
        have el : g < wr.heap.size := HXc.out.1.lt
        have el' : g + 1 < wr.heap.size := HXc.out.2.lt
        have HFr := Lib.hid (show Below w.heap.size w wr from below_t' HQ0.out HQ.out.2)
        by_cases hlt : kk < n
        · have hki : (kk : Int) < (n : Int) := by omega
          obtain ⟨B1, O1, r1, ha1, _, hcs1, hh1⟩ := HAr.out.at_ kk (by have := HLn.out; omega)
          obtain ⟨B2, O2, r2, ha2, _, hcs2, hh2⟩ := HBr.out.at_ kk (by have := HLn.out; omega)
          obtain ⟨rx, hx⟩ : ∃ x, x = a.repos[kk]'(by have := HLn.out; omega) := ⟨_, rfl⟩
          obtain ⟨ry, hy⟩ : ∃ y, y = b.repos[kk]'(by have := HLn.out; omega) := ⟨_, rfl⟩
          rw [← hx] at hcs1 hh1
          rw [← hy] at hcs2 hh2
          have HXY := Lib.hid (show ∀ (h1 : kk < a.repos.length) (h2 : kk < b.repos.length), a.repos[kk] = rx ∧ b.repos[kk] = ry from fun _ _ => ⟨hx.symm, hy.symm⟩)
          subst ha1 ha2
          dsimp only [repoK] at hcs1 hcs2 hh1 hh2 r1 r2
          obtain ⟨xa, xc, rfl⟩ := hh1.2.form
          obtain ⟨ya, yc, rfl⟩ := hh2.2.form
          have hp1 := hh1.2
          have hp2 := hh2.2
          have hq1 := hh1.2.bound
          have hd1 := hcs1.below HFr.out
          have hd2 := hcs2.below HFr.out
          have x0 : wr.cell? ⟨B1, O1 + kk * 2, none⟩ = some (.int .i64 rx.prio) := hd1.2 0 (show 0 < 2 by omega)
          have x1 : wr.cell? ⟨B1, O1 + kk * 2 + 1, none⟩ = some (.slice xa rx.pkgs.length xc) := hd1.2 1 (show 1 < 2 by omega)
          have y0 : wr.cell? ⟨B2, O2 + kk * 2, none⟩ = some (.int .i64 ry.prio) := hd2.2 0 (show 0 < 2 by omega)
          have y1 : wr.cell? ⟨B2, O2 + kk * 2 + 1, none⟩ = some (.slice ya ry.pkgs.length yc) := hd2.2 1 (show 1 < 2 by omega)
          have p1 := hd1.1
          have p2 := hd2.1
          have HLk := Lib.hid hlt
          clear hcs1 hcs2 hh1 hh2 hd1 hd2 hx hy
          by_cases hpr : rx.prio = ry.prio
          · by_cases hl : rx.pkgs.length = ry.pkgs.length
            · obtain ⟨q, hq⟩ : ∃ q, q = rx.pkgs.length := ⟨_, rfl⟩
              have HLq := Lib.hid (show rx.pkgs.length = q ∧ ry.pkgs.length = q ∧ rx.prio = ry.prio from ⟨hq.symm, by omega, hpr⟩)
              have HP1 := Lib.hid hp1
              have HP2 := Lib.hid hp2
              rw [← hq] at x1 hq1
              rw [← hl, ← hq] at y1
              rw [← hpr] at y0
              clear hp1 hp2 hl hq hpr
              obtain ⟨pr, hpr⟩ : ∃ pr, pr = rx.prio := ⟨_, rfl⟩
              rw [← hpr] at x0 y0
              have HPr := Lib.hid hpr
              clear hpr
              go_upto_region 11 with fail
              go_cut [7, 8] from 45 to 94 (fun s7 s8 wx => ∃ g7 g8 : Nat, s7 = .pointer (some ⟨g7, 0, none⟩) ∧ s8 = .pointer (some ⟨g8, 0, none⟩) ∧ Hid (Blk wx g7 38 #[.int .i64 pr, .slice xa q xc] ∧ Blk wx g8 38 #[.int .i64 pr, .slice ya q yc] ∧ Below wr.heap.size wr wx))
              case first =>
                go_region
                all_goals
                  go_wp2_with fail
                  go_meet
                  case rel => first | exact ⟨_, _, rfl, rfl, two_new _ _ _ _⟩ | exact ⟨_, _, rfl, rfl, two_new' _ _ _ _⟩
              case rest =>
                obtain ⟨g7, g8, rfl, rfl, HZ⟩ := hcut
                have z0 : wc.cell? ⟨g7, 0, none⟩ = some (.int .i64 pr) := HZ.out.1.cell 0
                have z1 : wc.cell? ⟨g7, 1, none⟩ = some (.slice xa q xc) := HZ.out.1.cell 1
                have z2 : wc.cell? ⟨g8, 0, none⟩ = some (.int .i64 pr) := HZ.out.2.1.cell 0
                have z3 : wc.cell? ⟨g8, 1, none⟩ = some (.slice ya q yc) := HZ.out.2.1.cell 1
                have zl := HZ.out.1.lt
                have zl' := HZ.out.2.1.lt
                have HFc := Lib.hid (show Below w.heap.size w wc from below_t' HFr.out HZ.out.2.2)
                have HVc := Lib.hid (show Below V.heap.size V wc from below_t' HQ.out.2 HZ.out.2.2)
                have HQk := Lib.hid HQ.out.1
                clear x0 x1 y0 y1 p1 p2 e0 e2 el el' HQ
                go_wp2_with fail
                go_loopw [9] (fun i wr => ∃ k : Nat, k ≤ q ∧ i = .int .i64 k ∧ Hid ((∀ j (h1 : j < rx.pkgs.length) (h2 : j < ry.pkgs.length), j < k → samePk rx.pkgs[j] ry.pkgs[j] = true) ∧ Below wc.heap.size wc wr)) (fun i wr => q - (intOf i).toNat)
                case atStart => exact ⟨0, by omega, rfl, ⟨fun j _ _ h => absurd h (Nat.not_lt_zero j), Below.refl _ _⟩⟩
                case round =>
                  obtain ⟨k, hkq, rfl, HQ⟩ := hrel
                  have HXd := Lib.hid (show Blk wr g7 38 #[.int .i64 pr, .slice xa q xc] ∧ Blk wr g8 38 #[.int .i64 pr, .slice ya q yc] from ⟨HZ.out.1.below HQ.out.2 HZ.out.1.lt, HZ.out.2.1.below HQ.out.2 HZ.out.2.1.lt⟩)
                  have e1 : wr.cell? ⟨g7, 1, none⟩ = some (.slice xa q xc) := HXd.out.1.cell 1
                  have el : g7 < wr.heap.size := HXd.out.1.lt
                  by_cases hlt : k < q
                  · have hki : (k : Int) < (q : Int) := by omega
                    have HXYo := Lib.hid HXY.out
                    have HPq1 := Lib.hid (show LIn pkgK anyB w rx.pkgs (.slice xa rx.pkgs.length xc) from HP1.out)
                    have HPq2 := Lib.hid (show LIn pkgK anyB w ry.pkgs (.slice ya ry.pkgs.length yc) from HP2.out)
                    obtain ⟨b1, o1, r1, ha1, _, hcs1, hh1⟩ := HPq1.out.at_ k (by have := HLq.out; omega)
                    obtain ⟨b2, o2, r2, ha2, _, hcs2, hh2⟩ := HPq2.out.at_ k (by have := HLq.out; omega)
                    obtain ⟨x, hx⟩ : ∃ x, x = rx.pkgs[k]'(by have := HLq.out; omega) := ⟨_, rfl⟩
                    obtain ⟨y, hy⟩ : ∃ y, y = ry.pkgs[k]'(by have := HLq.out; omega) := ⟨_, rfl⟩
                    rw [← hx] at hcs1 hh1
                    rw [← hy] at hcs2 hh2
                    have HXY := Lib.hid (show ∀ (h1 : k < rx.pkgs.length) (h2 : k < ry.pkgs.length), rx.pkgs[k] = x ∧ ry.pkgs[k] = y from fun _ _ => ⟨hx.symm, hy.symm⟩)
                    subst ha1 ha2
                    dsimp only [pkgK] at hcs1 hcs2 r1 r2
                    rcases r1 with ⟨u0, u1, u2, u3, u4, u5, u6, u7, u8⟩
                    rcases r2 with ⟨v0, v1, v2, v3, v4, v5, v6, v7, v8⟩
                    have hi1 : PkgIn anyB w x ⟨u0, u1, u2, u3, u4, u5, u6, u7, u8⟩ := hh1
                    have hi2 : PkgIn anyB w y ⟨v0, v1, v2, v3, v4, v5, v6, v7, v8⟩ := hh2
                    obtain ⟨xa0, xc0, (rfl : u0 = _)⟩ := hi1.prov.form
                    obtain ⟨ya0, yc0, (rfl : v0 = _)⟩ := hi2.prov.form
                    obtain ⟨xa1, xc1, (rfl : u1 = _)⟩ := hi1.req.form
                    obtain ⟨ya1, yc1, (rfl : v1 = _)⟩ := hi2.req.form
                    obtain ⟨xa2, xc2, (rfl : u2 = _)⟩ := hi1.con.form
                    obtain ⟨ya2, yc2, (rfl : v2 = _)⟩ := hi2.con.form
                    obtain ⟨xa3, xc3, (rfl : u3 = _)⟩ := hi1.obs.form
                    obtain ⟨ya3, yc3, (rfl : v3 = _)⟩ := hi2.obs.form
                    obtain ⟨xa4, xc4, (rfl : u4 = _)⟩ := hi1.reco.form
                    obtain ⟨ya4, yc4, (rfl : v4 = _)⟩ := hi2.reco.form
                    obtain ⟨xa5, xc5, (rfl : u5 = _)⟩ := hi1.sup.form
                    obtain ⟨ya5, yc5, (rfl : v5 = _)⟩ := hi2.sup.form
                    obtain ⟨xa6, xc6, (rfl : u6 = _)⟩ := hi1.sug.form
                    obtain ⟨ya6, yc6, (rfl : v6 = _)⟩ := hi2.sug.form
                    obtain ⟨xa7, xc7, (rfl : u7 = _)⟩ := hi1.enh.form
                    obtain ⟨ya7, yc7, (rfl : v7 = _)⟩ := hi2.enh.form
                    obtain ⟨xa8, xc8, (rfl : u8 = _)⟩ := hi1.files.form
                    obtain ⟨ya8, yc8, (rfl : v8 = _)⟩ := hi2.files.form
                    have HFr := Lib.hid (show Below w.heap.size w wr from below_t' HFc.out HQ.out.2)
                    have HLt := Lib.hid hlt
                    have hd1 := hcs1.below HFr.out
                    have hd2 := hcs2.below HFr.out
                    obtain ⟨bb, hbb⟩ : ∃ bb, bb = samePk x y := ⟨_, rfl⟩
                    have HBb := Lib.hid hbb
                    have HM := Lib.hid (show ∀ w', Below wr.heap.size wr w' → Calls Tryz.prog 54 #[.agg #[.string x.name, .int .i64 x.ep, .string x.ver, .string x.rel, .int .u8 x.arch, .string x.vendor, .slice xa0 x.prov.length xc0, .slice xa1 (argL x.req).length xc1, .slice xa2 (argL x.con).length xc2, .slice xa3 x.obs.length xc3, .slice xa4 (argL x.reco).length xc4, .slice xa5 (argL x.sup).length xc5, .slice xa6 (argL x.sug).length xc6, .slice xa7 (argL x.enh).length xc7, .slice xa8 x.files.length xc8], .agg #[.string y.name, .int .i64 y.ep, .string y.ver, .string y.rel, .int .u8 y.arch, .string y.vendor, .slice ya0 y.prov.length yc0, .slice ya1 (argL y.req).length yc1, .slice ya2 (argL y.con).length yc2, .slice ya3 y.obs.length yc3, .slice ya4 (argL y.reco).length yc4, .slice ya5 (argL y.sup).length yc5, .slice ya6 (argL y.sug).length yc6, .slice ya7 (argL y.enh).length yc7, .slice ya8 y.files.length yc8]] w' fun e w'' => e = .returned (.bool bb) ∧ Below w'.heap.size w' w'' from fun w' h => by
                      rw [hbb]
                      exact r10same_any x y ⟨.slice xa0 x.prov.length xc0, .slice xa1 (argL x.req).length xc1, .slice xa2 (argL x.con).length xc2, .slice xa3 x.obs.length xc3, .slice xa4 (argL x.reco).length xc4, .slice xa5 (argL x.sup).length xc5, .slice xa6 (argL x.sug).length xc6, .slice xa7 (argL x.enh).length xc7, .slice xa8 x.files.length xc8⟩ ⟨.slice ya0 y.prov.length yc0, .slice ya1 (argL y.req).length yc1, .slice ya2 (argL y.con).length yc2, .slice ya3 y.obs.length yc3, .slice ya4 (argL y.reco).length yc4, .slice ya5 (argL y.sup).length yc5, .slice ya6 (argL y.sug).length yc6, .slice ya7 (argL y.enh).length yc7, .slice ya8 y.files.length yc8⟩ w' (hi1.keep (below_t' HFr.out h).size fun b _ hb => ⟨(below_t' HFr.out h).block b hb, trivial⟩) (hi2.keep (below_t' HFr.out h).size fun b _ hb => ⟨(below_t' HFr.out h).block b hb, trivial⟩))
                    have HDr := Lib.hid (show Below wr.heap.size wr wr.drew from (Below.refl _ wr).drew)
                    have x0 : wr.cell? ⟨b1, o1 + k * 15, none⟩ = some (.string x.name) := hd1.2 0 (show 0 < 15 by omega)
                    have y0 : wr.cell? ⟨b2, o2 + k * 15, none⟩ = some (.string y.name) := hd2.2 0 (show 0 < 15 by omega)
                    have x1 : wr.cell? ⟨b1, o1 + k * 15 + 1, none⟩ = some (.int .i64 x.ep) := hd1.2 1 (show 1 < 15 by omega)
                    have y1 : wr.cell? ⟨b2, o2 + k * 15 + 1, none⟩ = some (.int .i64 y.ep) := hd2.2 1 (show 1 < 15 by omega)
                    have x2 : wr.cell? ⟨b1, o1 + k * 15 + 2, none⟩ = some (.string x.ver) := hd1.2 2 (show 2 < 15 by omega)
                    have y2 : wr.cell? ⟨b2, o2 + k * 15 + 2, none⟩ = some (.string y.ver) := hd2.2 2 (show 2 < 15 by omega)
                    have x3 : wr.cell? ⟨b1, o1 + k * 15 + 3, none⟩ = some (.string x.rel) := hd1.2 3 (show 3 < 15 by omega)
                    have y3 : wr.cell? ⟨b2, o2 + k * 15 + 3, none⟩ = some (.string y.rel) := hd2.2 3 (show 3 < 15 by omega)
                    have x4 : wr.cell? ⟨b1, o1 + k * 15 + 4, none⟩ = some (.int .u8 x.arch) := hd1.2 4 (show 4 < 15 by omega)
                    have y4 : wr.cell? ⟨b2, o2 + k * 15 + 4, none⟩ = some (.int .u8 y.arch) := hd2.2 4 (show 4 < 15 by omega)
                    have x5 : wr.cell? ⟨b1, o1 + k * 15 + 5, none⟩ = some (.string x.vendor) := hd1.2 5 (show 5 < 15 by omega)
                    have y5 : wr.cell? ⟨b2, o2 + k * 15 + 5, none⟩ = some (.string y.vendor) := hd2.2 5 (show 5 < 15 by omega)
                    have x6 : wr.cell? ⟨b1, o1 + k * 15 + 6, none⟩ = some (.slice xa0 x.prov.length xc0) := hd1.2 6 (show 6 < 15 by omega)
                    have y6 : wr.cell? ⟨b2, o2 + k * 15 + 6, none⟩ = some (.slice ya0 y.prov.length yc0) := hd2.2 6 (show 6 < 15 by omega)
                    have x7 : wr.cell? ⟨b1, o1 + k * 15 + 7, none⟩ = some (.slice xa1 (argL x.req).length xc1) := hd1.2 7 (show 7 < 15 by omega)
                    have y7 : wr.cell? ⟨b2, o2 + k * 15 + 7, none⟩ = some (.slice ya1 (argL y.req).length yc1) := hd2.2 7 (show 7 < 15 by omega)
                    have x8 : wr.cell? ⟨b1, o1 + k * 15 + 8, none⟩ = some (.slice xa2 (argL x.con).length xc2) := hd1.2 8 (show 8 < 15 by omega)
                    have y8 : wr.cell? ⟨b2, o2 + k * 15 + 8, none⟩ = some (.slice ya2 (argL y.con).length yc2) := hd2.2 8 (show 8 < 15 by omega)
                    have x9 : wr.cell? ⟨b1, o1 + k * 15 + 9, none⟩ = some (.slice xa3 x.obs.length xc3) := hd1.2 9 (show 9 < 15 by omega)
                    have y9 : wr.cell? ⟨b2, o2 + k * 15 + 9, none⟩ = some (.slice ya3 y.obs.length yc3) := hd2.2 9 (show 9 < 15 by omega)
                    have x10 : wr.cell? ⟨b1, o1 + k * 15 + 10, none⟩ = some (.slice xa4 (argL x.reco).length xc4) := hd1.2 10 (show 10 < 15 by omega)
                    have y10 : wr.cell? ⟨b2, o2 + k * 15 + 10, none⟩ = some (.slice ya4 (argL y.reco).length yc4) := hd2.2 10 (show 10 < 15 by omega)
                    have x11 : wr.cell? ⟨b1, o1 + k * 15 + 11, none⟩ = some (.slice xa5 (argL x.sup).length xc5) := hd1.2 11 (show 11 < 15 by omega)
                    have y11 : wr.cell? ⟨b2, o2 + k * 15 + 11, none⟩ = some (.slice ya5 (argL y.sup).length yc5) := hd2.2 11 (show 11 < 15 by omega)
                    have x12 : wr.cell? ⟨b1, o1 + k * 15 + 12, none⟩ = some (.slice xa6 (argL x.sug).length xc6) := hd1.2 12 (show 12 < 15 by omega)
                    have y12 : wr.cell? ⟨b2, o2 + k * 15 + 12, none⟩ = some (.slice ya6 (argL y.sug).length yc6) := hd2.2 12 (show 12 < 15 by omega)
                    have x13 : wr.cell? ⟨b1, o1 + k * 15 + 13, none⟩ = some (.slice xa7 (argL x.enh).length xc7) := hd1.2 13 (show 13 < 15 by omega)
                    have y13 : wr.cell? ⟨b2, o2 + k * 15 + 13, none⟩ = some (.slice ya7 (argL y.enh).length yc7) := hd2.2 13 (show 13 < 15 by omega)
                    have x14 : wr.cell? ⟨b1, o1 + k * 15 + 14, none⟩ = some (.slice xa8 x.files.length xc8) := hd1.2 14 (show 14 < 15 by omega)
                    have y14 : wr.cell? ⟨b2, o2 + k * 15 + 14, none⟩ = some (.slice ya8 y.files.length yc8) := hd2.2 14 (show 14 < 15 by omega)
                    have z0 : wr.cell? ⟨g7, 1, none⟩ = some (.slice (some ⟨b1, o1, none⟩) q xc) := (HXd.out.1).cell 1
                    have zl0 := (HXd.out.1).lt
                    have z1 : wr.cell? ⟨g8, 1, none⟩ = some (.slice (some ⟨b2, o2, none⟩) q yc) := (HXd.out.2).cell 1
                    have zl1 := (HXd.out.2).lt
                    have p1 := hd1.1
                    have p2 := hd2.1
                    clear hcs1 hcs2 hh1 hh2 hd1 hd2 hx hy hbb hi1 hi2
                    go_upto_region 17 with fail
                    go_still_tail 10, (by kernel_rfl)
                    change wpList _ _ _ _ _ wr.drew
                    cases bb with
                    | true =>
                      go_wp2_with (first
                        | (go_at_call 54; (with_reducible refine (HM.out _ HDr.out).mono ?_); rintro e w1 ⟨rfl, HBc⟩; have HDr := Lib.hid (below_t' HDr.out HBc); clear HBc)
                        | fail)
                      have HRw := Lib.hid (show Below wc.heap.size wc w1 from below_t' HQ.out.2 HDr.out)
                      go_roundw
                      case rel => exact ⟨k + 1, by have := HLt.out; omega, by go_num, ⟨fun j h1 h2 h3 => by
                        by_cases hj : j < k
                        · exact HQ.out.1 j h1 h2 hj
                        · obtain rfl : j = k := by omega
                          obtain ⟨e1, e2⟩ := HXY.out h1 h2
                          rw [e1, e2]
                          exact HBb.out.symm, HRw.out⟩⟩
                      case measure => simp [intOf]; omega
                    | false =>
                      go_wp2_with (first
                        | (go_at_call 54; (with_reducible refine (HM.out _ HDr.out).mono ?_); rintro e w1 ⟨rfl, HBc⟩; have HDr := Lib.hid (below_t' HDr.out HBc); clear HBc)
                        | fail)
                      have HRx := Lib.hid (show Below w.heap.size w w1 from below_t' HFr.out HDr.out)
                      have HT2 := Lib.hid (show T = false by
                        rw [HT.out]
                        have h1 : kk < a.repos.length := by have := HLn.out; have := HLk.out; omega
                        have h2 : kk < b.repos.length := by have := HLn.out; have := HLk.out; omega
                        obtain ⟨e1, e2⟩ := HXYo.out h1 h2
                        refine sameA_no4 h1 h2 ?_
                        rw [e1, e2]
                        have h3 : k < rx.pkgs.length := by have := HLq.out; have := HLt.out; omega
                        have h4 : k < ry.pkgs.length := by have := HLq.out; have := HLt.out; omega
                        obtain ⟨e3, e4⟩ := HXY.out h3 h4
                        unfold sameO
                        rw [eqL_no h3 h4 (by rw [e3, e4]; exact HBb.out.symm), Bool.and_false])
                      go_ret
                      exact ⟨ret_bool HT2.out.symm, HRx.out⟩
                  · obtain rfl : q = k := by omega
                    have HE := Lib.hid (show sameO rx ry = true from by
                      unfold sameO
                      rw [(eqL_iff _ _ _).2 ⟨by have := HLq.out; omega, fun j h1 h2 => HQ.out.1 j h1 h2 (by have := HLq.out; omega)⟩, HLq.out.2.2]
                      simp)
                    have HVw := Lib.hid (show Below V.heap.size V wr from below_t' HVc.out HQ.out.2)
                    clear HQ
                    go_wp2_with fail
                    go_roundw
                    case rel => exact ⟨kk + 1, by have := HLk.out; omega, by go_num, ⟨fun j h1 h2 h3 => by
                      by_cases hj : j < kk
                      · exact HQk.out j h1 h2 hj
                      · obtain rfl : j = kk := by omega
                        obtain ⟨e1, e2⟩ := HXY.out h1 h2
                        rw [e1, e2]
                        exact HE.out, HVw.out⟩⟩
                    case measure => have := HLk.out; simp [intOf]; omega
            · have hl2 : ¬ (rx.pkgs.length : Int) = (ry.pkgs.length : Int) := by omega
              have HT2 := Lib.hid (show T = false by
                rw [HT.out]
                have h1 : kk < a.repos.length := by have := HLn.out; have := HLk.out; omega
                have h2 : kk < b.repos.length := by have := HLn.out; have := HLk.out; omega
                obtain ⟨e1, e2⟩ := HXY.out h1 h2
                exact sameA_no4 h1 h2 (by rw [e1, e2]; unfold sameO; rw [eqL_len hl, Bool.and_false]))
              clear hp1 hp2
              go_upto_region 11 with fail
              go_region
              all_goals go_wp2_with fail
              all_goals go_ret
              all_goals exact ⟨ret_bool HT2.out.symm, below_t' HFr.out (two_new _ _ _ _).out.2.2⟩
          · have HPn := Lib.hid hpr
            have HT2 := Lib.hid (show T = false by
              rw [HT.out]
              have h1 : kk < a.repos.length := by have := HLn.out; have := HLk.out; omega
              have h2 : kk < b.repos.length := by have := HLn.out; have := HLk.out; omega
              obtain ⟨e1, e2⟩ := HXY.out h1 h2
              exact sameA_no4 h1 h2 (by rw [e1, e2]; unfold sameO; rw [decide_eq_false hpr, Bool.false_and]))
            clear hp1 hp2
            go_upto_region 11 with fail
            go_region
            all_goals go_wp2_with fail
            all_goals go_ret
            all_goals exact ⟨ret_bool HT2.out.symm, below_t' HFr.out (two_new _ _ _ _).out.2.2⟩
        · obtain rfl : n = kk := by omega
          have HT2 := Lib.hid (show T = true by rw [HT.out]; exact sameA_yes HI.out ((eqL_iff _ _ _).2 ⟨by have := HLn.out; omega, fun j h1 h2 => HQ.out.1 j h1 h2 (by have := HLn.out; omega)⟩))
          go_wp2_with fail
          go_ret
          exact ⟨ret_bool HT2.out.symm, HFr.out⟩
set_option maxHeartbeats 4000000 in
theorem r11same_len (a b : DataD) (hl : a.repos.length = b.repos.length → ¬ a.inst.length = b.inst.length) (ar ai br bi : Option Addr) (cr ci dr di : Nat) (w : World) :
    Calls Tryz.prog 24 #[.agg #[.slice ar a.repos.length cr, .slice ai a.inst.length ci], .agg #[.slice br b.repos.length dr, .slice bi b.inst.length di]] w fun e w' => e = .returned (.bool (sameA a b)) ∧ Below w.heap.size w w' := by
  have HB := Lib.hid (below_t' (new_b w (.cells #[.slice ar a.repos.length cr, .slice ai a.inst.length ci] 55)) (new_b (w.alloc (.cells #[.slice ar a.repos.length cr, .slice ai a.inst.length ci] 55)) (.cells #[.slice br b.repos.length dr, .slice bi b.inst.length di] 55)))
  obtain ⟨T, hT⟩ : ∃ T, T = sameA a b := ⟨_, rfl⟩
  rw [← hT]
  by_cases h1 : a.repos.length = b.repos.length
  · have h2 := hl h1
    have HT2 := Lib.hid (show T = false by rw [hT]; exact sameA_no2 h2)
    have h3 : ¬ (a.inst.length : Int) = (b.inst.length : Int) := by omega
    clear hT hl h2
    rw [h1] at HB ⊢
    clear h1
    go_enter Tryz.func24, Tryz.ntmps24
    go_wp2_with fail
    go_ret
    exact ⟨ret_bool HT2.out.symm, HB.out⟩
  · have HT2 := Lib.hid (show T = false by rw [hT]; exact sameA_no1 h1)
    have h3 : ¬ (a.repos.length : Int) = (b.repos.length : Int) := by omega
    clear hT hl h1
    go_enter Tryz.func24, Tryz.ntmps24
    go_wp2_with fail
    go_ret
    exact ⟨ret_bool HT2.out.symm, HB.out⟩
theorem r11same_any (a b : DataD) (vr vi ur ui : Value) (w : World) (ha : DataIn anyB w a vr vi) (hb : DataIn anyB w b ur ui) :
    Calls Tryz.prog 24 #[.agg #[vr, vi], .agg #[ur, ui]] w fun e w' => e = .returned (.bool (sameA a b)) ∧ Below w.heap.size w w' := by
  obtain ⟨ar, cr, rfl⟩ := ha.repos.form
  obtain ⟨ai, ci, rfl⟩ := ha.inst.form
  obtain ⟨br, dr, rfl⟩ := hb.repos.form
  obtain ⟨bi, di, rfl⟩ := hb.inst.form
  by_cases h1 : a.repos.length = b.repos.length
  · by_cases h2 : a.inst.length = b.inst.length
    · rw [← h1, ← h2] at hb ⊢
      exact r11same_main a b _ _ rfl h1.symm rfl h2.symm ar ai br bi cr ci dr di w ha hb
    · exact r11same_len a b (fun _ => h2) ar ai br bi cr ci dr di w
  · exact r11same_len a b (fun h => absurd h h1) ar ai br bi cr ci dr di w
end Go.Proofs.YtdpjjnbelgaagaaGreatDoor
