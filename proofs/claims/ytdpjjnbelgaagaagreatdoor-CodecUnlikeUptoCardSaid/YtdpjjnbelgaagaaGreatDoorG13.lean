/- The document's Same of data. Conditions: as each theorem names them. -/
import Derived.Test.YtdpjjnbelgaagaaGreatDoorG12
import Derived.StillTailTactics
import Derived.Deep.CutRange
import Derived.Test.YtdpjjnbelgaagaaGreatDoorG09
import Derived.Test.YtdpjjnbelgaagaaGreatDoorG04
import Derived.Test.YtdpjjnbelgaagaaGreatDoorG07
import Derived.KernelRfl
import Derived.Laws.Concat
import Derived.WalkKit
import Derived.ProofKit
import Derived.OpenShut
import Derived.ShutString
import Derived.SizedLaws
namespace Go.Proofs.YtdpjjnbelgaagaaGreatDoor
open Go.ChangeShapes Go.WideShapes Go.ChangeAt Go.RowKit Go.Deep
set_option maxRecDepth 100000

def sameO (x y : RepoD) : Bool := decide (x.prio = y.prio) && eqL samePk x.pkgs y.pkgs
def sameA (a b : DataD) : Bool := eqL samePk a.inst b.inst && eqL sameO a.repos b.repos
theorem sameA_no1 {a b : DataD} (h : ¬ a.repos.length = b.repos.length) : sameA a b = false := by unfold sameA; rw [eqL_len h, Bool.and_false]
theorem sameA_no2 {a b : DataD} (h : ¬ a.inst.length = b.inst.length) : sameA a b = false := by unfold sameA; rw [eqL_len h, Bool.false_and]
theorem sameA_no3 {a b : DataD} {j : Nat} (h1 : j < a.inst.length) (h2 : j < b.inst.length) (h : samePk a.inst[j] b.inst[j] = false) : sameA a b = false := by unfold sameA; rw [eqL_no h1 h2 h, Bool.false_and]
theorem sameA_no4 {a b : DataD} {j : Nat} (h1 : j < a.repos.length) (h2 : j < b.repos.length) (h : sameO a.repos[j] b.repos[j] = false) : sameA a b = false := by unfold sameA; rw [eqL_no h1 h2 h, Bool.and_false]
theorem sameA_yes {a b : DataD} (h1 : eqL samePk a.inst b.inst = true) (h2 : eqL sameO a.repos b.repos = true) : sameA a b = true := by unfold sameA; rw [h1, h2]; rfl
theorem DataIn.bl {w w' : World} {d : DataD} {vr vi : Value} (h : DataIn anyB w d vr vi) (hB : Below w.heap.size w w') : DataIn anyB w' d vr vi := h.keep hB.size fun b _ hb => ⟨hB.block b hb, trivial⟩
theorem PkgIn.bl {w w' : World} {d : PkgD} {r : PkgR} (h : PkgIn anyB w d r) (hB : Below w.heap.size w w') : PkgIn anyB w' d r := h.keep hB.size fun b _ hb => ⟨hB.block b hb, trivial⟩
theorem two_new (w : World) (t : TypeId) (A B : Array Value) : Hid (Blk ((w.alloc (.cells A t)).alloc (.cells B t)).drew w.heap.size t A ∧ Blk ((w.alloc (.cells A t)).alloc (.cells B t)).drew (w.heap.size + 1) t B ∧ Below w.heap.size w ((w.alloc (.cells A t)).alloc (.cells B t)).drew) := by
  have hb1 := new_b w (.cells A t)
  have hb2 := new_b (w.alloc (.cells A t)) (.cells B t)
  have hx1 := Blk.new w t A
  have hx2 := Blk.new (w.alloc (.cells A t)) t B
  rw [World.size_alloc] at hx2
  have hd := (Below.refl ((w.alloc (.cells A t)).alloc (.cells B t)).heap.size ((w.alloc (.cells A t)).alloc (.cells B t))).drew
  have hy1 := hx1.below hb2 hx1.lt
  exact ⟨hy1.below hd hy1.lt, hx2.below hd hx2.lt, (below_t' hb1 hb2).drew⟩
theorem two_new' (w : World) (t : TypeId) (A B : Array Value) : Hid (Blk ((w.alloc (.cells A t)).alloc (.cells B t)).drew (w.heap.size + 1) t B ∧ Blk ((w.alloc (.cells A t)).alloc (.cells B t)).drew w.heap.size t A ∧ Below w.heap.size w ((w.alloc (.cells A t)).alloc (.cells B t)).drew) :=
  ⟨(two_new w t A B).out.2.1, (two_new w t A B).out.1, (two_new w t A B).out.2.2⟩
set_option maxHeartbeats 16000000 in
theorem r11same_main (a b : DataD) (n m : Nat) (hn1 : a.repos.length = n) (hn2 : b.repos.length = n) (hm1 : a.inst.length = m) (hm2 : b.inst.length = m) (ar ai br bi : Option Addr) (cr ci dr di : Nat) (w : World)
    (ha : DataIn anyB w a (.slice ar n cr) (.slice ai m ci)) (hb : DataIn anyB w b (.slice br n dr) (.slice bi m di)) :
    Calls Tryz.prog 24 #[.agg #[.slice ar n cr, .slice ai m ci], .agg #[.slice br n dr, .slice bi m di]] w fun e w' => e = .returned (.bool (sameA a b)) ∧ Below w.heap.size w w' := by
  have HAr := Lib.hid (show LIn repoK anyB w a.repos (.slice ar a.repos.length cr) from hn1 ▸ ha.repos)
  have HBr := Lib.hid (show LIn repoK anyB w b.repos (.slice br b.repos.length dr) from hn2 ▸ hb.repos)
  have HAi := Lib.hid (show LIn pkgK anyB w a.inst (.slice ai a.inst.length ci) from hm1 ▸ ha.inst)
  have HBi := Lib.hid (show LIn pkgK anyB w b.inst (.slice bi b.inst.length di) from hm2 ▸ hb.inst)
  have hnb : n ≤ 4611686018427387904 := by have := HAr.out.bound; omega
  have hmb : m ≤ 4611686018427387904 := by have := HAi.out.bound; omega
  have HLn := Lib.hid (show a.repos.length = n ∧ b.repos.length = n ∧ a.inst.length = m ∧ b.inst.length = m from ⟨hn1, hn2, hm1, hm2⟩)
  clear ha hb hn1 hn2 hm1 hm2
  obtain ⟨T, hT⟩ : ∃ T, T = sameA a b := ⟨_, rfl⟩
  rw [← hT]
  have HT := Lib.hid hT
  clear hT
  obtain ⟨g, hg⟩ : ∃ g, g = w.heap.size := ⟨_, rfl⟩
  obtain ⟨W, hW⟩ : ∃ W, W = (w.alloc (.cells #[.slice ar n cr, .slice ai m ci] 55)).alloc (.cells #[.slice br n dr, .slice bi m di] 55) := ⟨_, rfl⟩
  have HX := Lib.hid (show Blk W g 55 #[.slice ar n cr, .slice ai m ci] ∧ Blk W (g + 1) 55 #[.slice br n dr, .slice bi m di] ∧ Below w.heap.size w W from by
    have hb1 := new_b w (.cells #[.slice ar n cr, .slice ai m ci] 55)
    have hb2 := new_b (w.alloc (.cells #[.slice ar n cr, .slice ai m ci] 55)) (.cells #[.slice br n dr, .slice bi m di] 55)
    have hx1 := Blk.new w 55 #[.slice ar n cr, .slice ai m ci]
    have hx2 := Blk.new (w.alloc (.cells #[.slice ar n cr, .slice ai m ci] 55)) 55 #[.slice br n dr, .slice bi m di]
    rw [World.size_alloc] at hx2
    rw [hW, hg]
    exact ⟨hx1.below hb2 hx1.lt, hx2, below_t' hb1 hb2⟩)
  have d0 : W.cell? ⟨g, 0, none⟩ = some (.slice ar n cr) := HX.out.1.cell 0
  have d1 : W.cell? ⟨g, 1, none⟩ = some (.slice ai m ci) := HX.out.1.cell 1
  have d2 : W.cell? ⟨g + 1, 0, none⟩ = some (.slice br n dr) := HX.out.2.1.cell 0
  have d3 : W.cell? ⟨g + 1, 1, none⟩ = some (.slice bi m di) := HX.out.2.1.cell 1
  have dl : g < W.heap.size := HX.out.1.lt
  have dl' : g + 1 < W.heap.size := HX.out.2.1.lt
  have HS0 := Lib.hid (show Below W.heap.size W ((w.alloc (.cells #[.slice ar n cr, .slice ai m ci] 55)).alloc (.cells #[.slice br n dr, .slice bi m di] 55)) from hW ▸ Below.refl _ _)
  go_enter Tryz.func24, Tryz.ntmps24
  go_upto_region 1 with fail
  rw [← hg, ← hW]
  have HG := Lib.hid hg
  clear hW hg HS0
  go_wp2_with fail
  go_loopw [5] (fun i wr => ∃ k : Nat, k ≤ m ∧ i = .int .i64 k ∧ Hid ((∀ j (h1 : j < a.inst.length) (h2 : j < b.inst.length), j < k → samePk a.inst[j] b.inst[j] = true) ∧ Below W.heap.size W wr)) (fun i wr => m - (intOf i).toNat)
  case atStart => exact ⟨0, by omega, rfl, ⟨fun j _ _ h => absurd h (Nat.not_lt_zero j), Below.refl _ _⟩⟩
  case round =>
    obtain ⟨k, hk, rfl, HQ⟩ := hrel
    have e1 : wr.cell? ⟨g, 1, none⟩ = some (.slice ai m ci) := (HX.out.1.below HQ.out.2 HX.out.1.lt).cell 1
    have el : g < wr.heap.size := (HX.out.1.below HQ.out.2 HX.out.1.lt).lt
    have HXb := Lib.hid (show Blk wr g 55 #[.slice ar n cr, .slice ai m ci] ∧ Blk wr (g + 1) 55 #[.slice br n dr, .slice bi m di] from ⟨HX.out.1.below HQ.out.2 HX.out.1.lt, HX.out.2.1.below HQ.out.2 HX.out.2.1.lt⟩)
    by_cases hlt : k < m
    · have hki : (k : Int) < (m : Int) := by omega
      obtain ⟨b1, o1, r1, ha1, _, hcs1, hh1⟩ := HAi.out.at_ k (by have := HLn.out; omega)
      obtain ⟨b2, o2, r2, ha2, _, hcs2, hh2⟩ := HBi.out.at_ k (by have := HLn.out; omega)
      obtain ⟨x, hx⟩ : ∃ x, x = a.inst[k]'(by have := HLn.out; omega) := ⟨_, rfl⟩
      obtain ⟨y, hy⟩ : ∃ y, y = b.inst[k]'(by have := HLn.out; omega) := ⟨_, rfl⟩
      rw [← hx] at hcs1 hh1
      rw [← hy] at hcs2 hh2
      have HXY := Lib.hid (show ∀ (h1 : k < a.inst.length) (h2 : k < b.inst.length), a.inst[k] = x ∧ b.inst[k] = y from fun _ _ => ⟨hx.symm, hy.symm⟩)
      subst ha1 ha2
      dsimp only [pkgK] at hcs1 hcs2 r1 r2
      rcases r1 with ⟨u0, u1, u2, u3, u4, u5, u6, u7, u8⟩
      rcases r2 with ⟨v0, v1, v2, v3, v4, v5, v6, v7, v8⟩
      have hi1 : PkgIn anyB w x ⟨u0, u1, u2, u3, u4, u5, u6, u7, u8⟩ := hh1
      have hi2 : PkgIn anyB w y ⟨v0, v1, v2, v3, v4, v5, v6, v7, v8⟩ := hh2
      obtain ⟨xa0, xc0, (rfl : u0 = _)⟩ := hi1.prov.form
      obtain ⟨ya0, yc0, (rfl : v0 = _)⟩ := hi2.prov.form
      obtain ⟨xa1, xc1, (rfl : u1 = _)⟩ := hi1.req.form
      obtain ⟨ya1, yc1, (rfl : v1 = _)⟩ := hi2.req.form
      obtain ⟨xa2, xc2, (rfl : u2 = _)⟩ := hi1.con.form
      obtain ⟨ya2, yc2, (rfl : v2 = _)⟩ := hi2.con.form
      obtain ⟨xa3, xc3, (rfl : u3 = _)⟩ := hi1.obs.form
      obtain ⟨ya3, yc3, (rfl : v3 = _)⟩ := hi2.obs.form
      obtain ⟨xa4, xc4, (rfl : u4 = _)⟩ := hi1.reco.form
      obtain ⟨ya4, yc4, (rfl : v4 = _)⟩ := hi2.reco.form
      obtain ⟨xa5, xc5, (rfl : u5 = _)⟩ := hi1.sup.form
      obtain ⟨ya5, yc5, (rfl : v5 = _)⟩ := hi2.sup.form
      obtain ⟨xa6, xc6, (rfl : u6 = _)⟩ := hi1.sug.form
      obtain ⟨ya6, yc6, (rfl : v6 = _)⟩ := hi2.sug.form
      obtain ⟨xa7, xc7, (rfl : u7 = _)⟩ := hi1.enh.form
      obtain ⟨ya7, yc7, (rfl : v7 = _)⟩ := hi2.enh.form
      obtain ⟨xa8, xc8, (rfl : u8 = _)⟩ := hi1.files.form
      obtain ⟨ya8, yc8, (rfl : v8 = _)⟩ := hi2.files.form
      have HFr := Lib.hid (show Below w.heap.size w wr from below_t' HX.out.2.2 HQ.out.2)
      have HLt := Lib.hid hlt
      have hd1 := hcs1.below HFr.out
      have hd2 := hcs2.below HFr.out
      obtain ⟨bb, hbb⟩ : ∃ bb, bb = samePk x y := ⟨_, rfl⟩
      have HBb := Lib.hid hbb
      have HM := Lib.hid (show ∀ w', Below wr.heap.size wr w' → Calls Tryz.prog 54 #[.agg #[.string x.name, .int .i64 x.ep, .string x.ver, .string x.rel, .int .u8 x.arch, .string x.vendor, .slice xa0 x.prov.length xc0, .slice xa1 (argL x.req).length xc1, .slice xa2 (argL x.con).length xc2, .slice xa3 x.obs.length xc3, .slice xa4 (argL x.reco).length xc4, .slice xa5 (argL x.sup).length xc5, .slice xa6 (argL x.sug).length xc6, .slice xa7 (argL x.enh).length xc7, .slice xa8 x.files.length xc8], .agg #[.string y.name, .int .i64 y.ep, .string y.ver, .string y.rel, .int .u8 y.arch, .string y.vendor, .slice ya0 y.prov.length yc0, .slice ya1 (argL y.req).length yc1, .slice ya2 (argL y.con).length yc2, .slice ya3 y.obs.length yc3, .slice ya4 (argL y.reco).length yc4, .slice ya5 (argL y.sup).length yc5, .slice ya6 (argL y.sug).length yc6, .slice ya7 (argL y.enh).length yc7, .slice ya8 y.files.length yc8]] w' fun e w'' => e = .returned (.bool bb) ∧ Below w'.heap.size w' w'' from fun w' h => by
        rw [hbb]
        exact r10same_any x y ⟨.slice xa0 x.prov.length xc0, .slice xa1 (argL x.req).length xc1, .slice xa2 (argL x.con).length xc2, .slice xa3 x.obs.length xc3, .slice xa4 (argL x.reco).length xc4, .slice xa5 (argL x.sup).length xc5, .slice xa6 (argL x.sug).length xc6, .slice xa7 (argL x.enh).length xc7, .slice xa8 x.files.length xc8⟩ ⟨.slice ya0 y.prov.length yc0, .slice ya1 (argL y.req).length yc1, .slice ya2 (argL y.con).length yc2, .slice ya3 y.obs.length yc3, .slice ya4 (argL y.reco).length yc4, .slice ya5 (argL y.sup).length yc5, .slice ya6 (argL y.sug).length yc6, .slice ya7 (argL y.enh).length yc7, .slice ya8 y.files.length yc8⟩ w' (hi1.keep (below_t' HFr.out h).size fun b _ hb => ⟨(below_t' HFr.out h).block b hb, trivial⟩) (hi2.keep (below_t' HFr.out h).size fun b _ hb => ⟨(below_t' HFr.out h).block b hb, trivial⟩))
      have HDr := Lib.hid (show Below wr.heap.size wr wr.drew from (Below.refl _ wr).drew)
      have x0 : wr.cell? ⟨b1, o1 + k * 15, none⟩ = some (.string x.name) := hd1.2 0 (show 0 < 15 by omega)
      have y0 : wr.cell? ⟨b2, o2 + k * 15, none⟩ = some (.string y.name) := hd2.2 0 (show 0 < 15 by omega)
      have x1 : wr.cell? ⟨b1, o1 + k * 15 + 1, none⟩ = some (.int .i64 x.ep) := hd1.2 1 (show 1 < 15 by omega)
      have y1 : wr.cell? ⟨b2, o2 + k * 15 + 1, none⟩ = some (.int .i64 y.ep) := hd2.2 1 (show 1 < 15 by omega)
      have x2 : wr.cell? ⟨b1, o1 + k * 15 + 2, none⟩ = some (.string x.ver) := hd1.2 2 (show 2 < 15 by omega)
      have y2 : wr.cell? ⟨b2, o2 + k * 15 + 2, none⟩ = some (.string y.ver) := hd2.2 2 (show 2 < 15 by omega)
      have x3 : wr.cell? ⟨b1, o1 + k * 15 + 3, none⟩ = some (.string x.rel) := hd1.2 3 (show 3 < 15 by omega)
      have y3 : wr.cell? ⟨b2, o2 + k * 15 + 3, none⟩ = some (.string y.rel) := hd2.2 3 (show 3 < 15 by omega)
      have x4 : wr.cell? ⟨b1, o1 + k * 15 + 4, none⟩ = some (.int .u8 x.arch) := hd1.2 4 (show 4 < 15 by omega)
      have y4 : wr.cell? ⟨b2, o2 + k * 15 + 4, none⟩ = some (.int .u8 y.arch) := hd2.2 4 (show 4 < 15 by omega)
      have x5 : wr.cell? ⟨b1, o1 + k * 15 + 5, none⟩ = some (.string x.vendor) := hd1.2 5 (show 5 < 15 by omega)
      have y5 : wr.cell? ⟨b2, o2 + k * 15 + 5, none⟩ = some (.string y.vendor) := hd2.2 5 (show 5 < 15 by omega)
      have x6 : wr.cell? ⟨b1, o1 + k * 15 + 6, none⟩ = some (.slice xa0 x.prov.length xc0) := hd1.2 6 (show 6 < 15 by omega)
      have y6 : wr.cell? ⟨b2, o2 + k * 15 + 6, none⟩ = some (.slice ya0 y.prov.length yc0) := hd2.2 6 (show 6 < 15 by omega)
      have x7 : wr.cell? ⟨b1, o1 + k * 15 + 7, none⟩ = some (.slice xa1 (argL x.req).length xc1) := hd1.2 7 (show 7 < 15 by omega)
      have y7 : wr.cell? ⟨b2, o2 + k * 15 + 7, none⟩ = some (.slice ya1 (argL y.req).length yc1) := hd2.2 7 (show 7 < 15 by omega)
      have x8 : wr.cell? ⟨b1, o1 + k * 15 + 8, none⟩ = some (.slice xa2 (argL x.con).length xc2) := hd1.2 8 (show 8 < 15 by omega)
      have y8 : wr.cell? ⟨b2, o2 + k * 15 + 8, none⟩ = some (.slice ya2 (argL y.con).length yc2) := hd2.2 8 (show 8 < 15 by omega)
      have x9 : wr.cell? ⟨b1, o1 + k * 15 + 9, none⟩ = some (.slice xa3 x.obs.length xc3) := hd1.2 9 (show 9 < 15 by omega)
      have y9 : wr.cell? ⟨b2, o2 + k * 15 + 9, none⟩ = some (.slice ya3 y.obs.length yc3) := hd2.2 9 (show 9 < 15 by omega)
      have x10 : wr.cell? ⟨b1, o1 + k * 15 + 10, none⟩ = some (.slice xa4 (argL x.reco).length xc4) := hd1.2 10 (show 10 < 15 by omega)
      have y10 : wr.cell? ⟨b2, o2 + k * 15 + 10, none⟩ = some (.slice ya4 (argL y.reco).length yc4) := hd2.2 10 (show 10 < 15 by omega)
      have x11 : wr.cell? ⟨b1, o1 + k * 15 + 11, none⟩ = some (.slice xa5 (argL x.sup).length xc5) := hd1.2 11 (show 11 < 15 by omega)
      have y11 : wr.cell? ⟨b2, o2 + k * 15 + 11, none⟩ = some (.slice ya5 (argL y.sup).length yc5) := hd2.2 11 (show 11 < 15 by omega)
      have x12 : wr.cell? ⟨b1, o1 + k * 15 + 12, none⟩ = some (.slice xa6 (argL x.sug).length xc6) := hd1.2 12 (show 12 < 15 by omega)
      have y12 : wr.cell? ⟨b2, o2 + k * 15 + 12, none⟩ = some (.slice ya6 (argL y.sug).length yc6) := hd2.2 12 (show 12 < 15 by omega)
      have x13 : wr.cell? ⟨b1, o1 + k * 15 + 13, none⟩ = some (.slice xa7 (argL x.enh).length xc7) := hd1.2 13 (show 13 < 15 by omega)
      have y13 : wr.cell? ⟨b2, o2 + k * 15 + 13, none⟩ = some (.slice ya7 (argL y.enh).length yc7) := hd2.2 13 (show 13 < 15 by omega)
      have x14 : wr.cell? ⟨b1, o1 + k * 15 + 14, none⟩ = some (.slice xa8 x.files.length xc8) := hd1.2 14 (show 14 < 15 by omega)
      have y14 : wr.cell? ⟨b2, o2 + k * 15 + 14, none⟩ = some (.slice ya8 y.files.length yc8) := hd2.2 14 (show 14 < 15 by omega)
      have z0 : wr.cell? ⟨g, 1, none⟩ = some (.slice (some ⟨b1, o1, none⟩) m ci) := (HXb.out.1).cell 1
      have zl0 := (HXb.out.1).lt
      have z1 : wr.cell? ⟨g + 1, 1, none⟩ = some (.slice (some ⟨b2, o2, none⟩) m di) := (HXb.out.2).cell 1
      have zl1 := (HXb.out.2).lt
      have p1 := hd1.1
      have p2 := hd2.1
      clear hcs1 hcs2 hh1 hh2 hd1 hd2 hx hy hbb hi1 hi2
      go_upto_region 6 with fail
      go_still_tail 10, (by kernel_rfl)
      change wpList _ _ _ _ _ wr.drew
      cases bb with
      | true =>
        go_wp2_with (first
          | (go_at_call 54; (with_reducible refine (HM.out _ HDr.out).mono ?_); rintro e w1 ⟨rfl, HBc⟩; have HDr := Lib.hid (below_t' HDr.out HBc); clear HBc)
          | fail)
        have HRw := Lib.hid (show Below W.heap.size W w1 from below_t' HQ.out.2 HDr.out)
        go_roundw
        case rel => exact ⟨k + 1, by have := HLt.out; omega, by go_num, ⟨fun j h1 h2 h3 => by
          by_cases hj : j < k
          · exact HQ.out.1 j h1 h2 hj
          · obtain rfl : j = k := by omega
            obtain ⟨e1, e2⟩ := HXY.out h1 h2
            rw [e1, e2]
            exact HBb.out.symm, HRw.out⟩⟩
        case measure => simp [intOf]; omega
      | false =>
        go_wp2_with (first
          | (go_at_call 54; (with_reducible refine (HM.out _ HDr.out).mono ?_); rintro e w1 ⟨rfl, HBc⟩; have HDr := Lib.hid (below_t' HDr.out HBc); clear HBc)
          | fail)
        have HRx := Lib.hid (show Below w.heap.size w w1 from below_t' HFr.out HDr.out)
        have HT2 := Lib.hid (show T = false by
          rw [HT.out]
          have h1 : k < a.inst.length := by have := HLn.out; have := HLt.out; omega
          have h2 : k < b.inst.length := by have := HLn.out; have := HLt.out; omega
          obtain ⟨e1, e2⟩ := HXY.out h1 h2
          exact sameA_no3 h1 h2 (by rw [e1, e2]; exact HBb.out.symm))
        go_ret
        exact ⟨ret_bool HT2.out.symm, HRx.out⟩
    · obtain rfl : m = k := by omega
      have HI := Lib.hid (show eqL samePk a.inst b.inst = true from (eqL_iff _ _ _).2 ⟨by have := HLn.out; omega, fun j h1 h2 => HQ.out.1 j h1 h2 (by have := HLn.out; omega)⟩)
      have HQ0 := Lib.hid (show Below w.heap.size w wr from below_t' HX.out.2.2 HQ.out.2)
      clear HQ hk
      go_wp2_with fail
      clear e1
      obtain ⟨V, hV⟩ : ∃ V, V = wr := ⟨_, rfl⟩
      rw [← hV] at el HXb HQ0 ⊢
      have HSV := Lib.hid (show Below V.heap.size V wr from hV ▸ Below.refl _ _)
      clear hV
      go_loopw [6] (fun i wr => ∃ k : Nat, k ≤ n ∧ i = .int .i64 k ∧ Hid ((∀ j (h1 : j < a.repos.length) (h2 : j < b.repos.length), j < k → sameO a.repos[j] b.repos[j] = true) ∧ Below V.heap.size V wr)) (fun i wr => n - (intOf i).toNat)
      case atStart => exact ⟨0, by omega, rfl, ⟨fun j _ _ h => absurd h (Nat.not_lt_zero j), Below.refl _ _⟩⟩
      case round =>
        obtain ⟨kk, hk, rfl, HQ⟩ := hrel
        have HXc := Lib.hid (show Blk wr g 55 #[.slice ar n cr, .slice ai m ci] ∧ Blk wr (g + 1) 55 #[.slice br n dr, .slice bi m di] from ⟨HXb.out.1.below HQ.out.2 HXb.out.1.lt, HXb.out.2.below HQ.out.2 HXb.out.2.lt⟩)
        have e0 : wr.cell? ⟨g, 0, none⟩ = some (.slice ar n cr) := HXc.out.1.cell 0
        have e2 : wr.cell? ⟨g + 1, 0, none⟩ = some (.slice br n dr) := HXc.out.2.cell 0
        have el : g < wr.heap.size := HXc.out.1.lt
        have el' : g + 1 < wr.heap.size := HXc.out.2.lt
        have HFr := Lib.hid (show Below w.heap.size w wr from below_t' HQ0.out HQ.out.2)
        by_cases hlt : kk < n
        · have hki : (kk : Int) < (n : Int) := by omega
          obtain ⟨B1, O1, r1, ha1, _, hcs1, hh1⟩ := HAr.out.at_ kk (by have := HLn.out; omega)
          obtain ⟨B2, O2, r2, ha2, _, hcs2, hh2⟩ := HBr.out.at_ kk (by have := HLn.out; omega)
          obtain ⟨rx, hx⟩ : ∃ x, x = a.repos[kk]'(by have := HLn.out; omega) := ⟨_, rfl⟩
          obtain ⟨ry, hy⟩ : ∃ y, y = b.repos[kk]'(by have := HLn.out; omega) := ⟨_, rfl⟩
          rw [← hx] at hcs1 hh1
          rw [← hy] at hcs2 hh2
          have HXY := Lib.hid (show ∀ (h1 : kk < a.repos.length) (h2 : kk < b.repos.length), a.repos[kk] = rx ∧ b.repos[kk] = ry from fun _ _ => ⟨hx.symm, hy.symm⟩)
          subst ha1 ha2
          dsimp only [repoK] at hcs1 hcs2 hh1 hh2 r1 r2
          obtain ⟨xa, xc, rfl⟩ := hh1.2.form
          obtain ⟨ya, yc, rfl⟩ := hh2.2.form
          have hp1 := hh1.2
          have hp2 := hh2.2
          have hq1 := hh1.2.bound
          have hd1 := hcs1.below HFr.out
          have hd2 := hcs2.below HFr.out
          have x0 : wr.cell? ⟨B1, O1 + kk * 2, none⟩ = some (.int .i64 rx.prio) := hd1.2 0 (show 0 < 2 by omega)
          have x1 : wr.cell? ⟨B1, O1 + kk * 2 + 1, none⟩ = some (.slice xa rx.pkgs.length xc) := hd1.2 1 (show 1 < 2 by omega)
          have y0 : wr.cell? ⟨B2, O2 + kk * 2, none⟩ = some (.int .i64 ry.prio) := hd2.2 0 (show 0 < 2 by omega)
          have y1 : wr.cell? ⟨B2, O2 + kk * 2 + 1, none⟩ = some (.slice ya ry.pkgs.length yc) := hd2.2 1 (show 1 < 2 by omega)
          have p1 := hd1.1
          have p2 := hd2.1
          have HLk := Lib.hid hlt
          clear hcs1 hcs2 hh1 hh2 hd1 hd2 hx hy
          by_cases hpr : rx.prio = ry.prio
          · by_cases hl : rx.pkgs.length = ry.pkgs.length
            · obtain ⟨q, hq⟩ : ∃ q, q = rx.pkgs.length := ⟨_, rfl⟩
              have HLq := Lib.hid (show rx.pkgs.length = q ∧ ry.pkgs.length = q ∧ rx.prio = ry.prio from ⟨hq.symm, by omega, hpr⟩)
              have HP1 := Lib.hid hp1
              have HP2 := Lib.hid hp2
              rw [← hq] at x1 hq1
              rw [← hl, ← hq] at y1
              rw [← hpr] at y0
              clear hp1 hp2 hl hq hpr
              obtain ⟨pr, hpr⟩ : ∃ pr, pr = rx.prio := ⟨_, rfl⟩
              rw [← hpr] at x0 y0
              have HPr := Lib.hid hpr
              clear hpr
              go_upto_region 11 with fail
              go_cut [7, 8] from 45 to 94 (fun s7 s8 wx => ∃ g7 g8 : Nat, s7 = .pointer (some ⟨g7, 0, none⟩) ∧ s8 = .pointer (some ⟨g8, 0, none⟩) ∧ Hid (Blk wx g7 38 #[.int .i64 pr, .slice xa q xc] ∧ Blk wx g8 38 #[.int .i64 pr, .slice ya q yc] ∧ Below wr.heap.size wr wx))
              case first =>
                go_region
                all_goals
                  go_wp2_with fail
                  go_meet
                  case rel => first | exact ⟨_, _, rfl, rfl, two_new _ _ _ _⟩ | exact ⟨_, _, rfl, rfl, two_new' _ _ _ _⟩
              case rest =>
                obtain ⟨g7, g8, rfl, rfl, HZ⟩ := hcut
                have z0 : wc.cell? ⟨g7, 0, none⟩ = some (.int .i64 pr) := HZ.out.1.cell 0
                have z1 : wc.cell? ⟨g7, 1, none⟩ = some (.slice xa q xc) := HZ.out.1.cell 1
                have z2 : wc.cell? ⟨g8, 0, none⟩ = some (.int .i64 pr) := HZ.out.2.1.cell 0
                have z3 : wc.cell? ⟨g8, 1, none⟩ = some (.slice ya q yc) := HZ.out.2.1.cell 1
                have zl := HZ.out.1.lt
                have zl' := HZ.out.2.1.lt
                have HFc := Lib.hid (show Below w.heap.size w wc from below_t' HFr.out HZ.out.2.2)
                have HVc := Lib.hid (show Below V.heap.size V wc from below_t' HQ.out.2 HZ.out.2.2)
                have HQk := Lib.hid HQ.out.1
                clear x0 x1 y0 y1 p1 p2 e0 e2 el el' HQ
                go_wp2_with fail
                go_loopw [9] (fun i wr => ∃ k : Nat, k ≤ q ∧ i = .int .i64 k ∧ Hid ((∀ j (h1 : j < rx.pkgs.length) (h2 : j < ry.pkgs.length), j < k → samePk rx.pkgs[j] ry.pkgs[j] = true) ∧ Below wc.heap.size wc wr)) (fun i wr => q - (intOf i).toNat)
                case atStart => exact ⟨0, by omega, rfl, ⟨fun j _ _ h => absurd h (Nat.not_lt_zero j), Below.refl _ _⟩⟩
                case round =>
                  obtain ⟨k, hkq, rfl, HQ⟩ := hrel
                  have HXd := Lib.hid (show Blk wr g7 38 #[.int .i64 pr, .slice xa q xc] ∧ Blk wr g8 38 #[.int .i64 pr, .slice ya q yc] from ⟨HZ.out.1.below HQ.out.2 HZ.out.1.lt, HZ.out.2.1.below HQ.out.2 HZ.out.2.1.lt⟩)
                  have e1 : wr.cell? ⟨g7, 1, none⟩ = some (.slice xa q xc) := HXd.out.1.cell 1
                  have el : g7 < wr.heap.size := HXd.out.1.lt
                  by_cases hlt : k < q
                  · have hki : (k : Int) < (q : Int) := by omega
                    have HXYo := Lib.hid HXY.out
                    have HPq1 := Lib.hid (show LIn pkgK anyB w rx.pkgs (.slice xa rx.pkgs.length xc) from HP1.out)
                    have HPq2 := Lib.hid (show LIn pkgK anyB w ry.pkgs (.slice ya ry.pkgs.length yc) from HP2.out)
                    obtain ⟨b1, o1, r1, ha1, _, hcs1, hh1⟩ := HPq1.out.at_ k (by have := HLq.out; omega)
                    obtain ⟨b2, o2, r2, ha2, _, hcs2, hh2⟩ := HPq2.out.at_ k (by have := HLq.out; omega)
                    obtain ⟨x, hx⟩ : ∃ x, x = rx.pkgs[k]'(by have := HLq.out; omega) := ⟨_, rfl⟩
                    obtain ⟨y, hy⟩ : ∃ y, y = ry.pkgs[k]'(by have := HLq.out; omega) := ⟨_, rfl⟩
                    rw [← hx] at hcs1 hh1
                    rw [← hy] at hcs2 hh2
                    have HXY := Lib.hid (show ∀ (h1 : k < rx.pkgs.length) (h2 : k < ry.pkgs.length), rx.pkgs[k] = x ∧ ry.pkgs[k] = y from fun _ _ => ⟨hx.symm, hy.symm⟩)
                    subst ha1 ha2
                    dsimp only [pkgK] at hcs1 hcs2 r1 r2
                    rcases r1 with ⟨u0, u1, u2, u3, u4, u5, u6, u7, u8⟩
                    rcases r2 with ⟨v0, v1, v2, v3, v4, v5, v6, v7, v8⟩
                    have hi1 : PkgIn anyB w x ⟨u0, u1, u2, u3, u4, u5, u6, u7, u8⟩ := hh1
                    have hi2 : PkgIn anyB w y ⟨v0, v1, v2, v3, v4, v5, v6, v7, v8⟩ := hh2
                    obtain ⟨xa0, xc0, (rfl : u0 = _)⟩ := hi1.prov.form
                    obtain ⟨ya0, yc0, (rfl : v0 = _)⟩ := hi2.prov.form
                    obtain ⟨xa1, xc1, (rfl : u1 = _)⟩ := hi1.req.form
                    obtain ⟨ya1, yc1, (rfl : v1 = _)⟩ := hi2.req.form
                    obtain ⟨xa2, xc2, (rfl : u2 = _)⟩ := hi1.con.form
                    obtain ⟨ya2, yc2, (rfl : v2 = _)⟩ := hi2.con.form
                    obtain ⟨xa3, xc3, (rfl : u3 = _)⟩ := hi1.obs.form
                    obtain ⟨ya3, yc3, (rfl : v3 = _)⟩ := hi2.obs.form
                    obtain ⟨xa4, xc4, (rfl : u4 = _)⟩ := hi1.reco.form
                    obtain ⟨ya4, yc4, (rfl : v4 = _)⟩ := hi2.reco.form
                    obtain ⟨xa5, xc5, (rfl : u5 = _)⟩ := hi1.sup.form
                    obtain ⟨ya5, yc5, (rfl : v5 = _)⟩ := hi2.sup.form
                    obtain ⟨xa6, xc6, (rfl : u6 = _)⟩ := hi1.sug.form
                    obtain ⟨ya6, yc6, (rfl : v6 = _)⟩ := hi2.sug.form
                    obtain ⟨xa7, xc7, (rfl : u7 = _)⟩ := hi1.enh.form
                    obtain ⟨ya7, yc7, (rfl : v7 = _)⟩ := hi2.enh.form
                    obtain ⟨xa8, xc8, (rfl : u8 = _)⟩ := hi1.files.form
                    obtain ⟨ya8, yc8, (rfl : v8 = _)⟩ := hi2.files.form
                    have HFr := Lib.hid (show Below w.heap.size w wr from below_t' HFc.out HQ.out.2)
                    have HLt := Lib.hid hlt
                    have hd1 := hcs1.below HFr.out
                    have hd2 := hcs2.below HFr.out
                    obtain ⟨bb, hbb⟩ : ∃ bb, bb = samePk x y := ⟨_, rfl⟩
                    have HBb := Lib.hid hbb
                    have HM := Lib.hid (show ∀ w', Below wr.heap.size wr w' → Calls Tryz.prog 54 #[.agg #[.string x.name, .int .i64 x.ep, .string x.ver, .string x.rel, .int .u8 x.arch, .string x.vendor, .slice xa0 x.prov.length xc0, .slice xa1 (argL x.req).length xc1, .slice xa2 (argL x.con).length xc2, .slice xa3 x.obs.length xc3, .slice xa4 (argL x.reco).length xc4, .slice xa5 (argL x.sup).length xc5, .slice xa6 (argL x.sug).length xc6, .slice xa7 (argL x.enh).length xc7, .slice xa8 x.files.length xc8], .agg #[.string y.name, .int .i64 y.ep, .string y.ver, .string y.rel, .int .u8 y.arch, .string y.vendor, .slice ya0 y.prov.length yc0, .slice ya1 (argL y.req).length yc1, .slice ya2 (argL y.con).length yc2, .slice ya3 y.obs.length yc3, .slice ya4 (argL y.reco).length yc4, .slice ya5 (argL y.sup).length yc5, .slice ya6 (argL y.sug).length yc6, .slice ya7 (argL y.enh).length yc7, .slice ya8 y.files.length yc8]] w' fun e w'' => e = .returned (.bool bb) ∧ Below w'.heap.size w' w'' from fun w' h => by
                      rw [hbb]
                      exact r10same_any x y ⟨.slice xa0 x.prov.length xc0, .slice xa1 (argL x.req).length xc1, .slice xa2 (argL x.con).length xc2, .slice xa3 x.obs.length xc3, .slice xa4 (argL x.reco).length xc4, .slice xa5 (argL x.sup).length xc5, .slice xa6 (argL x.sug).length xc6, .slice xa7 (argL x.enh).length xc7, .slice xa8 x.files.length xc8⟩ ⟨.slice ya0 y.prov.length yc0, .slice ya1 (argL y.req).length yc1, .slice ya2 (argL y.con).length yc2, .slice ya3 y.obs.length yc3, .slice ya4 (argL y.reco).length yc4, .slice ya5 (argL y.sup).length yc5, .slice ya6 (argL y.sug).length yc6, .slice ya7 (argL y.enh).length yc7, .slice ya8 y.files.length yc8⟩ w' (hi1.keep (below_t' HFr.out h).size fun b _ hb => ⟨(below_t' HFr.out h).block b hb, trivial⟩) (hi2.keep (below_t' HFr.out h).size fun b _ hb => ⟨(below_t' HFr.out h).block b hb, trivial⟩))
                    have HDr := Lib.hid (show Below wr.heap.size wr wr.drew from (Below.refl _ wr).drew)
                    have x0 : wr.cell? ⟨b1, o1 + k * 15, none⟩ = some (.string x.name) := hd1.2 0 (show 0 < 15 by omega)
                    have y0 : wr.cell? ⟨b2, o2 + k * 15, none⟩ = some (.string y.name) := hd2.2 0 (show 0 < 15 by omega)
                    have x1 : wr.cell? ⟨b1, o1 + k * 15 + 1, none⟩ = some (.int .i64 x.ep) := hd1.2 1 (show 1 < 15 by omega)
                    have y1 : wr.cell? ⟨b2, o2 + k * 15 + 1, none⟩ = some (.int .i64 y.ep) := hd2.2 1 (show 1 < 15 by omega)
                    have x2 : wr.cell? ⟨b1, o1 + k * 15 + 2, none⟩ = some (.string x.ver) := hd1.2 2 (show 2 < 15 by omega)
                    have y2 : wr.cell? ⟨b2, o2 + k * 15 + 2, none⟩ = some (.string y.ver) := hd2.2 2 (show 2 < 15 by omega)
                    have x3 : wr.cell? ⟨b1, o1 + k * 15 + 3, none⟩ = some (.string x.rel) := hd1.2 3 (show 3 < 15 by omega)
                    have y3 : wr.cell? ⟨b2, o2 + k * 15 + 3, none⟩ = some (.string y.rel) := hd2.2 3 (show 3 < 15 by omega)
                    have x4 : wr.cell? ⟨b1, o1 + k * 15 + 4, none⟩ = some (.int .u8 x.arch) := hd1.2 4 (show 4 < 15 by omega)
                    have y4 : wr.cell? ⟨b2, o2 + k * 15 + 4, none⟩ = some (.int .u8 y.arch) := hd2.2 4 (show 4 < 15 by omega)
                    have x5 : wr.cell? ⟨b1, o1 + k * 15 + 5, none⟩ = some (.string x.vendor) := hd1.2 5 (show 5 < 15 by omega)
                    have y5 : wr.cell? ⟨b2, o2 + k * 15 + 5, none⟩ = some (.string y.vendor) := hd2.2 5 (show 5 < 15 by omega)
                    have x6 : wr.cell? ⟨b1, o1 + k * 15 + 6, none⟩ = some (.slice xa0 x.prov.length xc0) := hd1.2 6 (show 6 < 15 by omega)
                    have y6 : wr.cell? ⟨b2, o2 + k * 15 + 6, none⟩ = some (.slice ya0 y.prov.length yc0) := hd2.2 6 (show 6 < 15 by omega)
                    have x7 : wr.cell? ⟨b1, o1 + k * 15 + 7, none⟩ = some (.slice xa1 (argL x.req).length xc1) := hd1.2 7 (show 7 < 15 by omega)
                    have y7 : wr.cell? ⟨b2, o2 + k * 15 + 7, none⟩ = some (.slice ya1 (argL y.req).length yc1) := hd2.2 7 (show 7 < 15 by omega)
                    have x8 : wr.cell? ⟨b1, o1 + k * 15 + 8, none⟩ = some (.slice xa2 (argL x.con).length xc2) := hd1.2 8 (show 8 < 15 by omega)
                    have y8 : wr.cell? ⟨b2, o2 + k * 15 + 8, none⟩ = some (.slice ya2 (argL y.con).length yc2) := hd2.2 8 (show 8 < 15 by omega)
                    have x9 : wr.cell? ⟨b1, o1 + k * 15 + 9, none⟩ = some (.slice xa3 x.obs.length xc3) := hd1.2 9 (show 9 < 15 by omega)
                    have y9 : wr.cell? ⟨b2, o2 + k * 15 + 9, none⟩ = some (.slice ya3 y.obs.length yc3) := hd2.2 9 (show 9 < 15 by omega)
                    have x10 : wr.cell? ⟨b1, o1 + k * 15 + 10, none⟩ = some (.slice xa4 (argL x.reco).length xc4) := hd1.2 10 (show 10 < 15 by omega)
                    have y10 : wr.cell? ⟨b2, o2 + k * 15 + 10, none⟩ = some (.slice ya4 (argL y.reco).length yc4) := hd2.2 10 (show 10 < 15 by omega)
                    have x11 : wr.cell? ⟨b1, o1 + k * 15 + 11, none⟩ = some (.slice xa5 (argL x.sup).length xc5) := hd1.2 11 (show 11 < 15 by omega)
                    have y11 : wr.cell? ⟨b2, o2 + k * 15 + 11, none⟩ = some (.slice ya5 (argL y.sup).length yc5) := hd2.2 11 (show 11 < 15 by omega)
                    have x12 : wr.cell? ⟨b1, o1 + k * 15 + 12, none⟩ = some (.slice xa6 (argL x.sug).length xc6) := hd1.2 12 (show 12 < 15 by omega)
                    have y12 : wr.cell? ⟨b2, o2 + k * 15 + 12, none⟩ = some (.slice ya6 (argL y.sug).length yc6) := hd2.2 12 (show 12 < 15 by omega)
                    have x13 : wr.cell? ⟨b1, o1 + k * 15 + 13, none⟩ = some (.slice xa7 (argL x.enh).length xc7) := hd1.2 13 (show 13 < 15 by omega)
                    have y13 : wr.cell? ⟨b2, o2 + k * 15 + 13, none⟩ = some (.slice ya7 (argL y.enh).length yc7) := hd2.2 13 (show 13 < 15 by omega)
                    have x14 : wr.cell? ⟨b1, o1 + k * 15 + 14, none⟩ = some (.slice xa8 x.files.length xc8) := hd1.2 14 (show 14 < 15 by omega)
                    have y14 : wr.cell? ⟨b2, o2 + k * 15 + 14, none⟩ = some (.slice ya8 y.files.length yc8) := hd2.2 14 (show 14 < 15 by omega)
                    have z0 : wr.cell? ⟨g7, 1, none⟩ = some (.slice (some ⟨b1, o1, none⟩) q xc) := (HXd.out.1).cell 1
                    have zl0 := (HXd.out.1).lt
                    have z1 : wr.cell? ⟨g8, 1, none⟩ = some (.slice (some ⟨b2, o2, none⟩) q yc) := (HXd.out.2).cell 1
                    have zl1 := (HXd.out.2).lt
                    have p1 := hd1.1
                    have p2 := hd2.1
                    clear hcs1 hcs2 hh1 hh2 hd1 hd2 hx hy hbb hi1 hi2
                    go_upto_region 17 with fail
                    go_still_tail 10, (by kernel_rfl)
                    change wpList _ _ _ _ _ wr.drew
                    cases bb with
                    | true =>
                      go_wp2_with (first
                        | (go_at_call 54; (with_reducible refine (HM.out _ HDr.out).mono ?_); rintro e w1 ⟨rfl, HBc⟩; have HDr := Lib.hid (below_t' HDr.out HBc); clear HBc)
                        | fail)
                      have HRw := Lib.hid (show Below wc.heap.size wc w1 from below_t' HQ.out.2 HDr.out)
                      go_roundw
                      case rel => exact ⟨k + 1, by have := HLt.out; omega, by go_num, ⟨fun j h1 h2 h3 => by
                        by_cases hj : j < k
                        · exact HQ.out.1 j h1 h2 hj
                        · obtain rfl : j = k := by omega
                          obtain ⟨e1, e2⟩ := HXY.out h1 h2
                          rw [e1, e2]
                          exact HBb.out.symm, HRw.out⟩⟩
                      case measure => simp [intOf]; omega
                    | false =>
                      go_wp2_with (first
                        | (go_at_call 54; (with_reducible refine (HM.out _ HDr.out).mono ?_); rintro e w1 ⟨rfl, HBc⟩; have HDr := Lib.hid (below_t' HDr.out HBc); clear HBc)
                        | fail)
                      have HRx := Lib.hid (show Below w.heap.size w w1 from below_t' HFr.out HDr.out)
                      have HT2 := Lib.hid (show T = false by
                        rw [HT.out]
                        have h1 : kk < a.repos.length := by have := HLn.out; have := HLk.out; omega
                        have h2 : kk < b.repos.length := by have := HLn.out; have := HLk.out; omega
                        obtain ⟨e1, e2⟩ := HXYo.out h1 h2
                        refine sameA_no4 h1 h2 ?_
                        rw [e1, e2]
                        have h3 : k < rx.pkgs.length := by have := HLq.out; have := HLt.out; omega
                        have h4 : k < ry.pkgs.length := by have := HLq.out; have := HLt.out; omega
                        obtain ⟨e3, e4⟩ := HXY.out h3 h4
                        unfold sameO
                        rw [eqL_no h3 h4 (by rw [e3, e4]; exact HBb.out.symm), Bool.and_false])
                      go_ret
                      exact ⟨ret_bool HT2.out.symm, HRx.out⟩
                  · obtain rfl : q = k := by omega
                    have HE := Lib.hid (show sameO rx ry = true from by
                      unfold sameO
                      rw [(eqL_iff _ _ _).2 ⟨by have := HLq.out; omega, fun j h1 h2 => HQ.out.1 j h1 h2 (by have := HLq.out; omega)⟩, HLq.out.2.2]
                      simp)
                    have HVw := Lib.hid (show Below V.heap.size V wr from below_t' HVc.out HQ.out.2)
                    clear HQ
                    go_wp2_with fail
                    go_roundw
                    case rel => exact ⟨kk + 1, by have := HLk.out; omega, by go_num, ⟨fun j h1 h2 h3 => by
                      by_cases hj : j < kk
                      · exact HQk.out j h1 h2 hj
                      · obtain rfl : j = kk := by omega
                        obtain ⟨e1, e2⟩ := HXY.out h1 h2
                        rw [e1, e2]
                        exact HE.out, HVw.out⟩⟩
                    case measure => have := HLk.out; simp [intOf]; omega
            · have hl2 : ¬ (rx.pkgs.length : Int) = (ry.pkgs.length : Int) := by omega
              have HT2 := Lib.hid (show T = false by
                rw [HT.out]
                have h1 : kk < a.repos.length := by have := HLn.out; have := HLk.out; omega
                have h2 : kk < b.repos.length := by have := HLn.out; have := HLk.out; omega
                obtain ⟨e1, e2⟩ := HXY.out h1 h2
                exact sameA_no4 h1 h2 (by rw [e1, e2]; unfold sameO; rw [eqL_len hl, Bool.and_false]))
              clear hp1 hp2
              go_upto_region 11 with fail
              go_region
              all_goals go_wp2_with fail
              all_goals go_ret
              all_goals exact ⟨ret_bool HT2.out.symm, below_t' HFr.out (two_new _ _ _ _).out.2.2⟩
          · have HPn := Lib.hid hpr
            have HT2 := Lib.hid (show T = false by
              rw [HT.out]
              have h1 : kk < a.repos.length := by have := HLn.out; have := HLk.out; omega
              have h2 : kk < b.repos.length := by have := HLn.out; have := HLk.out; omega
              obtain ⟨e1, e2⟩ := HXY.out h1 h2
              exact sameA_no4 h1 h2 (by rw [e1, e2]; unfold sameO; rw [decide_eq_false hpr, Bool.false_and]))
            clear hp1 hp2
            go_upto_region 11 with fail
            go_region
            all_goals go_wp2_with fail
            all_goals go_ret
            all_goals exact ⟨ret_bool HT2.out.symm, below_t' HFr.out (two_new _ _ _ _).out.2.2⟩
        · obtain rfl : n = kk := by omega
          have HT2 := Lib.hid (show T = true by rw [HT.out]; exact sameA_yes HI.out ((eqL_iff _ _ _).2 ⟨by have := HLn.out; omega, fun j h1 h2 => HQ.out.1 j h1 h2 (by have := HLn.out; omega)⟩))
          go_wp2_with fail
          go_ret
          exact ⟨ret_bool HT2.out.symm, HFr.out⟩
set_option maxHeartbeats 4000000 in
theorem r11same_len (a b : DataD) (hl : a.repos.length = b.repos.length → ¬ a.inst.length = b.inst.length) (ar ai br bi : Option Addr) (cr ci dr di : Nat) (w : World) :
    Calls Tryz.prog 24 #[.agg #[.slice ar a.repos.length cr, .slice ai a.inst.length ci], .agg #[.slice br b.repos.length dr, .slice bi b.inst.length di]] w fun e w' => e = .returned (.bool (sameA a b)) ∧ Below w.heap.size w w' := by
  have HB := Lib.hid (below_t' (new_b w (.cells #[.slice ar a.repos.length cr, .slice ai a.inst.length ci] 55)) (new_b (w.alloc (.cells #[.slice ar a.repos.length cr, .slice ai a.inst.length ci] 55)) (.cells #[.slice br b.repos.length dr, .slice bi b.inst.length di] 55)))
  obtain ⟨T, hT⟩ : ∃ T, T = sameA a b := ⟨_, rfl⟩
  rw [← hT]
  by_cases h1 : a.repos.length = b.repos.length
  · have h2 := hl h1
    have HT2 := Lib.hid (show T = false by rw [hT]; exact sameA_no2 h2)
    have h3 : ¬ (a.inst.length : Int) = (b.inst.length : Int) := by omega
    clear hT hl h2
    rw [h1] at HB ⊢
    clear h1
    go_enter Tryz.func24, Tryz.ntmps24
    go_wp2_with fail
    go_ret
    exact ⟨ret_bool HT2.out.symm, HB.out⟩
  · have HT2 := Lib.hid (show T = false by rw [hT]; exact sameA_no1 h1)
    have h3 : ¬ (a.repos.length : Int) = (b.repos.length : Int) := by omega
    clear hT hl h1
    go_enter Tryz.func24, Tryz.ntmps24
    go_wp2_with fail
    go_ret
    exact ⟨ret_bool HT2.out.symm, HB.out⟩
theorem r11same_any (a b : DataD) (vr vi ur ui : Value) (w : World) (ha : DataIn anyB w a vr vi) (hb : DataIn anyB w b ur ui) :
    Calls Tryz.prog 24 #[.agg #[vr, vi], .agg #[ur, ui]] w fun e w' => e = .returned (.bool (sameA a b)) ∧ Below w.heap.size w w' := by
  obtain ⟨ar, cr, rfl⟩ := ha.repos.form
  obtain ⟨ai, ci, rfl⟩ := ha.inst.form
  obtain ⟨br, dr, rfl⟩ := hb.repos.form
  obtain ⟨bi, di, rfl⟩ := hb.inst.form
  by_cases h1 : a.repos.length = b.repos.length
  · by_cases h2 : a.inst.length = b.inst.length
    · rw [← h1, ← h2] at hb ⊢
      exact r11same_main a b _ _ rfl h1.symm rfl h2.symm ar ai br bi cr ci dr di w ha hb
    · exact r11same_len a b (fun _ => h2) ar ai br bi cr ci dr di w
  · exact r11same_len a b (fun h => absurd h h1) ar ai br bi cr ci dr di w
end Go.Proofs.YtdpjjnbelgaagaaGreatDoor

namespace Go.Proofs.YtdpjjnbelgaagaaGreatDoor
open Go.ChangeShapes Go.WideShapes Go.ChangeAt Go.RowKit Go.Deep
set_option maxRecDepth 100000

/-- Yes or no is returned, and memory stands. -/
abbrev SomeBool (w : World) : Ending → World → Prop := fun e w' => (∃ b : Bool, e = .returned (.bool b)) ∧ Below w.heap.size w w'
set_option maxHeartbeats 8000000 in
theorem large11_any (d : DataD) (vr vi : Value) (w : World) (hd : DataIn anyB w d vr vi) : Calls Tryz.prog 17 #[.agg #[vr, vi]] w (SomeBool w) := by
  obtain ⟨ar, cr, rfl⟩ := hd.repos.form
  obtain ⟨ai, ci, rfl⟩ := hd.inst.form
  have hn := hd.repos.bound
  have HD := Lib.hid hd
  clear hd
  obtain ⟨g, hg⟩ : ∃ g, g = w.heap.size := ⟨_, rfl⟩
  obtain ⟨W, hW⟩ : ∃ W, W = w.alloc (.cells #[.slice ar d.repos.length cr, .slice ai d.inst.length ci] 41) := ⟨_, rfl⟩
  have HX := Lib.hid (show Blk W g 41 #[.slice ar d.repos.length cr, .slice ai d.inst.length ci] ∧ Below w.heap.size w W from by rw [hW, hg]; exact ⟨Blk.new _ _ _, new_b _ _⟩)
  have d0 : W.cell? ⟨g, 0, none⟩ = some (.slice ar d.repos.length cr) := HX.out.1.cell 0
  have d1 : W.cell? ⟨g, 1, none⟩ = some (.slice ai d.inst.length ci) := HX.out.1.cell 1
  have dl : g < W.heap.size := HX.out.1.lt
  have HM := Lib.hid (fun (l : List PkgD) (v : Value) (h : LIn pkgK anyB w l v) (w' : World) (h2 : Below W.heap.size W w') => sizes_any l v 3000 w w' h (below_t' HX.out.2 h2))
  go_enter Tryz.func17, Tryz.ntmps17
  go_upto_region 1 with fail
  rw [← hg, ← hW]
  have HG := Lib.hid hg
  clear hW hg
  have HM1 := Lib.hid (HM.out d.inst _ HD.out.inst W (Below.refl _ _))
  go_upto_region 2 with (first
    | (go_at_call 39; (with_reducible refine HM1.out.mono ?_); rintro e w1 ⟨⟨q, rfl⟩, hb1⟩; have HB1 := Lib.hid hb1; clear hb1)
    | fail)
  go_wp2_with fail
  go_loopw [3, 4] (fun x i wr => ∃ (k : Nat) (m : Int), k ≤ d.repos.length ∧ i = .int .i64 k ∧ x = .int .i64 m ∧ Hid (Below W.heap.size W wr)) (fun _ i _ => d.repos.length - (intOf i).toNat)
  case atStart => exact ⟨0, _, by omega, rfl, rfl, HB1.out⟩
  case round =>
    obtain ⟨k, m, hk, rfl, rfl, HQ⟩ := hrel
    have hx := HX.out.1.below HQ.out HX.out.1.lt
    have e0 : wr.cell? ⟨g, 0, none⟩ = some (.slice ar d.repos.length cr) := hx.cell 0
    have el : g < wr.heap.size := hx.lt
    clear hx
    by_cases hlt : k < d.repos.length
    · have hki : (k : Int) < (d.repos.length : Int) := by omega
      by_cases hm : m < 3000
      · obtain ⟨b, o, r, ha, _, hcs, hh⟩ := HD.out.repos.at_ k hlt
        obtain ⟨x, hx⟩ : ∃ x, x = d.repos[k] := ⟨_, rfl⟩
        rw [← hx] at hcs hh
        subst ha
        dsimp only [repoK] at hcs hh r
        obtain ⟨xa, xc, rfl⟩ := hh.2.form
        have hcs2 := hcs.below (below_t' HX.out.2 HQ.out)
        have y1 : wr.cell? ⟨b, o + k * 2 + 1, none⟩ = some (.slice xa x.pkgs.length xc) := hcs2.2 1 (show 1 < 2 by omega)
        have yl : b < wr.heap.size := hcs2.1
        have HM2 := Lib.hid (HM.out x.pkgs _ hh.2 wr HQ.out)
        clear hcs hcs2 hh hx
        go_wp2_with (first
          | (go_at_call 39; (with_reducible refine HM2.out.mono ?_); rintro e w1 ⟨⟨q, rfl⟩, hb1⟩; have HB2 := Lib.hid (below_t' HQ.out hb1); clear hb1)
          | fail)
        go_roundw
        case rel => exact ⟨k + 1, _, by omega, by go_num, rfl, HB2.out⟩
        case measure => simp [intOf]; omega
      · go_wp2_with fail
        go_ret
        exact ⟨⟨_, rfl⟩, below_t' HX.out.2 HQ.out⟩
    · obtain rfl : k = d.repos.length := by omega
      go_wp2_with fail
      go_ret
      exact ⟨⟨_, rfl⟩, below_t' HX.out.2 HQ.out⟩
set_option maxHeartbeats 8000000 in
theorem same11_any (a b : DataD) (vr vi ur ui : Value) (w : World) (ha : DataIn anyB w a vr vi) (hb : DataIn anyB w b ur ui) :
    Calls Tryz.prog 19 #[.agg #[vr, vi], .agg #[ur, ui]] w fun e w' => e = .returned (.bool (sameA a b)) ∧ Below w.heap.size w w' := by
  obtain ⟨ar, cr, rfl⟩ := ha.repos.form
  obtain ⟨ai, ci, rfl⟩ := ha.inst.form
  obtain ⟨br, dr, rfl⟩ := hb.repos.form
  obtain ⟨bi, di, rfl⟩ := hb.inst.form
  obtain ⟨g, hg⟩ : ∃ g, g = w.heap.size := ⟨_, rfl⟩
  obtain ⟨W, hW⟩ : ∃ W, W = (w.alloc (.cells #[.slice ar a.repos.length cr, .slice ai a.inst.length ci] 41)).alloc (.cells #[.slice br b.repos.length dr, .slice bi b.inst.length di] 41) := ⟨_, rfl⟩
  have HX := Lib.hid (show Blk W g 41 #[.slice ar a.repos.length cr, .slice ai a.inst.length ci] ∧ Blk W (g + 1) 41 #[.slice br b.repos.length dr, .slice bi b.inst.length di] ∧ Below w.heap.size w W from by
    have hb1 := new_b w (.cells #[.slice ar a.repos.length cr, .slice ai a.inst.length ci] 41)
    have hb2 := new_b (w.alloc (.cells #[.slice ar a.repos.length cr, .slice ai a.inst.length ci] 41)) (.cells #[.slice br b.repos.length dr, .slice bi b.inst.length di] 41)
    have hx1 := Blk.new w 41 #[.slice ar a.repos.length cr, .slice ai a.inst.length ci]
    have hx2 := Blk.new (w.alloc (.cells #[.slice ar a.repos.length cr, .slice ai a.inst.length ci] 41)) 41 #[.slice br b.repos.length dr, .slice bi b.inst.length di]
    rw [World.size_alloc] at hx2
    rw [hW, hg]
    exact ⟨hx1.below hb2 hx1.lt, hx2, below_t' hb1 hb2⟩)
  have d0 : W.cell? ⟨g, 0, none⟩ = some (.slice ar a.repos.length cr) := HX.out.1.cell 0
  have d1 : W.cell? ⟨g, 1, none⟩ = some (.slice ai a.inst.length ci) := HX.out.1.cell 1
  have d2 : W.cell? ⟨g + 1, 0, none⟩ = some (.slice br b.repos.length dr) := HX.out.2.1.cell 0
  have d3 : W.cell? ⟨g + 1, 1, none⟩ = some (.slice bi b.inst.length di) := HX.out.2.1.cell 1
  have dl : g < W.heap.size := HX.out.1.lt
  have dl' : g + 1 < W.heap.size := HX.out.2.1.lt
  have HC := Lib.hid (r11same_any a b _ _ _ _ W (ha.bl HX.out.2.2) (hb.bl HX.out.2.2))
  clear ha hb
  go_enter Tryz.func19, Tryz.ntmps19
  go_upto_region 1 with fail
  rw [← hg, ← hW]
  have HG := Lib.hid hg
  clear hW hg
  go_wp2_with (first
    | (go_at_call 24; (with_reducible refine HC.out.mono ?_); rintro e w1 ⟨rfl, hb1⟩; have HB1 := Lib.hid (below_t' HX.out.2.2 hb1); clear hb1)
    | fail)
  go_ret
  exact ⟨rfl, HB1.out⟩
end Go.Proofs.YtdpjjnbelgaagaaGreatDoor

namespace Go.Proofs.YtdpjjnbelgaagaaGreatDoor
open Go.ChangeShapes Go.WideShapes Go.ChangeAt Go.RowKit Go.Deep
set_option maxRecDepth 100000

/-- What Decode answers, in one word. -/
def Dec3 (s : ByteArray) (d : DataD) (n : Nat) (f : Int) : Prop := (decE s = .ok d ∧ n = 0 ∧ f = 0) ∨ (decE s = .error (n, f) ∧ d = ⟨[], []⟩)
theorem dec3 {s : ByteArray} {n0 : Nat} {ret : Ending} {w' : World} (h : DecPost s n0 ret w') :
    ∃ d ar cr ai ci n f, ret = .returned (.tuple #[.agg #[.slice ar d.repos.length cr, .slice ai d.inst.length ci], .int .i64 ((n : Nat) : Int), .int .i64 f]) ∧ DataIn anyB w' d (.slice ar d.repos.length cr) (.slice ai d.inst.length ci) ∧ Dec3 s d n f := by
  unfold DecPost at h
  cases hd : decE s with
  | ok d =>
    rw [hd] at h
    obtain ⟨vr, vi, rfl, h2⟩ := h
    obtain ⟨ar, cr, rfl⟩ := h2.repos.form
    obtain ⟨ai, ci, rfl⟩ := h2.inst.form
    exact ⟨d, ar, cr, ai, ci, 0, 0, rfl, h2.keep (Nat.le_refl _) fun b _ _ => ⟨rfl, trivial⟩, .inl ⟨hd, rfl, rfl⟩⟩
  | error x =>
    rw [hd] at h
    exact ⟨⟨[], []⟩, none, 0, none, 0, x.1, x.2, h, ⟨LIn.nil _ _ _, LIn.nil _ _ _⟩, .inr ⟨hd, rfl⟩⟩
def noE (s : ByteArray) (place e : Int) : Bool := match decE s with
  | .ok d => decide (0 = place) && (decide (0 = e) && sameA d ⟨[], []⟩)
  | .error x => decide ((x.1 : Int) = place) && decide (x.2 = e)
theorem sameA_nil : sameA ⟨[], []⟩ ⟨[], []⟩ = true := rfl
theorem noE_dec3 {s : ByteArray} {d : DataD} {n : Nat} {f place e : Int} (h : Dec3 s d n f) : noE s place e = (decide ((n : Int) = place) && (decide (f = e) && sameA d ⟨[], []⟩)) := by
  unfold noE
  rcases h with ⟨h, rfl, rfl⟩ | ⟨h, rfl⟩
  · rw [h]; rfl
  · rw [h, sameA_nil, Bool.and_true]
set_option maxHeartbeats 8000000 in
theorem no11_any (s : ByteArray) (place e : Int) (w : World) (hW : Words w) (hO : Ops w) :
    Calls Tryz.prog 16 #[.string s, .int .i64 place, .int .i64 e] w fun r w' => r = .returned (.bool (noE s place e)) ∧ Below w.heap.size w w' := by
  obtain ⟨T, hT⟩ : ∃ T, T = noE s place e := ⟨_, rfl⟩
  rw [← hT]
  have HT := Lib.hid hT
  have HD := Lib.hid (decode_any s w hW hO)
  clear hT hW hO
  go_enter Tryz.func16, Tryz.ntmps16
  go_upto_region 2 with (first
    | (go_at_call 18; (with_reducible refine HD.out.mono ?_); rintro r w1 ⟨hb1, hp1⟩; obtain ⟨d, ar, cr, ai, ci, n, f, rfl, hd1, hk1⟩ := dec3 hp1; have HB1 := Lib.hid hb1; have HI1 := Lib.hid hd1; have HK1 := Lib.hid hk1; clear hb1 hp1 hd1 hk1)
    | fail)
  obtain ⟨g, hg⟩ : ∃ g, g = w1.heap.size := ⟨_, rfl⟩
  obtain ⟨w2, hw2⟩ : ∃ w2, w2 = w1.alloc (.cells #[.slice ar d.repos.length cr, .slice ai d.inst.length ci] 41) := ⟨_, rfl⟩
  have HX := Lib.hid (show Blk w2 g 41 #[.slice ar d.repos.length cr, .slice ai d.inst.length ci] ∧ Below w1.heap.size w1 w2 from by rw [hw2, hg]; exact ⟨Blk.new _ _ _, new_b _ _⟩)
  have c0 : w2.cell? ⟨g, 0, none⟩ = some (.slice ar d.repos.length cr) := HX.out.1.cell 0
  have c1 : w2.cell? ⟨g, 1, none⟩ = some (.slice ai d.inst.length ci) := HX.out.1.cell 1
  have cl := HX.out.1.lt
  rw [← hw2, ← hg]
  have HG := Lib.hid hg
  clear hw2 hg
  have HBz := Lib.hid (show Below w.heap.size w w2 from below_t' HB1.out HX.out.2)
  have HC := Lib.hid (same11_any d ⟨[], []⟩ _ _ (.slice none 0 0) (.slice none 0 0) w2 (HI1.out.bl HX.out.2) ⟨LIn.nil _ _ _, LIn.nil _ _ _⟩)
  have HT3 := Lib.hid (HT.out.trans (noE_dec3 (place := place) (e := e) HK1.out))
  by_cases hp : (n : Int) = place
  · subst hp
    by_cases he : f = e
    · subst he
      go_wp2_with (first
        | (go_at_call 19; (with_reducible refine HC.out.mono ?_); rintro r w3 ⟨rfl, hb3⟩; have HB3 := Lib.hid (below_t' HBz.out hb3); clear hb3)
        | fail)
      go_ret
      exact ⟨ret_bool (by rw [HT3.out]; simp), HB3.out⟩
    · have he2 : (f == e) = false := by simpa using he
      have HN := Lib.hid he
      go_wp2_with fail
      go_ret
      exact ⟨ret_bool (by rw [HT3.out, decide_eq_false HN.out]; simp), HBz.out⟩
  · have hp2 : ((n : Int) == place) = false := by simpa using hp
    have HN := Lib.hid hp
    go_wp2_with fail
    go_ret
    exact ⟨ret_bool (by rw [HT3.out, decide_eq_false HN.out]; simp), HBz.out⟩
theorem dec_err {s : ByteArray} {p : Nat} {x : Int} (h : decE s = .error (p, x)) : x ≠ 0 := by
  by_cases hs : s.size ≤ 4194304
  · exact (dec_place hs h).2
  · rw [dec_long' (by omega)] at h
    injection h with h
    injection h with _ h
    omega
def backE (d : DataD) : Bool := decide ((encodeE d).2 = 0) && (match decE ⟨(encodeE d).1.toArray⟩ with
  | .ok x => sameA x d
  | .error _ => false)
theorem backE_dec3 {d x : DataD} {b : List UInt8} {e : Int} {n : Nat} {f : Int} (he : (b, e) = encodeE d) (h : Dec3 ⟨b.toArray⟩ x n f) : backE d = (decide (e = 0) && (decide (f = 0) && (decide ((n : Int) = 0) && sameA x d))) := by
  unfold backE
  rw [← he]
  simp only
  rcases h with ⟨h, rfl, rfl⟩ | ⟨h, rfl⟩
  · rw [h]; simp
  · rw [h]
    have := dec_err h
    simp [this]
set_option maxHeartbeats 8000000 in
theorem back11_any (d : DataD) (vr vi : Value) (w : World) (hd : DataIn anyB w d vr vi) (hf : d.few) (hW : Words w) (hO : Ops w) :
    Calls Tryz.prog 14 #[.agg #[vr, vi]] w fun r w' => r = .returned (.bool (backE d)) ∧ Below w.heap.size w w' := by
  obtain ⟨br, dr, rfl⟩ := hd.repos.form
  obtain ⟨bi, di, rfl⟩ := hd.inst.form
  obtain ⟨g, hg⟩ : ∃ g, g = w.heap.size := ⟨_, rfl⟩
  obtain ⟨W, hWe⟩ : ∃ W, W = w.alloc (.cells #[.slice br d.repos.length dr, .slice bi d.inst.length di] 41) := ⟨_, rfl⟩
  have HX := Lib.hid (show Blk W g 41 #[.slice br d.repos.length dr, .slice bi d.inst.length di] ∧ Below w.heap.size w W from by rw [hWe, hg]; exact ⟨Blk.new _ _ _, new_b _ _⟩)
  have d0 : W.cell? ⟨g, 0, none⟩ = some (.slice br d.repos.length dr) := HX.out.1.cell 0
  have d1 : W.cell? ⟨g, 1, none⟩ = some (.slice bi d.inst.length di) := HX.out.1.cell 1
  have dl := HX.out.1.lt
  have HE := Lib.hid (encode_any w d _ _ hd W HX.out.2 hf (hW.below HX.out.2) (hO.below HX.out.2))
  obtain ⟨⟨eb, ee⟩, hee⟩ : ∃ p, p = encodeE d := ⟨_, rfl⟩
  rw [← hee] at HE
  have HEE := Lib.hid hee
  have HDw := Lib.hid hd
  have HTab := Lib.hid (show Words w ∧ Ops w from ⟨hW, hO⟩)
  obtain ⟨T, hT⟩ : ∃ T, T = backE d := ⟨_, rfl⟩
  rw [← hT]
  have HT := Lib.hid hT
  clear hT hW hO hd hf hee
  go_enter Tryz.func14, Tryz.ntmps14
  go_upto_region 1 with fail
  rw [← hg, ← hWe]
  have HG := Lib.hid hg
  clear hWe hg
  go_upto_region 2 with (first
    | (go_at_call 11; (with_reducible refine HE.out.mono ?_); rintro r w1 ⟨rfl, hb1⟩; have HB1 := Lib.hid hb1; clear hb1)
    | fail)
  have HBw := Lib.hid (show Below w.heap.size w w1 from below_t' HX.out.2 HB1.out)
  have HD := Lib.hid (decode_any ⟨eb.toArray⟩ w1 (HTab.out.1.below HBw.out) (HTab.out.2.below HBw.out))
  clear d0 d1 dl
  go_upto_region 3 with (first
    | (go_at_call 18; (with_reducible refine HD.out.mono ?_); rintro r w2 ⟨hb2, hp2⟩; obtain ⟨x, ar, cr, ai, ci, n, f, rfl, hd2, hk2⟩ := dec3 hp2; have HB2 := Lib.hid hb2; have HI2 := Lib.hid hd2; have HK2 := Lib.hid hk2; clear hb2 hp2 hd2 hk2)
    | fail)
  obtain ⟨g2, hg2⟩ : ∃ g, g = w2.heap.size := ⟨_, rfl⟩
  obtain ⟨w3, hw3⟩ : ∃ w3, w3 = w2.alloc (.cells #[.slice ar x.repos.length cr, .slice ai x.inst.length ci] 41) := ⟨_, rfl⟩
  have HY := Lib.hid (show Blk w3 g2 41 #[.slice ar x.repos.length cr, .slice ai x.inst.length ci] ∧ Below w2.heap.size w2 w3 from by rw [hw3, hg2]; exact ⟨Blk.new _ _ _, new_b _ _⟩)
  rw [← hw3, ← hg2]
  have HG2 := Lib.hid hg2
  clear hw3 hg2
  have HBz := Lib.hid (show Below w.heap.size w w3 from below_t' (below_t' HBw.out HB2.out) HY.out.2)
  have HBx := Lib.hid (show Below W.heap.size W w3 from below_t' (below_t' HB1.out HB2.out) HY.out.2)
  have c0 : w3.cell? ⟨g2, 0, none⟩ = some (.slice ar x.repos.length cr) := HY.out.1.cell 0
  have c1 : w3.cell? ⟨g2, 1, none⟩ = some (.slice ai x.inst.length ci) := HY.out.1.cell 1
  have cl := HY.out.1.lt
  have d0 : w3.cell? ⟨g, 0, none⟩ = some (.slice br d.repos.length dr) := (HX.out.1.below HBx.out HX.out.1.lt).cell 0
  have d1 : w3.cell? ⟨g, 1, none⟩ = some (.slice bi d.inst.length di) := (HX.out.1.below HBx.out HX.out.1.lt).cell 1
  have dl := (HX.out.1.below HBx.out HX.out.1.lt).lt
  have HC := Lib.hid (same11_any x d _ _ _ _ w3 (HI2.out.bl HY.out.2) (HDw.out.bl HBz.out))
  have HT3 := Lib.hid (HT.out.trans (backE_dec3 HEE.out HK2.out))
  by_cases he : ee = 0
  · subst he
    by_cases hf : f = 0
    · subst hf
      by_cases hn : (n : Int) = 0
      · obtain rfl : n = 0 := by omega
        clear hn
        go_wp2_with (first
          | (go_at_call 19; (with_reducible refine HC.out.mono ?_); rintro r w4 ⟨rfl, hb4⟩; have HB4 := Lib.hid (below_t' HBz.out hb4); clear hb4)
          | fail)
        go_ret
        exact ⟨ret_bool (by rw [HT3.out]; simp), HB4.out⟩
      · have hn2 : ((n : Int) == 0) = false := by simpa using hn
        have HN := Lib.hid hn
        go_wp2_with fail
        go_ret
        exact ⟨ret_bool (by rw [HT3.out, decide_eq_false HN.out]; simp), HBz.out⟩
    · have hf2 : (f == 0) = false := by simpa using hf
      have HN := Lib.hid hf
      go_wp2_with fail
      go_ret
      exact ⟨ret_bool (by rw [HT3.out, decide_eq_false HN.out]; simp), HBz.out⟩
  · have he2 : (ee == 0) = false := by simpa using he
    have HN := Lib.hid he
    go_wp2_with fail
    go_ret
    exact ⟨ret_bool (by rw [HT3.out, decide_eq_false HN.out]; simp), HBz.out⟩
end Go.Proofs.YtdpjjnbelgaagaaGreatDoor

namespace Go.Proofs.YtdpjjnbelgaagaaGreatDoor
open Go.ChangeShapes Go.WideShapes Go.ChangeAt Go.RowKit
set_option maxRecDepth 100000

def wtS (s : ByteArray) : Nat := s.size + 1
def wtD (d : DepD) : Nat := wtS d.name + wtS d.ver + wtS d.rel + 4
def wtR : RichD → Nat
  | .nil => 8
  | .node _ d n f => wtD d + 3 + sumN (fun j => wtR (f j)) n
def wtRs (r : RichD) : Nat := 1 + sumN (fun j => wtR (r.args j)) r.n
def wtL {α : Type} (g : α → Nat) (l : List α) : Nat := 1 + (l.map g).sum
def wtP (p : PkgD) : Nat := wtS p.name + wtS p.ver + wtS p.rel + wtS p.vendor + wtL wtD p.prov + wtRs p.req + wtRs p.con + wtL wtD p.obs + wtRs p.reco + wtRs p.sup + wtRs p.sug + wtRs p.enh + wtL wtS p.files + 4
def wtO (r : RepoD) : Nat := wtL wtP r.pkgs + 2
def wtA (d : DataD) : Nat := wtL wtO d.repos + wtL wtP d.inst + 1
theorem sumW_le {f g : Nat → Nat} : ∀ n : Nat, (∀ j, j < n → f j ≤ g j) → sumN f n ≤ sumN g n
  | 0, _ => Nat.le_refl _
  | n + 1, h => Nat.add_le_add (sumW_le n fun j hj => h j (by omega)) (h n (by omega))
theorem sumW_at {f : Nat → Nat} : ∀ {n j : Nat}, j < n → f j ≤ sumN f n
  | n + 1, j, h => by
    show f j ≤ sumN f n + f n
    by_cases e : j = n
    · rw [e]; omega
    · have := sumW_at (f := f) (n := n) (j := j) (by omega); omega
theorem count_wt : ∀ r : RichD, r.count ≤ wtR r
  | .nil => by show 1 ≤ 8; omega
  | .node k d n f => by
    show 1 + sumN (fun j => (f j).count) n ≤ wtD d + 3 + sumN (fun j => wtR (f j)) n
    have := sumW_le (f := fun j => (f j).count) (g := fun j => wtR (f j)) n fun j _ => count_wt (f j)
    omega
theorem argL_wt {r x : RichD} (h : x ∈ argL r) : x.count ≤ wtRs r := by
  obtain ⟨j, hj, rfl⟩ := List.mem_map.1 h
  have h1 := count_wt (r.args j)
  have h2 := sumW_at (f := fun j => wtR (r.args j)) (n := r.n) (j := j) (by simpa using hj)
  unfold wtRs
  omega
theorem wtL_mem {α : Type} {g : α → Nat} {l : List α} {x : α} (h : x ∈ l) : g x ≤ wtL g l := by
  induction l with
  | nil => cases h
  | cons y l ih =>
    unfold wtL at ih ⊢
    simp only [List.map_cons, List.sum_cons]
    rcases List.mem_cons.1 h with rfl | h
    · omega
    · have := ih h; omega
theorem pkg_few {p : PkgD} (h : wtP p ≤ 4611686018427387904) : p.few := by
  intro r hr x hx
  have h1 := argL_wt hx
  unfold wtP at h
  rcases hr with rfl | rfl | rfl | rfl | rfl | rfl <;> omega
theorem wtP_pos (p : PkgD) : 1 ≤ wtP p := by unfold wtP; omega
theorem len_wtP (l : List PkgD) : l.length ≤ (l.map wtP).sum := by
  induction l with
  | nil => exact Nat.le_refl _
  | cons p l ih =>
    have := wtP_pos p
    simp only [List.length_cons, List.map_cons, List.sum_cons]
    omega
theorem sumP_wt (l : List RepoD) : sumP l ≤ (l.map wtO).sum := by
  induction l with
  | nil => exact Nat.le_refl _
  | cons p l ih =>
    have h1 : sumP (p :: l) = p.pkgs.length + sumP l := by simp [sumP]
    have h2 : wtO p = 1 + (p.pkgs.map wtP).sum + 2 := rfl
    have h3 := len_wtP p.pkgs
    simp only [List.map_cons, List.sum_cons]
    omega
theorem data_few {d : DataD} (h : wtA d ≤ 4611686018427387904) : d.few := by
  have e0 : wtA d = 1 + (d.repos.map wtO).sum + (1 + (d.inst.map wtP).sum) + 1 := rfl
  refine ⟨fun x hx p hp => pkg_few ?_, fun p hp => pkg_few ?_, ?_⟩
  · have h1 := wtL_mem (g := wtO) hx
    have h2 := wtL_mem (g := wtP) hp
    have e1 : wtO x = wtL wtP x.pkgs + 2 := rfl
    have e2 : wtL wtO d.repos = 1 + (d.repos.map wtO).sum := rfl
    omega
  · have h2 := wtL_mem (g := wtP) hp
    have e2 : wtL wtP d.inst = 1 + (d.inst.map wtP).sum := rfl
    omega
  · have h1 := sumP_wt d.repos
    have h2 := len_wtP d.inst
    rw [total_eq]
    omega
/-! ### Bytes -/
theorem numL_1 {n : Nat} (h : n < 128) : (numL n).length = 1 := by rw [numL_small n h]; rfl
theorem numL_2 {n : Nat} (h : n < 16384) : (numL n).length ≤ 2 := numL_le 1 n (by omega)
theorem numL_5 {n : Nat} (h : n < 34359738368) : (numL n).length ≤ 5 := numL_le 4 n (by omega)
theorem lenT {s : ByteArray} (h : s.size ≤ 64) : (encT s).length = wtS s := by
  unfold encT wtS
  rw [List.length_append, numL_1 (by omega), size_list]
  omega
theorem lenV {e : Int} {v r : ByteArray} {b : Bool} (h : evrE e v r b = true) : (encV e v r).length ≤ 5 + wtS v + wtS r := by
  obtain ⟨h1, h2, h3, h4⟩ := evr_size h
  unfold encV
  have h5 := numL_5 (n := e.toNat) (by omega)
  rw [List.length_append, List.length_append, lenT h3, lenT h4]
  omega
theorem wtS_pos (s : ByteArray) : 1 ≤ wtS s := by unfold wtS; omega
theorem lenD {d : DepD} (h : depE d = true) : (encD d).length ≤ 3 * wtD d := by
  unfold depE at h
  simp only [Bool.and_eq_true] at h
  obtain ⟨h1, h2, h3⟩ := h
  obtain ⟨h4, h5⟩ := op_size h2
  unfold encD
  have hn := lenT (name_size h1)
  have ho := numL_1 (n := d.op.toNat) (by omega)
  have p1 := wtS_pos d.ver
  have p2 := wtS_pos d.rel
  unfold wtD
  rw [List.length_append, List.length_append, hn, ho]
  by_cases h0 : d.op = 0
  · rw [if_pos h0]
    simp only [List.length_nil]
    omega
  · rw [if_neg h0]
    rw [if_neg h0, Bool.and_eq_true] at h3
    have := lenV h3.2
    omega
theorem lenCat {f : Nat → List UInt8} {g : Nat → Nat} : ∀ n : Nat, (∀ j, j < n → (f j).length ≤ 3 * g j) → (catN f n).length ≤ 3 * sumN g n
  | 0, _ => Nat.zero_le _
  | n + 1, h => by
    show (catN f n ++ f n).length ≤ 3 * (sumN g n + g n)
    have h1 := lenCat n fun j hj => h j (by omega)
    have h2 := h n (by omega)
    rw [List.length_append]
    omega
theorem lenR {wh : Int} : (r : RichD) → ∀ al : Bool, fitsE wh r al = true → r.count ≤ 24 → (encR r).length ≤ 3 * wtR r
  | .nil, al, h, _ => by cases h
  | .node k d n f, al, h, hc => by
    have ih := fun j (_ : j < n) => lenR (wh := wh) (f j)
    replace h : (if k = 1 then decide (n = 0) && depE d else (okE wh k n al && d.none) && allN (fun j => fitsE wh (f j) (aloneE k al)) n) = true := h
    have hn : n < (RichD.node k d n f).count := n_lt (.node k d n f)
    show (numL k.toNat ++ if k = 1 then encD d else numL n ++ catN (fun j => encR (f j)) n).length ≤ 3 * (wtD d + 3 + sumN (fun j => wtR (f j)) n)
    rw [List.length_append]
    by_cases hk : k = 1
    · rw [if_pos hk, Bool.and_eq_true, decide_eq_true_eq] at h
      rw [if_pos hk]
      have h1 := lenD h.2
      have h2 := numL_1 (n := k.toNat) (by omega)
      omega
    · rw [if_neg hk, Bool.and_eq_true, Bool.and_eq_true] at h
      obtain ⟨⟨h1, h2⟩, h3⟩ := h
      obtain ⟨k1, k2, k3⟩ := okE_two h1
      rw [if_neg hk]
      have h4 := numL_1 (n := k.toNat) (by omega)
      have h5 := numL_1 (n := n) (by omega)
      have h6 := lenCat (f := fun j => encR (f j)) (g := fun j => wtR (f j)) n fun j hj => by
        have hac := arg_count (r := .node k d n f) (j := j) hj
        simp only [RichD.args] at hac
        exact ih j hj _ (allN_iff n |>.1 h3 j hj) (by omega)
      rw [List.length_append]
      omega
theorem lenRs {wh : Int} {r : RichD} (h : richesE wh r = true) : (encRs r).length ≤ 3 * wtRs r := by
  obtain ⟨h1, h2⟩ := riches_n h
  unfold encRs wtRs
  have h3 := lenCat (f := fun j => encR (r.args j)) (g := fun j => wtR (r.args j)) r.n fun j hj => by
    obtain ⟨k1, k2, k3⟩ := may_fits (h2 j hj)
    exact lenR _ _ k1 k3
  have h4 := numL_1 (n := r.n) (by omega)
  rw [List.length_append]
  omega
theorem lenL {α : Type} {one : α → List UInt8} {g : α → Nat} {l : List α} (hn : l.length < 16384) (h : ∀ x ∈ l, (one x).length ≤ 3 * g x) : (encL one l).length ≤ 3 * wtL g l := by
  have h1 : (l.flatMap one).length ≤ 3 * (l.map g).sum := by
    clear hn
    induction l with
    | nil => simp
    | cons x l ih =>
      have h2 := h x (List.mem_cons_self ..)
      have h3 := ih fun y hy => h y (List.mem_cons_of_mem _ hy)
      simp only [List.flatMap_cons, List.length_append, List.map_cons, List.sum_cons]
      omega
  unfold encL wtL
  have h2 := numL_2 hn
  rw [List.length_append]
  omega
theorem lenP {p : PkgD} (h : mayP p = true) : (encPk p).length ≤ 3 * wtP p := by
  have m := mayP_is h
  have h1 := lenT (name_size m.name)
  have h2 := lenV m.evr
  have h3 := lenT m.vendor
  have h4 := numL_1 (n := p.arch.toNat) (by have := m.arch; omega)
  have h5 := lenL (one := encD) (g := wtD) (l := p.prov) (by have := m.prov.1; omega) fun d hd => lenD (m.prov.2 d hd)
  have h6 := lenL (one := encD) (g := wtD) (l := p.obs) (by have := m.obs.1; omega) fun d hd => lenD (m.obs.2 d hd)
  have h7 := lenL (one := encT) (g := wtS) (l := p.files) (by have := m.files.1; omega) fun d hd => by
    rw [lenT (name_size (file_name (m.files.2 d hd)))]
    omega
  have r1 := lenRs m.req
  have r2 := lenRs m.con
  have r3 := lenRs m.reco
  have r4 := lenRs m.sup
  have r5 := lenRs m.sug
  have r6 := lenRs m.enh
  unfold encPk wtP
  simp only [List.length_append]
  omega
theorem lenO {r : RepoD} (h0 : 0 ≤ r.prio) (h1 : r.prio ≤ 1024) (h2 : r.pkgs.all mayP = true) (h3 : r.pkgs.length ≤ 256) : (encO r).length ≤ 3 * wtO r := by
  unfold encO wtO
  have h4 := numL_2 (n := r.prio.toNat) (by omega)
  have h5 := lenL (one := encPk) (g := wtP) (l := r.pkgs) (by omega) fun p hp => lenP (List.all_eq_true.1 h2 p hp)
  rw [List.length_append]
  omega
theorem lenA {d : DataD} (h : checkE d = 0) : (encA d).length ≤ 3 * wtA d := by
  obtain ⟨q1, q2, q3, q4, q5⟩ := check_ok.1 h
  have ht := total_eq d
  have h5 := lenL (one := encPk) (g := wtP) (l := d.inst) (by omega) fun p hp => lenP (List.all_eq_true.1 q5 p hp)
  have h6 := lenL (one := encO) (g := wtO) (l := d.repos) (by omega) fun r hr => by
    have k1 := List.all_eq_true.1 q3 r hr
    rw [Bool.and_eq_true, decide_eq_true_eq, decide_eq_true_eq] at k1
    have k2 : r.pkgs.length ≤ sumP d.repos := by
      clear h5 ht q1 q2 q3 q4 q5 k1 h
      unfold sumP
      generalize d.repos = l at hr
      induction l with
      | nil => cases hr
      | cons y l ih =>
        simp only [List.map_cons, List.sum_cons]
        rcases List.mem_cons.1 hr with rfl | hr
        · omega
        · have := ih hr; omega
    exact lenO k1.1 k1.2 (List.all_eq_true.1 q4 r hr) (by omega)
  unfold encA wtA
  rw [List.length_append]
  omega
end Go.Proofs.YtdpjjnbelgaagaaGreatDoor

namespace Go.Proofs.YtdpjjnbelgaagaaGreatDoor
open Go.ChangeShapes Go.WideShapes Go.ChangeAt Go.RowKit Go.Deep
set_option maxRecDepth 100000

theorem eqL_map {α : Type} {f : α → α → Bool} {g : α → α} (h : ∀ x, f (g x) x = true) : ∀ l : List α, eqL f (l.map g) l = true
  | [] => rfl
  | x :: l => by
    show (f (g x) x && eqL f (l.map g) l) = true
    rw [h, eqL_map h l]
    rfl
theorem eqL_refl {α : Type} {f : α → α → Bool} (h : ∀ x, f x x = true) (l : List α) : eqL f l l = true := by
  have := eqL_map (g := id) h l
  rwa [List.map_id] at this
theorem dep_refl (d : DepD) : depSame d d = true := dep_all rfl rfl rfl rfl rfl
theorem args_normL (r : RichD) : eqL sameE (argL (normL r)) (argL r) = true := by
  unfold normL
  rw [argL_ofL]
  exact eqL_map same_norm _
theorem same_normP (p : PkgD) : samePk (normP p) p = true := by
  unfold samePk
  simp only [normP, decide_true, args_normL, eqL_refl dep_refl, eqL_refl (f := eqT) (fun x => decide_eq_true rfl), Bool.and_true]
theorem same_normO (r : RepoD) : sameO (normO r) r = true := by
  unfold sameO
  simp only [normO, decide_true, Bool.true_and, eqL_map same_normP]
theorem same_normA (d : DataD) : sameA (normA d) d = true := by
  unfold sameA
  simp only [normA, eqL_map same_normP, eqL_map same_normO, Bool.and_true]
/-- What may be comes back. -/
theorem back_yes {d : DataD} (h : checkE d = 0) (hl : (encA d).length ≤ 4194304) : backE d = true := by
  unfold backE
  rw [encode_yes h hl]
  simp only [dec_enc h hl, same_normA, decide_true, Bool.true_and]
def nilR : RichD := ofL 0 []
def bareP (name : ByteArray) : PkgD := ⟨name, 0, ⟨#[49]⟩, ⟨#[50]⟩, 2, ⟨#[]⟩, [], nilR, nilR, [], nilR, nilR, nilR, nilR, []⟩
theorem no_17 : noE ⟨#[17]⟩ 0 20 = true := by decide +kernel
def bytesL (l : List UInt8) : List UInt8 := UInt8.ofNat l.length :: (l ++ [0, 1, 49, 1, 50, 2, 0, 0, 0, 0, 0, 0, 0, 0, 0, 0])
theorem body_and : pBody ⟨([0, 1] ++ bytesL [97, 110, 100]).toArray⟩ 2 = .ok (bareP ⟨#[97, 110, 100]⟩, 22) := by kernel_rfl
end Go.Proofs.YtdpjjnbelgaagaaGreatDoor

namespace Go.Proofs.YtdpjjnbelgaagaaGreatDoor
open Go.ChangeShapes Go.WideShapes Go.ChangeAt Go.RowKit Go.Deep
set_option maxRecDepth 100000

theorem bytes_ext {a b : ByteArray} (h : a.toList = b.toList) : a = b := by
  have h1 := (depSame_iff (a := ⟨a, 0, 0, emp, emp⟩) (b := ⟨b, 0, 0, emp, emp⟩)).1 (by simp [depSame, h])
  injection h1
theorem eqL_turn {α : Type} {f : α → α → Bool} (h : ∀ x y, f x y = true → f y x = true) {a b : List α} (h2 : eqL f a b = true) : eqL f b a = true := by
  rw [eqL_iff] at h2 ⊢
  exact ⟨h2.1.symm, fun j k1 k2 => h _ _ (h2.2 j k2 k1)⟩
theorem eqL_trans {α : Type} {f : α → α → Bool} (h : ∀ x y z, f x y = true → f y z = true → f x z = true) {a b c : List α} (h1 : eqL f a b = true) (h2 : eqL f b c = true) : eqL f a c = true := by
  rw [eqL_iff] at h1 h2 ⊢
  exact ⟨h1.1.trans h2.1, fun j k1 k2 => h _ _ _ (h1.2 j k1 (by omega)) (h2.2 j (by omega) k2)⟩
theorem same_trans : (a b c : RichD) → sameE a b = true → sameE b c = true → sameE a c = true
  | .nil, b, c, h1, h2 => by
    rw [same_iff] at h1 h2 ⊢
    exact ⟨h1.1.trans h2.1, h1.2.1.trans h2.2.1, h1.2.2.1.trans h2.2.2.1, fun j hj => absurd hj (Nat.not_lt_zero j)⟩
  | .node k d n f, b, c, h1, h2 => by
    rw [same_iff] at h1 h2 ⊢
    exact ⟨h1.1.trans h2.1, h1.2.1.trans h2.2.1, h1.2.2.1.trans h2.2.2.1, fun j hj => same_trans (f j) _ _ (h1.2.2.2 j hj) (h2.2.2.2 j (h1.2.2.1 ▸ hj))⟩
/-- Two packages are the same, as a proposition. -/
structure SamP (p q : PkgD) : Prop where
  name : p.name = q.name
  ep : p.ep = q.ep
  ver : p.ver = q.ver
  rel : p.rel = q.rel
  arch : p.arch = q.arch
  vendor : p.vendor = q.vendor
  prov : eqL depSame p.prov q.prov = true
  req : eqL sameE (argL p.req) (argL q.req) = true
  con : eqL sameE (argL p.con) (argL q.con) = true
  obs : eqL depSame p.obs q.obs = true
  reco : eqL sameE (argL p.reco) (argL q.reco) = true
  sup : eqL sameE (argL p.sup) (argL q.sup) = true
  sug : eqL sameE (argL p.sug) (argL q.sug) = true
  enh : eqL sameE (argL p.enh) (argL q.enh) = true
  files : eqL eqT p.files q.files = true
theorem samP_iff {p q : PkgD} : samePk p q = true ↔ SamP p q := by
  unfold samePk
  simp only [Bool.and_eq_true, decide_eq_true_eq]
  constructor
  · rintro ⟨a1, a2, a3, a4, a5, a6, a7, a8, a9, a10, a11, a12, a13, a14, a15⟩
    exact ⟨bytes_ext a1, a2, bytes_ext a3, bytes_ext a4, a5, bytes_ext a6, a7, a8, a9, a10, a11, a12, a13, a14, a15⟩
  · rintro ⟨a1, a2, a3, a4, a5, a6, a7, a8, a9, a10, a11, a12, a13, a14, a15⟩
    exact ⟨by rw [a1], a2, by rw [a3], by rw [a4], a5, by rw [a6], a7, a8, a9, a10, a11, a12, a13, a14, a15⟩
theorem dep_turn {a b : DepD} (h : depSame a b = true) : depSame b a = true := depSame_iff.2 (depSame_iff.1 h).symm
theorem dep_trans {a b c : DepD} (h : depSame a b = true) (h2 : depSame b c = true) : depSame a c = true := depSame_iff.2 ((depSame_iff.1 h).trans (depSame_iff.1 h2))
theorem eqT_turn {a b : ByteArray} (h : eqT a b = true) : eqT b a = true := by simp only [decide_eq_true_eq] at h ⊢; exact h.symm
theorem eqT_trans {a b c : ByteArray} (h : eqT a b = true) (h2 : eqT b c = true) : eqT a c = true := by simp only [decide_eq_true_eq] at h h2 ⊢; exact h.trans h2
theorem samePk_turn (p q : PkgD) (h : samePk p q = true) : samePk q p = true := by
  rw [samP_iff] at h ⊢
  exact ⟨h.name.symm, h.ep.symm, h.ver.symm, h.rel.symm, h.arch.symm, h.vendor.symm, eqL_turn (fun _ _ => dep_turn) h.prov, eqL_turn same_turn h.req, eqL_turn same_turn h.con, eqL_turn (fun _ _ => dep_turn) h.obs, eqL_turn same_turn h.reco, eqL_turn same_turn h.sup, eqL_turn same_turn h.sug, eqL_turn same_turn h.enh, eqL_turn (fun _ _ => eqT_turn) h.files⟩
theorem samePk_trans (p q r : PkgD) (h : samePk p q = true) (k : samePk q r = true) : samePk p r = true := by
  rw [samP_iff] at h k ⊢
  exact ⟨h.name.trans k.name, h.ep.trans k.ep, h.ver.trans k.ver, h.rel.trans k.rel, h.arch.trans k.arch, h.vendor.trans k.vendor, eqL_trans (f := depSame) (fun x y z => dep_trans (a := x) (b := y) (c := z)) h.prov k.prov, eqL_trans same_trans h.req k.req, eqL_trans same_trans h.con k.con, eqL_trans (f := depSame) (fun x y z => dep_trans (a := x) (b := y) (c := z)) h.obs k.obs, eqL_trans same_trans h.reco k.reco, eqL_trans same_trans h.sup k.sup, eqL_trans same_trans h.sug k.sug, eqL_trans same_trans h.enh k.enh, eqL_trans (f := eqT) (fun x y z => eqT_trans (a := x) (b := y) (c := z)) h.files k.files⟩
theorem sameO_iff {x y : RepoD} : sameO x y = true ↔ x.prio = y.prio ∧ eqL samePk x.pkgs y.pkgs = true := by
  unfold sameO
  rw [Bool.and_eq_true, decide_eq_true_eq]
theorem sameO_turn (x y : RepoD) (h : sameO x y = true) : sameO y x = true := by
  rw [sameO_iff] at h ⊢
  exact ⟨h.1.symm, eqL_turn samePk_turn h.2⟩
theorem sameO_trans (x y z : RepoD) (h : sameO x y = true) (k : sameO y z = true) : sameO x z = true := by
  rw [sameO_iff] at h k ⊢
  exact ⟨h.1.trans k.1, eqL_trans samePk_trans h.2 k.2⟩
theorem sameA_iff {a b : DataD} : sameA a b = true ↔ eqL samePk a.inst b.inst = true ∧ eqL sameO a.repos b.repos = true := by
  unfold sameA
  rw [Bool.and_eq_true]
theorem sameA_turn {a b : DataD} (h : sameA a b = true) : sameA b a = true := by
  rw [sameA_iff] at h ⊢
  exact ⟨eqL_turn samePk_turn h.1, eqL_turn sameO_turn h.2⟩
theorem sameA_trans {a b c : DataD} (h : sameA a b = true) (k : sameA b c = true) : sameA a c = true := by
  rw [sameA_iff] at h k ⊢
  exact ⟨eqL_trans samePk_trans h.1 k.1, eqL_trans sameO_trans h.2 k.2⟩
theorem sameA_comm (a b : DataD) : sameA a b = sameA b a := by
  rw [Bool.eq_iff_iff]
  exact ⟨sameA_turn, sameA_turn⟩
theorem sameA_refl (a : DataD) : sameA a a = true := sameA_trans (sameA_turn (same_normA a)) (same_normA a)
/-! ### Bytes -/
theorem encL_same {α : Type} {f : α → α → Bool} {one : α → List UInt8} (h : ∀ x y, f x y = true → one x = one y) {a b : List α} (h2 : eqL f a b = true) : encL one a = encL one b := by
  rw [eqL_iff] at h2
  have h3 : a.map one = b.map one := by
    apply List.ext_getElem
    · simp [h2.1]
    · intro j k1 k2
      rw [List.getElem_map, List.getElem_map]
      exact h _ _ (h2.2 j (by simpa using k1) (by simpa using k2))
  unfold encL
  rw [h2.1, List.flatMap_def, List.flatMap_def, h3]
theorem encR_same : (a b : RichD) → sameE a b = true → encR a = encR b
  | .nil, b, h => by
    rw [same_iff] at h
    rw [encR_eq, encR_eq b, ← h.1, ← h.2.1]
    unfold encRs
    rw [← h.2.2.1]
    rfl
  | .node k d n f, b, h => by
    rw [same_iff] at h
    rw [encR_eq, encR_eq b, ← h.1, ← h.2.1]
    unfold encRs
    rw [← h.2.2.1]
    rw [cat_congr (f := fun j => encR ((RichD.node k d n f).args j)) (g := fun j => encR (b.args j)) (RichD.node k d n f).n fun j hj => encR_same (f j) _ (h.2.2.2 j hj)]
theorem encRs_same {a b : RichD} (h : eqL sameE (argL a) (argL b) = true) : encRs a = encRs b := by
  have h' := (eqL_iff _ _ _).1 h
  have hn : a.n = b.n := by have := h'.1; rwa [argL_len, argL_len] at this
  unfold encRs
  rw [← hn, cat_congr a.n fun j hj => encR_same _ (b.args j) (by have := h'.2 j (by rw [argL_len]; exact hj) (by rw [argL_len]; omega); simpa [argL] using this)]
theorem encPk_same {p q : PkgD} (h : samePk p q = true) : encPk p = encPk q := by
  rw [samP_iff] at h
  unfold encPk
  rw [h.name, h.ep, h.ver, h.rel, h.arch, h.vendor, encL_same (fun x y e => congrArg encD (depSame_iff.1 e)) h.prov, encRs_same h.req, encRs_same h.con, encL_same (fun x y e => congrArg encD (depSame_iff.1 e)) h.obs, encRs_same h.reco, encRs_same h.sup, encRs_same h.sug, encRs_same h.enh, encL_same (fun x y e => congrArg encT (of_decide_eq_true e)) h.files]
theorem encO_same {x y : RepoD} (h : sameO x y = true) : encO x = encO y := by
  rw [sameO_iff] at h
  unfold encO
  rw [h.1, encL_same (one := encPk) (fun _ _ => encPk_same) h.2]
theorem encA_same {a b : DataD} (h : sameA a b = true) : encA a = encA b := by
  rw [sameA_iff] at h
  unfold encA
  rw [encL_same (one := encO) (fun _ _ => encO_same) h.2, encL_same (one := encPk) (fun _ _ => encPk_same) h.1]
/-- Where both may be: the bytes are the same just if the data are. -/
theorem enc_iff {a b : DataD} (ha : checkE a = 0) (hb : checkE b = 0) (la : (encA a).length ≤ 4194304) (lb : (encA b).length ≤ 4194304) : encA a = encA b ↔ sameA a b = true := by
  refine ⟨fun h => ?_, encA_same⟩
  have h1 := dec_enc ha la
  have h2 := dec_enc hb lb
  rw [h, h2] at h1
  injection h1 with h1
  exact sameA_trans (sameA_turn (same_normA a)) (h1 ▸ same_normA b)
end Go.Proofs.YtdpjjnbelgaagaaGreatDoor

namespace Go.Proofs.YtdpjjnbelgaagaaGreatDoor
open Go.ChangeShapes Go.WideShapes Go.ChangeAt Go.RowKit Go.Deep
set_option maxRecDepth 100000

abbrev nilV : Value := .slice none 0 0
abbrev nilPR : PkgR := ⟨nilV, nilV, nilV, nilV, nilV, nilV, nilV, nilV, nilV⟩
theorem bare_any (s : ByteArray) (w : World) : Calls Tryz.prog 9 #[.string s] w fun e w' => e = .returned (.agg #[.string s, .int .i64 0, .string { data := #[49] }, .string { data := #[50] }, .int .u8 2, .string ⟨#[]⟩, nilV, nilV, nilV, nilV, nilV, nilV, nilV, nilV, nilV]) ∧ Below w.heap.size w w' := by
  go_enter Tryz.func9, Tryz.ntmps9
  go_wp2_with fail
  exact bodyPost_ret (results_cell_row rfl _ _ w.heap.size 29 _ (0, 0) _ rfl (Blk.new w 29 _) Tryz.underlying29 rfl (by kernel_rfl)) rfl ⟨rfl, below_new _ _⟩
theorem ba_app (a b : List UInt8) : (⟨a.toArray⟩ : ByteArray) ++ ⟨b.toArray⟩ = ⟨(a ++ b).toArray⟩ := ByteArray.mk_append_mk a b
theorem bytes_eq1 (l : List UInt8) : ((((⟨#[UInt8.ofNat l.length]⟩ : ByteArray) ++ ⟨l.toArray⟩) ++ ⟨#[0, 1, 49, 1, 50, 2, 0]⟩) ++ ⟨#[0, 0, 0, 0, 0, 0, 0, 0, 0]⟩) = ⟨(bytesL l).toArray⟩ := by
  have h := ba_app [UInt8.ofNat l.length] l
  have h2 := ba_app (UInt8.ofNat l.length :: l) [0, 1, 49, 1, 50, 2, 0]
  have h3 := ba_app (UInt8.ofNat l.length :: l ++ [0, 1, 49, 1, 50, 2, 0]) [0, 0, 0, 0, 0, 0, 0, 0, 0]
  refine (congrArg (· ++ (⟨#[0, 0, 0, 0, 0, 0, 0, 0, 0]⟩ : ByteArray)) ((congrArg (· ++ (⟨#[0, 1, 49, 1, 50, 2, 0]⟩ : ByteArray)) h).trans h2)).trans (h3.trans ?_)
  simp [bytesL]
theorem bytes11_any (l : List UInt8) (hl : l.length < 128) (w : World) : Calls Tryz.prog 13 #[.string ⟨l.toArray⟩] w fun e w' => e = .returned (.string ⟨(bytesL l).toArray⟩) ∧ Below w.heap.size w w' := by
  have hs : (⟨l.toArray⟩ : ByteArray).size = l.length := by rfl
  have hc := conv_one w (l.length : Int) (by omega) (by omega)
  obtain ⟨T, hT⟩ : ∃ T : ByteArray, T = ⟨(bytesL l).toArray⟩ := ⟨_, rfl⟩
  rw [← hT]
  have HT := Lib.hid hT
  clear hT
  go_enter Tryz.func13, Tryz.ntmps13
  go_wp2_with fail
  go_ret
  exact ⟨congrArg (fun x => Ending.returned (.string x)) ((bytes_eq1 l).trans HT.out.symm), below_new _ _⟩
end Go.Proofs.YtdpjjnbelgaagaaGreatDoor

namespace Go.Proofs.YtdpjjnbelgaagaaGreatDoor
open Go.ChangeShapes Go.WideShapes Go.ChangeAt Go.RowKit Go.Deep
set_option maxRecDepth 100000

/-- One element in a block of its own. -/
theorem LIn.one1 {α : Type} {K : Kd α} {w : World} {g : Nat} {t : TypeId} {x : α} {r : K.R} (hb : Blk w g t (K.cells x r).toArray) (hh : K.holds anyB w x r) : LIn K anyB w [x] (.slice (some ⟨g, 0, none⟩) 1 1) := by
  refine ⟨some ⟨g, 0, none⟩, 1, rfl, by simp, fun j hj => ?_⟩
  obtain rfl : j = 0 := by simpa using hj
  refine ⟨g, 0, r, rfl, trivial, ⟨hb.lt, fun i hi => ?_⟩, hh⟩
  rw [show 0 + 0 * K.size + i = i from by omega, hb.cell]
  simp
theorem bare_in (B : World → Nat → Prop) (s : ByteArray) (hs : s.size ≤ 9223372036854775807) (w : World) : PkgIn B w (bareP s) nilPR := by
  refine ⟨hs, by show (1 : Nat) ≤ _; omega, by show (1 : Nat) ≤ _; omega, by show (0 : Nat) ≤ _; omega, ?_, ?_, LIn.nil _ _ _, ?_, ?_, LIn.nil _ _ _, ?_, ?_, ?_, ?_, LIn.nil _ _ _⟩
  · show (0 : Int) ≤ 2 ∧ (2 : Int) < 256
    omega
  · show -9223372036854775808 ≤ (0 : Int) ∧ (0 : Int) ≤ 9223372036854775807
    omega
  all_goals
    show LIn richK B w (argL nilR) nilV
    rw [show argL nilR = [] from argL_ofL 0 []]
    exact LIn.nil _ _ _
theorem enc_nil : encodeE ⟨[], []⟩ = ([0, 0], 0) := by
  have h0 : checkE ⟨[], []⟩ = 0 := by decide
  have e : encA ⟨[], []⟩ = [0, 0] := by
    unfold encA encL
    simp only [List.length_nil, numL_small 0 (by omega)]
    rfl
  rw [encode_yes h0 (by rw [e]; decide), e]
theorem enc_one : encodeE ⟨[⟨3, []⟩], []⟩ = ([1, 3, 0, 0], 0) := by
  have h0 : checkE ⟨[⟨3, []⟩], []⟩ = 0 := by decide
  have e : encA ⟨[⟨3, []⟩], []⟩ = [1, 3, 0, 0] := by
    unfold encA encL
    simp only [List.length_nil, List.length_cons, numL_small 0 (by omega), numL_small (0 + 1) (by omega), List.flatMap_cons, List.flatMap_nil, encO, encL, numL_small (Int.toNat 3) (by decide)]
    rfl
  rw [encode_yes h0 (by rw [e]; decide), e]
theorem may_bare_a : mayP (bareP ⟨#[97]⟩) = true := by
  unfold mayP bareP evrE wordE nameE fileE
  simp only [ByteArray.toList_eq]
  decide +kernel
theorem no_and : mayP (bareP ⟨#[97, 110, 100]⟩) = false := by
  unfold mayP bareP evrE wordE nameE fileE
  simp only [ByteArray.toList_eq]
  decide +kernel
theorem check_bare : checkE ⟨[], [bareP ⟨#[97]⟩]⟩ = 0 := check_ok.2 ⟨by simp, by simp [total_eq, sumP], rfl, rfl, by simp [may_bare_a]⟩
theorem len_bare : (encA ⟨[], [bareP ⟨#[97]⟩]⟩).length ≤ 4194304 := by
  have h := lenA check_bare
  have : wtA ⟨[], [bareP ⟨#[97]⟩]⟩ ≤ 100 := by decide +kernel
  omega
theorem back_bare : backE ⟨[], [bareP ⟨#[97]⟩]⟩ = true := back_yes check_bare len_bare
theorem pkg_and : pPkg ⟨([0, 1] ++ bytesL [97, 110, 100]).toArray⟩ 2 = .error (2, 4) := by
  unfold pPkg rBindAt rBind
  simp only [body_and, no_and]
  rfl
theorem no_and_at : noE ⟨([0, 1] ++ bytesL [97, 110, 100]).toArray⟩ 2 4 = true := by
  have h1 : pNum 0 16 ⟨([0, 1] ++ bytesL [97, 110, 100]).toArray⟩ 0 = .ok (0, 1) := by kernel_rfl
  have h2 : pNum 0 256 ⟨([0, 1] ++ bytesL [97, 110, 100]).toArray⟩ 1 = .ok (1, 2) := by kernel_rfl
  have h5 : pRep pPkg 1 ⟨([0, 1] ++ bytesL [97, 110, 100]).toArray⟩ 2 = .error (2, 4) := bind_err (p := pPkg) (f := fun x => rBind (pRep pPkg 0) fun l => rPure (x :: l)) |>.2 (.inl pkg_and)
  have h6 : pPkgs 256 ⟨([0, 1] ++ bytesL [97, 110, 100]).toArray⟩ 1 = .error (2, 4) := bind_err (p := pNum 0 ((256 : Nat) : Int)) (f := pRep pPkg) |>.2 (.inr ⟨1, 2, h2, h5⟩)
  have h3 : pData ⟨([0, 1] ++ bytesL [97, 110, 100]).toArray⟩ 0 = .error (2, 4) := by
    unfold pData
    refine bind_err.2 (.inr ⟨0, 1, h1, ?_⟩)
    refine bind_err.2 (.inr ⟨([], 256), 1, rfl, ?_⟩)
    exact bind_err.2 (.inl h6)
  have h4 : decE ⟨([0, 1] ++ bytesL [97, 110, 100]).toArray⟩ = .error (2, 4) := by
    unfold decE
    rw [if_neg (by decide), h3]
  unfold noE
  rw [h4]
  rfl
end Go.Proofs.YtdpjjnbelgaagaaGreatDoor

namespace Go.Proofs.YtdpjjnbelgaagaaGreatDoor
open Go.ChangeShapes Go.WideShapes Go.ChangeAt Go.RowKit Go.Deep
set_option maxRecDepth 100000

theorem enc_call {d : DataD} {vr vi : Value} {b : List UInt8} {e : Int} (he : encodeE d = (b, e)) (hw : wtA d ≤ 4611686018427387904) (w : World) (hd : DataIn anyB w d vr vi) (hW : Words w) (hO : Ops w) :
    Calls Tryz.prog 11 #[.agg #[vr, vi]] w fun r w' => r = .returned (.tuple #[.string ⟨b.toArray⟩, .int .i64 e]) ∧ Below w.heap.size w w' := by
  have h := encode_any w d vr vi hd w (Below.refl _ _) (data_few hw) hW hO
  rw [he] at h
  exact h
theorem no_yes {s : ByteArray} {place e : Int} (h : noE s place e = true) (w : World) (hW : Words w) (hO : Ops w) : Calls Tryz.prog 16 #[.string s, .int .i64 place, .int .i64 e] w fun r w' => r = .returned (.bool true) ∧ Below w.heap.size w w' := by
  have h2 := no11_any s place e w hW hO
  rw [h] at h2
  exact h2
theorem back_call {d : DataD} {vr vi : Value} (h : backE d = true) (hw : wtA d ≤ 4611686018427387904) (w : World) (hd : DataIn anyB w d vr vi) (hW : Words w) (hO : Ops w) : Calls Tryz.prog 14 #[.agg #[vr, vi]] w fun r w' => r = .returned (.bool true) ∧ Below w.heap.size w w' := by
  have h2 := back11_any d vr vi w hd (data_few hw) hW hO
  rw [h] at h2
  exact h2
theorem wt_bare : wtA ⟨[], [bareP ⟨#[97]⟩]⟩ ≤ 4611686018427387904 := by decide +kernel
set_option maxHeartbeats 8000000 in
theorem works11_any (w : World) (hW : Words w) (hO : Ops w) : Calls Tryz.prog 8 #[] w fun e w' => e = .returned (.bool true) ∧ Below w.heap.size w w' := by
  have HTab := Lib.hid (show ∀ w', Below w.heap.size w w' → Words w' ∧ Ops w' from fun w' h => ⟨hW.below h, hO.below h⟩)
  have HE1 := Lib.hid (show Calls Tryz.prog 11 #[.agg #[.slice none 0 0, .slice none 0 0]] w fun r w' => r = .returned (.tuple #[.string { data := #[0, 0] }, .int .i64 0]) ∧ Below w.heap.size w w' from enc_call enc_nil (by decide) w ⟨LIn.nil _ _ _, LIn.nil _ _ _⟩ hW hO)
  clear hW hO
  go_enter Tryz.func8, Tryz.ntmps8
  go_upto_region 2 with (first
    | (go_at_call 11; (with_reducible refine HE1.out.mono ?_); rintro r w1 ⟨rfl, hb1⟩; have HB1 := Lib.hid hb1; clear hb1)
    | fail)
  have HE2 := Lib.hid (show Calls Tryz.prog 11 #[.agg #[.slice (some ⟨w1.heap.size, 0, none⟩) 1 1, .slice none 0 0]] (w1.alloc (.cells #[.int .i64 3, .slice none 0 0] 38)) fun r w' => r = .returned (.tuple #[.string { data := #[1, 3, 0, 0] }, .int .i64 0]) ∧ Below (w1.alloc (.cells #[.int .i64 3, .slice none 0 0] 38)).heap.size (w1.alloc (.cells #[.int .i64 3, .slice none 0 0] 38)) w' from
    enc_call enc_one (by decide) _ ⟨LIn.one1 (K := repoK) (r := .slice none 0 0) (t := 38) (Blk.new _ _ _) ⟨by show -9223372036854775808 ≤ (3 : Int) ∧ (3 : Int) ≤ 9223372036854775807; omega, LIn.nil _ _ _⟩, LIn.nil _ _ _⟩ (HTab.out _ (below_t' HB1.out (new_b _ _))).1 (HTab.out _ (below_t' HB1.out (new_b _ _))).2)
  go_upto_region 3 with (first
    | (go_at_call 11; (with_reducible refine HE2.out.mono ?_); rintro r w2 ⟨rfl, hb2⟩; have HB2 := Lib.hid (below_t' HB1.out (below_t' (new_b _ _) hb2)); clear hb2)
    | fail)
  have HN1 := Lib.hid (show Calls Tryz.prog 16 #[.string { data := #[17] }, .int .i64 0, .int .i64 20] w2 _ from no_yes no_17 w2 (HTab.out _ HB2.out).1 (HTab.out _ HB2.out).2)
  obtain ⟨X, hX⟩ : ∃ X : ByteArray, X = ⟨(bytesL [97, 110, 100]).toArray⟩ := ⟨_, rfl⟩
  have HBy := Lib.hid (show ∀ w', Calls Tryz.prog 13 #[.string { data := #[97, 110, 100] }] w' fun e w'' => e = .returned (.string X) ∧ Below w'.heap.size w' w'' from fun w' => hX ▸ bytes11_any [97, 110, 100] (by decide) w')
  have HN2 := Lib.hid (show ∀ w', Below w.heap.size w w' → Calls Tryz.prog 16 #[.string ({ data := #[0, 1] } ++ X), .int .i64 2, .int .i64 4] w' (fun r w'' => r = .returned (.bool true) ∧ Below w'.heap.size w' w'') from fun w' h => no_yes (by rw [hX]; exact (congrArg (fun s => noE s 2 4) (ba_app [0, 1] (bytesL [97, 110, 100]))).trans no_and_at) w' (HTab.out _ h).1 (HTab.out _ h).2)
  have HBa := Lib.hid (fun w' => bare_any { data := #[97] } w')
  have HK := Lib.hid (show ∀ w', Below w.heap.size w w' → Calls Tryz.prog 14 #[.agg #[.slice none 0 0, .slice (some ⟨w'.heap.size, 0, none⟩) 1 1]] (w'.alloc (.cells #[.string { data := #[97] }, .int .i64 0, .string { data := #[49] }, .string { data := #[50] }, .int .u8 2, .string ⟨#[]⟩, nilV, nilV, nilV, nilV, nilV, nilV, nilV, nilV, nilV] 29)) (fun r w'' => r = .returned (.bool true) ∧ Below (w'.alloc (.cells #[.string { data := #[97] }, .int .i64 0, .string { data := #[49] }, .string { data := #[50] }, .int .u8 2, .string ⟨#[]⟩, nilV, nilV, nilV, nilV, nilV, nilV, nilV, nilV, nilV] 29)).heap.size (w'.alloc (.cells #[.string { data := #[97] }, .int .i64 0, .string { data := #[49] }, .string { data := #[50] }, .int .u8 2, .string ⟨#[]⟩, nilV, nilV, nilV, nilV, nilV, nilV, nilV, nilV, nilV] 29)) w'') from fun w' h =>
    back_call back_bare wt_bare _ ⟨LIn.nil _ _ _, LIn.one1 (K := pkgK) (r := nilPR) (x := bareP ⟨#[97]⟩) (t := 29) (Blk.new _ _ _) (bare_in _ _ (by show (1 : Nat) ≤ _; omega) _)⟩ (HTab.out _ (below_t' h (new_b _ _))).1 (HTab.out _ (below_t' h (new_b _ _))).2)
  have hxs : X.size ≤ 20 := by rw [hX]; decide +kernel
  clear hX
  go_wp2_with (first
    | (go_at_call 16; (with_reducible refine HN1.out.mono ?_); rintro r w3 ⟨rfl, hb3⟩; have HB3 := Lib.hid (below_t' HB2.out hb3); clear hb3)
    | (go_at_call 13; (with_reducible refine (HBy.out _).mono ?_); rintro r w4 ⟨rfl, hb4⟩; have HB4 := Lib.hid (below_t' HB3.out hb4); clear hb4)
    | (go_at_call 16; (with_reducible refine (HN2.out _ HB4.out).mono ?_); rintro r w5 ⟨rfl, hb5⟩; have HB5 := Lib.hid (below_t' HB4.out hb5); clear hb5)
    | (go_at_call 9; (with_reducible refine (HBa.out _).mono ?_); rintro r w6 ⟨rfl, hb6⟩; have HB6 := Lib.hid (below_t' HB5.out hb6); clear hb6)
    | (go_at_call 14; (with_reducible refine (HK.out _ HB6.out).mono ?_); rintro r w7 ⟨rfl, hb7⟩; have HB7 := Lib.hid (below_t' (below_t' HB6.out (new_b _ _)) hb7); clear hb7)
    | fail)
  go_ret
  exact ⟨rfl, HB7.out⟩
end Go.Proofs.YtdpjjnbelgaagaaGreatDoor

namespace Go.Proofs.YtdpjjnbelgaagaaGreatDoor
open Go.ChangeShapes Go.WideShapes Go.ChangeAt Go.RowKit

section
variable {H : Type} {enc : TypeId × Value → H}

theorem stays_all {P : Program} (hl : laidOutB P = true) {W W' : World} (hb : Below W.heap.size W W') :
    ∀ (ts : List TypeId) (vs : List Value) (ds : List (DataW H)) (ps : List MemPlace), ts.all (fun t => P.readableRec t && decide (t < P.types.size)) = true →
      DataW.TrodAll enc P W 0 (fun _ => true) true ts vs ds ps → (∀ x ∈ ps, x.block < W.heap.size) →
      DataW.TrodAll enc P W' 0 (fun b => decide (b < W.heap.size)) true ts vs ds ps
  | [], vs, ds, ps, _, h, _ => by
    obtain ⟨rfl, rfl, rfl⟩ := trodAll_nil h
    rfl
  | t :: ts, vs, ds, ps, hr, h, hlt => by
    obtain ⟨v, vs', d, ds', p, q, rfl, rfl, rfl, h0, h1⟩ := trodAll_cons h
    simp only [List.all_cons, Bool.and_eq_true, decide_eq_true_eq] at hr
    exact trodAll_cons_mk (Below.trod hl hr.1.1 hr.1.2 h0 hb fun x hx => hlt x (List.mem_append_left _ hx))
      (stays_all hl hb ts vs' ds' q (by simpa using hr.2) h1 fun x hx => hlt x (List.mem_append_right _ hx))
end
end Go.Proofs.YtdpjjnbelgaagaaGreatDoor
