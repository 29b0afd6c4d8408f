/- The laws' own helpers: large, same. Conditions: as each theorem names them. -/
import Derived.Test.YtdpjjnbelgaagaaGreatDoorG12
import Derived.Test.YtdpjjnbelgaagaaGreatDoorG18
import Derived.Test.YtdpjjnbelgaagaaGreatDoorG04
import Derived.Test.YtdpjjnbelgaagaaGreatDoorG09
import Derived.KernelRfl
import Derived.Laws.Concat
import Derived.WalkKit
import Derived.ProofKit
import Derived.OpenShut
import Derived.ShutString
import Derived.SizedLaws
import Derived.Test.YtdpjjnbelgaagaaGreatDoorG01
import Derived.Deep.Slices
import Derived.Deep.Fields
import Derived.ChangeSame
import Derived.Test.YtdpjjnbelgaagaaGreatDoorG07
import Derived.Test.YtdpjjnbelgaagaaGreatDoorG05
import Derived.Test.YtdpjjnbelgaagaaGreatDoorRows
import Derived.LaidMore
namespace Go.Proofs.YtdpjjnbelgaagaaGreatDoor
open Go.ChangeShapes Go.WideShapes Go.ChangeAt Go.RowKit Go.Deep
set_option maxRecDepth 100000

/-- Yes or no is returned, and memory stands. -/
abbrev SomeBool (w : World) : Ending → World → Prop := fun e w' => (∃ b : Bool, e = .returned (.bool b)) ∧ Below w.heap.size w w'
set_option maxHeartbeats 8000000 in
theorem large11_any (d : DataD) (vr vi : Value) (w : World) (hd : DataIn anyB w d vr vi) : Calls Tryz.prog 17 #[.agg #[vr, vi]] w (SomeBool w) := by
  obtain ⟨ar, cr, rfl⟩ := hd.repos.form
  obtain ⟨ai, ci, rfl⟩ := hd.inst.form
  have hn := hd.repos.bound
  have HD := Lib.hid hd
  clear hd
  obtain ⟨g, hg⟩ : ∃ g, g = w.heap.size := ⟨_, rfl⟩
  obtain ⟨W, hW⟩ : ∃ W, W = w.alloc (.cells #[.slice ar d.repos.length cr, .slice ai d.inst.length ci] 41) := ⟨_, rfl⟩
  have HX := Lib.hid (show Blk W g 41 #[.slice ar d.repos.length cr, .slice ai d.inst.length ci] ∧ Below w.heap.size w W from by rw [hW, hg]; exact ⟨Blk.new _ _ _, new_b _ _⟩)
  have d0 : W.cell? ⟨g, 0, none⟩ = some (.slice ar d.repos.length cr) := HX.out.1.cell 0
  have d1 : W.cell? ⟨g, 1, none⟩ = some (.slice ai d.inst.length ci) := HX.out.1.cell 1
  have dl : g < W.heap.size := HX.out.1.lt
  have HM := Lib.hid (fun (l : List PkgD) (v : Value) (h : LIn pkgK anyB w l v) (w' : World) (h2 : Below W.heap.size W w') => sizes_any l v 3000 w w' h (below_t' HX.out.2 h2))
  go_enter Tryz.func17, Tryz.ntmps17
  go_upto_region 1 with fail
  rw [← hg, ← hW]
  have HG := Lib.hid hg
  clear hW hg
  have HM1 := Lib.hid (HM.out d.inst _ HD.out.inst W (Below.refl _ _))
  go_upto_region 2 with (first
    | (go_at_call 39; (with_reducible refine HM1.out.mono ?_); rintro e w1 ⟨⟨q, rfl⟩, hb1⟩; have HB1 := Lib.hid hb1; clear hb1)
    | fail)
  go_wp2_with fail
  go_loopw [3, 4] (fun x i wr => ∃ (k : Nat) (m : Int), k ≤ d.repos.length ∧ i = .int .i64 k ∧ x = .int .i64 m ∧ Hid (Below W.heap.size W wr)) (fun _ i _ => d.repos.length - (intOf i).toNat)
  case atStart => exact ⟨0, _, by omega, rfl, rfl, HB1.out⟩
  case round =>
    obtain ⟨k, m, hk, rfl, rfl, HQ⟩ := hrel
    have hx := HX.out.1.below HQ.out HX.out.1.lt
    have e0 : wr.cell? ⟨g, 0, none⟩ = some (.slice ar d.repos.length cr) := hx.cell 0
    have el : g < wr.heap.size := hx.lt
    clear hx
    by_cases hlt : k < d.repos.length
    · have hki : (k : Int) < (d.repos.length : Int) := by omega
      by_cases hm : m < 3000
      · obtain ⟨b, o, r, ha, _, hcs, hh⟩ := HD.out.repos.at_ k hlt
        obtain ⟨x, hx⟩ : ∃ x, x = d.repos[k] := ⟨_, rfl⟩
        rw [← hx] at hcs hh
        subst ha
        dsimp only [repoK] at hcs hh r
        obtain ⟨xa, xc, rfl⟩ := hh.2.form
        have hcs2 := hcs.below (below_t' HX.out.2 HQ.out)
        have y1 : wr.cell? ⟨b, o + k * 2 + 1, none⟩ = some (.slice xa x.pkgs.length xc) := hcs2.2 1 (show 1 < 2 by omega)
        have yl : b < wr.heap.size := hcs2.1
        have HM2 := Lib.hid (HM.out x.pkgs _ hh.2 wr HQ.out)
        clear hcs hcs2 hh hx
        go_wp2_with (first
          | (go_at_call 39; (with_reducible refine HM2.out.mono ?_); rintro e w1 ⟨⟨q, rfl⟩, hb1⟩; have HB2 := Lib.hid (below_t' HQ.out hb1); clear hb1)
          | fail)
        go_roundw
        case rel => exact ⟨k + 1, _, by omega, by go_num, rfl, HB2.out⟩
        case measure => simp [intOf]; omega
      · go_wp2_with fail
        go_ret
        exact ⟨⟨_, rfl⟩, below_t' HX.out.2 HQ.out⟩
    · obtain rfl : k = d.repos.length := by omega
      go_wp2_with fail
      go_ret
      exact ⟨⟨_, rfl⟩, below_t' HX.out.2 HQ.out⟩

set_option maxHeartbeats 8000000 in
theorem same11_any (a b : DataD) (vr vi ur ui : Value) (w : World) (ha : DataIn anyB w a vr vi) (hb : DataIn anyB w b ur ui) :
    Calls Tryz.prog 19 #[.agg #[vr, vi], .agg #[ur, ui]] w fun e w' => e = .returned (.bool (sameA a b)) ∧ Below w.heap.size w w' := by
  obtain ⟨ar, cr, rfl⟩ := ha.repos.form
  obtain ⟨ai, ci, rfl⟩ := ha.inst.form
  obtain ⟨br, dr, rfl⟩ := hb.repos.form
  obtain ⟨bi, di, rfl⟩ := hb.inst.form
  obtain ⟨g, hg⟩ : ∃ g, g = w.heap.size := ⟨_, rfl⟩
  obtain ⟨W, hW⟩ : ∃ W, W = (w.alloc (.cells #[.slice ar a.repos.length cr, .slice ai a.inst.length ci] 41)).alloc (.cells #[.slice br b.repos.length dr, .slice bi b.inst.length di] 41) := ⟨_, rfl⟩
  have HX := Lib.hid (show Blk W g 41 #[.slice ar a.repos.length cr, .slice ai a.inst.length ci] ∧ Blk W (g + 1) 41 #[.slice br b.repos.length dr, .slice bi b.inst.length di] ∧ Below w.heap.size w W from by
    have hb1 := new_b w (.cells #[.slice ar a.repos.length cr, .slice ai a.inst.length ci] 41)
    have hb2 := new_b (w.alloc (.cells #[.slice ar a.repos.length cr, .slice ai a.inst.length ci] 41)) (.cells #[.slice br b.repos.length dr, .slice bi b.inst.length di] 41)
    have hx1 := Blk.new w 41 #[.slice ar a.repos.length cr, .slice ai a.inst.length ci]
    have hx2 := Blk.new (w.alloc (.cells #[.slice ar a.repos.length cr, .slice ai a.inst.length ci] 41)) 41 #[.slice br b.repos.length dr, .slice bi b.inst.length di]
    rw [World.size_alloc] at hx2
    rw [hW, hg]
    exact ⟨hx1.below hb2 hx1.lt, hx2, below_t' hb1 hb2⟩)
  have d0 : W.cell? ⟨g, 0, none⟩ = some (.slice ar a.repos.length cr) := HX.out.1.cell 0
  have d1 : W.cell? ⟨g, 1, none⟩ = some (.slice ai a.inst.length ci) := HX.out.1.cell 1
  have d2 : W.cell? ⟨g + 1, 0, none⟩ = some (.slice br b.repos.length dr) := HX.out.2.1.cell 0
  have d3 : W.cell? ⟨g + 1, 1, none⟩ = some (.slice bi b.inst.length di) := HX.out.2.1.cell 1
  have dl : g < W.heap.size := HX.out.1.lt
  have dl' : g + 1 < W.heap.size := HX.out.2.1.lt
  have HC := Lib.hid (r11same_any a b _ _ _ _ W (ha.bl HX.out.2.2) (hb.bl HX.out.2.2))
  clear ha hb
  go_enter Tryz.func19, Tryz.ntmps19
  go_upto_region 1 with fail
  rw [← hg, ← hW]
  have HG := Lib.hid hg
  clear hW hg
  go_wp2_with (first
    | (go_at_call 24; (with_reducible refine HC.out.mono ?_); rintro e w1 ⟨rfl, hb1⟩; have HB1 := Lib.hid (below_t' HX.out.2.2 hb1); clear hb1)
    | fail)
  go_ret
  exact ⟨rfl, HB1.out⟩
end Go.Proofs.YtdpjjnbelgaagaaGreatDoor

namespace Go.Proofs.YtdpjjnbelgaagaaGreatDoor
open Go.ChangeShapes Go.WideShapes Go.ChangeAt Go.RowKit Go.Deep
set_option maxRecDepth 100000

/-- What Decode answers, in one word. -/
def Dec3 (s : ByteArray) (d : DataD) (n : Nat) (f : Int) : Prop := (decE s = .ok d ∧ n = 0 ∧ f = 0) ∨ (decE s = .error (n, f) ∧ d = ⟨[], []⟩)
theorem dec3 {s : ByteArray} {n0 : Nat} {ret : Ending} {w' : World} (h : DecPost s n0 ret w') :
    ∃ d ar cr ai ci n f, ret = .returned (.tuple #[.agg #[.slice ar d.repos.length cr, .slice ai d.inst.length ci], .int .i64 ((n : Nat) : Int), .int .i64 f]) ∧ DataIn anyB w' d (.slice ar d.repos.length cr) (.slice ai d.inst.length ci) ∧ Dec3 s d n f := by
  unfold DecPost at h
  cases hd : decE s with
  | ok d =>
    rw [hd] at h
    obtain ⟨vr, vi, rfl, h2⟩ := h
    obtain ⟨ar, cr, rfl⟩ := h2.repos.form
    obtain ⟨ai, ci, rfl⟩ := h2.inst.form
    exact ⟨d, ar, cr, ai, ci, 0, 0, rfl, h2.keep (Nat.le_refl _) fun b _ _ => ⟨rfl, trivial⟩, .inl ⟨hd, rfl, rfl⟩⟩
  | error x =>
    rw [hd] at h
    exact ⟨⟨[], []⟩, none, 0, none, 0, x.1, x.2, h, ⟨LIn.nil _ _ _, LIn.nil _ _ _⟩, .inr ⟨hd, rfl⟩⟩
def noE (s : ByteArray) (place e : Int) : Bool := match decE s with
  | .ok d => decide (0 = place) && (decide (0 = e) && sameA d ⟨[], []⟩)
  | .error x => decide ((x.1 : Int) = place) && decide (x.2 = e)
theorem sameA_nil : sameA ⟨[], []⟩ ⟨[], []⟩ = true := rfl
theorem noE_dec3 {s : ByteArray} {d : DataD} {n : Nat} {f place e : Int} (h : Dec3 s d n f) : noE s place e = (decide ((n : Int) = place) && (decide (f = e) && sameA d ⟨[], []⟩)) := by
  unfold noE
  rcases h with ⟨h, rfl, rfl⟩ | ⟨h, rfl⟩
  · rw [h]; rfl
  · rw [h, sameA_nil, Bool.and_true]
set_option maxHeartbeats 8000000 in
theorem no11_any (s : ByteArray) (place e : Int) (w : World) (hW : Words w) (hO : Ops w) :
    Calls Tryz.prog 16 #[.string s, .int .i64 place, .int .i64 e] w fun r w' => r = .returned (.bool (noE s place e)) ∧ Below w.heap.size w w' := by
  obtain ⟨T, hT⟩ : ∃ T, T = noE s place e := ⟨_, rfl⟩
  rw [← hT]
  have HT := Lib.hid hT
  have HD := Lib.hid (decode_any s w hW hO)
  clear hT hW hO
  go_enter Tryz.func16, Tryz.ntmps16
  go_upto_region 2 with (first
    | (go_at_call 18; (with_reducible refine HD.out.mono ?_); rintro r w1 ⟨hb1, hp1⟩; obtain ⟨d, ar, cr, ai, ci, n, f, rfl, hd1, hk1⟩ := dec3 hp1; have HB1 := Lib.hid hb1; have HI1 := Lib.hid hd1; have HK1 := Lib.hid hk1; clear hb1 hp1 hd1 hk1)
    | fail)
  obtain ⟨g, hg⟩ : ∃ g, g = w1.heap.size := ⟨_, rfl⟩
  obtain ⟨w2, hw2⟩ : ∃ w2, w2 = w1.alloc (.cells #[.slice ar d.repos.length cr, .slice ai d.inst.length ci] 41) := ⟨_, rfl⟩
  have HX := Lib.hid (show Blk w2 g 41 #[.slice ar d.repos.length cr, .slice ai d.inst.length ci] ∧ Below w1.heap.size w1 w2 from by rw [hw2, hg]; exact ⟨Blk.new _ _ _, new_b _ _⟩)
  have c0 : w2.cell? ⟨g, 0, none⟩ = some (.slice ar d.repos.length cr) := HX.out.1.cell 0
  have c1 : w2.cell? ⟨g, 1, none⟩ = some (.slice ai d.inst.length ci) := HX.out.1.cell 1
  have cl := HX.out.1.lt
  rw [← hw2, ← hg]
  have HG := Lib.hid hg
  clear hw2 hg
  have HBz := Lib.hid (show Below w.heap.size w w2 from below_t' HB1.out HX.out.2)
  have HC := Lib.hid (same11_any d ⟨[], []⟩ _ _ (.slice none 0 0) (.slice none 0 0) w2 (HI1.out.bl HX.out.2) ⟨LIn.nil _ _ _, LIn.nil _ _ _⟩)
  have HT3 := Lib.hid (HT.out.trans (noE_dec3 (place := place) (e := e) HK1.out))
  by_cases hp : (n : Int) = place
  · subst hp
    by_cases he : f = e
    · subst he
      go_wp2_with (first
        | (go_at_call 19; (with_reducible refine HC.out.mono ?_); rintro r w3 ⟨rfl, hb3⟩; have HB3 := Lib.hid (below_t' HBz.out hb3); clear hb3)
        | fail)
      go_ret
      exact ⟨ret_bool (by rw [HT3.out]; simp), HB3.out⟩
    · have he2 : (f == e) = false := by simpa using he
      have HN := Lib.hid he
      go_wp2_with fail
      go_ret
      exact ⟨ret_bool (by rw [HT3.out, decide_eq_false HN.out]; simp), HBz.out⟩
  · have hp2 : ((n : Int) == place) = false := by simpa using hp
    have HN := Lib.hid hp
    go_wp2_with fail
    go_ret
    exact ⟨ret_bool (by rw [HT3.out, decide_eq_false HN.out]; simp), HBz.out⟩

theorem dec_err {s : ByteArray} {p : Nat} {x : Int} (h : decE s = .error (p, x)) : x ≠ 0 := by
  by_cases hs : s.size ≤ 4194304
  · exact (dec_place hs h).2
  · rw [dec_long' (by omega)] at h
    injection h with h
    injection h with _ h
    omega
def backE (d : DataD) : Bool := decide ((encodeE d).2 = 0) && (match decE ⟨(encodeE d).1.toArray⟩ with
  | .ok x => sameA x d
  | .error _ => false)
theorem backE_dec3 {d x : DataD} {b : List UInt8} {e : Int} {n : Nat} {f : Int} (he : (b, e) = encodeE d) (h : Dec3 ⟨b.toArray⟩ x n f) : backE d = (decide (e = 0) && (decide (f = 0) && (decide ((n : Int) = 0) && sameA x d))) := by
  unfold backE
  rw [← he]
  simp only
  rcases h with ⟨h, rfl, rfl⟩ | ⟨h, rfl⟩
  · rw [h]; simp
  · rw [h]
    have := dec_err h
    simp [this]
set_option maxHeartbeats 8000000 in
theorem back11_any (d : DataD) (vr vi : Value) (w : World) (hd : DataIn anyB w d vr vi) (hf : d.few) (hW : Words w) (hO : Ops w) :
    Calls Tryz.prog 14 #[.agg #[vr, vi]] w fun r w' => r = .returned (.bool (backE d)) ∧ Below w.heap.size w w' := by
  obtain ⟨br, dr, rfl⟩ := hd.repos.form
  obtain ⟨bi, di, rfl⟩ := hd.inst.form
  obtain ⟨g, hg⟩ : ∃ g, g = w.heap.size := ⟨_, rfl⟩
  obtain ⟨W, hWe⟩ : ∃ W, W = w.alloc (.cells #[.slice br d.repos.length dr, .slice bi d.inst.length di] 41) := ⟨_, rfl⟩
  have HX := Lib.hid (show Blk W g 41 #[.slice br d.repos.length dr, .slice bi d.inst.length di] ∧ Below w.heap.size w W from by rw [hWe, hg]; exact ⟨Blk.new _ _ _, new_b _ _⟩)
  have d0 : W.cell? ⟨g, 0, none⟩ = some (.slice br d.repos.length dr) := HX.out.1.cell 0
  have d1 : W.cell? ⟨g, 1, none⟩ = some (.slice bi d.inst.length di) := HX.out.1.cell 1
  have dl := HX.out.1.lt
  have HE := Lib.hid (encode_any w d _ _ hd W HX.out.2 hf (hW.below HX.out.2) (hO.below HX.out.2))
  obtain ⟨⟨eb, ee⟩, hee⟩ : ∃ p, p = encodeE d := ⟨_, rfl⟩
  rw [← hee] at HE
  have HEE := Lib.hid hee
  have HDw := Lib.hid hd
  have HTab := Lib.hid (show Words w ∧ Ops w from ⟨hW, hO⟩)
  obtain ⟨T, hT⟩ : ∃ T, T = backE d := ⟨_, rfl⟩
  rw [← hT]
  have HT := Lib.hid hT
  clear hT hW hO hd hf hee
  go_enter Tryz.func14, Tryz.ntmps14
  go_upto_region 1 with fail
  rw [← hg, ← hWe]
  have HG := Lib.hid hg
  clear hWe hg
  go_upto_region 2 with (first
    | (go_at_call 11; (with_reducible refine HE.out.mono ?_); rintro r w1 ⟨rfl, hb1⟩; have HB1 := Lib.hid hb1; clear hb1)
    | fail)
  have HBw := Lib.hid (show Below w.heap.size w w1 from below_t' HX.out.2 HB1.out)
  have HD := Lib.hid (decode_any ⟨eb.toArray⟩ w1 (HTab.out.1.below HBw.out) (HTab.out.2.below HBw.out))
  clear d0 d1 dl
  go_upto_region 3 with (first
    | (go_at_call 18; (with_reducible refine HD.out.mono ?_); rintro r w2 ⟨hb2, hp2⟩; obtain ⟨x, ar, cr, ai, ci, n, f, rfl, hd2, hk2⟩ := dec3 hp2; have HB2 := Lib.hid hb2; have HI2 := Lib.hid hd2; have HK2 := Lib.hid hk2; clear hb2 hp2 hd2 hk2)
    | fail)
  obtain ⟨g2, hg2⟩ : ∃ g, g = w2.heap.size := ⟨_, rfl⟩
  obtain ⟨w3, hw3⟩ : ∃ w3, w3 = w2.alloc (.cells #[.slice ar x.repos.length cr, .slice ai x.inst.length ci] 41) := ⟨_, rfl⟩
  have HY := Lib.hid (show Blk w3 g2 41 #[.slice ar x.repos.length cr, .slice ai x.inst.length ci] ∧ Below w2.heap.size w2 w3 from by rw [hw3, hg2]; exact ⟨Blk.new _ _ _, new_b _ _⟩)
  rw [← hw3, ← hg2]
  have HG2 := Lib.hid hg2
  clear hw3 hg2
  have HBz := Lib.hid (show Below w.heap.size w w3 from below_t' (below_t' HBw.out HB2.out) HY.out.2)
  have HBx := Lib.hid (show Below W.heap.size W w3 from below_t' (below_t' HB1.out HB2.out) HY.out.2)
  have c0 : w3.cell? ⟨g2, 0, none⟩ = some (.slice ar x.repos.length cr) := HY.out.1.cell 0
  have c1 : w3.cell? ⟨g2, 1, none⟩ = some (.slice ai x.inst.length ci) := HY.out.1.cell 1
  have cl := HY.out.1.lt
  have d0 : w3.cell? ⟨g, 0, none⟩ = some (.slice br d.repos.length dr) := (HX.out.1.below HBx.out HX.out.1.lt).cell 0
  have d1 : w3.cell? ⟨g, 1, none⟩ = some (.slice bi d.inst.length di) := (HX.out.1.below HBx.out HX.out.1.lt).cell 1
  have dl := (HX.out.1.below HBx.out HX.out.1.lt).lt
  have HC := Lib.hid (same11_any x d _ _ _ _ w3 (HI2.out.bl HY.out.2) (HDw.out.bl HBz.out))
  have HT3 := Lib.hid (HT.out.trans (backE_dec3 HEE.out HK2.out))
  by_cases he : ee = 0
  · subst he
    by_cases hf : f = 0
    · subst hf
      by_cases hn : (n : Int) = 0
      · obtain rfl : n = 0 := by omega
        clear hn
        go_wp2_with (first
          | (go_at_call 19; (with_reducible refine HC.out.mono ?_); rintro r w4 ⟨rfl, hb4⟩; have HB4 := Lib.hid (below_t' HBz.out hb4); clear hb4)
          | fail)
        go_ret
        exact ⟨ret_bool (by rw [HT3.out]; simp), HB4.out⟩
      · have hn2 : ((n : Int) == 0) = false := by simpa using hn
        have HN := Lib.hid hn
        go_wp2_with fail
        go_ret
        exact ⟨ret_bool (by rw [HT3.out, decide_eq_false HN.out]; simp), HBz.out⟩
    · have hf2 : (f == 0) = false := by simpa using hf
      have HN := Lib.hid hf
      go_wp2_with fail
      go_ret
      exact ⟨ret_bool (by rw [HT3.out, decide_eq_false HN.out]; simp), HBz.out⟩
  · have he2 : (ee == 0) = false := by simpa using he
    have HN := Lib.hid he
    go_wp2_with fail
    go_ret
    exact ⟨ret_bool (by rw [HT3.out, decide_eq_false HN.out]; simp), HBz.out⟩
end Go.Proofs.YtdpjjnbelgaagaaGreatDoor

namespace Go.Proofs.YtdpjjnbelgaagaaGreatDoor
open Go.ChangeShapes Go.WideShapes Go.ChangeAt Go.RowKit
set_option maxRecDepth 100000

def wtS (s : ByteArray) : Nat := s.size + 1
def wtD (d : DepD) : Nat := wtS d.name + wtS d.ver + wtS d.rel + 4
def wtR : RichD → Nat
  | .nil => 8
  | .node _ d n f => wtD d + 3 + sumN (fun j => wtR (f j)) n
def wtRs (r : RichD) : Nat := 1 + sumN (fun j => wtR (r.args j)) r.n
def wtL {α : Type} (g : α → Nat) (l : List α) : Nat := 1 + (l.map g).sum
def wtP (p : PkgD) : Nat := wtS p.name + wtS p.ver + wtS p.rel + wtS p.vendor + wtL wtD p.prov + wtRs p.req + wtRs p.con + wtL wtD p.obs + wtRs p.reco + wtRs p.sup + wtRs p.sug + wtRs p.enh + wtL wtS p.files + 4
def wtO (r : RepoD) : Nat := wtL wtP r.pkgs + 2
def wtA (d : DataD) : Nat := wtL wtO d.repos + wtL wtP d.inst + 1

theorem sumW_le {f g : Nat → Nat} : ∀ n : Nat, (∀ j, j < n → f j ≤ g j) → sumN f n ≤ sumN g n
  | 0, _ => Nat.le_refl _
  | n + 1, h => Nat.add_le_add (sumW_le n fun j hj => h j (by omega)) (h n (by omega))
theorem sumW_at {f : Nat → Nat} : ∀ {n j : Nat}, j < n → f j ≤ sumN f n
  | n + 1, j, h => by
    show f j ≤ sumN f n + f n
    by_cases e : j = n
    · rw [e]; omega
    · have := sumW_at (f := f) (n := n) (j := j) (by omega); omega
theorem count_wt : ∀ r : RichD, r.count ≤ wtR r
  | .nil => by show 1 ≤ 8; omega
  | .node k d n f => by
    show 1 + sumN (fun j => (f j).count) n ≤ wtD d + 3 + sumN (fun j => wtR (f j)) n
    have := sumW_le (f := fun j => (f j).count) (g := fun j => wtR (f j)) n fun j _ => count_wt (f j)
    omega
theorem argL_wt {r x : RichD} (h : x ∈ argL r) : x.count ≤ wtRs r := by
  obtain ⟨j, hj, rfl⟩ := List.mem_map.1 h
  have h1 := count_wt (r.args j)
  have h2 := sumW_at (f := fun j => wtR (r.args j)) (n := r.n) (j := j) (by simpa using hj)
  unfold wtRs
  omega
theorem wtL_mem {α : Type} {g : α → Nat} {l : List α} {x : α} (h : x ∈ l) : g x ≤ wtL g l := by
  induction l with
  | nil => cases h
  | cons y l ih =>
    unfold wtL at ih ⊢
    simp only [List.map_cons, List.sum_cons]
    rcases List.mem_cons.1 h with rfl | h
    · omega
    · have := ih h; omega
theorem pkg_few {p : PkgD} (h : wtP p ≤ 4611686018427387904) : p.few := by
  intro r hr x hx
  have h1 := argL_wt hx
  unfold wtP at h
  rcases hr with rfl | rfl | rfl | rfl | rfl | rfl <;> omega
theorem wtP_pos (p : PkgD) : 1 ≤ wtP p := by unfold wtP; omega
theorem len_wtP (l : List PkgD) : l.length ≤ (l.map wtP).sum := by
  induction l with
  | nil => exact Nat.le_refl _
  | cons p l ih =>
    have := wtP_pos p
    simp only [List.length_cons, List.map_cons, List.sum_cons]
    omega
theorem sumP_wt (l : List RepoD) : sumP l ≤ (l.map wtO).sum := by
  induction l with
  | nil => exact Nat.le_refl _
  | cons p l ih =>
    have h1 : sumP (p :: l) = p.pkgs.length + sumP l := by simp [sumP]
    have h2 : wtO p = 1 + (p.pkgs.map wtP).sum + 2 := rfl
    have h3 := len_wtP p.pkgs
    simp only [List.map_cons, List.sum_cons]
    omega
theorem data_few {d : DataD} (h : wtA d ≤ 4611686018427387904) : d.few := by
  have e0 : wtA d = 1 + (d.repos.map wtO).sum + (1 + (d.inst.map wtP).sum) + 1 := rfl
  refine ⟨fun x hx p hp => pkg_few ?_, fun p hp => pkg_few ?_, ?_⟩
  · have h1 := wtL_mem (g := wtO) hx
    have h2 := wtL_mem (g := wtP) hp
    have e1 : wtO x = wtL wtP x.pkgs + 2 := rfl
    have e2 : wtL wtO d.repos = 1 + (d.repos.map wtO).sum := rfl
    omega
  · have h2 := wtL_mem (g := wtP) hp
    have e2 : wtL wtP d.inst = 1 + (d.inst.map wtP).sum := rfl
    omega
  · have h1 := sumP_wt d.repos
    have h2 := len_wtP d.inst
    rw [total_eq]
    omega

/-! ### Bytes -/
theorem numL_1 {n : Nat} (h : n < 128) : (numL n).length = 1 := by rw [numL_small n h]; rfl
theorem numL_2 {n : Nat} (h : n < 16384) : (numL n).length ≤ 2 := numL_le 1 n (by omega)
theorem numL_5 {n : Nat} (h : n < 34359738368) : (numL n).length ≤ 5 := numL_le 4 n (by omega)
theorem lenT {s : ByteArray} (h : s.size ≤ 64) : (encT s).length = wtS s := by
  unfold encT wtS
  rw [List.length_append, numL_1 (by omega), size_list]
  omega
theorem lenV {e : Int} {v r : ByteArray} {b : Bool} (h : evrE e v r b = true) : (encV e v r).length ≤ 5 + wtS v + wtS r := by
  obtain ⟨h1, h2, h3, h4⟩ := evr_size h
  unfold encV
  have h5 := numL_5 (n := e.toNat) (by omega)
  rw [List.length_append, List.length_append, lenT h3, lenT h4]
  omega
theorem wtS_pos (s : ByteArray) : 1 ≤ wtS s := by unfold wtS; omega
theorem lenD {d : DepD} (h : depE d = true) : (encD d).length ≤ 3 * wtD d := by
  unfold depE at h
  simp only [Bool.and_eq_true] at h
  obtain ⟨h1, h2, h3⟩ := h
  obtain ⟨h4, h5⟩ := op_size h2
  unfold encD
  have hn := lenT (name_size h1)
  have ho := numL_1 (n := d.op.toNat) (by omega)
  have p1 := wtS_pos d.ver
  have p2 := wtS_pos d.rel
  unfold wtD
  rw [List.length_append, List.length_append, hn, ho]
  by_cases h0 : d.op = 0
  · rw [if_pos h0]
    simp only [List.length_nil]
    omega
  · rw [if_neg h0]
    rw [if_neg h0, Bool.and_eq_true] at h3
    have := lenV h3.2
    omega
theorem lenCat {f : Nat → List UInt8} {g : Nat → Nat} : ∀ n : Nat, (∀ j, j < n → (f j).length ≤ 3 * g j) → (catN f n).length ≤ 3 * sumN g n
  | 0, _ => Nat.zero_le _
  | n + 1, h => by
    show (catN f n ++ f n).length ≤ 3 * (sumN g n + g n)
    have h1 := lenCat n fun j hj => h j (by omega)
    have h2 := h n (by omega)
    rw [List.length_append]
    omega
theorem lenR {wh : Int} : (r : RichD) → ∀ al : Bool, fitsE wh r al = true → r.count ≤ 24 → (encR r).length ≤ 3 * wtR r
  | .nil, al, h, _ => by cases h
  | .node k d n f, al, h, hc => by
    have ih := fun j (_ : j < n) => lenR (wh := wh) (f j)
    replace h : (if k = 1 then decide (n = 0) && depE d else (okE wh k n al && d.none) && allN (fun j => fitsE wh (f j) (aloneE k al)) n) = true := h
    have hn : n < (RichD.node k d n f).count := n_lt (.node k d n f)
    show (numL k.toNat ++ if k = 1 then encD d else numL n ++ catN (fun j => encR (f j)) n).length ≤ 3 * (wtD d + 3 + sumN (fun j => wtR (f j)) n)
    rw [List.length_append]
    by_cases hk : k = 1
    · rw [if_pos hk, Bool.and_eq_true, decide_eq_true_eq] at h
      rw [if_pos hk]
      have h1 := lenD h.2
      have h2 := numL_1 (n := k.toNat) (by omega)
      omega
    · rw [if_neg hk, Bool.and_eq_true, Bool.and_eq_true] at h
      obtain ⟨⟨h1, h2⟩, h3⟩ := h
      obtain ⟨k1, k2, k3⟩ := okE_two h1
      rw [if_neg hk]
      have h4 := numL_1 (n := k.toNat) (by omega)
      have h5 := numL_1 (n := n) (by omega)
      have h6 := lenCat (f := fun j => encR (f j)) (g := fun j => wtR (f j)) n fun j hj => by
        have hac := arg_count (r := .node k d n f) (j := j) hj
        simp only [RichD.args] at hac
        exact ih j hj _ (allN_iff n |>.1 h3 j hj) (by omega)
      rw [List.length_append]
      omega
theorem lenRs {wh : Int} {r : RichD} (h : richesE wh r = true) : (encRs r).length ≤ 3 * wtRs r := by
  obtain ⟨h1, h2⟩ := riches_n h
  unfold encRs wtRs
  have h3 := lenCat (f := fun j => encR (r.args j)) (g := fun j => wtR (r.args j)) r.n fun j hj => by
    obtain ⟨k1, k2, k3⟩ := may_fits (h2 j hj)
    exact lenR _ _ k1 k3
  have h4 := numL_1 (n := r.n) (by omega)
  rw [List.length_append]
  omega
theorem lenL {α : Type} {one : α → List UInt8} {g : α → Nat} {l : List α} (hn : l.length < 16384) (h : ∀ x ∈ l, (one x).length ≤ 3 * g x) : (encL one l).length ≤ 3 * wtL g l := by
  have h1 : (l.flatMap one).length ≤ 3 * (l.map g).sum := by
    clear hn
    induction l with
    | nil => simp
    | cons x l ih =>
      have h2 := h x (List.mem_cons_self ..)
      have h3 := ih fun y hy => h y (List.mem_cons_of_mem _ hy)
      simp only [List.flatMap_cons, List.length_append, List.map_cons, List.sum_cons]
      omega
  unfold encL wtL
  have h2 := numL_2 hn
  rw [List.length_append]
  omega
theorem lenP {p : PkgD} (h : mayP p = true) : (encPk p).length ≤ 3 * wtP p := by
  have m := mayP_is h
  have h1 := lenT (name_size m.name)
  have h2 := lenV m.evr
  have h3 := lenT m.vendor
  have h4 := numL_1 (n := p.arch.toNat) (by have := m.arch; omega)
  have h5 := lenL (one := encD) (g := wtD) (l := p.prov) (by have := m.prov.1; omega) fun d hd => lenD (m.prov.2 d hd)
  have h6 := lenL (one := encD) (g := wtD) (l := p.obs) (by have := m.obs.1; omega) fun d hd => lenD (m.obs.2 d hd)
  have h7 := lenL (one := encT) (g := wtS) (l := p.files) (by have := m.files.1; omega) fun d hd => by
    rw [lenT (name_size (file_name (m.files.2 d hd)))]
    omega
  have r1 := lenRs m.req
  have r2 := lenRs m.con
  have r3 := lenRs m.reco
  have r4 := lenRs m.sup
  have r5 := lenRs m.sug
  have r6 := lenRs m.enh
  unfold encPk wtP
  simp only [List.length_append]
  omega
theorem lenO {r : RepoD} (h0 : 0 ≤ r.prio) (h1 : r.prio ≤ 1024) (h2 : r.pkgs.all mayP = true) (h3 : r.pkgs.length ≤ 256) : (encO r).length ≤ 3 * wtO r := by
  unfold encO wtO
  have h4 := numL_2 (n := r.prio.toNat) (by omega)
  have h5 := lenL (one := encPk) (g := wtP) (l := r.pkgs) (by omega) fun p hp => lenP (List.all_eq_true.1 h2 p hp)
  rw [List.length_append]
  omega
theorem lenA {d : DataD} (h : checkE d = 0) : (encA d).length ≤ 3 * wtA d := by
  obtain ⟨q1, q2, q3, q4, q5⟩ := check_ok.1 h
  have ht := total_eq d
  have h5 := lenL (one := encPk) (g := wtP) (l := d.inst) (by omega) fun p hp => lenP (List.all_eq_true.1 q5 p hp)
  have h6 := lenL (one := encO) (g := wtO) (l := d.repos) (by omega) fun r hr => by
    have k1 := List.all_eq_true.1 q3 r hr
    rw [Bool.and_eq_true, decide_eq_true_eq, decide_eq_true_eq] at k1
    have k2 : r.pkgs.length ≤ sumP d.repos := by
      clear h5 ht q1 q2 q3 q4 q5 k1 h
      unfold sumP
      generalize d.repos = l at hr
      induction l with
      | nil => cases hr
      | cons y l ih =>
        simp only [List.map_cons, List.sum_cons]
        rcases List.mem_cons.1 hr with rfl | hr
        · omega
        · have := ih hr; omega
    exact lenO k1.1 k1.2 (List.all_eq_true.1 q4 r hr) (by omega)
  unfold encA wtA
  rw [List.length_append]
  omega
end Go.Proofs.YtdpjjnbelgaagaaGreatDoor

namespace Go.Proofs.YtdpjjnbelgaagaaGreatDoor
open Go.ChangeShapes Go.WideShapes Go.ChangeAt Go.RowKit Go.Deep
set_option maxRecDepth 100000

theorem eqL_map {α : Type} {f : α → α → Bool} {g : α → α} (h : ∀ x, f (g x) x = true) : ∀ l : List α, eqL f (l.map g) l = true
  | [] => rfl
  | x :: l => by
    show (f (g x) x && eqL f (l.map g) l) = true
    rw [h, eqL_map h l]
    rfl
theorem eqL_refl {α : Type} {f : α → α → Bool} (h : ∀ x, f x x = true) (l : List α) : eqL f l l = true := by
  have := eqL_map (g := id) h l
  rwa [List.map_id] at this
theorem dep_refl (d : DepD) : depSame d d = true := dep_all rfl rfl rfl rfl rfl
theorem args_normL (r : RichD) : eqL sameE (argL (normL r)) (argL r) = true := by
  unfold normL
  rw [argL_ofL]
  exact eqL_map same_norm _
theorem same_normP (p : PkgD) : samePk (normP p) p = true := by
  unfold samePk
  simp only [normP, decide_true, args_normL, eqL_refl dep_refl, eqL_refl (f := eqT) (fun x => decide_eq_true rfl), Bool.and_true]
theorem same_normO (r : RepoD) : sameO (normO r) r = true := by
  unfold sameO
  simp only [normO, decide_true, Bool.true_and, eqL_map same_normP]
theorem same_normA (d : DataD) : sameA (normA d) d = true := by
  unfold sameA
  simp only [normA, eqL_map same_normP, eqL_map same_normO, Bool.and_true]
/-- What may be comes back. -/
theorem back_yes {d : DataD} (h : checkE d = 0) (hl : (encA d).length ≤ 4194304) : backE d = true := by
  unfold backE
  rw [encode_yes h hl]
  simp only [dec_enc h hl, same_normA, decide_true, Bool.true_and]

abbrev strB (l : List UInt8) : ByteArray := ⟨l.toArray⟩
def nilR : RichD := ofL 0 []
def bareP (name : ByteArray) : PkgD := ⟨name, 0, ⟨#[49]⟩, ⟨#[50]⟩, 2, ⟨#[]⟩, [], nilR, nilR, [], nilR, nilR, nilR, nilR, []⟩
theorem no_17 : noE ⟨#[17]⟩ 0 20 = true := by decide +kernel
def bytesL (l : List UInt8) : List UInt8 := UInt8.ofNat l.length :: (l ++ [0, 1, 49, 1, 50, 2, 0, 0, 0, 0, 0, 0, 0, 0, 0, 0])
theorem body_and : pBody ⟨([0, 1] ++ bytesL [97, 110, 100]).toArray⟩ 2 = .ok (bareP ⟨#[97, 110, 100]⟩, 22) := by kernel_rfl
end Go.Proofs.YtdpjjnbelgaagaaGreatDoor

namespace Go.Proofs.YtdpjjnbelgaagaaGreatDoor
open Go.ChangeShapes Go.WideShapes Go.ChangeAt Go.RowKit Go.Deep
set_option maxRecDepth 100000

abbrev nilV : Value := .slice none 0 0
abbrev nilPR : PkgR := ⟨nilV, nilV, nilV, nilV, nilV, nilV, nilV, nilV, nilV⟩
theorem bare_any (s : ByteArray) (w : World) : Calls Tryz.prog 9 #[.string s] w fun e w' => e = .returned (.agg #[.string s, .int .i64 0, .string { data := #[49] }, .string { data := #[50] }, .int .u8 2, .string ⟨#[]⟩, nilV, nilV, nilV, nilV, nilV, nilV, nilV, nilV, nilV]) ∧ Below w.heap.size w w' := by
  go_enter Tryz.func9, Tryz.ntmps9
  go_wp2_with fail
  exact bodyPost_ret (results_cell_row rfl _ _ w.heap.size 29 _ (0, 0) _ rfl (Blk.new w 29 _) Tryz.underlying29 rfl (by kernel_rfl)) rfl ⟨rfl, below_new _ _⟩
theorem atom11_any (s : ByteArray) (w : World) : Calls Tryz.prog 10 #[.string s] w fun e w' => e = .returned (.agg #[.int .u8 1, .string s, .int .u8 0, .int .i64 0, .string ⟨#[]⟩, .string ⟨#[]⟩, .slice none 0 0]) ∧ Below w.heap.size w w' := by
  go_enter Tryz.func10, Tryz.ntmps10
  go_wp2_with fail
  exact bodyPost_ret (results_cell_row rfl _ _ w.heap.size 34 _ (0, 0) _ rfl (Blk.new w 34 _) Tryz.underlying34 rfl (by kernel_rfl)) rfl ⟨rfl, below_new _ _⟩
theorem ba_app (a b : List UInt8) : (⟨a.toArray⟩ : ByteArray) ++ ⟨b.toArray⟩ = ⟨(a ++ b).toArray⟩ := ByteArray.mk_append_mk a b
theorem bytes_eq1 (l : List UInt8) : ((((⟨#[UInt8.ofNat l.length]⟩ : ByteArray) ++ ⟨l.toArray⟩) ++ ⟨#[0, 1, 49, 1, 50, 2, 0]⟩) ++ ⟨#[0, 0, 0, 0, 0, 0, 0, 0, 0]⟩) = ⟨(bytesL l).toArray⟩ := by
  have h := ba_app [UInt8.ofNat l.length] l
  have h2 := ba_app (UInt8.ofNat l.length :: l) [0, 1, 49, 1, 50, 2, 0]
  have h3 := ba_app (UInt8.ofNat l.length :: l ++ [0, 1, 49, 1, 50, 2, 0]) [0, 0, 0, 0, 0, 0, 0, 0, 0]
  refine (congrArg (· ++ (⟨#[0, 0, 0, 0, 0, 0, 0, 0, 0]⟩ : ByteArray)) ((congrArg (· ++ (⟨#[0, 1, 49, 1, 50, 2, 0]⟩ : ByteArray)) h).trans h2)).trans (h3.trans ?_)
  simp [bytesL]
theorem bytes11_any (l : List UInt8) (hl : l.length < 128) (w : World) : Calls Tryz.prog 13 #[.string ⟨l.toArray⟩] w fun e w' => e = .returned (.string ⟨(bytesL l).toArray⟩) ∧ Below w.heap.size w w' := by
  have hs : (⟨l.toArray⟩ : ByteArray).size = l.length := by rfl
  have hc := conv_one w (l.length : Int) (by omega) (by omega)
  obtain ⟨T, hT⟩ : ∃ T : ByteArray, T = ⟨(bytesL l).toArray⟩ := ⟨_, rfl⟩
  rw [← hT]
  have HT := Lib.hid hT
  clear hT
  go_enter Tryz.func13, Tryz.ntmps13
  go_wp2_with fail
  go_ret
  exact ⟨congrArg (fun x => Ending.returned (.string x)) ((bytes_eq1 l).trans HT.out.symm), below_new _ _⟩
end Go.Proofs.YtdpjjnbelgaagaaGreatDoor

namespace Go.Proofs.YtdpjjnbelgaagaaGreatDoor
open Go.ChangeShapes Go.WideShapes Go.ChangeAt Go.RowKit Go.Deep
set_option maxRecDepth 100000

/-- One element in a block of its own. -/
theorem LIn.one1 {α : Type} {K : Kd α} {w : World} {g : Nat} {t : TypeId} {x : α} {r : K.R} (hb : Blk w g t (K.cells x r).toArray) (hh : K.holds anyB w x r) : LIn K anyB w [x] (.slice (some ⟨g, 0, none⟩) 1 1) := by
  refine ⟨some ⟨g, 0, none⟩, 1, rfl, by simp, fun j hj => ?_⟩
  obtain rfl : j = 0 := by simpa using hj
  refine ⟨g, 0, r, rfl, trivial, ⟨hb.lt, fun i hi => ?_⟩, hh⟩
  rw [show 0 + 0 * K.size + i = i from by omega, hb.cell]
  simp
theorem nil_list (_K : Kd RichD) : argL nilR = [] := argL_ofL 0 []
theorem bare_in (B : World → Nat → Prop) (s : ByteArray) (hs : s.size ≤ 9223372036854775807) (w : World) : PkgIn B w (bareP s) nilPR := by
  refine ⟨hs, by show (1 : Nat) ≤ _; omega, by show (1 : Nat) ≤ _; omega, by show (0 : Nat) ≤ _; omega, ?_, ?_, LIn.nil _ _ _, ?_, ?_, LIn.nil _ _ _, ?_, ?_, ?_, ?_, LIn.nil _ _ _⟩
  · show (0 : Int) ≤ 2 ∧ (2 : Int) < 256
    omega
  · show -9223372036854775808 ≤ (0 : Int) ∧ (0 : Int) ≤ 9223372036854775807
    omega
  all_goals
    show LIn richK B w (argL nilR) nilV
    rw [show argL nilR = [] from argL_ofL 0 []]
    exact LIn.nil _ _ _
theorem nil_few {d : DataD} (h : wtA d ≤ 4611686018427387904) : d.few := data_few h
theorem enc_nil : encodeE ⟨[], []⟩ = ([0, 0], 0) := by
  have h0 : checkE ⟨[], []⟩ = 0 := by decide
  have e : encA ⟨[], []⟩ = [0, 0] := by
    unfold encA encL
    simp only [List.length_nil, numL_small 0 (by omega)]
    rfl
  rw [encode_yes h0 (by rw [e]; decide), e]
theorem enc_one : encodeE ⟨[⟨3, []⟩], []⟩ = ([1, 3, 0, 0], 0) := by
  have h0 : checkE ⟨[⟨3, []⟩], []⟩ = 0 := by decide
  have e : encA ⟨[⟨3, []⟩], []⟩ = [1, 3, 0, 0] := by
    unfold encA encL
    simp only [List.length_nil, List.length_cons, numL_small 0 (by omega), numL_small (0 + 1) (by omega), List.flatMap_cons, List.flatMap_nil, encO, encL, numL_small (Int.toNat 3) (by decide)]
    rfl
  rw [encode_yes h0 (by rw [e]; decide), e]
theorem name_a : nameE ⟨#[97]⟩ = true := by unfold nameE; simp only [ByteArray.toList_eq]; decide +kernel
theorem may_bare_a : mayP (bareP ⟨#[97]⟩) = true := by
  unfold mayP bareP evrE wordE nameE fileE
  simp only [ByteArray.toList_eq]
  decide +kernel
theorem no_and : mayP (bareP ⟨#[97, 110, 100]⟩) = false := by
  unfold mayP bareP evrE wordE nameE fileE
  simp only [ByteArray.toList_eq]
  decide +kernel
theorem check_bare : checkE ⟨[], [bareP ⟨#[97]⟩]⟩ = 0 := check_ok.2 ⟨by simp, by simp [total_eq, sumP], rfl, rfl, by simp [may_bare_a]⟩
theorem len_bare : (encA ⟨[], [bareP ⟨#[97]⟩]⟩).length ≤ 4194304 := by
  have h := lenA check_bare
  have : wtA ⟨[], [bareP ⟨#[97]⟩]⟩ ≤ 100 := by decide +kernel
  omega
theorem back_bare : backE ⟨[], [bareP ⟨#[97]⟩]⟩ = true := back_yes check_bare len_bare
theorem pkg_and : pPkg ⟨([0, 1] ++ bytesL [97, 110, 100]).toArray⟩ 2 = .error (2, 4) := by
  unfold pPkg rBindAt rBind
  simp only [body_and, no_and]
  rfl
theorem no_and_at : noE ⟨([0, 1] ++ bytesL [97, 110, 100]).toArray⟩ 2 4 = true := by
  have h1 : pNum 0 16 ⟨([0, 1] ++ bytesL [97, 110, 100]).toArray⟩ 0 = .ok (0, 1) := by kernel_rfl
  have h2 : pNum 0 256 ⟨([0, 1] ++ bytesL [97, 110, 100]).toArray⟩ 1 = .ok (1, 2) := by kernel_rfl
  have h5 : pRep pPkg 1 ⟨([0, 1] ++ bytesL [97, 110, 100]).toArray⟩ 2 = .error (2, 4) := bind_err (p := pPkg) (f := fun x => rBind (pRep pPkg 0) fun l => rPure (x :: l)) |>.2 (.inl pkg_and)
  have h6 : pPkgs 256 ⟨([0, 1] ++ bytesL [97, 110, 100]).toArray⟩ 1 = .error (2, 4) := bind_err (p := pNum 0 ((256 : Nat) : Int)) (f := pRep pPkg) |>.2 (.inr ⟨1, 2, h2, h5⟩)
  have h3 : pData ⟨([0, 1] ++ bytesL [97, 110, 100]).toArray⟩ 0 = .error (2, 4) := by
    unfold pData
    refine bind_err.2 (.inr ⟨0, 1, h1, ?_⟩)
    refine bind_err.2 (.inr ⟨([], 256), 1, rfl, ?_⟩)
    exact bind_err.2 (.inl h6)
  have h4 : decE ⟨([0, 1] ++ bytesL [97, 110, 100]).toArray⟩ = .error (2, 4) := by
    unfold decE
    rw [if_neg (by decide), h3]
  unfold noE
  rw [h4]
  rfl
end Go.Proofs.YtdpjjnbelgaagaaGreatDoor

namespace Go.Proofs.YtdpjjnbelgaagaaGreatDoor
open Go.ChangeShapes Go.WideShapes Go.ChangeAt Go.RowKit Go.Deep
set_option maxRecDepth 100000

theorem enc_call {d : DataD} {vr vi : Value} {b : List UInt8} {e : Int} (he : encodeE d = (b, e)) (hw : wtA d ≤ 4611686018427387904) (w : World) (hd : DataIn anyB w d vr vi) (hW : Words w) (hO : Ops w) :
    Calls Tryz.prog 11 #[.agg #[vr, vi]] w fun r w' => r = .returned (.tuple #[.string ⟨b.toArray⟩, .int .i64 e]) ∧ Below w.heap.size w w' := by
  have h := encode_any w d vr vi hd w (Below.refl _ _) (data_few hw) hW hO
  rw [he] at h
  exact h
theorem no_yes {s : ByteArray} {place e : Int} (h : noE s place e = true) (w : World) (hW : Words w) (hO : Ops w) : Calls Tryz.prog 16 #[.string s, .int .i64 place, .int .i64 e] w fun r w' => r = .returned (.bool true) ∧ Below w.heap.size w w' := by
  have h2 := no11_any s place e w hW hO
  rw [h] at h2
  exact h2
theorem back_call {d : DataD} {vr vi : Value} (h : backE d = true) (hw : wtA d ≤ 4611686018427387904) (w : World) (hd : DataIn anyB w d vr vi) (hW : Words w) (hO : Ops w) : Calls Tryz.prog 14 #[.agg #[vr, vi]] w fun r w' => r = .returned (.bool true) ∧ Below w.heap.size w w' := by
  have h2 := back11_any d vr vi w hd (data_few hw) hW hO
  rw [h] at h2
  exact h2
theorem wt_bare : wtA ⟨[], [bareP ⟨#[97]⟩]⟩ ≤ 4611686018427387904 := by decide +kernel
set_option maxHeartbeats 8000000 in
theorem works11_any (w : World) (hW : Words w) (hO : Ops w) : Calls Tryz.prog 8 #[] w fun e w' => e = .returned (.bool true) ∧ Below w.heap.size w w' := by
  have HTab := Lib.hid (show ∀ w', Below w.heap.size w w' → Words w' ∧ Ops w' from fun w' h => ⟨hW.below h, hO.below h⟩)
  have HE1 := Lib.hid (show Calls Tryz.prog 11 #[.agg #[.slice none 0 0, .slice none 0 0]] w fun r w' => r = .returned (.tuple #[.string { data := #[0, 0] }, .int .i64 0]) ∧ Below w.heap.size w w' from enc_call enc_nil (by decide) w ⟨LIn.nil _ _ _, LIn.nil _ _ _⟩ hW hO)
  clear hW hO
  go_enter Tryz.func8, Tryz.ntmps8
  go_upto_region 2 with (first
    | (go_at_call 11; (with_reducible refine HE1.out.mono ?_); rintro r w1 ⟨rfl, hb1⟩; have HB1 := Lib.hid hb1; clear hb1)
    | fail)
  have HE2 := Lib.hid (show Calls Tryz.prog 11 #[.agg #[.slice (some ⟨w1.heap.size, 0, none⟩) 1 1, .slice none 0 0]] (w1.alloc (.cells #[.int .i64 3, .slice none 0 0] 38)) fun r w' => r = .returned (.tuple #[.string { data := #[1, 3, 0, 0] }, .int .i64 0]) ∧ Below (w1.alloc (.cells #[.int .i64 3, .slice none 0 0] 38)).heap.size (w1.alloc (.cells #[.int .i64 3, .slice none 0 0] 38)) w' from
    enc_call enc_one (by decide) _ ⟨LIn.one1 (K := repoK) (r := .slice none 0 0) (t := 38) (Blk.new _ _ _) ⟨by show -9223372036854775808 ≤ (3 : Int) ∧ (3 : Int) ≤ 9223372036854775807; omega, LIn.nil _ _ _⟩, LIn.nil _ _ _⟩ (HTab.out _ (below_t' HB1.out (new_b _ _))).1 (HTab.out _ (below_t' HB1.out (new_b _ _))).2)
  go_upto_region 3 with (first
    | (go_at_call 11; (with_reducible refine HE2.out.mono ?_); rintro r w2 ⟨rfl, hb2⟩; have HB2 := Lib.hid (below_t' HB1.out (below_t' (new_b _ _) hb2)); clear hb2)
    | fail)
  have HN1 := Lib.hid (show Calls Tryz.prog 16 #[.string { data := #[17] }, .int .i64 0, .int .i64 20] w2 _ from no_yes no_17 w2 (HTab.out _ HB2.out).1 (HTab.out _ HB2.out).2)
  obtain ⟨X, hX⟩ : ∃ X : ByteArray, X = ⟨(bytesL [97, 110, 100]).toArray⟩ := ⟨_, rfl⟩
  have HBy := Lib.hid (show ∀ w', Calls Tryz.prog 13 #[.string { data := #[97, 110, 100] }] w' fun e w'' => e = .returned (.string X) ∧ Below w'.heap.size w' w'' from fun w' => hX ▸ bytes11_any [97, 110, 100] (by decide) w')
  have HN2 := Lib.hid (show ∀ w', Below w.heap.size w w' → Calls Tryz.prog 16 #[.string ({ data := #[0, 1] } ++ X), .int .i64 2, .int .i64 4] w' (fun r w'' => r = .returned (.bool true) ∧ Below w'.heap.size w' w'') from fun w' h => no_yes (by rw [hX]; exact (congrArg (fun s => noE s 2 4) (ba_app [0, 1] (bytesL [97, 110, 100]))).trans no_and_at) w' (HTab.out _ h).1 (HTab.out _ h).2)
  have HBa := Lib.hid (fun w' => bare_any { data := #[97] } w')
  have HK := Lib.hid (show ∀ w', Below w.heap.size w w' → Calls Tryz.prog 14 #[.agg #[.slice none 0 0, .slice (some ⟨w'.heap.size, 0, none⟩) 1 1]] (w'.alloc (.cells #[.string { data := #[97] }, .int .i64 0, .string { data := #[49] }, .string { data := #[50] }, .int .u8 2, .string ⟨#[]⟩, nilV, nilV, nilV, nilV, nilV, nilV, nilV, nilV, nilV] 29)) (fun r w'' => r = .returned (.bool true) ∧ Below (w'.alloc (.cells #[.string { data := #[97] }, .int .i64 0, .string { data := #[49] }, .string { data := #[50] }, .int .u8 2, .string ⟨#[]⟩, nilV, nilV, nilV, nilV, nilV, nilV, nilV, nilV, nilV] 29)).heap.size (w'.alloc (.cells #[.string { data := #[97] }, .int .i64 0, .string { data := #[49] }, .string { data := #[50] }, .int .u8 2, .string ⟨#[]⟩, nilV, nilV, nilV, nilV, nilV, nilV, nilV, nilV, nilV] 29)) w'') from fun w' h =>
    back_call back_bare wt_bare _ ⟨LIn.nil _ _ _, LIn.one1 (K := pkgK) (r := nilPR) (x := bareP ⟨#[97]⟩) (t := 29) (Blk.new _ _ _) (bare_in _ _ (by show (1 : Nat) ≤ _; omega) _)⟩ (HTab.out _ (below_t' h (new_b _ _))).1 (HTab.out _ (below_t' h (new_b _ _))).2)
  have hxs : X.size ≤ 20 := by rw [hX]; decide +kernel
  clear hX
  go_wp2_with (first
    | (go_at_call 16; (with_reducible refine HN1.out.mono ?_); rintro r w3 ⟨rfl, hb3⟩; have HB3 := Lib.hid (below_t' HB2.out hb3); clear hb3)
    | (go_at_call 13; (with_reducible refine (HBy.out _).mono ?_); rintro r w4 ⟨rfl, hb4⟩; have HB4 := Lib.hid (below_t' HB3.out hb4); clear hb4)
    | (go_at_call 16; (with_reducible refine (HN2.out _ HB4.out).mono ?_); rintro r w5 ⟨rfl, hb5⟩; have HB5 := Lib.hid (below_t' HB4.out hb5); clear hb5)
    | (go_at_call 9; (with_reducible refine (HBa.out _).mono ?_); rintro r w6 ⟨rfl, hb6⟩; have HB6 := Lib.hid (below_t' HB5.out hb6); clear hb6)
    | (go_at_call 14; (with_reducible refine (HK.out _ HB6.out).mono ?_); rintro r w7 ⟨rfl, hb7⟩; have HB7 := Lib.hid (below_t' (below_t' HB6.out (new_b _ _)) hb7); clear hb7)
    | fail)
  go_ret
  exact ⟨rfl, HB7.out⟩
end Go.Proofs.YtdpjjnbelgaagaaGreatDoor

namespace Go.Proofs.YtdpjjnbelgaagaaGreatDoor
open Go.ChangeShapes Go.WideShapes Go.ChangeAt Go.RowKit

section
variable {H : Type} {enc : TypeId × Value → H}

theorem stays_all {P : Program} (hl : laidOutB P = true) {W W' : World} (hb : Below W.heap.size W W') :
    ∀ (ts : List TypeId) (vs : List Value) (ds : List (DataW H)) (ps : List MemPlace), ts.all (fun t => P.readableRec t && decide (t < P.types.size)) = true →
      DataW.TrodAll enc P W 0 (fun _ => true) true ts vs ds ps → (∀ x ∈ ps, x.block < W.heap.size) →
      DataW.TrodAll enc P W' 0 (fun b => decide (b < W.heap.size)) true ts vs ds ps
  | [], vs, ds, ps, _, h, _ => by
    obtain ⟨rfl, rfl, rfl⟩ := trodAll_nil h
    rfl
  | t :: ts, vs, ds, ps, hr, h, hlt => by
    obtain ⟨v, vs', d, ds', p, q, rfl, rfl, rfl, h0, h1⟩ := trodAll_cons h
    simp only [List.all_cons, Bool.and_eq_true, decide_eq_true_eq] at hr
    exact trodAll_cons_mk (Below.trod hl hr.1.1 hr.1.2 h0 hb fun x hx => hlt x (List.mem_append_left _ hx))
      (stays_all hl hb ts vs' ds' q (by simpa using hr.2) h1 fun x hx => hlt x (List.mem_append_right _ hx))

theorem len_all {P : Program} {W : World} {b : Nat} {sp : Nat → Bool} {hd : Bool} :
    ∀ (ts : List TypeId) (vs : List Value) (ds : List (DataW H)) (ps : List MemPlace), DataW.TrodAll enc P W b sp hd ts vs ds ps → ds.length = ts.length
  | [], vs, ds, ps, h => by
    obtain ⟨rfl, rfl, rfl⟩ := trodAll_nil h
    rfl
  | t :: ts, vs, ds, ps, h => by
    obtain ⟨v, vs', d, ds', p, q, rfl, rfl, rfl, h0, h1⟩ := trodAll_cons h
    simp [len_all ts vs' ds' q h1]

theorem law_lifted {C : Checked} {os : Os} {f : FuncId} {fn : Func} {s : ChangeSpec} {tb : TypeId}
    (own : ownKnob C.prog.godebug = none) (started : os.Started) (noInit : C.prog.inits.idxOf? f = none) (hfn : C.prog.funcs[f]? = some fn)
    (witness : ∃ (w : World) (tape : Tape) (i : Input), w.os = os ∧ (w.forCall tape i).Shaped C.prog ∧ i.vars = [] ∧ Input.okWide C.prog (w.forCall tape i) .any w.heap.size f i ∧
      s.pre6 enc C.prog fn [] false (w.forCall tape i).memory i.args ∧ ({} : Assume).holds C.prog (lone (Frame.enter C.prog f i.args .normal) [] (w.forCall tape i)))
    (hl : laidOutB C.prog = true) (hr : fn.params.toList.all (fun t => C.prog.readableRec t && decide (t < C.prog.types.size)) = true)
    (hres : fn.resultTypes = #[tb]) (hub : C.prog.underlying tb = some .bool) (hvars : s.vars = [])
    (hs : ∀ (ds : List (DataW H)), ds.length = fn.params.size → (s.fn H ds).results = [.lit (.bool true)] ∧ (s.fn H ds).args = ds ∧ (s.fn H ds).vars = [])
    (walk : ∀ (W : World) (args : Array Value) (ds : List (DataW H)) (ps : List MemPlace),
      (∀ (j : Nat) t v, fn.params[j]? = some t → args[j]? = some v → Value.okWide C.prog W .any 0 t v) →
      DataW.TrodAll enc C.prog W 0 (fun _ => true) true fn.params.toList args.toList ds ps →
      (DataW.weightsEach C.prog fn.params.toList ds).all (· ≤ reachBytes) = true →
      Calls C.prog f args W fun e W' => e = .returned (.bool true) ∧ Below W.heap.size W W') :
    ReturnsInHanded {} C os f .any (s.pre6 enc C.prog fn [] false) (s.post enc C.prog fn false true false false) := by
  refine returnsInHanded_of_change_sized own started noInit hfn witness ?_
  intro W base args ds gs before hval0 hW _ hsz _
  have hW' := hW
  obtain ⟨p, q, hA, hV, rfl, hfz, hnd⟩ := hW
  rw [hvars] at hV
  obtain ⟨rfl, rfl⟩ := trodVars_none hV
  have hvt : s.plain.varTypes C.prog = [] := by
    unfold ChangeSpec.plain
    simp [hvars]
    rfl
  rw [hvt, List.append_nil, List.append_nil] at hsz
  have hlt : ∀ x ∈ p, x.block < W.heap.size := fun x hx => hW'.lt x (by simpa using hx)
  have hlen := len_all _ _ _ _ hA
  obtain ⟨s1, s2, s3⟩ := hs ds (by simpa using hlen)
  refine (walk W args ds p (fun j t v h1 h2 => ?_) hA hsz).mono fun e W' ⟨he, bel⟩ => ?_
  · exact hval0 j t v h1 h2
  subst he
  refine ⟨_, rfl, ds, [], _, [], p, [], hW', ?_, ?_, ?_, bel.frame _, fun h => by cases h⟩
  · rw [List.append_nil, s1, hres]
    exact trodAll_mk1 (shut_bool hub _)
  · rw [List.append_nil, s2]
    exact stays_all hl bel _ _ _ _ hr hA hlt
  · rw [List.append_nil, s3, hvars]
    rfl
end
end Go.Proofs.YtdpjjnbelgaagaaGreatDoor

namespace Go.Proofs.YtdpjjnbelgaagaaGreatDoor
open Go.ChangeShapes Go.WideShapes Go.ChangeAt Go.RowKit Go.Deep

section
variable {H : Type} {enc : TypeId × Value → H} {P : Program} {w : World} {base : Nat} {spare : Nat → Bool} {held : Bool}

/-- A reading is within the form's reach. -/
def Fit (P : Program) (t : TypeId) (d : DataW H) : Prop := ∀ x ∈ d.weights P t, x ≤ reachBytes

theorem fit_args : ∀ (ts : List TypeId) (ds : List (DataW H)), (DataW.weightsEach P ts ds).all (· ≤ reachBytes) = true → ∀ (j : Nat) t d, ts[j]? = some t → ds[j]? = some d → Fit P t d
  | [], _, _, j, t, d, ht, _ => by simp at ht
  | _ :: _, [], _, j, t, d, _, hd => by simp at hd
  | t :: ts, d :: ds, h, 0, t', d', ht, hd => by
    simp only [List.getElem?_cons_zero, Option.some.injEq] at ht hd
    subst ht hd
    intro x hx
    rw [List.all_eq_true] at h
    exact of_decide_eq_true (h x (by simp only [DataW.weightsEach, List.mem_append]; exact .inl hx))
  | t :: ts, d :: ds, h, j + 1, t', d', ht, hd => by
    refine fit_args ts ds ?_ j t' d' (by simpa using ht) (by simpa using hd)
    rw [List.all_eq_true] at h ⊢
    exact fun x hx => h x (by simp only [DataW.weightsEach, List.mem_append]; exact .inr hx)

theorem weights_mem {e : TypeId} : ∀ (l : List (DataW H)) (d : DataW H), d ∈ l → ∀ x ∈ d.weights P e, x ∈ DataW.weightsAll P e l
  | [], d, hd, _, _ => by cases hd
  | a :: l, d, hd, x, hx => by
    simp only [DataW.weightsAll, List.mem_append]
    rcases List.mem_cons.1 hd with rfl | h
    · exact .inl hx
    · exact .inr (weights_mem l d h x hx)

theorem Fit.slice {t e : TypeId} {elems spare : List (DataW H)} (h : Fit P t (.slice elems spare)) (hu : P.underlying t = some (.slice e)) : (elems.length + spare.length) * P.bytesOf e ≤ reachBytes ∧ ∀ d ∈ elems, Fit P e d := by
  have hw : (DataW.slice elems spare).weights P t = (elems.length + spare.length) * P.bytesOf e :: (DataW.weightsAll P e elems ++ DataW.weightsAll P e spare) := by simp [DataW.weights, hu]
  refine ⟨h _ (by rw [hw]; simp), fun d hd x hx => h x ?_⟩
  rw [hw]
  exact List.mem_cons_of_mem _ (List.mem_append_left _ (weights_mem elems d hd x hx))

theorem fit_each : ∀ (ts : List TypeId) (ds : List (DataW H)), (∀ x ∈ DataW.weightsEach P ts ds, x ≤ reachBytes) → ∀ (j : Nat) t d, ts[j]? = some t → ds[j]? = some d → Fit P t d := fun ts ds h j t d ht hd =>
  fit_args ts ds (by rw [List.all_eq_true]; exact fun x hx => decide_eq_true (h x hx)) j t d ht hd

theorem Fit.struct {t : TypeId} {fs : Array Field} {parts : List (DataW H)} (h : Fit P t (.agg parts)) (hu : P.underlying t = some (.struct fs)) (j : Nat) (f : Field) (d : DataW H) (hf : fs[j]? = some f) (hd : parts[j]? = some d) : Fit P f.type d := by
  have hw : (DataW.agg parts).weights P t = DataW.weightsEach P (fs.toList.map (·.type)) parts := by simp [DataW.weights, hu]
  refine fit_each (fs.toList.map (·.type)) parts (fun x hx => h x (by rw [hw]; exact hx)) j f.type d ?_ hd
  simp [hf]

theorem Fit.string {t : TypeId} {bs : List UInt8} (h : Fit P t (DataW.lit (H := H) (.string bs))) : bs.length ≤ 140737488351232 := by
  have := h bs.length (by simp [DataW.weights])
  simpa [reachBytes] using this

/-- A slice of structs whose fields are of one cell each. -/
theorem open_struct_slice {t e : TypeId} {fs : Array Field} {fuel : Nat} {cs : List Value} {x : DataW H × List MemPlace} (ht : P.underlying t = some (.slice e)) (he : P.underlying e = some (.struct fs))
    (hone : oneCellFields P fs = true) (hC : P.cellsOf e = fs.size) (h : DataW.trod enc P w base spare held fuel t cs = some x) :
    (cs = [.slice none 0 0] ∧ x = (.nil, [])) ∨
    ∃ (a : Addr) (len cap m : Nat) (D : Nat → DataW H) (Pl : Nat → List MemPlace), cs = [.slice (some a) len cap] ∧ base ≤ a.block ∧ len ≤ cap ∧ cap ≤ maxLen ∧ m = (if spare a.block then cap else len) ∧
      x = (.slice ((List.range len).map D) ((List.range (m - len)).map fun j => D (len + j)), MemPlace.row a (m * fs.size) ++ (List.range m).flatMap Pl) ∧
      ∀ i, i < m → ∃ (ys : List (DataW H × List MemPlace)) (n : Nat), D i = .agg (ys.map (·.1)) ∧ Pl i = ys.flatMap (·.2) ∧ ys.length = fs.size ∧
        ∀ (j : Nat) (f : Field), fs[j]? = some f → ∃ (v : Value) (y : DataW H × List MemPlace), w.cell? (a.add (i * fs.size + j)) = some v ∧ ys[j]? = some y ∧ DataW.trod enc P w base spare held n f.type [v] = some y := by
  rcases open_slice ht h with h0 | ⟨a, len, cap, m, n, D, Pl, hcs, hb, hl, hm, hmm, hx, hi⟩
  · exact .inl h0
  · refine .inr ⟨a, len, cap, m, D, Pl, hcs, hb, hl, hm, hmm, by rw [hC] at hx; exact hx, fun i him => ?_⟩
    obtain ⟨cs', hc, ht'⟩ := hi i him
    rw [hC] at hc
    obtain ⟨ys, n', hn', hy, hlen, hyl, hf⟩ := DataW.trod_struct he ht'
    obtain ⟨_, hcl, hat⟩ := World.cells?_some hc
    simp only [Prod.mk.injEq] at hy
    refine ⟨ys, n', hy.1, hy.2, hyl, fun j f hj => ?_⟩
    obtain ⟨ho, hk⟩ := hone_of hone j f hj
    have hjl : j < fs.size := (Array.getElem?_eq_some_iff.1 hj).1
    have hcell := hat j hjl
    have hv : cs'[j]? = some (cs'[j]'(by omega)) := List.getElem?_eq_getElem (by omega)
    have h1 := hf j f hj
    rw [ho, hk] at h1
    have hone' : (cs'.drop j).take 1 = [cs'[j]'(by omega)] := by
      rw [List.drop_eq_getElem_cons (by omega)]
      rfl
    rw [hone'] at h1
    have hys : ys[j]? = some (ys[j]'(by omega)) := List.getElem?_eq_getElem (by omega)
    refine ⟨_, _, ?_, hys, h1.trans hys⟩
    rw [← Go.Deep.add_add, hcell, hv]

/-- An address at which a cell is read has no spot; what follows it lies behind it. -/
theorem addr_of_cell {a : Addr} {v : Value} (h : w.cell? (a.add 0) = some v) : ∃ b off, a = ⟨b, off, none⟩ ∧ b < w.heap.size := by
  obtain ⟨b, off, spot⟩ := a
  have ha : (⟨b, off, spot⟩ : Addr).add 0 = ⟨b, off, spot⟩ := rfl
  rw [ha] at h
  unfold World.cell? at h
  cases hb : w.heap[b]? with
  | none => simp [hb] at h
  | some o =>
    have hlt : b < w.heap.size := (Array.getElem?_eq_some_iff.1 hb).1
    cases spot with
    | none => exact ⟨b, off, rfl, hlt⟩
    | some s => cases o <;> simp [hb] at h
theorem add_plain (b off j : Nat) : (⟨b, off, none⟩ : Addr).add j = ⟨b, off + j, none⟩ := by unfold Addr.add; split <;> simp_all
end
end Go.Proofs.YtdpjjnbelgaagaaGreatDoor

namespace Go.Proofs.YtdpjjnbelgaagaaGreatDoor
open Go.ChangeShapes Go.WideShapes Go.ChangeAt Go.RowKit Go.Deep
set_option maxRecDepth 100000

theorem c28 : Tryz.prog.cellsOf 34 = 7 := by kernel_rfl
theorem c25 : Tryz.prog.cellsOf 32 = 5 := by kernel_rfl
theorem c23 : Tryz.prog.cellsOf 24 = 3 := by kernel_rfl
theorem c26 : Tryz.prog.cellsOf 26 = 1 := by kernel_rfl
theorem c9 : Tryz.prog.cellsOf 9 = 1 := by kernel_rfl
theorem c5 : Tryz.prog.cellsOf 5 = 1 := by kernel_rfl
theorem c3 : Tryz.prog.cellsOf 3 = 1 := by kernel_rfl
theorem open_rich {H : Type} {enc : TypeId × Value → H} {W : World} {base : Nat} {spare : Nat → Bool} {held : Bool} : ∀ (fuel : Nat) (cs : List Value) (y : DataW H × List MemPlace), DataW.trod enc Tryz.prog W base spare held fuel 34 cs = some y → ∃ r s, cs = [.int .u8 r.kind, .string r.dep.name, .int .u8 r.dep.op, .int .i64 r.dep.ep, .string r.dep.ver, .string r.dep.rel, s] ∧ IsArgs W r s := by
  intro fuel
  induction fuel using Nat.strongRecOn with
  | _ fuel ih =>
    intro cs y h
    obtain ⟨xs, n, rfl, hx, hl, hlen, hf⟩ := DataW.trod_struct Tryz.underlying34 h
    rw [c28] at hl
    match cs, hl with
    | [c0, c1, c2, c3', c4, c5', c6], _ =>
      match xs, hlen with
      | [x0, x1, x2], _ =>
        have h0 : DataW.trod enc Tryz.prog W base spare held n 5 [c0] = some x0 := by simpa [c5] using hf 0 _ rfl
        have h1 : DataW.trod enc Tryz.prog W base spare held n 32 [c1, c2, c3', c4, c5'] = some x1 := by simpa [c25] using hf 1 _ rfl
        have h2 : DataW.trod enc Tryz.prog W base spare held n 26 [c6] = some x2 := by simpa [c26] using hf 2 _ rfl
        clear hf hx h
        obtain ⟨kd, hk, _, hkw⟩ := DataW.trod_int Tryz.underlying5 h0
        obtain rfl : c0 = .int .u8 kd := by simpa using hk
        obtain ⟨zs, m, rfl, _, _, hzl, hg⟩ := DataW.trod_struct Tryz.underlying32 h1
        match zs, hzl with
        | [z0, z1, z2], _ =>
          have g0 : DataW.trod enc Tryz.prog W base spare held m 9 [c1] = some z0 := by simpa [c9] using hg 0 _ rfl
          have g1 : DataW.trod enc Tryz.prog W base spare held m 5 [c2] = some z1 := by simpa [c5] using hg 1 _ rfl
          have g2 : DataW.trod enc Tryz.prog W base spare held m 24 [c3', c4, c5'] = some z2 := by simpa [c23] using hg 2 _ rfl
          clear hg h1 h0
          obtain ⟨nm, hnm, _, hns⟩ := DataW.trod_string Tryz.underlying9 g0
          obtain rfl : c1 = .string nm := by simpa using hnm
          obtain ⟨op, hop, _, _⟩ := DataW.trod_int Tryz.underlying5 g1
          obtain rfl : c2 = .int .u8 op := by simpa using hop
          obtain ⟨us, q, rfl, _, _, hul, hu⟩ := DataW.trod_struct Tryz.underlying24 g2
          match us, hul with
          | [u0, u1, u2], _ =>
            have k0 : DataW.trod enc Tryz.prog W base spare held q 3 [c3'] = some u0 := by simpa [c3] using hu 0 _ rfl
            have k1 : DataW.trod enc Tryz.prog W base spare held q 9 [c4] = some u1 := by simpa [c9] using hu 1 _ rfl
            have k2 : DataW.trod enc Tryz.prog W base spare held q 9 [c5'] = some u2 := by simpa [c9] using hu 2 _ rfl
            obtain ⟨ep, hep, _, _⟩ := DataW.trod_int Tryz.underlying3 k0
            obtain rfl : c3' = .int .i64 ep := by simpa using hep
            obtain ⟨ve, hve, _, hvs⟩ := DataW.trod_string Tryz.underlying9 k1
            obtain rfl : c4 = .string ve := by simpa using hve
            obtain ⟨re, hre, _, hrs⟩ := DataW.trod_string Tryz.underlying9 k2
            obtain rfl : c5' = .string re := by simpa using hre
            clear hu k0 k1 k2 g0 g1 g2
            have hfit : ∀ nn f, fitR (RichD.node kd ⟨nm, op, ep, ve, re⟩ nn f).kind (RichD.node kd ⟨nm, op, ep, ve, re⟩ nn f).dep := fun nn f => by
              have h3 : 0 ≤ kd ∧ kd < 256 := by
                have h4 := hkw
                simp [Lit.wf, IntKind.min, IntKind.max, IntKind.signed, IntKind.bits] at h4
                omega
              simp only [maxLen] at hns hvs hrs
              exact ⟨⟨by show nm.size ≤ _; omega, by show ve.size ≤ _; omega, by show re.size ≤ _; omega⟩, h3.1, h3.2⟩
            rcases DataW.trod_slice Tryz.underlying26 h2 with ⟨h3, _⟩ | ⟨a, len, cap, elems, rest, p, hp, h3, _, _, _, hcm, hel, hi, _⟩
            · obtain rfl : c6 = .slice none 0 0 := by simpa using h3
              exact ⟨.node kd ⟨nm, op, ep, ve, re⟩ 0 (fun _ => .nil), _, rfl, .mk _ none 0 (fun _ => .slice none 0 0) (hfit _ _) (Nat.zero_le _) (fun j hj => absurd hj (Nat.not_lt_zero j)) (fun j hj => absurd hj (Nat.not_lt_zero j))⟩
            · obtain rfl : c6 = .slice (some a) len cap := by simpa using h3
              have hpl : 0 < len → ∃ b o, a = ⟨b, o, none⟩ := fun h0 => by
                have h5 := hi 0 h0
                rw [c28, List.getElem?_eq_getElem (by omega)] at h5
                obtain ⟨cs', hc, ht⟩ := Option.bind_eq_some_iff.1 h5
                obtain ⟨r, s, rfl, hr⟩ := ih p (by omega) _ _ ht
                obtain ⟨_, hcl, hat⟩ := World.cells?_some hc
                have a0 := hat 0 (by omega)
                obtain ⟨b, off, h7, _⟩ := addr_of_cell a0
                exact ⟨b, off, h7⟩
              have hall : ∀ j : Nat, ∃ rs : RichD × Value, j < len → (∃ b o, some a = some ⟨b, o, none⟩ ∧ RichAt W b (o + j * 7) rs.1 rs.2) ∧ IsArgs W rs.1 rs.2 := fun j => by
                by_cases hj : j < len
                · have h5 := hi j hj
                  rw [c28, List.getElem?_eq_getElem (by omega)] at h5
                  obtain ⟨cs', hc, ht⟩ := Option.bind_eq_some_iff.1 h5
                  obtain ⟨r, s, rfl, hr⟩ := ih p (by omega) _ _ ht
                  obtain ⟨_, hcl, hat⟩ := World.cells?_some hc
                  refine ⟨(r, s), fun _ => ⟨?_, hr⟩⟩
                  obtain ⟨b, o, rfl⟩ := hpl (by omega)
                  have k : ∀ i (v : Value), i < 7 → [Value.int .u8 r.kind, .string r.dep.name, .int .u8 r.dep.op, .int .i64 r.dep.ep, .string r.dep.ver, .string r.dep.rel, s][i]? = some v → W.cell? ⟨b, o + j * 7 + i, none⟩ = some v := fun i v hi hv => by
                    have h6 := hat i hi
                    rw [add_plain, add_plain] at h6
                    exact h6.trans hv
                  have k0 := k 0 _ (by omega) rfl
                  exact ⟨b, o, rfl, ⟨k 0 _ (by omega) rfl, k 1 _ (by omega) rfl, k 2 _ (by omega) rfl, k 3 _ (by omega) rfl, k 4 _ (by omega) rfl, k 5 _ (by omega) rfl, k 6 _ (by omega) rfl, cell_lt k0⟩⟩
                · exact ⟨(.nil, .slice none 0 0), fun h => absurd h hj⟩
              obtain ⟨F, hF⟩ := Classical.axiomOfChoice hall
              simp only [maxLen] at hcm
              exact ⟨.node kd ⟨nm, op, ep, ve, re⟩ len (fun j => (F j).1), _, rfl, .mk (.node kd ⟨nm, op, ep, ve, re⟩ len (fun j => (F j).1)) (some a) cap (fun j => (F j).2) (hfit _ _) (by show len ≤ _; omega) (fun j hj => (hF j hj).1) (fun j hj => (hF j hj).2)⟩
end Go.Proofs.YtdpjjnbelgaagaaGreatDoor

namespace Go.Proofs.YtdpjjnbelgaagaaGreatDoor
open Go.ChangeShapes Go.WideShapes Go.ChangeAt Go.RowKit Go.Deep
set_option maxRecDepth 100000

theorem bulk_all {H : Type} : ∀ l : List (DataW H), Rows.uptoBulkAll l = (l.map Rows.uptoBulk).sum
  | [] => by simp [Rows.uptoBulkAll]
  | d :: l => by simp [Rows.uptoBulkAll, bulk_all l]
theorem bulk_agg {H : Type} (l : List (DataW H)) : Rows.uptoBulk (.agg l) = (l.map Rows.uptoBulk).sum + 1 := by rw [Rows.uptoBulk, bulk_all]
theorem bulk_pos {H : Type} (d : DataW H) : 1 ≤ Rows.uptoBulk d := by
  cases d with
  | lit l => cases l <;> simp [Rows.uptoBulk]
  | nil => simp [Rows.uptoBulk]
  | ptr d => simp [Rows.uptoBulk]
  | slice elems spare => simp [Rows.uptoBulk]
  | agg parts => simp [Rows.uptoBulk]
  | iface t d => simp [Rows.uptoBulk]
  | map entries => simp [Rows.uptoBulk]
  | held h => simp [Rows.uptoBulk]
theorem bulk_str {H : Type} (s : ByteArray) : Rows.uptoBulk (DataW.lit (H := H) (.string s.data.toList)) = wtS s := by
  rw [Rows.uptoBulk, size_list]
  rfl
section
variable {H : Type} {enc : TypeId × Value → H} {W : World} {base : Nat} {spare : Nat → Bool} {held : Bool}
theorem sum_le : ∀ (ys : List Nat) (xs : List Nat), xs.length = ys.length → (∀ j (h1 : j < xs.length) (h2 : j < ys.length), xs[j] ≤ ys[j]) → xs.sum ≤ ys.sum
  | [], [], _, _ => Nat.le_refl _
  | y :: ys, x :: xs, hl, h => by
    simp only [List.sum_cons]
    have h1 := h 0 (by simp) (by simp)
    have h2 := sum_le ys xs (by simpa using hl) fun j k1 k2 => h (j + 1) (by simpa using k1) (by simpa using k2)
    simp only [List.getElem_cons_zero] at h1
    omega
theorem sum_mem : ∀ {l : List Nat} {x : Nat}, x ∈ l → x ≤ l.sum
  | y :: l, x, h => by
    simp only [List.sum_cons]
    rcases List.mem_cons.1 h with rfl | h
    · omega
    · have := sum_mem h; omega
theorem sum_len : ∀ l : List Nat, (∀ x ∈ l, 1 ≤ x) → l.length ≤ l.sum
  | [], _ => Nat.le_refl _
  | y :: l, h => by
    have h1 := h y (List.mem_cons_self ..)
    have h2 := sum_len l fun x hx => h x (List.mem_cons_of_mem _ hx)
    simp only [List.sum_cons, List.length_cons]
    omega
theorem open_list {α : Type} (K : Kd α) (wt : α → Nat) (T t : TypeId) (hu : Tryz.prog.underlying T = some (.slice t)) (hk : Tryz.prog.cellsOf t = K.size) (hK : 0 < K.size) (dx : α) (dr : K.R) (fuel : Nat)
    (hel : ∀ p, p < fuel → ∀ (cs : List Value) (y : DataW H × List MemPlace), DataW.trod enc Tryz.prog W base spare held p t cs = some y → Rows.uptoBulk y.1 ≤ 1048576 → ∃ x r, cs = K.cells x r ∧ K.holds anyB W x r ∧ wt x ≤ Rows.uptoBulk y.1)
    (c : Value) (y : DataW H × List MemPlace) (h : DataW.trod enc Tryz.prog W base spare held fuel T [c] = some y) (hb : Rows.uptoBulk y.1 ≤ 1048576) : ∃ l, LIn K anyB W l c ∧ wtL wt l ≤ Rows.uptoBulk y.1 := by
  rcases DataW.trod_slice hu h with ⟨h3, rfl⟩ | ⟨a, len, cap, elems, rest, p, hp, h3, rfl, _, _, hcm, hl, hi, _⟩
  · obtain rfl : c = .slice none 0 0 := by simpa using h3
    exact ⟨[], LIn.nil _ _ _, by simp [wtL, Rows.uptoBulk]⟩
  · obtain rfl : c = .slice (some a) len cap := by simpa using h3
    have hsum : (elems.map fun e => Rows.uptoBulk e.1).sum + 1 ≤ 1048576 := by
      rw [Rows.uptoBulk, bulk_all, bulk_all, List.map_map] at hb
      have e2 : (Rows.uptoBulk ∘ fun x : DataW H × List MemPlace => x.1) = fun e => Rows.uptoBulk e.1 := rfl
      rw [e2] at hb
      omega
    have hle : ∀ j (hj : j < elems.length), Rows.uptoBulk elems[j].1 ≤ 1048576 := fun j hj => by
      have := sum_mem (l := elems.map fun e => Rows.uptoBulk e.1) (x := Rows.uptoBulk elems[j].1) (List.mem_map.2 ⟨_, List.getElem_mem hj, rfl⟩)
      omega
    have hlb : len ≤ 1048576 := by
      have := sum_len (elems.map fun e => Rows.uptoBulk e.1) fun x hx => by
        obtain ⟨e, _, rfl⟩ := List.mem_map.1 hx
        exact bulk_pos _
      rw [List.length_map] at this
      omega
    have hone : ∀ j (hj : j < len), ∃ x r, W.cells? base (a.add (j * Tryz.prog.cellsOf t)) (Tryz.prog.cellsOf t) = some (K.cells x r) ∧ K.holds anyB W x r ∧ wt x ≤ Rows.uptoBulk (elems[j]'(by omega)).1 := fun j hj => by
      have h5 := hi j hj
      rw [List.getElem?_eq_getElem (by omega)] at h5
      obtain ⟨cs', hc, ht⟩ := Option.bind_eq_some_iff.1 h5
      obtain ⟨x, r, rfl, hr, hw⟩ := hel p (by omega) _ _ ht (hle j (by omega))
      exact ⟨x, r, hc, hr, hw⟩
    have hpl : 0 < len → ∃ b o, a = ⟨b, o, none⟩ := fun h0 => by
      obtain ⟨x, r, hc, _⟩ := hone 0 h0
      obtain ⟨_, hcl, hat⟩ := World.cells?_some hc
      have a0 := hat 0 (by omega)
      obtain ⟨v, hv⟩ : ∃ v, (K.cells x r)[0]? = some v := ⟨_, List.getElem?_eq_getElem (by rw [K.len]; exact hK)⟩
      rw [hv] at a0
      obtain ⟨b, off, h7, _⟩ := addr_of_cell a0
      rw [Nat.zero_mul] at h7
      exact ⟨b, off, h7⟩
    have hall : ∀ j : Nat, ∃ xr : α × K.R, ∀ hj : j < len, (∃ b o, some a = some ⟨b, o, none⟩ ∧ CellsAt W b (o + j * K.size) (K.cells xr.1 xr.2)) ∧ K.holds anyB W xr.1 xr.2 ∧ wt xr.1 ≤ Rows.uptoBulk (elems[j]'(by omega)).1 := fun j => by
      by_cases hj : j < len
      · obtain ⟨x, r, hc, hr, hw⟩ := hone j hj
        obtain ⟨_, hcl, hat⟩ := World.cells?_some hc
        refine ⟨(x, r), fun _ => ⟨?_, hr, hw⟩⟩
        obtain ⟨b, o, rfl⟩ := hpl (by omega)
        have k : ∀ i, i < K.size → W.cell? ⟨b, o + j * K.size + i, none⟩ = (K.cells x r)[i]? := fun i hi => by
          have h6 := hat i (by omega)
          rw [add_plain, add_plain, hk] at h6
          exact h6
        obtain ⟨v, hv⟩ : ∃ v, (K.cells x r)[0]? = some v := ⟨_, List.getElem?_eq_getElem (by rw [K.len]; exact hK)⟩
        have k0 := k 0 hK
        rw [hv] at k0
        exact ⟨b, o, rfl, cell_lt k0, fun i hi => k i (by rw [K.len] at hi; exact hi)⟩
      · exact ⟨(dx, dr), fun h => absurd h hj⟩
    obtain ⟨F, hF⟩ := Classical.axiomOfChoice hall
    have hlen : ((List.range len).map fun j => (F j).1).length = len := by simp
    refine ⟨(List.range len).map fun j => (F j).1, ⟨some a, cap, by rw [hlen], by rw [hlen]; omega, fun j hj => ?_⟩, ?_⟩
    · have hj' : j < len := by rw [hlen] at hj; exact hj
      obtain ⟨⟨b, o, h7, h8⟩, h9, _⟩ := hF j hj'
      refine ⟨b, o, (F j).2, h7, trivial, ?_, ?_⟩
      · simpa using h8
      · simpa using h9
    · have hs := sum_le (elems.map fun e => Rows.uptoBulk e.1) ((List.range len).map fun j => wt (F j).1) (by simp [hl]) fun j h1 h2 => by
        have hj' : j < len := by simpa using h1
        have := (hF j hj').2.2
        simpa using this
      unfold wtL
      rw [Rows.uptoBulk, bulk_all, bulk_all, List.map_map, List.map_map, List.map_map]
      have e1 : (wt ∘ fun j => (F j).1) = fun j => wt (F j).1 := rfl
      have e2 : (Rows.uptoBulk ∘ fun x : DataW H × List MemPlace => x.1) = fun e => Rows.uptoBulk e.1 := rfl
      rw [e1, e2]
      omega

theorem c3' : Tryz.prog.cellsOf 29 = 15 := by kernel_rfl
theorem cDs : Tryz.prog.cellsOf 25 = 1 := by kernel_rfl
theorem cSs : Tryz.prog.cellsOf 27 = 1 := by kernel_rfl
theorem cPs : Tryz.prog.cellsOf 36 = 1 := by kernel_rfl
theorem cRo : Tryz.prog.cellsOf 38 = 2 := by kernel_rfl
theorem cRos : Tryz.prog.cellsOf 39 = 1 := by kernel_rfl
theorem cDat : Tryz.prog.cellsOf 41 = 2 := by kernel_rfl
theorem open_str (fuel : Nat) (cs : List Value) (y : DataW H × List MemPlace) (h : DataW.trod enc Tryz.prog W base spare held fuel 9 cs = some y) : ∃ x, cs = [.string x] ∧ x.size ≤ 9223372036854775807 ∧ wtS x = Rows.uptoBulk y.1 := by
  obtain ⟨s, hs, hx, hm⟩ := DataW.trod_string Tryz.underlying9 h
  simp only [maxLen] at hm
  exact ⟨s, hs, by omega, by rw [hx]; exact (bulk_str s).symm⟩
theorem open_evr (fuel : Nat) (cs : List Value) (y : DataW H × List MemPlace) (h : DataW.trod enc Tryz.prog W base spare held fuel 24 cs = some y) :
    ∃ (ep : Int) (v r : ByteArray), cs = [.int .i64 ep, .string v, .string r] ∧ (-9223372036854775808 ≤ ep ∧ ep ≤ 9223372036854775807) ∧ v.size ≤ 9223372036854775807 ∧ r.size ≤ 9223372036854775807 ∧ wtS v + wtS r + 2 = Rows.uptoBulk y.1 := by
  obtain ⟨us, q, rfl, hy, hl, hul, hu⟩ := DataW.trod_struct Tryz.underlying24 h
  rw [c23] at hl
  match cs, hl with
  | [c3, c4, c5], _ =>
    match us, hul with
    | [u0, u1, u2], _ =>
      have k0 : DataW.trod enc Tryz.prog W base spare held q 3 [c3] = some u0 := by simpa [Go.Proofs.YtdpjjnbelgaagaaGreatDoor.c3] using hu 0 _ rfl
      have k1 : DataW.trod enc Tryz.prog W base spare held q 9 [c4] = some u1 := by simpa [c9] using hu 1 _ rfl
      have k2 : DataW.trod enc Tryz.prog W base spare held q 9 [c5] = some u2 := by simpa [c9] using hu 2 _ rfl
      obtain ⟨ep, hep, he0, hew⟩ := DataW.trod_int Tryz.underlying3 k0
      obtain ⟨v, hv, hv2, hv3⟩ := open_str _ _ _ k1
      obtain ⟨r, hr, hr2, hr3⟩ := open_str _ _ _ k2
      have h4 : -9223372036854775808 ≤ ep ∧ ep ≤ 9223372036854775807 := by
        have h4 := hew
        simp [Lit.wf, IntKind.min, IntKind.max, IntKind.signed, IntKind.bits] at h4
        omega
      simp only [List.cons.injEq, and_true] at hep hv hr
      subst hep hv hr
      have e0 : Rows.uptoBulk u0.1 = 1 := by rw [he0]; simp [Rows.uptoBulk]
      refine ⟨ep, v, r, rfl, h4, hv2, hr2, ?_⟩
      rw [hy]
      simp only [List.map_cons, List.map_nil, bulk_agg, List.sum_cons, List.sum_nil]
      omega
theorem open_dep (fuel : Nat) (cs : List Value) (y : DataW H × List MemPlace) (h : DataW.trod enc Tryz.prog W base spare held fuel 32 cs = some y) :
    ∃ d : DepD, cs = d.cs ∧ (d.fit ∧ 0 ≤ d.op ∧ d.op < 256) ∧ wtD d = Rows.uptoBulk y.1 := by
  obtain ⟨zs, m, rfl, hy, hl, hzl, hg⟩ := DataW.trod_struct Tryz.underlying32 h
  rw [c25] at hl
  match cs, hl with
  | [c1, c2, c3, c4, c5], _ =>
    match zs, hzl with
    | [z0, z1, z2], _ =>
      have g0 : DataW.trod enc Tryz.prog W base spare held m 9 [c1] = some z0 := by simpa [c9] using hg 0 _ rfl
      have g1 : DataW.trod enc Tryz.prog W base spare held m 5 [c2] = some z1 := by simpa [Go.Proofs.YtdpjjnbelgaagaaGreatDoor.c5] using hg 1 _ rfl
      have g2 : DataW.trod enc Tryz.prog W base spare held m 24 [c3, c4, c5] = some z2 := by simpa [c23] using hg 2 _ rfl
      clear hg
      obtain ⟨nm, hnm, hns, hnw⟩ := open_str _ _ _ g0
      obtain ⟨op, hop, ho0, how⟩ := DataW.trod_int Tryz.underlying5 g1
      obtain ⟨ep, ve, re, he, _, hvs, hrs, hew⟩ := open_evr _ _ _ g2
      have h3 : 0 ≤ op ∧ op < 256 := by
        have h4 := how
        simp [Lit.wf, IntKind.min, IntKind.max, IntKind.signed, IntKind.bits] at h4
        omega
      simp only [List.cons.injEq, and_true] at hnm hop he
      obtain ⟨rfl, rfl, rfl⟩ := he
      subst hnm hop
      have e0 : Rows.uptoBulk z1.1 = 1 := by rw [ho0]; simp [Rows.uptoBulk]
      refine ⟨⟨nm, op, ep, ve, re⟩, rfl, ⟨⟨hns, hvs, hrs⟩, h3.1, h3.2⟩, ?_⟩
      rw [hy]
      simp only [List.map_cons, List.map_nil, bulk_agg, List.sum_cons, List.sum_nil, wtD]
      omega
theorem sum_getD {g : RichD → Nat} : ∀ l : List RichD, sumN (fun j => g (l.getD j .nil)) l.length = (l.map g).sum := by
  intro l
  have h : ∀ n, n ≤ l.length → sumN (fun j => g (l.getD j .nil)) n = ((l.take n).map g).sum := by
    intro n
    induction n with
    | zero => intro _; simp [sumN]
    | succ n ih =>
      intro hn
      show sumN _ n + g (l.getD n .nil) = _
      have hn' : n < l.length := by omega
      rw [ih (by omega), List.take_succ_eq_append_getElem hn', List.map_append, List.sum_append, List.getD_eq_getElem?_getD, List.getElem?_eq_getElem hn']
      simp
  have := h l.length (Nat.le_refl _)
  rwa [List.take_length] at this
theorem wt_ofL (k : Int) (l : List RichD) : wtRs (ofL k l) = wtL wtR l := by
  unfold wtRs wtL
  rw [← sum_getD]
  rfl
theorem open_richw : ∀ (fuel : Nat) (cs : List Value) (y : DataW H × List MemPlace), DataW.trod enc Tryz.prog W base spare held fuel 34 cs = some y → Rows.uptoBulk y.1 ≤ 1048576 → ∃ r s, cs = richCs r s ∧ ArgsP anyB W r s ∧ wtR r ≤ Rows.uptoBulk y.1 := by
  intro fuel
  induction fuel using Nat.strongRecOn with
  | _ fuel ih =>
    intro cs y h hb
    obtain ⟨xs, n, hfu, hx, hl, hlen, hf⟩ := DataW.trod_struct Tryz.underlying34 h
    rw [c28] at hl
    match cs, hl with
    | [c0, c1, c2, c3, c4, c5, c6], _ =>
      match xs, hlen with
      | [x0, x1, x2], _ =>
        have h0 : DataW.trod enc Tryz.prog W base spare held n 5 [c0] = some x0 := by simpa [Go.Proofs.YtdpjjnbelgaagaaGreatDoor.c5] using hf 0 _ rfl
        have h1 : DataW.trod enc Tryz.prog W base spare held n 32 [c1, c2, c3, c4, c5] = some x1 := by simpa [c25] using hf 1 _ rfl
        have h2 : DataW.trod enc Tryz.prog W base spare held n 26 [c6] = some x2 := by simpa [c26] using hf 2 _ rfl
        clear hf h
        rw [hx] at hb
        simp only [List.map_cons, List.map_nil, bulk_agg, List.sum_cons, List.sum_nil] at hb
        obtain ⟨kd, hk, hk0, hkw⟩ := DataW.trod_int Tryz.underlying5 h0
        obtain rfl : c0 = .int .u8 kd := by simpa using hk
        obtain ⟨d, hd, hdf, hdw⟩ := open_dep _ _ _ h1
        obtain ⟨l, hli, hlw⟩ := open_list richK wtR 26 34 Tryz.underlying26 c28 (by show 0 < 7; omega) .nil (.slice none 0 0) n (fun p hp cs y h hb => ih p (by omega) cs y h hb) c6 x2 h2 (by omega)
        have h3 : 0 ≤ kd ∧ kd < 256 := by
          have h4 := hkw
          simp [Lit.wf, IntKind.min, IntKind.max, IntKind.signed, IntKind.bits] at h4
          omega
        have hal : argL (.node kd d l.length fun j => l.getD j .nil) = l := argL_ofL kd l
        have e0 : Rows.uptoBulk x0.1 = 1 := by rw [hk0]; simp [Rows.uptoBulk]
        simp only [DepD.cs, List.cons.injEq, and_true] at hd
        obtain ⟨rfl, rfl, rfl, rfl, rfl⟩ := hd
        refine ⟨.node kd d l.length fun j => l.getD j .nil, c6, rfl, (show LIn richK anyB W (argL (.node kd d l.length fun j => l.getD j .nil)) c6 from by rw [hal]; exact hli).args ⟨hdf.1, h3.1, h3.2⟩, ?_⟩
        rw [hx]
        have e1 : wtR (.node kd d l.length fun j => l.getD j .nil) = wtD d + 3 + (l.map wtR).sum := by
          rw [← sum_getD]
          rfl
        unfold wtL at hlw
        simp only [List.map_cons, List.map_nil, bulk_agg, List.sum_cons, List.sum_nil]
        omega
theorem open_deps (fuel : Nat) (c : Value) (y : DataW H × List MemPlace) (h : DataW.trod enc Tryz.prog W base spare held fuel 25 [c] = some y) (hb : Rows.uptoBulk y.1 ≤ 1048576) : ∃ l, LIn depK anyB W l c ∧ wtL wtD l ≤ Rows.uptoBulk y.1 :=
  open_list depK wtD 25 32 Tryz.underlying25 c25 (by show 0 < 5; omega) noDep () fuel (fun p _ cs y h _ => by
    obtain ⟨d, h1, h2, h3⟩ := open_dep p cs y h
    exact ⟨d, (), h1, h2, by omega⟩) c y h hb
theorem open_strs (fuel : Nat) (c : Value) (y : DataW H × List MemPlace) (h : DataW.trod enc Tryz.prog W base spare held fuel 27 [c] = some y) (hb : Rows.uptoBulk y.1 ≤ 1048576) : ∃ l, LIn strK anyB W l c ∧ wtL wtS l ≤ Rows.uptoBulk y.1 :=
  open_list strK wtS 27 9 Tryz.underlying27 c9 (by show 0 < 1; omega) emp () fuel (fun p _ cs y h _ => by
    obtain ⟨d, h1, h2, h3⟩ := open_str p cs y h
    exact ⟨d, (), h1, h2, by omega⟩) c y h hb
theorem open_riches (fuel : Nat) (c : Value) (y : DataW H × List MemPlace) (h : DataW.trod enc Tryz.prog W base spare held fuel 26 [c] = some y) (hb : Rows.uptoBulk y.1 ≤ 1048576) : ∃ r, LIn richK anyB W (argL r) c ∧ wtRs r ≤ Rows.uptoBulk y.1 := by
  obtain ⟨l, h1, h2⟩ := open_list richK wtR 26 34 Tryz.underlying26 c28 (by show 0 < 7; omega) .nil (.slice none 0 0) fuel (fun p _ cs y h hb => open_richw p cs y h hb) c y h hb
  exact ⟨ofL 0 l, by rw [argL_ofL]; exact h1, by rw [wt_ofL]; exact h2⟩
theorem open_pkg (fuel : Nat) (cs : List Value) (y : DataW H × List MemPlace) (h : DataW.trod enc Tryz.prog W base spare held fuel 29 cs = some y) (hb : Rows.uptoBulk y.1 ≤ 1048576) : ∃ p r, cs = pkgCs p r ∧ PkgIn anyB W p r ∧ wtP p ≤ Rows.uptoBulk y.1 := by
  obtain ⟨zs, m, rfl, hy, hl, hzl, hg⟩ := DataW.trod_struct Tryz.underlying29 h
  rw [c3'] at hl
  match cs, hl with
  | [k0, k1, k2, k3, k4, k5, k6, k7, k8, k9, k10, k11, k12, k13, k14], _ =>
    match zs, hzl with
    | [z0, z1, z2, z3, z4, z5, z6, z7, z8, z9, z10, z11, z12], _ =>
      have g0 : DataW.trod enc Tryz.prog W base spare held m 9 [k0] = some z0 := by simpa [c9] using hg 0 _ rfl
      have g1 : DataW.trod enc Tryz.prog W base spare held m 24 [k1, k2, k3] = some z1 := by simpa [c23] using hg 1 _ rfl
      have g2 : DataW.trod enc Tryz.prog W base spare held m 5 [k4] = some z2 := by simpa [c5] using hg 2 _ rfl
      have g3 : DataW.trod enc Tryz.prog W base spare held m 9 [k5] = some z3 := by simpa [c9] using hg 3 _ rfl
      have g4 : DataW.trod enc Tryz.prog W base spare held m 25 [k6] = some z4 := by simpa [cDs] using hg 4 _ rfl
      have g5 : DataW.trod enc Tryz.prog W base spare held m 26 [k7] = some z5 := by simpa [c26] using hg 5 _ rfl
      have g6 : DataW.trod enc Tryz.prog W base spare held m 26 [k8] = some z6 := by simpa [c26] using hg 6 _ rfl
      have g7 : DataW.trod enc Tryz.prog W base spare held m 25 [k9] = some z7 := by simpa [cDs] using hg 7 _ rfl
      have g8 : DataW.trod enc Tryz.prog W base spare held m 26 [k10] = some z8 := by simpa [c26] using hg 8 _ rfl
      have g9 : DataW.trod enc Tryz.prog W base spare held m 26 [k11] = some z9 := by simpa [c26] using hg 9 _ rfl
      have g10 : DataW.trod enc Tryz.prog W base spare held m 26 [k12] = some z10 := by simpa [c26] using hg 10 _ rfl
      have g11 : DataW.trod enc Tryz.prog W base spare held m 26 [k13] = some z11 := by simpa [c26] using hg 11 _ rfl
      have g12 : DataW.trod enc Tryz.prog W base spare held m 27 [k14] = some z12 := by simpa [cSs] using hg 12 _ rfl
      clear hg h
      rw [hy] at hb
      simp only [List.map_cons, List.map_nil, bulk_agg, List.sum_cons, List.sum_nil] at hb
      obtain ⟨nm, e0, s0, w0⟩ := open_str _ _ _ g0
      obtain ⟨ep, ve, re, e1, s1, s2, s3, w1⟩ := open_evr _ _ _ g1
      obtain ⟨ar, e2, a0, aw⟩ := DataW.trod_int Tryz.underlying5 g2
      obtain ⟨vd, e3, s4, w3⟩ := open_str _ _ _ g3
      obtain ⟨pv, l4, w4⟩ := open_deps _ _ _ g4 (by omega)
      obtain ⟨rq, l5, w5⟩ := open_riches _ _ _ g5 (by omega)
      obtain ⟨cn, l6, w6⟩ := open_riches _ _ _ g6 (by omega)
      obtain ⟨ob, l7, w7⟩ := open_deps _ _ _ g7 (by omega)
      obtain ⟨rc, l8, w8⟩ := open_riches _ _ _ g8 (by omega)
      obtain ⟨su, l9, w9⟩ := open_riches _ _ _ g9 (by omega)
      obtain ⟨sg, l10, w10⟩ := open_riches _ _ _ g10 (by omega)
      obtain ⟨en, l11, w11⟩ := open_riches _ _ _ g11 (by omega)
      obtain ⟨fl, l12, w12⟩ := open_strs _ _ _ g12 (by omega)
      have h3 : 0 ≤ ar ∧ ar < 256 := by
        have h4 := aw
        simp [Lit.wf, IntKind.min, IntKind.max, IntKind.signed, IntKind.bits] at h4
        omega
      simp only [List.cons.injEq, and_true] at e0 e1 e2 e3
      obtain ⟨rfl, rfl, rfl⟩ := e1
      subst e0 e2 e3
      have b2 : Rows.uptoBulk z2.1 = 1 := by rw [a0]; simp [Rows.uptoBulk]
      refine ⟨⟨nm, ep, ve, re, ar, vd, pv, rq, cn, ob, rc, su, sg, en, fl⟩, ⟨k6, k7, k8, k9, k10, k11, k12, k13, k14⟩, rfl, ⟨s0, s2, s3, s4, h3, s1, l4, l5, l6, l7, l8, l9, l10, l11, l12⟩, ?_⟩
      rw [hy]
      simp only [List.map_cons, List.map_nil, bulk_agg, List.sum_cons, List.sum_nil, wtP]
      omega
theorem open_pkgs (fuel : Nat) (c : Value) (y : DataW H × List MemPlace) (h : DataW.trod enc Tryz.prog W base spare held fuel 36 [c] = some y) (hb : Rows.uptoBulk y.1 ≤ 1048576) : ∃ l, LIn pkgK anyB W l c ∧ wtL wtP l ≤ Rows.uptoBulk y.1 :=
  open_list pkgK wtP 36 29 Tryz.underlying36 c3' (by show 0 < 15; omega) ⟨emp, 0, emp, emp, 0, emp, [], .nil, .nil, [], .nil, .nil, .nil, .nil, []⟩ ⟨.slice none 0 0, .slice none 0 0, .slice none 0 0, .slice none 0 0, .slice none 0 0, .slice none 0 0, .slice none 0 0, .slice none 0 0, .slice none 0 0⟩ fuel (fun p _ cs y h hb => open_pkg p cs y h hb) c y h hb
theorem open_repo (fuel : Nat) (cs : List Value) (y : DataW H × List MemPlace) (h : DataW.trod enc Tryz.prog W base spare held fuel 38 cs = some y) (hb : Rows.uptoBulk y.1 ≤ 1048576) : ∃ p r, cs = repoK.cells p r ∧ repoK.holds anyB W p r ∧ wtO p ≤ Rows.uptoBulk y.1 := by
  obtain ⟨zs, m, rfl, hy, hl, hzl, hg⟩ := DataW.trod_struct Tryz.underlying38 h
  rw [cRo] at hl
  match cs, hl with
  | [k0, k1], _ =>
    match zs, hzl with
    | [z0, z1], _ =>
      have g0 : DataW.trod enc Tryz.prog W base spare held m 3 [k0] = some z0 := by simpa [c3] using hg 0 _ rfl
      have g1 : DataW.trod enc Tryz.prog W base spare held m 36 [k1] = some z1 := by simpa [cPs] using hg 1 _ rfl
      clear hg h
      rw [hy] at hb
      simp only [List.map_cons, List.map_nil, bulk_agg, List.sum_cons, List.sum_nil] at hb
      obtain ⟨pr, e0, a0, aw⟩ := DataW.trod_int Tryz.underlying3 g0
      obtain ⟨l, hl, hw⟩ := open_pkgs _ _ _ g1 (by omega)
      have h4 : -9223372036854775808 ≤ pr ∧ pr ≤ 9223372036854775807 := by
        have h4 := aw
        simp [Lit.wf, IntKind.min, IntKind.max, IntKind.signed, IntKind.bits] at h4
        omega
      simp only [List.cons.injEq, and_true] at e0
      subst e0
      have b2 : Rows.uptoBulk z0.1 = 1 := by rw [a0]; simp [Rows.uptoBulk]
      refine ⟨⟨pr, l⟩, k1, rfl, ⟨h4, hl⟩, ?_⟩
      rw [hy]
      simp only [List.map_cons, List.map_nil, bulk_agg, List.sum_cons, List.sum_nil, wtO]
      omega
theorem open_data (fuel : Nat) (cs : List Value) (y : DataW H × List MemPlace) (h : DataW.trod enc Tryz.prog W base spare held fuel 41 cs = some y) (hb : Rows.uptoBulk y.1 ≤ 1048576) : ∃ d vr vi, cs = [vr, vi] ∧ DataIn anyB W d vr vi ∧ wtA d ≤ Rows.uptoBulk y.1 := by
  obtain ⟨zs, m, rfl, hy, hl, hzl, hg⟩ := DataW.trod_struct Tryz.underlying41 h
  rw [cDat] at hl
  match cs, hl with
  | [k0, k1], _ =>
    match zs, hzl with
    | [z0, z1], _ =>
      have g0 : DataW.trod enc Tryz.prog W base spare held m 39 [k0] = some z0 := by simpa [cRos] using hg 0 _ rfl
      have g1 : DataW.trod enc Tryz.prog W base spare held m 36 [k1] = some z1 := by simpa [cPs] using hg 1 _ rfl
      clear hg h
      rw [hy] at hb
      simp only [List.map_cons, List.map_nil, bulk_agg, List.sum_cons, List.sum_nil] at hb
      obtain ⟨lr, hr, hrw⟩ := open_list repoK wtO 39 38 Tryz.underlying39 cRo (by show 0 < 2; omega) ⟨0, []⟩ (.slice none 0 0) m (fun p _ cs y h hb => open_repo p cs y h hb) k0 z0 g0 (by omega)
      obtain ⟨li, hi, hiw⟩ := open_pkgs _ _ _ g1 (by omega)
      refine ⟨⟨lr, li⟩, k0, k1, rfl, ⟨hr, hi⟩, ?_⟩
      rw [hy]
      simp only [List.map_cons, List.map_nil, bulk_agg, List.sum_cons, List.sum_nil, wtA]
      omega
end
end Go.Proofs.YtdpjjnbelgaagaaGreatDoor

namespace Go.Proofs.YtdpjjnbelgaagaaGreatDoor
open Go.ChangeShapes Go.WideShapes Go.ChangeAt Go.RowKit Go.Deep
set_option maxRecDepth 100000

theorem enc_ok {d : DataD} {b : List UInt8} (h : (b, (0 : Int)) = encodeE d) : checkE d = 0 ∧ (encA d).length ≤ 4194304 ∧ b = encA d := by
  by_cases h0 : checkE d = 0
  · by_cases hl : (encA d).length ≤ 4194304
    · rw [encode_yes h0 hl] at h
      injection h with h1 _
      exact ⟨h0, hl, h1⟩
    · rw [encode_large h0 (by omega)] at h
      injection h with _ h2
      omega
  · rw [encode_bad rfl h0] at h
    injection h with _ h2
    exact absurd h2.symm h0
theorem dec_error {s : ByteArray} {p : Nat} {x : Int} (h : decE s = .error (p, x)) (w : World) (hW : Words w) (hO : Ops w) : Calls Tryz.prog 18 #[.string s] w fun r w' => r = .returned (.tuple #[.agg #[.slice none 0 0, .slice none 0 0], .int .i64 (p : Int), .int .i64 x]) ∧ Below w.heap.size w w' := by
  refine (decode_any s w hW hO).mono fun r w' ⟨h1, h2⟩ => ⟨?_, h1⟩
  unfold DecPost at h2
  rw [h] at h2
  exact h2
theorem row_index (which : Int) (l : Nat) (h0 : 0 < l) (hl : l ≤ 4194304) : ∃ k : Nat, k < l ∧ wrap64 ((IntKind.u64.wrap which).tmod (l : Int)) = (k : Int) := by
  have h1 : 0 ≤ IntKind.u64.wrap which := by rw [IntKind.wrap_u64]; omega
  have h2 := Int.tmod_nonneg (l : Int) h1
  have h3 := Int.tmod_lt_of_pos (IntKind.u64.wrap which) (show (0 : Int) < l by omega)
  refine ⟨((IntKind.u64.wrap which).tmod (l : Int)).toNat, by omega, ?_⟩
  unfold wrap64
  omega
theorem no_long {d : DataD} {S b : ByteArray} (h : checkE d = 0) (hS : S = ⟨(encA d).toArray⟩) (hl : S.size + b.size ≤ 4194304) (hb : 0 < b.size) : noE (S ++ b) (S.size : Int) 10 = true := by
  have hs : S.size = (encA d).length := by rw [hS]; rfl
  have hbs : b.data.toList.length = b.size := by simp
  have e : S ++ b = ⟨(encA d ++ b.data.toList).toArray⟩ := by
    rw [hS]
    exact ba_app (encA d) b.data.toList
  have h2 := dec_long (d := d) (b := b.data.toList) h (by omega) (by omega)
  unfold noE
  rw [e, h2, hs]
  simp
theorem encA_two (d : DataD) : 2 ≤ (encA d).length := by
  unfold encA encL
  have h1 := numL_pos d.repos.length
  have h2 := numL_pos d.inst.length
  simp only [List.length_append]
  omega
set_option maxHeartbeats 8000000 in
theorem begun_any (d : DataD) (vr vi : Value) (n : Int) (b : ByteArray) (w : World) (hd : DataIn anyB w d vr vi) (hw : wtA d ≤ 1048576) (_hn : -9223372036854775808 ≤ n ∧ n ≤ 9223372036854775807) (hb : b.size ≤ 9223372036854775807) (hW : Words w) (hO : Ops w) :
    Calls Tryz.prog 5 #[.agg #[vr, vi], .int .i64 n, .string b] w fun e w' => e = .returned (.bool true) ∧ Below w.heap.size w w' := by
  obtain ⟨br, dr, rfl⟩ := hd.repos.form
  obtain ⟨bi, di, rfl⟩ := hd.inst.form
  obtain ⟨g, hg⟩ : ∃ g, g = w.heap.size := ⟨_, rfl⟩
  obtain ⟨W, hWe⟩ : ∃ W, W = w.alloc (.cells #[.slice br d.repos.length dr, .slice bi d.inst.length di] 41) := ⟨_, rfl⟩
  have HX := Lib.hid (show Blk W g 41 #[.slice br d.repos.length dr, .slice bi d.inst.length di] ∧ Below w.heap.size w W from by rw [hWe, hg]; exact ⟨Blk.new _ _ _, new_b _ _⟩)
  have d0 : W.cell? ⟨g, 0, none⟩ = some (.slice br d.repos.length dr) := HX.out.1.cell 0
  have d1 : W.cell? ⟨g, 1, none⟩ = some (.slice bi d.inst.length di) := HX.out.1.cell 1
  have dl := HX.out.1.lt
  have HTab := Lib.hid (show ∀ w', Below w.heap.size w w' → Words w' ∧ Ops w' from fun w' h => ⟨hW.below h, hO.below h⟩)
  have HWk := Lib.hid (show ∀ w', Below w.heap.size w w' → Calls Tryz.prog 8 #[] w' fun e w'' => e = .returned (.bool true) ∧ Below w'.heap.size w' w'' from fun w' h => works11_any w' (HTab.out _ h).1 (HTab.out _ h).2)
  have HLg := Lib.hid (show ∀ w', Below w.heap.size w w' → Calls Tryz.prog 17 #[.agg #[.slice br d.repos.length dr, .slice bi d.inst.length di]] w' (SomeBool w') from fun w' h => large11_any d _ _ w' (hd.bl h))
  obtain ⟨⟨eb, ee⟩, hee⟩ : ∃ p, p = encodeE d := ⟨_, rfl⟩
  have HEE := Lib.hid hee
  obtain ⟨S, hS⟩ : ∃ S : ByteArray, S = ⟨eb.toArray⟩ := ⟨_, rfl⟩
  have HS := Lib.hid hS
  have HE := Lib.hid (show ∀ w', Below w.heap.size w w' → Calls Tryz.prog 11 #[.agg #[.slice br d.repos.length dr, .slice bi d.inst.length di]] w' (fun r w'' => r = .returned (.tuple #[.string S, .int .i64 ee]) ∧ Below w'.heap.size w' w'') from fun w' h => hS ▸ enc_call hee.symm (by omega) w' (hd.bl h) (HTab.out _ h).1 (HTab.out _ h).2)
  have HWt := Lib.hid hw
  have HBs := Lib.hid (show w.heap.size ≤ w.heap.size from Nat.le_refl _)
  clear hW hO hd hw hee hS
  go_enter Tryz.func5, Tryz.ntmps5
  go_upto_region 1 with fail
  rw [← hg, ← hWe]
  have HG := Lib.hid hg
  clear hWe hg
  have W1 := Lib.hid (HWk.out _ HX.out.2)
  by_cases h100 : b.size ≤ 100
  · have h100i : ¬ (100 : Int) < (b.size : Int) := by omega
    go_upto_region 3 with (first
      | (go_at_call 8; (with_reducible refine W1.out.mono ?_); rintro r w1 ⟨rfl, hb1⟩; have HB1 := Lib.hid (below_t' HX.out.2 hb1); have HXa := Lib.hid (show Blk w1 g 41 _ from HX.out.1.below hb1 HX.out.1.lt); have c0 : w1.cell? ⟨g, 0, none⟩ = some (.slice br d.repos.length dr) := HXa.out.cell 0; have c1 : w1.cell? ⟨g, 1, none⟩ = some (.slice bi d.inst.length di) := HXa.out.cell 1; have cl := HXa.out.lt; clear hb1)
      | (go_at_call 17; (with_reducible refine (HLg.out _ HB1.out).mono ?_); rintro r w2 ⟨⟨q, rfl⟩, hb2⟩; have HB2 := Lib.hid (below_t' HB1.out hb2); have HXb := Lib.hid (show Blk w2 g 41 _ from HXa.out.below hb2 HXa.out.lt); have e0 : w2.cell? ⟨g, 0, none⟩ = some (.slice br d.repos.length dr) := HXb.out.cell 0; have e1 : w2.cell? ⟨g, 1, none⟩ = some (.slice bi d.inst.length di) := HXb.out.cell 1; have el := HXb.out.lt; clear hb2; cases q)
      | (go_at_call 8; (with_reducible refine (HWk.out _ HB2.out).mono ?_); rintro r w3 ⟨rfl, hb3⟩; have HB3 := Lib.hid (below_t' HB2.out hb3); clear hb3)
      | fail)
    · have HE2 := Lib.hid (HE.out w2 HB2.out)
      clear d0 d1 dl c0 c1 cl
      by_cases he : ee = 0
      · subst he
        have HOk := Lib.hid (enc_ok HEE.out)
        have hsz : S.size = (encA d).length := by rw [HS.out, HOk.out.2.2]; rfl
        have hs2 : 2 ≤ S.size := by rw [hsz]; exact encA_two d
        have hs3 : S.size ≤ 3145728 := by
          have := lenA HOk.out.1
          have := HWt.out
          omega
        have HSz := Lib.hid hsz
        clear hsz
        go_upto_region 7 with (first
          | (go_at_call 11; (with_reducible refine HE2.out.mono ?_); rintro r w3 ⟨rfl, hb3⟩; have HB3 := Lib.hid (below_t' HB2.out hb3); clear hb3)
          | fail)
        obtain ⟨k, hkS, hk⟩ := row_index n S.size (by omega) (by omega)
        rw [hk]
        clear hk
        obtain ⟨p, hp, hpk⟩ := dec_short (k := k) HOk.out.1 HOk.out.2.1 (by have := HSz.out; omega)
        have hSe : S = ⟨(encA d).toArray⟩ := by rw [HS.out, HOk.out.2.2]
        rw [← hSe] at hp
        have HD := Lib.hid (dec_error hp w3 (HTab.out _ HB3.out).1 (HTab.out _ HB3.out).2)
        have hki : (k : Int) ≤ (S.size : Int) := by omega
        have hpi : (p : Int) ≤ (k : Int) := by omega
        have HSe := Lib.hid hSe
        clear hp hSe e0 e1 el
        go_upto_region 8 with (first
          | (go_at_call 18; (with_reducible refine HD.out.mono ?_); rintro r w4 ⟨rfl, hb4⟩; have HB4 := Lib.hid (below_t' HB3.out hb4); clear hb4)
          | fail)
        by_cases h0 : b.toList = []
        · have h1 : b.toList.isEmpty = true := by simpa using h0
          have HBz := Lib.hid (show Below w.heap.size w (w4.alloc (.cells #[.slice none 0 0, .slice none 0 0] 41)) from below_t' HB4.out (new_b _ _))
          go_wp2_with fail
          go_ret
          exact ⟨rfl, HBz.out⟩
        · have h1 : b.toList.isEmpty = false := by simpa using h0
          have HBz := Lib.hid (show Below w.heap.size w (w4.alloc (.cells #[.slice none 0 0, .slice none 0 0] 41)) from below_t' HB4.out (new_b _ _))
          have hbp : 0 < b.size := by
            have e : b.toList.length = b.size := by rw [ByteArray.toList_eq]; simp
            have : b.toList.length ≠ 0 := fun h => h0 (List.eq_nil_of_length_eq_zero h)
            omega
          have HN := Lib.hid (no_yes (no_long HOk.out.1 HSe.out (by omega) hbp) _ (HTab.out _ HBz.out).1 (HTab.out _ HBz.out).2)
          clear hbp
          go_wp2_with (first
            | (go_at_call 16; (with_reducible refine HN.out.mono ?_); rintro r w5 ⟨rfl, hb5⟩; have HB5 := Lib.hid (below_t' HBz.out hb5); clear hb5)
            | fail)
          go_ret
          exact ⟨rfl, HB5.out⟩
      · have he2 : (ee != 0) = true := by simpa using he
        go_wp2_with (first
          | (go_at_call 11; (with_reducible refine HE2.out.mono ?_); rintro r w3 ⟨rfl, hb3⟩; have HB3 := Lib.hid (below_t' HB2.out hb3); clear hb3)
          | fail)
        go_ret
        exact ⟨rfl, HB3.out⟩
    · go_ret
      exact ⟨rfl, HB3.out⟩
  · have h100i : (100 : Int) < (b.size : Int) := by omega
    go_wp2_with (first
      | (go_at_call 8; (with_reducible refine W1.out.mono ?_); rintro r w1 ⟨rfl, hb1⟩; have HB1 := Lib.hid (below_t' HX.out.2 hb1); have HXa := Lib.hid (show Blk w1 g 41 _ from HX.out.1.below hb1 HX.out.1.lt); have c0 : w1.cell? ⟨g, 0, none⟩ = some (.slice br d.repos.length dr) := HXa.out.cell 0; have c1 : w1.cell? ⟨g, 1, none⟩ = some (.slice bi d.inst.length di) := HXa.out.cell 1; have cl := HXa.out.lt; clear hb1)
      | (go_at_call 17; (with_reducible refine (HLg.out _ HB1.out).mono ?_); rintro r w2 ⟨⟨q, rfl⟩, hb2⟩; have HB2 := Lib.hid (below_t' HB1.out hb2); clear hb2; cases q)
      | (go_at_call 8; (with_reducible refine (HWk.out _ HB2.out).mono ?_); rintro r w3 ⟨rfl, hb3⟩; have HB3 := Lib.hid (below_t' HB2.out hb3); clear hb3)
      | fail)
    all_goals go_ret
    all_goals exact ⟨rfl, HB3.out⟩
end Go.Proofs.YtdpjjnbelgaagaaGreatDoor

namespace Go.Proofs.YtdpjjnbelgaagaaGreatDoor
open Go.ChangeShapes Go.WideShapes Go.ChangeAt Go.WideMaps Go.WideElems Go.RowKit Go.Maps Go.Deep
set_option maxRecDepth 100000

theorem gOps : Tryz.prog.globalNamed "chandlery/span.ops" = some 1 := by kernel_rfl
theorem gWords : Tryz.prog.globalNamed "chandlery/dep.words" = some 0 := by kernel_rfl
theorem tOps : (Tryz.prog.globals[1]?).map (·.type) = some 206 := by kernel_rfl
theorem tWords : (Tryz.prog.globals[0]?).map (·.type) = some 155 := by kernel_rfl
abbrev laid11 {H : Type} : List (String × DataW H) := [("chandlery/span.ops", Rows.laid_chandlery_span_ops), ("chandlery/dep.words", Rows.laid_chandlery_dep_words)]
theorem c64 : Tryz.prog.cellsOf 155 = 7 := by kernel_rfl
theorem of_laid {W : World} (h : laidMetH Tryz.prog laid11 W) : Words W ∧ Ops W := by
  rw [MakeChecks.laidMetH_plain _ _ _ (by kernel_rfl)] at h
  obtain ⟨ps, ⟨g0, t0, cs0, f0, p0, q0, hg0, ht0, hv0, hd0, ⟨g1, t1, cs1, f1, p1, q1, hg1, ht1, hv1, hd1, _, _⟩, _⟩, _, _⟩ := h
  obtain rfl := Option.some.inj (gOps.symm.trans hg0)
  obtain rfl := Option.some.inj (gWords.symm.trans hg1)
  obtain rfl := Option.some.inj (tOps.symm.trans ht0)
  obtain rfl := Option.some.inj (tWords.symm.trans ht1)
  constructor
  · obtain ⟨xs, m1, rfl, hx1, hlen, hn3, hel⟩ := DataW.trod_array Tryz.underlying155 hd1
    rw [c64] at hlen
    have hcl : ∀ j, W.cell? ⟨0, j, none⟩ = cs1[j]? := fun j => World.var?_cell hg1 hv1 j
    have hw : ∀ j, j < 7 → W.cell? ⟨0, j, none⟩ = some (.string (wordV j)) := by
      obtain ⟨l⟩ := cs1
      simp only at hlen hel hcl
      match l, hlen with
      | [c0, c1, c2, c3, c4, c5, c6], _ =>
        match xs, hn3, hx1, hel with
        | [x0, x1, x2, x3, x4, x5, x6], _, hx1, hel =>
          have hx2 := (Prod.mk.inj hx1).1
          simp only [Rows.laid_chandlery_dep_words, List.map_cons, List.map_nil, DataW.agg.injEq, List.cons.injEq, and_true] at hx2
          have one : ∀ (i : Nat) (c : Value) (x : DataW Unit × List MemPlace) (b : List UInt8), DataW.trod (fun _ => ()) Tryz.prog W 0 (fun _ => true) false m1 9 [c] = some x → DataW.lit (.string b) = x.1 → c = .string ⟨b.toArray⟩ := fun i c x b h1 h2 => by
            obtain ⟨s, hs, hx, _⟩ := DataW.trod_string Tryz.underlying9 h1
            rw [hx] at h2
            simp only [DataW.lit.injEq, Lit.string.injEq] at h2
            simp only [List.cons.injEq, and_true] at hs
            rw [hs, h2]
          intro j hj
          rw [hcl]
          have : j = 0 ∨ j = 1 ∨ j = 2 ∨ j = 3 ∨ j = 4 ∨ j = 5 ∨ j = 6 := by omega
          rcases this with rfl | rfl | rfl | rfl | rfl | rfl | rfl
          · exact congrArg some (one 0 _ x0 _ (by simpa [c9] using hel 0 (by omega)) hx2.1)
          · exact congrArg some (one 1 _ x1 _ (by simpa [c9] using hel 1 (by omega)) hx2.2.1)
          · exact congrArg some (one 2 _ x2 _ (by simpa [c9] using hel 2 (by omega)) hx2.2.2.1)
          · exact congrArg some (one 3 _ x3 _ (by simpa [c9] using hel 3 (by omega)) hx2.2.2.2.1)
          · exact congrArg some (one 4 _ x4 _ (by simpa [c9] using hel 4 (by omega)) hx2.2.2.2.2.1)
          · exact congrArg some (one 5 _ x5 _ (by simpa [c9] using hel 5 (by omega)) hx2.2.2.2.2.2.1)
          · exact congrArg some (one 6 _ x6 _ (by simpa [c9] using hel 6 (by omega)) hx2.2.2.2.2.2.2)
    exact ⟨cell_lt (hw 0 (by omega)), hw⟩
  · rcases open_map Tryz.underlying206 hd0 with ⟨_, hx⟩ | ⟨bm, es, clock, m, rfl, hcs, hb, _, F, hx⟩
    · simp [Rows.laid_chandlery_span_ops] at hx
    have hcell : ∀ j, W.cell? ⟨1, j, none⟩ = cs0[j]? := fun j => World.var?_cell hg0 hv0 j
    have h0 : W.cell? ⟨1, 0, none⟩ = some (.map (some bm)) := by
      have := hcell 0
      rw [Array.eq_one_of_toList hcs] at this
      simpa using this
    have hown := World.ownsMap_of_fit (R := plainElem Tryz.prog 5) hb F (fun x _ z hz => elemAt_plainElem_int Tryz.underlying5 hz)
    have hx2 := (Prod.mk.inj hx).1
    rw [← hx2] at hown
    exact ⟨cell_lt h0, Unit, bm, es.size, h0, hown⟩
end Go.Proofs.YtdpjjnbelgaagaaGreatDoor

namespace Go.Proofs.YtdpjjnbelgaagaaGreatDoor
open Go.ChangeShapes Go.WideShapes Go.ChangeAt Go.RowKit Go.Deep
set_option maxRecDepth 100000

theorem richesE_few {wh : Int} {r x : RichD} (h : richesE wh r = true) (hx : x ∈ argL r) : x.count ≤ 4611686018427387904 := by
  obtain ⟨j, hj, rfl⟩ := List.mem_map.1 hx
  have := (may_fits ((riches_n h).2 j (by simpa using hj))).2.2
  omega
theorem may_few {p : PkgD} (h : mayP p = true) : p.few := by
  have m := mayP_is h
  intro r hr x hx
  rcases hr with rfl | rfl | rfl | rfl | rfl | rfl
  · exact richesE_few m.req hx
  · exact richesE_few m.con hx
  · exact richesE_few m.reco hx
  · exact richesE_few m.sup hx
  · exact richesE_few m.sug hx
  · exact richesE_few m.enh hx
theorem check_few {d : DataD} (h : checkE d = 0) : d.few := by
  obtain ⟨_, q2, _, q4, q5⟩ := check_ok.1 h
  exact ⟨fun x hx p hp => may_few (List.all_eq_true.1 (List.all_eq_true.1 q4 x hx) p hp), fun p hp => may_few (List.all_eq_true.1 q5 p hp), by omega⟩
theorem enc_few {d : DataD} {vr vi : Value} {b : List UInt8} {e : Int} (he : encodeE d = (b, e)) (hf : d.few) (w : World) (hd : DataIn anyB w d vr vi) (hW : Words w) (hO : Ops w) :
    Calls Tryz.prog 11 #[.agg #[vr, vi]] w fun r w' => r = .returned (.tuple #[.string ⟨b.toArray⟩, .int .i64 e]) ∧ Below w.heap.size w w' := by
  have h := encode_any w d vr vi hd w (Below.refl _ _) hf hW hO
  rw [he] at h
  exact h
theorem check_call {d : DataD} {vr vi : Value} {e : Int} (he : checkE d = e) (hf : d.few) (w : World) (hd : DataIn anyB w d vr vi) (hW : Words w) (hO : Ops w) :
    Calls Tryz.prog 15 #[.agg #[vr, vi]] w fun r w' => r = .returned (.int .i64 e) ∧ Below w.heap.size w w' :=
  he ▸ check_any w d vr vi hd w (Below.refl _ _) hf hW hO
theorem dec_okay {s : ByteArray} {d : DataD} (h : decE s = .ok d) (w : World) (hW : Words w) (hO : Ops w) : Calls Tryz.prog 18 #[.string s] w fun r w' =>
    (∃ ar cr ai ci, r = .returned (.tuple #[.agg #[.slice ar d.repos.length cr, .slice ai d.inst.length ci], .int .i64 0, .int .i64 0]) ∧ DataIn anyB w' d (.slice ar d.repos.length cr) (.slice ai d.inst.length ci)) ∧ Below w.heap.size w w' := by
  refine (decode_any s w hW hO).mono fun r w' ⟨h1, h2⟩ => ⟨?_, h1⟩
  unfold DecPost at h2
  rw [h] at h2
  obtain ⟨vr, vi, h3, h4⟩ := h2
  obtain ⟨ar, cr, rfl⟩ := h4.repos.form
  obtain ⟨ai, ci, rfl⟩ := h4.inst.form
  exact ⟨ar, cr, ai, ci, h3, h4.keep (Nat.le_refl _) fun b _ _ => ⟨rfl, trivial⟩⟩
theorem same_call {a b : DataD} {q : Bool} (h : sameA a b = q) {vr vi ur ui : Value} (w : World) (ha : DataIn anyB w a vr vi) (hb : DataIn anyB w b ur ui) :
    Calls Tryz.prog 19 #[.agg #[vr, vi], .agg #[ur, ui]] w fun e w' => e = .returned (.bool q) ∧ Below w.heap.size w w' := h ▸ same11_any a b vr vi ur ui w ha hb

set_option maxHeartbeats 8000000 in
/-- What follows once Encode and Check of the data have been looked at: bytes that came. -/
theorem back_any (d : DataD) (vr vi : Value) (s : ByteArray) (w : World) (hd : DataIn anyB w d vr vi) (hw : wtA d ≤ 1048576) (hs : s.size ≤ 9223372036854775807) (hW : Words w) (hO : Ops w) :
    Calls Tryz.prog 4 #[.agg #[vr, vi], .string s] w fun e w' => e = .returned (.bool true) ∧ Below w.heap.size w w' := by
  obtain ⟨br, dr, rfl⟩ := hd.repos.form
  obtain ⟨bi, di, rfl⟩ := hd.inst.form
  obtain ⟨g, hg⟩ : ∃ g, g = w.heap.size := ⟨_, rfl⟩
  obtain ⟨W, hWe⟩ : ∃ W, W = w.alloc (.cells #[.slice br d.repos.length dr, .slice bi d.inst.length di] 41) := ⟨_, rfl⟩
  have HX := Lib.hid (show Blk W g 41 #[.slice br d.repos.length dr, .slice bi d.inst.length di] ∧ Below w.heap.size w W from by rw [hWe, hg]; exact ⟨Blk.new _ _ _, new_b _ _⟩)
  have d0 : W.cell? ⟨g, 0, none⟩ = some (.slice br d.repos.length dr) := HX.out.1.cell 0
  have d1 : W.cell? ⟨g, 1, none⟩ = some (.slice bi d.inst.length di) := HX.out.1.cell 1
  have dl := HX.out.1.lt
  have HTab := Lib.hid (show ∀ w', Below w.heap.size w w' → Words w' ∧ Ops w' from fun w' h => ⟨hW.below h, hO.below h⟩)
  have HWk := Lib.hid (show ∀ w', Below w.heap.size w w' → Calls Tryz.prog 8 #[] w' fun e w'' => e = .returned (.bool true) ∧ Below w'.heap.size w' w'' from fun w' h => works11_any w' (HTab.out _ h).1 (HTab.out _ h).2)
  have HLg := Lib.hid (show ∀ w', Below w.heap.size w w' → Calls Tryz.prog 17 #[.agg #[.slice br d.repos.length dr, .slice bi d.inst.length di]] w' (SomeBool w') from fun w' h => large11_any d _ _ w' (hd.bl h))
  have HDw := Lib.hid hd
  have HWt := Lib.hid hw
  clear hW hO hd hw
  go_enter Tryz.func4, Tryz.ntmps4
  go_upto_region 1 with fail
  rw [← hg, ← hWe]
  have HG := Lib.hid hg
  clear hWe hg
  have W1 := Lib.hid (HWk.out _ HX.out.2)
  by_cases h20 : s.size ≤ 20000
  · have h20i : ¬ (20000 : Int) < (s.size : Int) := by omega
    go_upto_region 3 with (first
      | (go_at_call 8; (with_reducible refine W1.out.mono ?_); rintro r w1 ⟨rfl, hb1⟩; have HB1 := Lib.hid (below_t' HX.out.2 hb1); have HXa := Lib.hid (show Blk w1 g 41 _ from HX.out.1.below hb1 HX.out.1.lt); have c0 : w1.cell? ⟨g, 0, none⟩ = some (.slice br d.repos.length dr) := HXa.out.cell 0; have c1 : w1.cell? ⟨g, 1, none⟩ = some (.slice bi d.inst.length di) := HXa.out.cell 1; have cl := HXa.out.lt; clear hb1)
      | (go_at_call 17; (with_reducible refine (HLg.out _ HB1.out).mono ?_); rintro r w2 ⟨⟨q, rfl⟩, hb2⟩; have HB2 := Lib.hid (below_t' HB1.out hb2); have HXb := Lib.hid (show Blk w2 g 41 _ from HXa.out.below hb2 HXa.out.lt); have e0 : w2.cell? ⟨g, 0, none⟩ = some (.slice br d.repos.length dr) := HXb.out.cell 0; have e1 : w2.cell? ⟨g, 1, none⟩ = some (.slice bi d.inst.length di) := HXb.out.cell 1; have el := HXb.out.lt; clear hb2; cases q)
      | (go_at_call 8; (with_reducible refine (HWk.out _ HB2.out).mono ?_); rintro r w3 ⟨rfl, hb3⟩; have HB3 := Lib.hid (below_t' HB2.out hb3); clear hb3)
      | fail)
    · clear d0 d1 dl c0 c1 cl
      have HF := Lib.hid (show d.few from data_few (by have := HWt.out; omega))
      obtain ⟨ce, hce⟩ : ∃ ce, ce = checkE d := ⟨_, rfl⟩
      have HCE := Lib.hid hce
      have HCk := Lib.hid (show ∀ w', Below w.heap.size w w' → Calls Tryz.prog 15 #[.agg #[.slice br d.repos.length dr, .slice bi d.inst.length di]] w' (fun r w'' => r = .returned (.int .i64 ce) ∧ Below w'.heap.size w' w'') from fun w' h => check_call hce.symm HF.out w' (HDw.out.bl h) (HTab.out _ h).1 (HTab.out _ h).2)
      clear hce
      have HS6 : Hid (∀ w', Below w.heap.size w w' → True) := Lib.hid fun _ _ => trivial
      by_cases h0 : ce = 0
      · have hl := lenA (HCE.out.symm.trans h0)
        have HEn := Lib.hid (show ∀ w', Below w.heap.size w w' → Calls Tryz.prog 11 #[.agg #[.slice br d.repos.length dr, .slice bi d.inst.length di]] w' (fun r w'' => r = .returned (.tuple #[.string ⟨(encA d).toArray⟩, .int .i64 0]) ∧ Below w'.heap.size w' w'') from fun w' h => enc_few (encode_yes (HCE.out.symm.trans h0) (by have := HWt.out; omega)) HF.out w' (HDw.out.bl h) (HTab.out _ h).1 (HTab.out _ h).2)
        have HBk := Lib.hid (show ∀ w', Below w.heap.size w w' → Calls Tryz.prog 14 #[.agg #[.slice br d.repos.length dr, .slice bi d.inst.length di]] w' (fun r w'' => r = .returned (.bool true) ∧ Below w'.heap.size w' w'') from fun w' h => back_call (back_yes (HCE.out.symm.trans h0) (by have := HWt.out; omega)) (by have := HWt.out; omega) w' (HDw.out.bl h) (HTab.out _ h).1 (HTab.out _ h).2)
        clear hl
        subst h0
        go_upto_region 6 with (first
          | (go_at_call 11; (with_reducible refine (HEn.out _ HB2.out).mono ?_); rintro r w3 ⟨rfl, hb3⟩; have HB3 := Lib.hid (below_t' HB2.out hb3); have HXc := Lib.hid (show Blk w3 g 41 _ from HXb.out.below hb3 HXb.out.lt); have f0 : w3.cell? ⟨g, 0, none⟩ = some (.slice br d.repos.length dr) := HXc.out.cell 0; have f1 : w3.cell? ⟨g, 1, none⟩ = some (.slice bi d.inst.length di) := HXc.out.cell 1; have fl := HXc.out.lt; clear hb3)
          | (go_at_call 15; (with_reducible refine (HCk.out _ HB3.out).mono ?_); rintro r w4 ⟨rfl, hb4⟩; have HB4 := Lib.hid (below_t' HB3.out hb4); have HXd := Lib.hid (show Blk w4 g 41 _ from HXc.out.below hb4 HXc.out.lt); have g0 : w4.cell? ⟨g, 0, none⟩ = some (.slice br d.repos.length dr) := HXd.out.cell 0; have g1 : w4.cell? ⟨g, 1, none⟩ = some (.slice bi d.inst.length di) := HXd.out.cell 1; have gl := HXd.out.lt; clear hb4)
          | (go_at_call 14; (with_reducible refine (HBk.out _ HB4.out).mono ?_); rintro r w5 ⟨rfl, hb5⟩; have HB5 := Lib.hid (below_t' HB4.out hb5); clear hb5)
          | fail)
        cases hdec : decE s with
        | error y =>
          obtain ⟨p, x⟩ := y
          have HD := Lib.hid (dec_error hdec w5 (HTab.out _ HB5.out).1 (HTab.out _ HB5.out).2)
          have hx := dec_err hdec
          have hp := (dec_place (by omega) hdec).1
          have hx1 : (x == 0) = false := by simpa using hx
          have hx2 : (x != 0) = true := by simp [bne, hx1]
          have hpi : (p : Int) ≤ (s.size : Int) := by omega
          clear hdec hx hp
          go_upto_region 7 with (first
            | (go_at_call 18; (with_reducible refine HD.out.mono ?_); rintro r w6 ⟨rfl, hb6⟩; have HB6 := Lib.hid (below_t' HB5.out hb6); clear hb6)
            | fail)
          have HBz := Lib.hid (show Below w.heap.size w (w6.alloc (.cells #[.slice none 0 0, .slice none 0 0] 41)) from below_t' HB6.out (new_b _ _))
          have HC := Lib.hid (same_call sameA_nil (w6.alloc (.cells #[.slice none 0 0, .slice none 0 0] 41)) (vr := .slice none 0 0) (vi := .slice none 0 0) (ur := .slice none 0 0) (ui := .slice none 0 0) ⟨LIn.nil _ _ _, LIn.nil _ _ _⟩ ⟨LIn.nil _ _ _, LIn.nil _ _ _⟩)
          go_wp2_with (first
            | (go_at_call 19; (with_reducible refine HC.out.mono ?_); rintro r w7 ⟨rfl, hb7⟩; have HB7 := Lib.hid (below_t' HBz.out hb7); clear hb7)
            | fail)
          go_ret
          exact ⟨rfl, HB7.out⟩
        | ok x =>
          obtain ⟨k1, k2, k3⟩ := enc_dec hdec
          have HD := Lib.hid (dec_okay hdec w5 (HTab.out _ HB5.out).1 (HTab.out _ HB5.out).2)
          have HEx := Lib.hid (show encodeE x = (s.data.toList, 0) from by rw [encode_yes k2 (by rw [k1, size_list]; omega), k1])
          have HFx := Lib.hid (check_few k2)
          have HKx := Lib.hid k2
          clear hdec k1 k2 k3
          go_upto_region 7 with (first
            | (go_at_call 18; (with_reducible refine HD.out.mono ?_); rintro r w6 ⟨⟨ar, cr, ai, ci, rfl, hd6⟩, hb6⟩; have HB6 := Lib.hid (below_t' HB5.out hb6); have HI6 := Lib.hid hd6; clear hb6 hd6)
            | fail)
          obtain ⟨g2, hg2⟩ : ∃ g, g = w6.heap.size := ⟨_, rfl⟩
          obtain ⟨w7, hw7⟩ : ∃ w7, w7 = w6.alloc (.cells #[.slice ar x.repos.length cr, .slice ai x.inst.length ci] 41) := ⟨_, rfl⟩
          have HY := Lib.hid (show Blk w7 g2 41 #[.slice ar x.repos.length cr, .slice ai x.inst.length ci] ∧ Below w6.heap.size w6 w7 from by rw [hw7, hg2]; exact ⟨Blk.new _ _ _, new_b _ _⟩)
          rw [← hw7, ← hg2]
          have HG2 := Lib.hid hg2
          clear hw7 hg2
          have HB7 := Lib.hid (show Below w.heap.size w w7 from below_t' HB6.out HY.out.2)
          have k0 : w7.cell? ⟨g2, 0, none⟩ = some (.slice ar x.repos.length cr) := HY.out.1.cell 0
          have k1 : w7.cell? ⟨g2, 1, none⟩ = some (.slice ai x.inst.length ci) := HY.out.1.cell 1
          have kl := HY.out.1.lt
          have HE7 := Lib.hid (show Calls Tryz.prog 11 #[.agg #[.slice ar x.repos.length cr, .slice ai x.inst.length ci]] w7 (fun r w'' => r = .returned (.tuple #[.string s, .int .i64 0]) ∧ Below w7.heap.size w7 w'') from enc_few HEx.out HFx.out w7 (HI6.out.bl HY.out.2) (HTab.out _ HB7.out).1 (HTab.out _ HB7.out).2)
          have HC7 := Lib.hid (show ∀ w', Below w7.heap.size w7 w' → Calls Tryz.prog 15 #[.agg #[.slice ar x.repos.length cr, .slice ai x.inst.length ci]] w' (fun r w'' => r = .returned (.int .i64 0) ∧ Below w'.heap.size w' w'') from fun w' h => check_call HKx.out HFx.out w' ((HI6.out.bl HY.out.2).bl h) (HTab.out _ (below_t' HB7.out h)).1 (HTab.out _ (below_t' HB7.out h)).2)
          go_wp2_with (first
            | (go_at_call 11; (with_reducible refine HE7.out.mono ?_); rintro r w8 ⟨rfl, hb8⟩; have HB8 := Lib.hid hb8; have HYb := Lib.hid (show Blk w8 g2 41 _ from HY.out.1.below hb8 HY.out.1.lt); have l0 : w8.cell? ⟨g2, 0, none⟩ = some (.slice ar x.repos.length cr) := HYb.out.cell 0; have l1 : w8.cell? ⟨g2, 1, none⟩ = some (.slice ai x.inst.length ci) := HYb.out.cell 1; have ll := HYb.out.lt; clear hb8)
            | (go_at_call 15; (with_reducible refine (HC7.out _ HB8.out).mono ?_); rintro r w9 ⟨rfl, hb9⟩; have HB9 := Lib.hid (below_t' (below_t' HB7.out HB8.out) hb9); clear hb9)
            | fail)
          go_ret
          exact ⟨rfl, HB9.out⟩
      · have h1 : (ce == 0) = false := by simpa using h0
        have h2 : (ce != 0) = true := by simp [bne, h1]
        have HEn := Lib.hid (show ∀ w', Below w.heap.size w w' → Calls Tryz.prog 11 #[.agg #[.slice br d.repos.length dr, .slice bi d.inst.length di]] w' (fun r w'' => r = .returned (.tuple #[.string ⟨#[]⟩, .int .i64 ce]) ∧ Below w'.heap.size w' w'') from fun w' h => enc_few (encode_bad HCE.out.symm h0) HF.out w' (HDw.out.bl h) (HTab.out _ h).1 (HTab.out _ h).2)
        go_upto_region 6 with (first
          | (go_at_call 11; (with_reducible refine (HEn.out _ HB2.out).mono ?_); rintro r w3 ⟨rfl, hb3⟩; have HB3 := Lib.hid (below_t' HB2.out hb3); have HXc := Lib.hid (show Blk w3 g 41 _ from HXb.out.below hb3 HXb.out.lt); have f0 : w3.cell? ⟨g, 0, none⟩ = some (.slice br d.repos.length dr) := HXc.out.cell 0; have f1 : w3.cell? ⟨g, 1, none⟩ = some (.slice bi d.inst.length di) := HXc.out.cell 1; have fl := HXc.out.lt; clear hb3)
          | (go_at_call 15; (with_reducible refine (HCk.out _ HB3.out).mono ?_); rintro r w4 ⟨rfl, hb4⟩; have HB4 := Lib.hid (below_t' HB3.out hb4); clear hb4)
          | fail)
        cases hdec : decE s with
        | error y =>
          obtain ⟨p, x⟩ := y
          have HD := Lib.hid (dec_error hdec w4 (HTab.out _ HB4.out).1 (HTab.out _ HB4.out).2)
          have hx := dec_err hdec
          have hp := (dec_place (by omega) hdec).1
          have hx1 : (x == 0) = false := by simpa using hx
          have hx2 : (x != 0) = true := by simp [bne, hx1]
          have hpi : (p : Int) ≤ (s.size : Int) := by omega
          clear hdec hx hp
          go_upto_region 7 with (first
            | (go_at_call 18; (with_reducible refine HD.out.mono ?_); rintro r w6 ⟨rfl, hb6⟩; have HB6 := Lib.hid (below_t' HB4.out hb6); clear hb6)
            | fail)
          have HBz := Lib.hid (show Below w.heap.size w (w6.alloc (.cells #[.slice none 0 0, .slice none 0 0] 41)) from below_t' HB6.out (new_b _ _))
          have HC := Lib.hid (same_call sameA_nil (w6.alloc (.cells #[.slice none 0 0, .slice none 0 0] 41)) (vr := .slice none 0 0) (vi := .slice none 0 0) (ur := .slice none 0 0) (ui := .slice none 0 0) ⟨LIn.nil _ _ _, LIn.nil _ _ _⟩ ⟨LIn.nil _ _ _, LIn.nil _ _ _⟩)
          go_wp2_with (first
            | (go_at_call 19; (with_reducible refine HC.out.mono ?_); rintro r w7 ⟨rfl, hb7⟩; have HB7 := Lib.hid (below_t' HBz.out hb7); clear hb7)
            | fail)
          go_ret
          exact ⟨rfl, HB7.out⟩
        | ok x =>
          obtain ⟨k1, k2, k3⟩ := enc_dec hdec
          have HD := Lib.hid (dec_okay hdec w4 (HTab.out _ HB4.out).1 (HTab.out _ HB4.out).2)
          have HEx := Lib.hid (show encodeE x = (s.data.toList, 0) from by rw [encode_yes k2 (by rw [k1, size_list]; omega), k1])
          have HFx := Lib.hid (check_few k2)
          have HKx := Lib.hid k2
          clear hdec k1 k2 k3
          go_upto_region 7 with (first
            | (go_at_call 18; (with_reducible refine HD.out.mono ?_); rintro r w6 ⟨⟨ar, cr, ai, ci, rfl, hd6⟩, hb6⟩; have HB6 := Lib.hid (below_t' HB4.out hb6); have HI6 := Lib.hid hd6; clear hb6 hd6)
            | fail)
          obtain ⟨g2, hg2⟩ : ∃ g, g = w6.heap.size := ⟨_, rfl⟩
          obtain ⟨w7, hw7⟩ : ∃ w7, w7 = w6.alloc (.cells #[.slice ar x.repos.length cr, .slice ai x.inst.length ci] 41) := ⟨_, rfl⟩
          have HY := Lib.hid (show Blk w7 g2 41 #[.slice ar x.repos.length cr, .slice ai x.inst.length ci] ∧ Below w6.heap.size w6 w7 from by rw [hw7, hg2]; exact ⟨Blk.new _ _ _, new_b _ _⟩)
          rw [← hw7, ← hg2]
          have HG2 := Lib.hid hg2
          clear hw7 hg2
          have HB7 := Lib.hid (show Below w.heap.size w w7 from below_t' HB6.out HY.out.2)
          have k0 : w7.cell? ⟨g2, 0, none⟩ = some (.slice ar x.repos.length cr) := HY.out.1.cell 0
          have k1 : w7.cell? ⟨g2, 1, none⟩ = some (.slice ai x.inst.length ci) := HY.out.1.cell 1
          have kl := HY.out.1.lt
          have HE7 := Lib.hid (show Calls Tryz.prog 11 #[.agg #[.slice ar x.repos.length cr, .slice ai x.inst.length ci]] w7 (fun r w'' => r = .returned (.tuple #[.string s, .int .i64 0]) ∧ Below w7.heap.size w7 w'') from enc_few HEx.out HFx.out w7 (HI6.out.bl HY.out.2) (HTab.out _ HB7.out).1 (HTab.out _ HB7.out).2)
          have HC7 := Lib.hid (show ∀ w', Below w7.heap.size w7 w' → Calls Tryz.prog 15 #[.agg #[.slice ar x.repos.length cr, .slice ai x.inst.length ci]] w' (fun r w'' => r = .returned (.int .i64 0) ∧ Below w'.heap.size w' w'') from fun w' h => check_call HKx.out HFx.out w' ((HI6.out.bl HY.out.2).bl h) (HTab.out _ (below_t' HB7.out h)).1 (HTab.out _ (below_t' HB7.out h)).2)
          go_wp2_with (first
            | (go_at_call 11; (with_reducible refine HE7.out.mono ?_); rintro r w8 ⟨rfl, hb8⟩; have HB8 := Lib.hid hb8; have HYb := Lib.hid (show Blk w8 g2 41 _ from HY.out.1.below hb8 HY.out.1.lt); have l0 : w8.cell? ⟨g2, 0, none⟩ = some (.slice ar x.repos.length cr) := HYb.out.cell 0; have l1 : w8.cell? ⟨g2, 1, none⟩ = some (.slice ai x.inst.length ci) := HYb.out.cell 1; have ll := HYb.out.lt; clear hb8)
            | (go_at_call 15; (with_reducible refine (HC7.out _ HB8.out).mono ?_); rintro r w9 ⟨rfl, hb9⟩; have HB9 := Lib.hid (below_t' (below_t' HB7.out HB8.out) hb9); clear hb9)
            | fail)
          go_ret
          exact ⟨rfl, HB9.out⟩
    · go_ret
      exact ⟨rfl, HB3.out⟩
  · have h20i : (20000 : Int) < (s.size : Int) := by omega
    go_wp2_with (first
      | (go_at_call 8; (with_reducible refine W1.out.mono ?_); rintro r w1 ⟨rfl, hb1⟩; have HB1 := Lib.hid (below_t' HX.out.2 hb1); have HXa := Lib.hid (show Blk w1 g 41 _ from HX.out.1.below hb1 HX.out.1.lt); have c0 : w1.cell? ⟨g, 0, none⟩ = some (.slice br d.repos.length dr) := HXa.out.cell 0; have c1 : w1.cell? ⟨g, 1, none⟩ = some (.slice bi d.inst.length di) := HXa.out.cell 1; have cl := HXa.out.lt; clear hb1)
      | (go_at_call 17; (with_reducible refine (HLg.out _ HB1.out).mono ?_); rintro r w2 ⟨⟨q, rfl⟩, hb2⟩; have HB2 := Lib.hid (below_t' HB1.out hb2); clear hb2; cases q)
      | (go_at_call 8; (with_reducible refine (HWk.out _ HB2.out).mono ?_); rintro r w3 ⟨rfl, hb3⟩; have HB3 := Lib.hid (below_t' HB2.out hb3); clear hb3)
      | fail)
    all_goals go_ret
    all_goals exact ⟨rfl, HB3.out⟩
end Go.Proofs.YtdpjjnbelgaagaaGreatDoor
