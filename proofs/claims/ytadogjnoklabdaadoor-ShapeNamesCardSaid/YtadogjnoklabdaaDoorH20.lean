/- ShapePlaces: its walk. Conditions: as each theorem names them (works' contract is a premise here). -/
import Derived.Test.YtadogjnoklabdaaDoorH19
import Derived.Deep.RegionHeld3
namespace Go.Proofs.YtadogjnoklabdaaDoor
open Go.ChangeShapes Go.WideShapes Go.ChangeAt Go.RowKit Go.Deep
set_option maxRecDepth 100000

/-- works' contract. -/
def WorksC : Prop := ∀ w, Words w → Ops w → Calls Tryd.prog 9 #[] w fun e w' => e = .returned (.bool true) ∧ Below w.heap.size w w'
structure RSt (w : World) (g : Nat) (r : RichD) (s : Value) (W : World) : Prop where
  bl : Below w.heap.size w W
  ri : RichAt W g 0 r s
theorem RSt.below {w W W' : World} {g : Nat} {r : RichD} {s : Value} (h : RSt w g r s W) (hb : Below W.heap.size W W') : RSt w g r s W' := ⟨below_t h.bl hb, h.ri.below hb⟩
theorem RSt.drew {w W : World} {g : Nat} {r : RichD} {s : Value} (h : RSt w g r s W) : RSt w g r s W.drew := h.below (Below.refl _ W).drew
theorem RSt.cells {w W : World} {g : Nat} {r : RichD} {s : Value} (h : RSt w g r s W) : W.cell? ⟨g, 0, none⟩ = some (.int .u8 r.kind) ∧ W.cell? ⟨g, 1, none⟩ = some (.string r.dep.name) ∧ W.cell? ⟨g, 2, none⟩ = some (.int .u8 r.dep.op) ∧ W.cell? ⟨g, 3, none⟩ = some (.int .i64 r.dep.ep) ∧ W.cell? ⟨g, 4, none⟩ = some (.string r.dep.ver) ∧ W.cell? ⟨g, 5, none⟩ = some (.string r.dep.rel) ∧ W.cell? ⟨g, 6, none⟩ = some s := by
  have h := h.ri
  exact ⟨h.c0, by simpa using h.c1, by simpa using h.c2, by simpa using h.c3, by simpa using h.c4, by simpa using h.c5, by simpa using h.c6⟩
theorem IsArgs.elems {w : World} {r : RichD} {a : Option Addr} {c : Nat} (h : IsArgs w r (.slice a r.n c)) : ∃ S : Nat → Value, (∀ j, j < r.n → ∃ b o, a = some ⟨b, o, none⟩ ∧ RichAt w b (o + j * 7) (r.args j) (S j)) ∧ ∀ j, j < r.n → IsArgs w (r.args j) (S j) := by
  obtain ⟨r, a, c, S, hd, hn, hA, hS⟩ := h
  exact ⟨S, hA, hS⟩

set_option maxHeartbeats 4000000 in
theorem places_any (hWk : WorksC) (r : RichD) (s : Value) (w : World) (hs : IsArgs w r s) (wh : Int) (hwh : 0 ≤ wh ∧ wh < 256) (hn : r.n ≤ 9223372036854775807) (hW : Words w) (hO : Ops w) :
    Calls Tryd.prog 3 #[r.val s, .int .u8 wh] w fun e w' => e = .returned (.bool true) ∧ Below w.heap.size w w' := by
  obtain ⟨a, c, rfl⟩ := hs.form
  obtain ⟨S, hA, hS⟩ := hs.elems
  obtain ⟨g, hg⟩ : ∃ g, g = w.heap.size := ⟨_, rfl⟩
  obtain ⟨w1, hw1⟩ : ∃ w1, w1 = w.alloc (richObj r (.slice a r.n c)) := ⟨_, rfl⟩
  have HSt := Lib.hid (show RSt w g r (.slice a r.n c) w1 from ⟨by rw [hw1]; exact below_new _ _, by rw [hw1, hg]; exact rich_new _ _ _⟩)
  have HWk := Lib.hid (fun (W : World) (h : RSt w g r (.slice a r.n c) W) => hWk W (hW.below h.bl) (hO.below h.bl))
  have HLg := Lib.hid (fun (W : World) (h : RSt w g r (.slice a r.n c) W) => large_any r _ W (hs.kept h.bl))
  clear hWk
  obtain ⟨d0, d1, d2, d3, d4, d5, d6⟩ := HSt.out.cells
  by_cases hl : 600 ≤ r.count
  · have hd : decide (600 ≤ r.count) = true := decide_eq_true hl
    rw [hd] at HLg
    clear hA hS hs hW hO hl hn hwh
    unfold RichD.val richV
    go_enter Tryd.func3, Tryd.ntmps3
    go_upto_region 1 with fail
    rw [← hw1, ← hg]
    clear hw1 hg
    go_wp2_with (first
      | (go_at_call 9; (with_reducible refine (HWk.out _ HSt.out).mono ?_); rintro e wx ⟨rfl, HBc⟩; have HSt := Lib.hid (HSt.out.below HBc); clear HBc; obtain ⟨d0, d1, d2, d3, d4, d5, d6⟩ := HSt.out.cells)
      | (go_at_call 10; (with_reducible refine (HLg.out _ HSt.out).mono ?_); rintro e wx ⟨rfl, HBc⟩; have HSt := Lib.hid (HSt.out.below HBc); clear HBc)
      | fail)
    go_ret
    exact ⟨rfl, HSt.out.bl⟩
  · have hd : decide (600 ≤ r.count) = false := decide_eq_false hl
    rw [hd] at HLg
    have hc : r.count ≤ 4611686018427387904 := by omega
    have HMy := Lib.hid (fun (W : World) (h : RSt w g r (.slice a r.n c) W) (k : Int) (hk : 0 ≤ k ∧ k < 256) => may_any w r _ hs W h.bl hc k hk (hW.below h.bl) (hO.below h.bl))
    obtain ⟨m1, hm1⟩ : ∃ m, m = mayE r 1 := ⟨_, rfl⟩
    obtain ⟨m2, hm2⟩ : ∃ m, m = mayE r 2 := ⟨_, rfl⟩
    obtain ⟨m3, hm3⟩ : ∃ m, m = mayE r 3 := ⟨_, rfl⟩
    have HM1 := Lib.hid (fun (W : World) (h : RSt w g r (.slice a r.n c) W) => HMy.out W h 1 (by omega))
    have HM2 := Lib.hid (fun (W : World) (h : RSt w g r (.slice a r.n c) W) => HMy.out W h 2 (by omega))
    have HM3 := Lib.hid (fun (W : World) (h : RSt w g r (.slice a r.n c) W) => HMy.out W h 3 (by omega))
    rw [← hm1] at HM1
    rw [← hm2] at HM2
    rw [← hm3] at HM3
    have hlaw : (m3 = 0 → m2 = 0) ∧ (m2 = 0 → m1 = 0) := by
      rw [hm1, hm2, hm3]
      exact ⟨may_mono (by omega) (by omega), may_mono (by omega) (by omega)⟩
    have HA := Lib.hid (show ∀ W, RSt w g r (.slice a r.n c) W → ∀ j, j < r.n → ∃ b o, a = some ⟨b, o, none⟩ ∧ RichAt W b (o + j * 7) (r.args j) (S j) from fun W h j hj => by
      obtain ⟨b, o, h1, h2⟩ := hA j hj
      exact ⟨b, o, h1, h2.below h.bl⟩)
    have HE := Lib.hid (show ∀ W, RSt w g r (.slice a r.n c) W → ∀ j, j < r.n → mayE r wh = 0 → Calls Tryd.prog 11 #[(r.args j).val (S j), .int .u8 wh] W fun e w' => e = .returned (.int .i64 0) ∧ Below W.heap.size W w' from fun W h j hj hm => by
      have h2 := may_any w (r.args j) (S j) (hS j hj) W h.bl (by have := arg_count hj; omega) wh hwh (hW.below h.bl) (hO.below h.bl)
      rw [may_arg hj hm] at h2
      exact h2)
    clear hA hS hs hW hO hl hm1 hm2 hm3 hc
    unfold RichD.val richV
    go_enter Tryd.func3, Tryd.ntmps3
    go_upto_region 1 with fail
    rw [← hw1, ← hg]
    clear hw1 hg
    go_upto_region 3 with (first
      | (go_at_call 9; (with_reducible refine (HWk.out _ HSt.out).mono ?_); rintro e wx ⟨rfl, HBc⟩; have HSt := Lib.hid (HSt.out.below HBc); clear HBc; obtain ⟨d0, d1, d2, d3, d4, d5, d6⟩ := HSt.out.cells)
      | (go_at_call 10; (with_reducible refine (HLg.out _ HSt.out).mono ?_); rintro e wx ⟨rfl, HBc⟩; have HSt := Lib.hid (HSt.out.below HBc); clear HBc)
      | fail)
    have HSt0 := Lib.hid HSt.out
    clear d0 d1 d2 d3 d4 d5 d6
    go_cut [5, 6, 7] from 16 (fun x y z wy => x = .int .i64 m1 ∧ y = .int .i64 m2 ∧ z = .int .i64 m3 ∧ Hid (RSt w g r (.slice a r.n c) wy))
    case first =>
      have HSt := Lib.hid HSt.out.drew
      go_region_held3 (fun w' => w'.cell? ⟨g, 0, none⟩ = some (.int .u8 r.kind) ∧ w'.cell? ⟨g, 1, none⟩ = some (.string r.dep.name) ∧ w'.cell? ⟨g, 2, none⟩ = some (.int .u8 r.dep.op) ∧ w'.cell? ⟨g, 3, none⟩ = some (.int .i64 r.dep.ep) ∧ w'.cell? ⟨g, 4, none⟩ = some (.string r.dep.ver) ∧ w'.cell? ⟨g, 5, none⟩ = some (.string r.dep.rel) ∧ w'.cell? ⟨g, 6, none⟩ = some (.slice a r.n c)) (exact HSt.out.cells)
        ((first
          | (go_at_call 11; (with_reducible refine (HM1.out _ HSt.out).mono ?_); rintro e wx ⟨rfl, HBc⟩; have HSt := Lib.hid (HSt.out.below HBc); clear HBc)
          | (go_at_call 11; (with_reducible refine (HM2.out _ HSt.out).mono ?_); rintro e wx ⟨rfl, HBc⟩; have HSt := Lib.hid (HSt.out.below HBc); clear HBc)
          | (go_at_call 11; (with_reducible refine (HM3.out _ HSt.out).mono ?_); rintro e wx ⟨rfl, HBc⟩; have HSt := Lib.hid (HSt.out.below HBc); clear HBc)))
      all_goals
        go_wp2_with fail
        go_meet
        case rel => exact ⟨rfl, rfl, rfl, HSt⟩
    case rest =>
      obtain ⟨rfl, rfl, rfl, HSr⟩ := hcut
      clear HM1 HM2 HM3 HWk HLg HSt0
      obtain ⟨d0, d1, d2, d3, d4, d5, d6⟩ := HSr.out.cells
      obtain ⟨mw, hmw⟩ : ∃ m, m = mayE r wh := ⟨_, rfl⟩
      have HMw := Lib.hid (HMy.out _ HSr.out wh hwh)
      rw [← hmw] at HMw
      have HMv := Lib.hid hmw
      clear hmw
      have hcase : (m3 = 0 ∧ m2 = 0) ∨ (¬ m3 = 0 ∧ m2 = 0 ∧ m1 = 0) ∨ (¬ m3 = 0 ∧ ¬ m2 = 0) := by
        by_cases h3 : m3 = 0
        · exact .inl ⟨h3, hlaw.1 h3⟩
        · by_cases h2 : m2 = 0
          · exact .inr (.inl ⟨h3, h2, hlaw.2 h2⟩)
          · exact .inr (.inr ⟨h3, h2⟩)
      have hc1 : m3 = 0 ∧ m2 = 0 → m1 = 0 := fun h => hlaw.2 h.2
      have HC1 := Lib.hid hc1
      clear hlaw hc1
      by_cases hz : mw = 0
      · have HR := Lib.hid (HMv.out.symm.trans hz)
        subst hz
        rcases hcase with ⟨h3, h2⟩ | ⟨h3, h2, h1⟩ | ⟨h3, h2⟩
        · have h1 := HC1.out ⟨h3, h2⟩
          subst h3
          subst h2
          subst h1
          go_wp2_with (first
            | (go_at_call 11; (with_reducible refine (HMw.out).mono ?_); rintro e wx ⟨rfl, HBc⟩; have HSx := Lib.hid (HSr.out.below HBc); clear HBc)
            | fail)
          clear d0 d1 d2 d3 d4 d5 d6
          go_loopw [8] (fun i wr => ∃ k : Nat, k ≤ r.n ∧ i = .int .i64 k ∧ Hid (RSt w g r (.slice a r.n c) wr)) (fun i wr => r.n - (intOf i).toNat)
          case atStart => exact ⟨0, by omega, rfl, HSx⟩
          case round =>
            obtain ⟨k, hk, rfl, HSk⟩ := hrel
            obtain ⟨d0, d1, d2, d3, d4, d5, d6⟩ := HSk.out.cells
            by_cases hlt : k < r.n
            · have hki : (k : Int) < (r.n : Int) := by omega
              obtain ⟨b, o, ha, ⟨e0, e1, e2, e3, e4, e5, e6, e7⟩⟩ := HA.out wr HSk.out k hlt
              subst ha
              have HEk := Lib.hid (HE.out wr HSk.out k hlt HR.out)
              go_wp2_with (first
                | (go_at_call 11; (with_reducible refine (HEk.out).mono ?_); rintro e w5 ⟨rfl, HBc⟩; have HS5 := Lib.hid (HSk.out.below HBc); clear HBc)
                | fail)
              go_roundw
              case rel => exact ⟨k + 1, by omega, by go_num, HS5⟩
              case measure => simp [intOf]; omega
            · obtain rfl : k = r.n := by omega
              go_wp2_with fail
              go_ret
              exact ⟨rfl, HSk.out.bl⟩
        · have k3 : (m3 == 0) = false := by simpa using h3
          subst h2
          subst h1
          go_wp2_with (first
            | (go_at_call 11; (with_reducible refine (HMw.out).mono ?_); rintro e wx ⟨rfl, HBc⟩; have HSx := Lib.hid (HSr.out.below HBc); clear HBc)
            | fail)
          clear d0 d1 d2 d3 d4 d5 d6
          go_loopw [8] (fun i wr => ∃ k : Nat, k ≤ r.n ∧ i = .int .i64 k ∧ Hid (RSt w g r (.slice a r.n c) wr)) (fun i wr => r.n - (intOf i).toNat)
          case atStart => exact ⟨0, by omega, rfl, HSx⟩
          case round =>
            obtain ⟨k, hk, rfl, HSk⟩ := hrel
            obtain ⟨d0, d1, d2, d3, d4, d5, d6⟩ := HSk.out.cells
            by_cases hlt : k < r.n
            · have hki : (k : Int) < (r.n : Int) := by omega
              obtain ⟨b, o, ha, ⟨e0, e1, e2, e3, e4, e5, e6, e7⟩⟩ := HA.out wr HSk.out k hlt
              subst ha
              have HEk := Lib.hid (HE.out wr HSk.out k hlt HR.out)
              go_wp2_with (first
                | (go_at_call 11; (with_reducible refine (HEk.out).mono ?_); rintro e w5 ⟨rfl, HBc⟩; have HS5 := Lib.hid (HSk.out.below HBc); clear HBc)
                | fail)
              go_roundw
              case rel => exact ⟨k + 1, by omega, by go_num, HS5⟩
              case measure => simp [intOf]; omega
            · obtain rfl : k = r.n := by omega
              go_wp2_with fail
              go_ret
              exact ⟨rfl, HSk.out.bl⟩
        · have k3 : (m3 == 0) = false := by simpa using h3
          have k2 : (m2 == 0) = false := by simpa using h2
          go_wp2_with (first
            | (go_at_call 11; (with_reducible refine (HMw.out).mono ?_); rintro e wx ⟨rfl, HBc⟩; have HSx := Lib.hid (HSr.out.below HBc); clear HBc)
            | fail)
          clear d0 d1 d2 d3 d4 d5 d6
          go_loopw [8] (fun i wr => ∃ k : Nat, k ≤ r.n ∧ i = .int .i64 k ∧ Hid (RSt w g r (.slice a r.n c) wr)) (fun i wr => r.n - (intOf i).toNat)
          case atStart => exact ⟨0, by omega, rfl, HSx⟩
          case round =>
            obtain ⟨k, hk, rfl, HSk⟩ := hrel
            obtain ⟨d0, d1, d2, d3, d4, d5, d6⟩ := HSk.out.cells
            by_cases hlt : k < r.n
            · have hki : (k : Int) < (r.n : Int) := by omega
              obtain ⟨b, o, ha, ⟨e0, e1, e2, e3, e4, e5, e6, e7⟩⟩ := HA.out wr HSk.out k hlt
              subst ha
              have HEk := Lib.hid (HE.out wr HSk.out k hlt HR.out)
              go_wp2_with (first
                | (go_at_call 11; (with_reducible refine (HEk.out).mono ?_); rintro e w5 ⟨rfl, HBc⟩; have HS5 := Lib.hid (HSk.out.below HBc); clear HBc)
                | fail)
              go_roundw
              case rel => exact ⟨k + 1, by omega, by go_num, HS5⟩
              case measure => simp [intOf]; omega
            · obtain rfl : k = r.n := by omega
              go_wp2_with fail
              go_ret
              exact ⟨rfl, HSk.out.bl⟩
      · have hmz : (mw == 0) = false := by simpa using hz
        rcases hcase with ⟨h3, h2⟩ | ⟨h3, h2, h1⟩ | ⟨h3, h2⟩
        · have h1 := HC1.out ⟨h3, h2⟩
          subst h3
          subst h2
          subst h1
          go_wp2_with (first
            | (go_at_call 11; (with_reducible refine (HMw.out).mono ?_); rintro e wx ⟨rfl, HBc⟩; have HSx := Lib.hid (HSr.out.below HBc); clear HBc)
            | fail)
          go_ret
          exact ⟨rfl, HSx.out.bl⟩
        · have k3 : (m3 == 0) = false := by simpa using h3
          subst h2
          subst h1
          go_wp2_with (first
            | (go_at_call 11; (with_reducible refine (HMw.out).mono ?_); rintro e wx ⟨rfl, HBc⟩; have HSx := Lib.hid (HSr.out.below HBc); clear HBc)
            | fail)
          go_ret
          exact ⟨rfl, HSx.out.bl⟩
        · have k3 : (m3 == 0) = false := by simpa using h3
          have k2 : (m2 == 0) = false := by simpa using h2
          go_wp2_with (first
            | (go_at_call 11; (with_reducible refine (HMw.out).mono ?_); rintro e wx ⟨rfl, HBc⟩; have HSx := Lib.hid (HSr.out.below HBc); clear HBc)
            | fail)
          go_ret
          exact ⟨rfl, HSx.out.bl⟩
end Go.Proofs.YtadogjnoklabdaaDoor
