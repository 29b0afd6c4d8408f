/- ShapeCounted: its walk. Conditions: as each theorem names them. -/
import Derived.Test.YtadogjnoklabdaaDoorH29
import Derived.Test.YtadogjnoklabdaaDoorH22
namespace Go.Proofs.YtadogjnoklabdaaDoor
open Go.ChangeShapes Go.WideShapes Go.ChangeAt Go.RowKit Go.Deep
set_option maxRecDepth 100000

/-- The law's own blocks, and the list of Deps that it gathers. -/
structure CSt (w : World) (g : Nat) (r : RichD) (s : Value) (ds : List DepD) (v : Value) (W : World) : Prop where
  bl : Below w.heap.size w W
  ri : RichB W g r s
  ow : Own W 25 5 v ds.length (enD ds)
  hi : ∀ k, v.ownBlock = some k → g < k
theorem CSt.below {w W W' : World} {g : Nat} {r : RichD} {s : Value} {ds : List DepD} {v : Value} (h : CSt w g r s ds v W) (hb : Below W.heap.size W W') : CSt w g r s ds v W' := ⟨below_t h.bl hb, h.ri.below hb, h.ow.new hb, h.hi⟩
theorem CSt.cells {w W : World} {g : Nat} {r : RichD} {s : Value} {ds : List DepD} {v : Value} (h : CSt w g r s ds v W) : W.cell? ⟨g, 0, none⟩ = some (.int .u8 r.kind) ∧ W.cell? ⟨g, 1, none⟩ = some (.string r.dep.name) ∧ W.cell? ⟨g, 2, none⟩ = some (.int .u8 r.dep.op) ∧ W.cell? ⟨g, 3, none⟩ = some (.int .i64 r.dep.ep) ∧ W.cell? ⟨g, 4, none⟩ = some (.string r.dep.ver) ∧ W.cell? ⟨g, 5, none⟩ = some (.string r.dep.rel) ∧ W.cell? ⟨g, 6, none⟩ = some s := by
  have h := h.ri.at_
  exact ⟨h.c0, by simpa using h.c1, by simpa using h.c2, by simpa using h.c3, by simpa using h.c4, by simpa using h.c5, by simpa using h.c6⟩
/-- Behind an append. -/
theorem CSt.app {w W W' : World} {g : Nat} {r : RichD} {s : Value} {ds es : List DepD} {v v' : Value} (h : CSt w g r s ds v W) (hgw : w.heap.size ≤ g) (hO : Own W' 25 5 v' (ds.length + es.length) (enD ds ++ enD es)) (hg : W.grownBy W' v.ownBlock) (hat : v'.ownBlock = v.ownBlock ∨ v'.ownBlock = some W.heap.size) :
    CSt w g r s (ds ++ es) v' W' := by
  have hkp := kp_own (B := g) (n0 := w.heap.size) h.ow hg h.bl.size (fun k hk => by have := h.hi k hk; omega)
  refine ⟨h.bl.trans hkp.bl, Blk.grown h.ri hg (fun e => by have := h.hi g e.symm; omega), ?_, ?_⟩
  · rw [enD_app, List.length_append]
    exact hO
  · intro k hk
    rcases hat with e | e
    · exact h.hi k (e ▸ hk)
    · rw [e] at hk
      injection hk with hk
      have : g < W.heap.size := h.ri.lt
      omega
theorem atoms_cat {r : RichD} {k : Nat} (hk : k ≤ r.n) : (catN (fun j => (r.args j).atoms) k).length ≤ sumN (fun j => (r.args j).count) k := by
  induction k with
  | zero => exact Nat.le_refl _
  | succ k ih =>
    have h1 := ih (by omega)
    have h2 := atoms_len (r.args k)
    simp only [catN, sumN, List.length_append]
    omega

set_option maxHeartbeats 4000000 in
theorem counted_any (r : RichD) (s : Value) (w : World) (hs : IsArgs w r s) (hn : r.n ≤ 9223372036854775807) (hW : Words w) (hO : Ops w) :
    Calls Tryd.prog 5 #[r.val s] w fun e w' => e = .returned (.bool true) ∧ Below w.heap.size w w' := by
  obtain ⟨a, c, rfl⟩ := hs.form
  obtain ⟨S, hA, hS⟩ := hs.elems
  obtain ⟨g, hg⟩ : ∃ g, g = w.heap.size := ⟨_, rfl⟩
  obtain ⟨w1, hw1⟩ : ∃ w1, w1 = w.alloc (richObj r (.slice a r.n c)) := ⟨_, rfl⟩
  have HSt := Lib.hid (show CSt w g r (.slice a r.n c) [] (.slice none 0 0) w1 from ⟨by rw [hw1]; exact below_new _ _, by rw [hw1, hg]; exact RichB.new _ _ _, Own.nil _ _ _, fun k h => by simp [Value.ownBlock] at h⟩)
  have HWk := Lib.hid (fun (W : World) (h : Below w.heap.size w W) => works_any W (hW.below h) (hO.below h))
  have HLg := Lib.hid (fun (W : World) (h : Below w.heap.size w W) => large_any r _ W (hs.kept h))
  obtain ⟨d0, d1, d2, d3, d4, d5, d6⟩ := HSt.out.cells
  by_cases hl : 600 ≤ r.count
  · have hd : decide (600 ≤ r.count) = true := decide_eq_true hl
    rw [hd] at HLg
    clear hA hS hs hW hO hl hn
    unfold RichD.val richV
    go_enter Tryd.func5, Tryd.ntmps5
    go_upto_region 1 with fail
    rw [← hw1, ← hg]
    clear hw1 hg
    go_wp2_with (first
      | (go_at_call 9; (with_reducible refine (HWk.out _ HSt.out.bl).mono ?_); rintro e wx ⟨rfl, HBc⟩; have HSt := Lib.hid (HSt.out.below HBc); clear HBc; obtain ⟨d0, d1, d2, d3, d4, d5, d6⟩ := HSt.out.cells)
      | (go_at_call 10; (with_reducible refine (HLg.out _ HSt.out.bl).mono ?_); rintro e wx ⟨rfl, HBc⟩; have HSt := Lib.hid (HSt.out.below HBc); clear HBc)
      | fail)
    go_ret
    exact ⟨rfl, HSt.out.bl⟩
  · have hd : decide (600 ≤ r.count) = false := decide_eq_false hl
    rw [hd] at HLg
    have hc : r.count < 600 := by omega
    have hA2 := Lib.hid (show ∀ W, Below w.heap.size w W → ∀ j, j < r.n → ∃ b o, a = some ⟨b, o, none⟩ ∧ RichAt W b (o + j * 7) (r.args j) (S j) from fun W h j hj => by
      obtain ⟨b, o, h1, h2⟩ := hA j hj
      exact ⟨b, o, h1, h2.below h⟩)
    have hcj := Lib.hid (show ∀ j, j < r.n → sumN (fun j => (r.args j).count) j + (r.args j).count < 600 from fun j hj => by
      have h1 := sumN_mono (f := fun j => (r.args j).count) (show j + 1 ≤ r.n by omega)
      simp only [sumN] at h1
      have := count_eq r
      omega)
    have HCj := Lib.hid (fun (W : World) (h : Below w.heap.size w W) (j : Nat) (hj : j < r.n) => count_any w (r.args j) (S j) (hS j hj) W h (by have := hcj.out j hj; omega))
    have HAj := Lib.hid (fun (W : World) (h : Below w.heap.size w W) (j : Nat) (hj : j < r.n) => atoms_any w (r.args j) (S j) (hS j hj) W h (by have := hcj.out j hj; omega))
    have HC := Lib.hid (fun (W : World) (h : Below w.heap.size w W) => count_any w r _ hs W h (by omega))
    have HA := Lib.hid (fun (W : World) (h : Below w.heap.size w W) => atoms_any w r _ hs W h (by omega))
    have HM := Lib.hid (fun (W : World) (h : Below w.heap.size w W) => may_any w r _ hs W h (by omega) 1 (by omega) (hW.below h) (hO.below h))
    have HDp := Lib.hid (fun (W : World) (h : Below w.heap.size w W) => depth_any w r _ hs W h (by omega))
    have HWs := Lib.hid (show w.heap.size ≤ g by omega)
    clear hA hS hs hW hO hl hd
    unfold RichD.val richV
    go_enter Tryd.func5, Tryd.ntmps5
    go_upto_region 1 with fail
    rw [← hw1, ← hg]
    clear hw1 hg
    go_upto_region 5 with (first
      | (go_at_call 9; (with_reducible refine (HWk.out _ HSt.out.bl).mono ?_); rintro e wx ⟨rfl, HBc⟩; have HSt := Lib.hid (HSt.out.below HBc); clear HBc; obtain ⟨d0, d1, d2, d3, d4, d5, d6⟩ := HSt.out.cells)
      | (go_at_call 10; (with_reducible refine (HLg.out _ HSt.out.bl).mono ?_); rintro e wx ⟨rfl, HBc⟩; have HSt := Lib.hid (HSt.out.below HBc); clear HBc; obtain ⟨d0, d1, d2, d3, d4, d5, d6⟩ := HSt.out.cells)
      | fail)
    clear HWk HLg
    obtain ⟨pre, hpre⟩ : ∃ pre : List DepD, pre = if r.kind = 1 then [r.dep] else [] := ⟨_, rfl⟩
    have HPre := Lib.hid (show r.atoms = pre ++ catN (fun j => (r.args j).atoms) r.n by rw [hpre]; exact atoms_eq r)
    have hpl : pre.length ≤ 1 := by
      rw [hpre]
      split
      · exact Nat.le_refl _
      · exact Nat.zero_le _
    obtain ⟨iD, hiD, hz0, hz1, hz2⟩ := iDep
    go_upto_if 15 with fail
    go_cut [4] from 13 (fun x wy => ∃ ao cp, x = .slice ao pre.length cp ∧ Hid (CSt w g r (.slice a r.n c) pre x wy))
    case first =>
      by_cases hk1 : r.kind = 1
      · rw [if_pos hk1] at hpre
        subst hpre
        have HK1 := Lib.hid hk1
        have hkd : (r.kind == 1) = true := by simpa using hk1
        have HO1 := Lib.hid (show CSt w g r (.slice a r.n c) [] (.slice none 0 0) (wx.alloc (.cells #[.string r.dep.name, .int .u8 r.dep.op, .int .i64 r.dep.ep, .string r.dep.ver, .string r.dep.rel] 25)) from HSt.out.below (below_new _ _))
        clear hk1
        go_wp2_with (first
          | (at_builtin; (refine wpList_append_S _ rfl (.tmp 16) (.tmp 19) _ _ rfl 25 iD _ 5 64 Tryd.underlying38 hiD hz0 hz1 hz2 rfl (by omega) (.slice none 0 0) 0 [] rfl HO1.out.ow (by simp) (.slice (some ⟨wx.heap.size, 0, none⟩) 1 1) 1 r.dep.cs rfl (src_dep wx r.dep) (by simp only [maxLen]; omega) (by omega) ?_); rintro ao' cap' w7 hn1 hn2 hO7 hg7 hat7 hlt7; have HS7 := Lib.hid (show CSt w g r (.slice a r.n c) ([] ++ [r.dep]) (.slice ao' (0 + 1) cap') w7 from HO1.out.app (es := [r.dep]) HWs.out hO7 hg7 hat7); clear hn1 hn2 hO7 hg7 hat7 hlt7)
          | fail)
        go_meet
        case rel => exact ⟨ao', cap', rfl, HS7⟩
      · rw [if_neg hk1] at hpre
        subst hpre
        have hkd : (r.kind == 1) = false := by simpa using hk1
        go_wp2_with fail
        go_meet
        case rel => exact ⟨none, 0, rfl, HSt⟩
    case rest =>
      obtain ⟨ao0, cp0, rfl, HS0⟩ := hcut
      clear HSt d0 d1 d2 d3 d4 d5 d6 hpre
      go_upto_region 7 with fail
      go_wp2_with fail
      go_loopw [3, 4, 5] (fun x y i wr => ∃ (k q : Nat) (ao : Option Addr) (m cp : Nat) (ds : List DepD), k ≤ r.n ∧ q ≤ 600 ∧ m = ds.length ∧ m ≤ q ∧ Hid (q = 1 + sumN (fun j => (r.args j).count) k) ∧ Hid (ds = pre ++ catN (fun j => (r.args j).atoms) k) ∧ x = .int .i64 q ∧ y = .slice ao m cp ∧ i = .int .i64 k ∧ Hid (CSt w g r (.slice a r.n c) ds (.slice ao ds.length cp) wr)) (fun x y i wr => r.n - (intOf i).toNat)
      case atStart => exact ⟨0, 1, ao0, pre.length, cp0, pre, by omega, by omega, rfl, hpl, Lib.hid rfl, Lib.hid (List.append_nil _).symm, rfl, rfl, rfl, HS0⟩
      case round =>
        obtain ⟨k, q, ao, m, cp, ds, hk, hq, hm, hmq, HQ, HD, rfl, rfl, rfl, HSk⟩ := hrel
        subst hm
        obtain ⟨d0, d1, d2, d3, d4, d5, d6⟩ := HSk.out.cells
        by_cases hlt : k < r.n
        · have hki : (k : Int) < (r.n : Int) := by omega
          obtain ⟨b, o, ha, ⟨e0, e1, e2, e3, e4, e5, e6, e7⟩⟩ := hA2.out _ HSk.out.bl k hlt
          subst ha
          have HCk := Lib.hid (fun (W : World) (h : Below w.heap.size w W) => HCj.out W h k hlt)
          have HAk := Lib.hid (fun (W : World) (h : Below w.heap.size w W) => HAj.out W h k hlt)
          have HRk := Lib.hid (fun (W : World) (h : CSt w g r (.slice (some ⟨b, o, none⟩) r.n c) ds (.slice ao ds.length cp) W) => hA2.out W h.bl k hlt)
          obtain ⟨nk, hnk⟩ : ∃ n, n = (r.args k).count := ⟨_, rfl⟩
          obtain ⟨es, hes⟩ : ∃ es, es = (r.args k).atoms := ⟨_, rfl⟩
          have hel : es.length ≤ nk := by rw [hes, hnk]; exact atoms_len _
          have hqn : q + nk ≤ 600 := by
            have h1 := hcj.out k hlt
            have h2 := HQ.out
            rw [hnk]
            omega
          rw [← hnk] at HCk
          rw [← hes] at HAk
          have HNk := Lib.hid hnk
          have HEs := Lib.hid hes
          clear hnk hes
          go_wp2_with (first
            | (go_at_call 12; (with_reducible refine (HCk.out _ HSk.out.bl).mono ?_); rintro e wx ⟨rfl, HBc⟩; have HSx := Lib.hid (HSk.out.below HBc); clear HBc; obtain ⟨d0, d1, d2, d3, d4, d5, d6⟩ := HSx.out.cells; obtain ⟨b', o', hab, ⟨e0, e1, e2, e3, e4, e5, e6, e7⟩⟩ := HRk.out _ HSx.out; injection hab with hab; injection hab with hab1 hab2; subst hab1; subst hab2)
            | (go_at_call 15; (with_reducible refine (HAk.out _ HSx.out.bl).mono ?_); rintro e wy ⟨ae, ce, rfl, hOe, hHe, HBc⟩; have HSy := Lib.hid (HSx.out.below HBc); have HSrc := Lib.hid (hOe.src (P := Tryd.prog) (tx := 38) Tryd.underlying38 (enD_one es)); clear HBc hOe hHe)
            | (at_builtin; (refine wpList_append_S _ rfl (.tmp 36) (.tmp 42) _ _ rfl 25 iD _ 5 64 Tryd.underlying38 hiD hz0 hz1 hz2 rfl (by omega) (.slice ao ds.length cp) ds.length (enD ds) rfl HSy.out.ow (enD_one ds) (.slice ae es.length ce) es.length (enD es) rfl HSrc.out (by simp only [maxLen]; omega) (by omega) ?_); rintro ao' cap' w7 hn1 hn2 hO7 hg7 hat7 hlt7; have HS7 := Lib.hid (show CSt w g r (.slice (some ⟨b, o, none⟩) r.n c) (ds ++ es) (.slice ao' (ds.length + es.length) cap') w7 from HSy.out.app (es := es) HWs.out hO7 hg7 hat7); clear hn1 hn2 hO7 hg7 hat7 hlt7)
            | fail)
          go_roundw
          case rel => exact ⟨k + 1, q + nk, ao', ds.length + es.length, cap', ds ++ es, by omega, by omega, by rw [List.length_append], by omega, Lib.hid (by have := HQ.out; have := HNk.out; simp only [sumN]; omega), Lib.hid (by rw [HD.out, HEs.out, List.append_assoc]; rfl), by go_num, rfl, by go_num, by rw [List.length_append]; exact HS7⟩
          case measure => simp [intOf]; omega
        · obtain rfl : k = r.n := by omega
          have hds : ds = r.atoms := by rw [HD.out, HPre.out]
          have hqc : q = r.count := by rw [HQ.out, count_eq]
          subst hds
          subst hqc
          have HSk := Lib.hid HSk.out
          have HDs := Lib.hid (fun (W : World) (ae : Option Addr) (ce : Nat) (h1 : RdD W ae r.atoms) (h2 : CSt w g r (.slice a r.n c) r.atoms (.slice ao r.atoms.length cp) W) => deps_same W r.atoms ae ao ce cp h1 h2.ow.deps (by omega))
          have HLaw := Lib.hid (show mayE r 1 = 0 → r.depth < r.count ∧ 0 < r.atoms.length from may_deep)
          obtain ⟨mm, hmm⟩ : ∃ m, m = mayE r 1 := ⟨_, rfl⟩
          rw [← hmm] at HM HLaw
          obtain ⟨tt, htt⟩ : ∃ n, n = r.depth := ⟨_, rfl⟩
          rw [← htt] at HDp HLaw
          obtain ⟨nn, hnn⟩ : ∃ n, n = r.count := ⟨_, rfl⟩
          rw [← hnn] at HC HLaw
          simp only [← hnn] at hmq hq ⊢
          have hlq : decide ((r.atoms.length : Int) ≤ (nn : Int)) = true := by rw [decide_eq_true]; omega
          have hlq2 : decide (r.atoms.length ≤ nn) = true := by rw [decide_eq_true]; omega
          have hlq3 : (r.atoms.length : Int) ≤ (nn : Int) := by omega
          clear hmm htt hnn HQ HD HPre hcj HCj HAj hA2
          by_cases hm0 : mm = 0
          · obtain ⟨h1, h2⟩ := HLaw.out hm0
            subst hm0
            have k1 : decide ((tt : Int) < (nn : Int)) = true := by rw [decide_eq_true]; omega
            have k2 : decide (tt < nn) = true := by rw [decide_eq_true]; omega
            have k3 : decide ((0 : Int) < (r.atoms.length : Int)) = true := by rw [decide_eq_true]; omega
            have k4 : decide (0 < r.atoms.length) = true := by rw [decide_eq_true]; omega
            clear HLaw
            go_wp2_with (first
              | (go_at_call 12; (with_reducible refine (HC.out _ HSk.out.bl).mono ?_); rintro e wx ⟨rfl, HBc⟩; have HSk := Lib.hid (HSk.out.below HBc); clear HBc; obtain ⟨d0, d1, d2, d3, d4, d5, d6⟩ := HSk.out.cells)
              | (go_at_call 15; (with_reducible refine (HA.out _ HSk.out.bl).mono ?_); rintro e wx ⟨ae, ce, rfl, hOe, hHe, HBc⟩; have HRe := Lib.hid hOe.deps; have HSk := Lib.hid (HSk.out.below HBc); clear HBc hOe hHe; obtain ⟨d0, d1, d2, d3, d4, d5, d6⟩ := HSk.out.cells)
              | (go_at_call 16; (with_reducible refine (HDs.out _ _ _ HRe.out HSk.out).mono ?_); rintro e wx ⟨rfl, mq, rfl⟩; have HSk := Lib.hid (HSk.out.below (bel_drewN (Below.refl _ _) mq)); obtain ⟨d0, d1, d2, d3, d4, d5, d6⟩ := HSk.out.cells)
              | (go_at_call 11; (with_reducible refine (HM.out _ HSk.out.bl).mono ?_); rintro e wx ⟨rfl, HBc⟩; have HSk := Lib.hid (HSk.out.below HBc); clear HBc; obtain ⟨d0, d1, d2, d3, d4, d5, d6⟩ := HSk.out.cells)
              | (go_at_call 13; (with_reducible refine (HDp.out _ HSk.out.bl).mono ?_); rintro e wx ⟨rfl, HBc⟩; have HSk := Lib.hid (HSk.out.below HBc); clear HBc; obtain ⟨d0, d1, d2, d3, d4, d5, d6⟩ := HSk.out.cells)
              | fail)
            go_ret
            exact ⟨rfl, HSk.out.bl⟩
          · have hm1 : (mm == 0) = false := by simpa using hm0
            clear HLaw
            go_wp2_with (first
              | (go_at_call 12; (with_reducible refine (HC.out _ HSk.out.bl).mono ?_); rintro e wx ⟨rfl, HBc⟩; have HSk := Lib.hid (HSk.out.below HBc); clear HBc; obtain ⟨d0, d1, d2, d3, d4, d5, d6⟩ := HSk.out.cells)
              | (go_at_call 15; (with_reducible refine (HA.out _ HSk.out.bl).mono ?_); rintro e wx ⟨ae, ce, rfl, hOe, hHe, HBc⟩; have HRe := Lib.hid hOe.deps; have HSk := Lib.hid (HSk.out.below HBc); clear HBc hOe hHe; obtain ⟨d0, d1, d2, d3, d4, d5, d6⟩ := HSk.out.cells)
              | (go_at_call 16; (with_reducible refine (HDs.out _ _ _ HRe.out HSk.out).mono ?_); rintro e wx ⟨rfl, mq, rfl⟩; have HSk := Lib.hid (HSk.out.below (bel_drewN (Below.refl _ _) mq)); obtain ⟨d0, d1, d2, d3, d4, d5, d6⟩ := HSk.out.cells)
              | (go_at_call 11; (with_reducible refine (HM.out _ HSk.out.bl).mono ?_); rintro e wx ⟨rfl, HBc⟩; have HSk := Lib.hid (HSk.out.below HBc); clear HBc; obtain ⟨d0, d1, d2, d3, d4, d5, d6⟩ := HSk.out.cells)
              | (go_at_call 13; (with_reducible refine (HDp.out _ HSk.out.bl).mono ?_); rintro e wx ⟨rfl, HBc⟩; have HSk := Lib.hid (HSk.out.below HBc); clear HBc; obtain ⟨d0, d1, d2, d3, d4, d5, d6⟩ := HSk.out.cells)
              | fail)
            go_ret
            exact ⟨rfl, HSk.out.bl⟩
end Go.Proofs.YtadogjnoklabdaaDoor
