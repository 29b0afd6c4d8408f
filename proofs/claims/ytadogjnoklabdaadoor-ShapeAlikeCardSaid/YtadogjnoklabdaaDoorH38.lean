/- The document's May and Atoms. Conditions: as each theorem names them. -/
import Derived.Test.YtadogjnoklabdaaDoorH37
import Derived.Test.YtadogjnoklabdaaDoorH30
namespace Go.Proofs.YtadogjnoklabdaaDoor
open Go.ChangeShapes Go.WideShapes Go.ChangeAt Go.RowKit Go.Deep
set_option maxRecDepth 100000

set_option maxHeartbeats 4000000 in
theorem rmay_any (W : World) (r : RichD) (s : Value) (hs : IsArgs W r s) (w : World) (hB : Below W.heap.size W w) (hc : r.count ≤ 4611686018427387904) (wh : Int) (hwh : 0 ≤ wh ∧ wh < 256) :
    Calls Tryd.prog 24 #[r.val s, .int .u8 wh] w fun e w' => e = .returned (.int .i64 (mayE r wh)) ∧ Below w.heap.size w w' := by
  obtain ⟨T, hT⟩ : ∃ T, T = mayE r wh := ⟨_, rfl⟩
  rw [← hT]
  rw [← may_same] at hT
  unfold rmayE at hT
  obtain ⟨w1, hw1⟩ : ∃ w1, w1 = w.alloc (richObj r s) := ⟨_, rfl⟩
  obtain ⟨g, hg⟩ : ∃ g, g = w.heap.size := ⟨_, rfl⟩
  have HR1 := Lib.hid (show RichB w1 g r s ∧ Below w.heap.size w w1 from ⟨by rw [hw1, hg]; exact RichB.new _ _ _, by rw [hw1]; exact new_b _ _⟩)
  have HCn := Lib.hid (fun (w' : World) (h : Below w.heap.size w w') => rcount_any W r s hs w' (hB.trans (h.mono hB.size)) hc)
  have HDp := Lib.hid (fun (w' : World) (h : Below w.heap.size w w') => rdepth_any W r s hs w' (hB.trans (h.mono hB.size)) hc)
  have HFt := Lib.hid (fun (w' : World) (h : Below w.heap.size w w') => rfits_any W wh hwh r s false w' hs (hB.trans (h.mono hB.size)))
  obtain ⟨nn, hnn⟩ : ∃ n, n = r.count := ⟨_, rfl⟩
  obtain ⟨tt, htt⟩ : ∃ n, n = r.depth := ⟨_, rfl⟩
  obtain ⟨ff, hff⟩ : ∃ f, f = fitsE wh r false := ⟨_, rfl⟩
  rw [← hnn] at HCn hT
  rw [← htt] at HDp hT
  rw [← hff] at HFt hT
  have HRb := Lib.hid (fun (w' : World) (h : Below w1.heap.size w1 w') => (show RichB w' g r s ∧ Below w.heap.size w w' from ⟨HR1.out.1.below h, below_t' HR1.out.2 h⟩))
  have HB1 := Lib.hid (Below.refl w1.heap.size w1)
  have d0 : w1.cell? ⟨g, 0, none⟩ = some (.int .u8 r.kind) := HR1.out.1.cell 0
  have d1 : w1.cell? ⟨g, 1, none⟩ = some (.string r.dep.name) := HR1.out.1.cell 1
  have d2 : w1.cell? ⟨g, 2, none⟩ = some (.int .u8 r.dep.op) := HR1.out.1.cell 2
  have d3 : w1.cell? ⟨g, 3, none⟩ = some (.int .i64 r.dep.ep) := HR1.out.1.cell 3
  have d4 : w1.cell? ⟨g, 4, none⟩ = some (.string r.dep.ver) := HR1.out.1.cell 4
  have d5 : w1.cell? ⟨g, 5, none⟩ = some (.string r.dep.rel) := HR1.out.1.cell 5
  have d6 : w1.cell? ⟨g, 6, none⟩ = some s := HR1.out.1.cell 6
  clear hs hB hnn htt hff
  by_cases h1 : wh < 1
  · rw [if_pos (.inl h1)] at hT
    subst hT
    have k1 : decide (wh < 1) = true := by simpa using h1
    clear HCn HDp HFt
    unfold RichD.val richV
    go_enter Tryd.func24, Tryd.ntmps24
    go_upto_region 1 with fail
    rw [← hw1]
    clear hw1 hg
    go_wp2_with fail
    go_ret
    exact ⟨rfl, HR1.out.2⟩
  have k1 : decide (wh < 1) = false := by simpa using h1
  by_cases h3 : 3 < wh
  · rw [if_pos (.inr h3)] at hT
    subst hT
    have k3 : decide (3 < wh) = true := by simpa using h3
    clear HCn HDp HFt
    unfold RichD.val richV
    go_enter Tryd.func24, Tryd.ntmps24
    go_upto_region 1 with fail
    rw [← hw1]
    clear hw1 hg
    go_wp2_with fail
    go_ret
    exact ⟨rfl, HR1.out.2⟩
  have k3 : decide (3 < wh) = false := by simpa using h3
  rw [if_neg (by omega)] at hT
  have hcase : (24 < nn ∧ T = 40) ∨ (¬ 24 < nn ∧ 8 < tt ∧ T = 21) ∨ (¬ 24 < nn ∧ ¬ 8 < tt ∧ ff = true ∧ T = 0) ∨ (¬ 24 < nn ∧ ¬ 8 < tt ∧ ff = false ∧ T = 4) := by
    by_cases h4 : 24 < nn
    · rw [if_pos h4] at hT; exact .inl ⟨h4, hT⟩
    · rw [if_neg h4] at hT
      by_cases h5 : 8 < tt
      · rw [if_pos h5] at hT; exact .inr (.inl ⟨h4, h5, hT⟩)
      · rw [if_neg h5] at hT
        cases ff with
        | true => exact .inr (.inr (.inl ⟨h4, h5, rfl, hT⟩))
        | false => exact .inr (.inr (.inr ⟨h4, h5, rfl, hT⟩))
  clear hT
  rcases hcase with ⟨h4, rfl⟩ | ⟨h4, h5, rfl⟩ | ⟨h4, h5, rfl, rfl⟩ | ⟨h4, h5, rfl, rfl⟩
  · have q1 : decide ((24 : Int) < (nn : Int)) = true := by rw [decide_eq_true]; omega
    have q2 : (24 : Int) < (nn : Int) := by omega
    clear h4
    unfold RichD.val richV
    go_enter Tryd.func24, Tryd.ntmps24
    go_upto_region 1 with fail
    rw [← hw1, ← hg]
    clear hw1 hg
    go_wp2_with (first
      | (go_at_call 25; (with_reducible refine (HCn.out _ (HRb.out _ HB1.out).2).mono ?_); rintro e wx ⟨rfl, HBc⟩; have HB1 := Lib.hid (below_t' HB1.out HBc); clear HBc)
      | fail)
    go_ret
    exact ⟨rfl, (HRb.out _ HB1.out).2⟩
  · have q1 : decide ((24 : Int) < (nn : Int)) = false := by rw [decide_eq_false]; omega
    have q2 : (nn : Int) ≤ (24 : Int) := by omega
    have q3 : decide ((8 : Int) < (tt : Int)) = true := by rw [decide_eq_true]; omega
    have q4 : (8 : Int) < (tt : Int) := by omega
    clear h4 h5
    unfold RichD.val richV
    go_enter Tryd.func24, Tryd.ntmps24
    go_upto_region 1 with fail
    rw [← hw1, ← hg]
    clear hw1 hg
    go_wp2_with (first
      | (go_at_call 25; (with_reducible refine (HCn.out _ (HRb.out _ HB1.out).2).mono ?_); rintro e wx ⟨rfl, HBc⟩; have HB1 := Lib.hid (below_t' HB1.out HBc); clear HBc; obtain ⟨d0, d1, d2, d3, d4, d5, d6, d7⟩ := (HRb.out _ HB1.out).1.at_; simp only [Nat.zero_add] at d1 d2 d3 d4 d5 d6)
      | (go_at_call 26; (with_reducible refine (HDp.out _ (HRb.out _ HB1.out).2).mono ?_); rintro e wx ⟨rfl, HBc⟩; have HB1 := Lib.hid (below_t' HB1.out HBc); clear HBc)
      | fail)
    go_ret
    exact ⟨rfl, (HRb.out _ HB1.out).2⟩
  all_goals
    have q1 : decide ((24 : Int) < (nn : Int)) = false := by rw [decide_eq_false]; omega
    have q2 : (nn : Int) ≤ (24 : Int) := by omega
    have q3 : decide ((8 : Int) < (tt : Int)) = false := by rw [decide_eq_false]; omega
    have q4 : (tt : Int) ≤ (8 : Int) := by omega
    clear h4 h5
    unfold RichD.val richV
    go_enter Tryd.func24, Tryd.ntmps24
    go_upto_region 1 with fail
    rw [← hw1, ← hg]
    clear hw1 hg
    go_wp2_with (first
      | (go_at_call 25; (with_reducible refine (HCn.out _ (HRb.out _ HB1.out).2).mono ?_); rintro e wx ⟨rfl, HBc⟩; have HB1 := Lib.hid (below_t' HB1.out HBc); clear HBc; obtain ⟨d0, d1, d2, d3, d4, d5, d6, d7⟩ := (HRb.out _ HB1.out).1.at_; simp only [Nat.zero_add] at d1 d2 d3 d4 d5 d6)
      | (go_at_call 26; (with_reducible refine (HDp.out _ (HRb.out _ HB1.out).2).mono ?_); rintro e wx ⟨rfl, HBc⟩; have HB1 := Lib.hid (below_t' HB1.out HBc); clear HBc; obtain ⟨d0, d1, d2, d3, d4, d5, d6, d7⟩ := (HRb.out _ HB1.out).1.at_; simp only [Nat.zero_add] at d1 d2 d3 d4 d5 d6)
      | (go_at_call 33; (with_reducible refine (HFt.out _ (HRb.out _ HB1.out).2).mono ?_); rintro e wx ⟨rfl, HBc⟩; have HB1 := Lib.hid (below_t' HB1.out HBc); clear HBc)
      | fail)
    go_ret
    exact ⟨rfl, (HRb.out _ HB1.out).2⟩

set_option maxHeartbeats 4000000 in
theorem ratoms_any (W : World) (r : RichD) : ∀ (s : Value) (w : World), IsArgs W r s → Below W.heap.size W w → r.count ≤ 600 → Calls Tryd.prog 27 #[r.val s] w fun e w' =>
    ∃ ao c, e = .returned (.slice ao r.atoms.length c) ∧ Own w' 25 5 (.slice ao r.atoms.length c) r.atoms.length (enD r.atoms) ∧ (∀ k, (Value.slice ao r.atoms.length c).ownBlock = some k → w.heap.size ≤ k) ∧ Below w.heap.size w w' := by
  have step : ∀ (r : RichD) (s : Value) (w : World), IsArgs W r s → Below W.heap.size W w → r.count ≤ 600 →
      (∀ j, j < r.n → ∀ (s : Value) (w : World), IsArgs W (r.args j) s → Below W.heap.size W w → (r.args j).count ≤ 600 → Calls Tryd.prog 27 #[(r.args j).val s] w fun e w' =>
        ∃ ao c, e = .returned (.slice ao (r.args j).atoms.length c) ∧ Own w' 25 5 (.slice ao (r.args j).atoms.length c) (r.args j).atoms.length (enD (r.args j).atoms) ∧ (∀ k, (Value.slice ao (r.args j).atoms.length c).ownBlock = some k → w.heap.size ≤ k) ∧ Below w.heap.size w w') →
      Calls Tryd.prog 27 #[r.val s] w fun e w' =>
        ∃ ao c, e = .returned (.slice ao r.atoms.length c) ∧ Own w' 25 5 (.slice ao r.atoms.length c) r.atoms.length (enD r.atoms) ∧ (∀ k, (Value.slice ao r.atoms.length c).ownBlock = some k → w.heap.size ≤ k) ∧ Below w.heap.size w w' := by
    intro r s w hs hB hc ih
    obtain ⟨a, c, rfl⟩ := hs.form
    obtain ⟨S, hA, hS⟩ := hs.elems2
    have hn9 := hs.bound
    obtain ⟨g, hg⟩ : ∃ g, g = w.heap.size := ⟨_, rfl⟩
    obtain ⟨w1, hw1⟩ : ∃ w1, w1 = w.alloc (richObj r (.slice a r.n c)) := ⟨_, rfl⟩
    have HSt := Lib.hid (show CSt w g r (.slice a r.n c) [] (.slice none 0 0) w1 from ⟨by rw [hw1]; exact below_new _ _, by rw [hw1, hg]; exact RichB.new _ _ _, Own.nil _ _ _, fun k h => by simp [Value.ownBlock] at h⟩)
    obtain ⟨d0, d1, d2, d3, d4, d5, d6⟩ := HSt.out.cells
    have HBW := Lib.hid hB
    have hA2 := Lib.hid (show ∀ W', Below W.heap.size W W' → ∀ j, j < r.n → ∃ b o, a = some ⟨b, o, none⟩ ∧ RichAt W' b (o + j * 7) (r.args j) (S j) from fun W h j hj => by
      obtain ⟨b, o, h1, h2⟩ := hA j hj
      exact ⟨b, o, h1, h2.below h⟩)
    have HSf := Lib.hid (show ∀ j, j < r.n → ∃ a' c', S j = .slice a' (r.args j).n c' from fun j hj => (hS j hj).form)
    have hcj := Lib.hid (show ∀ j, j < r.n → sumN (fun j => (r.args j).count) j + (r.args j).count < 600 from fun j hj => by
      have h1 := sumN_mono (f := fun j => (r.args j).count) (show j + 1 ≤ r.n by omega)
      simp only [sumN] at h1
      have := count_eq r
      omega)
    have HAj := Lib.hid (fun (W' : World) (h : Below W.heap.size W W') (j : Nat) (hj : j < r.n) => ih j hj (S j) W' (hS j hj) h (by have := hcj.out j hj; omega))
    have HWs := Lib.hid (show w.heap.size ≤ g by omega)
    have HG := Lib.hid hg
    obtain ⟨pre, hpre⟩ : ∃ pre : List DepD, pre = if r.kind = 1 then [r.dep] else [] := ⟨_, rfl⟩
    have HPre := Lib.hid (show r.atoms = pre ++ catN (fun j => (r.args j).atoms) r.n by rw [hpre]; exact atoms_eq r)
    have hpl : pre.length ≤ 1 := by
      rw [hpre]
      split
      · exact Nat.le_refl _
      · exact Nat.zero_le _
    obtain ⟨iD, hiD, hz0, hz1, hz2⟩ := iDep
    clear hA hS hs hB ih
    unfold RichD.val richV
    go_enter Tryd.func27, Tryd.ntmps27
    go_upto_region 1 with fail
    rw [← hw1, ← hg]
    clear hw1 hg
    go_upto_if 7 with fail
    go_cut [3] from 5 (fun x wy => ∃ ao cp, x = .slice ao pre.length cp ∧ Hid (CSt w g r (.slice a r.n c) pre x wy))
    case first =>
      by_cases hk1 : r.kind = 1
      · rw [if_pos hk1] at hpre
        subst hpre
        have hkd : (r.kind == 1) = true := by simpa using hk1
        have HO1 := Lib.hid (show CSt w g r (.slice a r.n c) [] (.slice none 0 0) (w1.alloc (.cells #[.string r.dep.name, .int .u8 r.dep.op, .int .i64 r.dep.ep, .string r.dep.ver, .string r.dep.rel] 25)) from HSt.out.below (below_new _ _))
        clear hk1
        go_wp2_with (first
          | (at_builtin; (refine wpList_append_S _ rfl (.tmp 8) (.tmp 11) _ _ rfl 25 iD _ 5 64 Tryd.underlying38 hiD hz0 hz1 hz2 rfl (by omega) (.slice none 0 0) 0 [] rfl HO1.out.ow (by simp) (.slice (some ⟨w1.heap.size, 0, none⟩) 1 1) 1 r.dep.cs rfl (src_dep w1 r.dep) (by simp only [maxLen]; omega) (by omega) ?_); rintro ao' cap' w7 hn1 hn2 hO7 hg7 hat7 hlt7; have HS7 := Lib.hid (show CSt w g r (.slice a r.n c) ([] ++ [r.dep]) (.slice ao' (0 + 1) cap') w7 from HO1.out.app (es := [r.dep]) HWs.out hO7 hg7 hat7); clear hn1 hn2 hO7 hg7 hat7 hlt7)
          | fail)
        go_meet
        case rel => exact ⟨ao', cap', rfl, HS7⟩
      · rw [if_neg hk1] at hpre
        subst hpre
        have hkd : (r.kind == 1) = false := by simpa using hk1
        go_wp2_with fail
        go_meet
        case rel => exact ⟨none, 0, rfl, HSt⟩
    case rest =>
      obtain ⟨ao0, cp0, rfl, HS0⟩ := hcut
      clear HSt d0 d1 d2 d3 d4 d5 d6 hpre
      go_upto_region 4 with fail
      go_wp2_with fail
      go_loopw [3, 4] (fun y i wr => ∃ (k : Nat) (ao : Option Addr) (m cp : Nat) (ds : List DepD), k ≤ r.n ∧ m = ds.length ∧ Hid (ds.length ≤ 1 + sumN (fun j => (r.args j).count) k) ∧ Hid (ds = pre ++ catN (fun j => (r.args j).atoms) k) ∧ y = .slice ao m cp ∧ i = .int .i64 k ∧ Hid (CSt w g r (.slice a r.n c) ds (.slice ao ds.length cp) wr)) (fun y i wr => r.n - (intOf i).toNat)
      case atStart => exact ⟨0, ao0, pre.length, cp0, pre, by omega, rfl, Lib.hid (by omega), Lib.hid (List.append_nil _).symm, rfl, rfl, HS0⟩
      case round =>
        obtain ⟨k, ao, m, cp, ds, hk, hm, HQ, HD, rfl, rfl, HSk⟩ := hrel
        subst hm
        obtain ⟨d0, d1, d2, d3, d4, d5, d6⟩ := HSk.out.cells
        by_cases hlt : k < r.n
        · have hki : (k : Int) < (r.n : Int) := by omega
          have HB2 := Lib.hid (HBW.out.trans (HSk.out.bl.mono HBW.out.size))
          obtain ⟨b, o, ha, ⟨e0, e1, e2, e3, e4, e5, e6, e7⟩⟩ := hA2.out _ HB2.out k hlt
          subst ha
          obtain ⟨xa, xc, hx⟩ := HSf.out k hlt
          have HAk := Lib.hid (HAj.out _ HB2.out k hlt)
          rw [hx] at e6 HAk
          obtain ⟨es, hes⟩ : ∃ es, es = (r.args k).atoms := ⟨_, rfl⟩
          have hel : es.length ≤ (r.args k).count := by rw [hes]; exact atoms_len _
          have hqn : ds.length + es.length ≤ 600 := by
            have h1 := hcj.out k hlt
            have h2 := HQ.out
            omega
          rw [← hes] at HAk
          have HEs := Lib.hid hes
          clear hes
          go_wp2_with (first
            | (go_at_call 27; (with_reducible refine (HAk.out).mono ?_); rintro e wy ⟨ae, ce, rfl, hOe, hHe, HBc⟩; have HSy := Lib.hid (HSk.out.below HBc); have HSrc := Lib.hid (hOe.src (P := Tryd.prog) (tx := 38) Tryd.underlying38 (enD_one es)); clear HBc hOe hHe)
            | (at_builtin; (refine wpList_append_S _ rfl (.tmp 20) (.tmp 26) _ _ rfl 25 iD _ 5 64 Tryd.underlying38 hiD hz0 hz1 hz2 rfl (by omega) (.slice ao ds.length cp) ds.length (enD ds) rfl HSy.out.ow (enD_one ds) (.slice ae es.length ce) es.length (enD es) rfl HSrc.out (by simp only [maxLen]; omega) (by omega) ?_); rintro ao' cap' w7 hn1 hn2 hO7 hg7 hat7 hlt7; have HS7 := Lib.hid (show CSt w g r (.slice (some ⟨b, o, none⟩) r.n c) (ds ++ es) (.slice ao' (ds.length + es.length) cap') w7 from HSy.out.app (es := es) HWs.out hO7 hg7 hat7); clear hn1 hn2 hO7 hg7 hat7 hlt7)
            | fail)
          go_roundw
          case rel => exact ⟨k + 1, ao', ds.length + es.length, cap', ds ++ es, by omega, by rw [List.length_append], Lib.hid (by have := HQ.out; rw [List.length_append]; simp only [sumN]; omega), Lib.hid (by rw [HD.out, HEs.out, List.append_assoc]; rfl), rfl, by go_num, by rw [List.length_append]; exact HS7⟩
          case measure => simp [intOf]; omega
        · obtain rfl : k = r.n := by omega
          have hds : ds = r.atoms := by rw [HD.out, HPre.out]
          subst hds
          go_wp2_with fail
          go_ret
          exact ⟨ao, cp, rfl, HSk.out.ow, fun b hb => by have h1 := HSk.out.hi b hb; have h2 := HWs.out; omega, HSk.out.bl⟩
  induction r with
  | nil => exact fun s w h1 h2 h3 => step .nil s w h1 h2 h3 (fun j hj => absurd hj (Nat.not_lt_zero j))
  | node k d n f ih => exact fun s w h1 h2 h3 => step (.node k d n f) s w h1 h2 h3 (fun j _ => ih j)
end Go.Proofs.YtadogjnoklabdaaDoor
