/- A watcher's contracts: Propagate. -/
import Derived.Test.YtnachllhjojlcaaV8
import Derived.Test.YtnachllhjojlcaaV9
import Derived.Deep.LoopGhost
import Derived.Deep.RegionWith
namespace Go.Proofs.Ytnachllhjojlcaa
open Go.ChangeShapes Go.WideShapes Go.ChangeAt Go.RowKit Go.Maps Go.Deep
set_option maxRecDepth 100000

set_option maxHeartbeats 4000000 in
theorem wprop_any (w : World) (M : WM) (S : WS) (h : WAt w M S) (hI : WInv S) (hn : S.n ≤ 5000) (hcl : S.cl.length ≤ 1000000) (hnB : M.nB ≤ 50000000000000) :
    Calls Try.prog 14 #[.pointer (some ⟨M.x, 0, none⟩)] w fun e w' => e = .returned (.int .i64 (propS S).2) ∧ WUp ((S.n + 1) * (S.cl.length + 1)) w w' M S (propS S).1 := by
  obtain ⟨D, hD⟩ : ∃ D, D = (S.n + 1) * (S.cl.length + 1) := ⟨_, rfl⟩
  have hD0 : D ≠ 0 := by rw [hD]; exact Nat.mul_ne_zero (by omega) (by omega)
  have hDb : D ≤ 5001 * 1000001 := by rw [hD]; exact Nat.mul_le_mul (by omega) (by omega)
  rw [← hD]
  obtain ⟨R, hR⟩ : ∃ R, R = propS S := ⟨_, rfl⟩
  rw [← hR]
  unfold propS at hR
  obtain ⟨F, hF⟩ : ∃ F, F = freshS S.fresh S := ⟨_, rfl⟩
  rw [← hF] at hR
  have HR := Lib.hid hR
  have HF := Lib.hid hF
  have HD := Lib.hid hD
  have hst : PrSt w w M M S S 0 := ⟨h, hI, rfl, rfl, rfl, Nat.le_refl _, Touch.refl _ _, fun _ hk => .inl hk⟩
  have HSt := Lib.hid hst
  clear hR hF h hI hst hD
  go_enter Try.func14, Try.ntmps14
  go_wp2_with fail
  go_loopg [3] S.fresh.length (fun k s3 wr => ∃ (M1 : WM) (S1 : WS), k = S1.fresh.length ∧ Hid (F = freshS S1.fresh S1) ∧ Hid (PrSt w wr M M1 S S1 0))
  case atStart => exact ⟨M, S, rfl, HF, HSt⟩
  case round =>
    obtain ⟨M1, S1, rfl, HF1, HS1⟩ := hrel
    have hA1 := HS1.out.at_
    obtain ⟨c0, c1, c2, c3, c4, c5, cf⟩ := hA1.cells
    rw [HS1.out.x] at c0 c4 c5
    have hoF : Own wr 3 1 M1.vF S1.fresh.length (natC S1.fresh) := hA1.part .fresh
    obtain ⟨aoF, capF, eF, hcapF, hcapM, hfF⟩ := hoF.form
    rw [eF] at c5
    rcases hfr : S1.fresh with _ | ⟨c, rest⟩
    · rw [hfr] at c5
      have hF1 := HF1.out
      rw [hfr] at hF1
      obtain rfl : F = (S1, -1) := hF1
      have hR := HR.out
      rw [if_neg (by simp)] at hR
      have HR2 := Lib.hid hR
      have HFr := Lib.hid hfr
      simp only [List.length_nil] at c5
      clear hfr hoF eF hcapF hcapM hfF hA1 cf c1 c2 c3 hR HF1 HR HF
      obtain ⟨wo, rfl⟩ : ∃ wo : World, wo = wr := ⟨_, rfl⟩
      go_wp2_with fail
      go_loopg [4] (S.n + 1) (fun k s4 wr => ∃ (M2 : WM) (S2 : WS), k ≤ S.n + 1 ∧ Hid (R = doneS k S2) ∧ Hid (S2.n < k + S2.done) ∧ Hid (S2.fresh = []) ∧ Hid (PrSt w wr M M2 S S2 ((S.n + 1 - k) * (S.cl.length + 1))))
      case atStart => exact ⟨M1, S1, by omega, HR2, Lib.hid (by rw [HS1.out.n]; omega), HFr, Lib.hid (by rw [Nat.sub_self, Nat.zero_mul]; exact HS1.out)⟩
      case round =>
        obtain ⟨M2, S2, hk, HRk, HFu, HFr2, HS2⟩ := hrel
        have hI2 := HS2.out.inv
        have hle := hI2.doneLe
        have hln := hI2.good.len_le
        obtain ⟨k, rfl⟩ : ∃ j, gk = j + 1 := ⟨gk - 1, by have := HFu.out; omega⟩
        have hA2 := HS2.out.at_
        obtain ⟨c0, _, _, _, c4, _, cf⟩ := hA2.cells
        rw [HS2.out.x] at c0 c4 cf
        have hrk := HRk.out
        unfold doneS at hrk
        have hn2 : S2.n ≤ 5000 := by rw [HS2.out.n]; exact hn
        have HLen : Hid (∀ m, Calls Try.prog 32 #[.pointer (some ⟨M2.g, 0, none⟩)] (wr.drewN m) fun e w' => e = .returned (.int .i64 S2.es.length) ∧ w' = wr.drewN m) := Lib.hid fun m =>
          (tr_len ((hA2.part .trail).below (bel_drewN (Below.refl _ _) m))).mono fun _ _ hh => ⟨hh.1, hh.2.symm⟩
        by_cases hd : S2.done < S2.es.length
        · rw [if_pos hd] at hrk
          obtain ⟨Lm, hLm⟩ : ∃ Lm, Lm = movesS (headS S2) (S2.by_ (headS S2)) S2 [] := ⟨_, rfl⟩
          obtain ⟨z, hz⟩ : ∃ z, z = atE S2.es (S2.done : Int) := ⟨_, rfl⟩
          have hh : headS S2 = -z := by
            rw [hz]
            unfold headS atE
            rw [if_neg (by omega)]
            simp
          have hv := head_val hI2 hd
          have hzl := val_lit (n := S2.n) (es := S2.es) (x := headS S2) (by omega)
          have hzb : -5000 ≤ z ∧ z ≤ 5000 := by rw [hh] at hzl; omega
          obtain ⟨hz1, hz2⟩ := hzb
          have hds : 0 ≤ Lm.2 ∨ (WInv (Lm.1.wDone (Lm.1.done + 1)) ∧ Lm.1.fresh = [] ∧ Lm.1.done = S2.done ∧ Lm.1.n = S2.n ∧ Lm.1.cl = S2.cl) := by
            by_cases h0 : 0 ≤ Lm.2
            · exact .inl h0
            · rw [hLm] at h0 ⊢
              exact .inr (done_step hI2 HFr2.out hd h0)
          rw [← hLm] at hrk
          have HAt : Hid (∀ w', Below wr.heap.size wr w' → Calls Try.prog 45 #[.pointer (some ⟨M2.g, 0, none⟩), .int .i64 (S2.done : Int)] w' fun e w'' => e = .returned (.int .i64 z) ∧ w' = w'') := Lib.hid fun w' hb => by
            have h := tr_at ((hA2.part .trail).below hb) (S2.done : Int)
            rwa [← hz] at h
          have hmul : (S.n + 1 - k) * (S.cl.length + 1) = (S.n + 1 - (k + 1)) * (S.cl.length + 1) + (S.cl.length + 1) := by
            rw [show S.n + 1 - k = (S.n + 1 - (k + 1)) + 1 by omega, Nat.add_mul, Nat.one_mul]
          have hmulD : (S.n + 1 - k) * (S.cl.length + 1) ≤ D := by rw [HD.out]; exact Nat.mul_le_mul_right _ (by omega)
          have hnb2 : M2.nB ≤ M.nB + (S.n + 1 - (k + 1)) * (S.cl.length + 1) := HS2.out.nb
          have HMv : Hid (∀ w', Below wr.heap.size wr w' → Calls Try.prog 44 #[.pointer (some ⟨M.x, 0, none⟩), .int .i64 (-z)] w' fun e w'' => e = .returned (.int .i64 Lm.2) ∧ WUp (S.cl.length + 1) wr w'' M2 S2 Lm.1) := Lib.hid fun w' hb => by
            have h := wmoves_any w' M2 S2 (hA2.below hb) hI2 HFr2.out hn2 (by rw [HS2.out.cl]; exact hcl) (by omega) (headS S2) (by rw [hh]; exact ⟨by omega, by omega⟩) hv
            rw [HS2.out.x, ← hLm, HS2.out.cl, hh] at h
            exact h.mono fun _ _ hq => ⟨hq.1, hq.2.after hb⟩
          have HB := Lib.hid (show S.n + 1 - (k + 1) + 1 = S.n + 1 - k by omega)
          have HMul := Lib.hid hmul
          have HMulD := Lib.hid hmulD
          have HNb2 := Lib.hid hnb2
          have HRk2 := Lib.hid hrk
          have HDs := Lib.hid hds
          have hdi : (S2.done : Int) < (S2.es.length : Int) := by omega
          have hd2 : decide ((S2.done : Int) < (S2.es.length : Int)) = true := by simpa using hd
          have hd3 : decide (S2.done < S2.es.length) = true := by simpa using hd
          have HFu2 := Lib.hid (show S2.n < k + (S2.done + 1) by have := HFu.out; omega)
          have HC04 : Hid (∀ w', Below wr.heap.size wr w' → w'.cell? ⟨M.x, 0, none⟩ = some (.pointer (some ⟨M2.g, 0, none⟩)) ∧ w'.cell? ⟨M.x, 4, none⟩ = some (.int .i64 (S2.done : Int))) := Lib.hid fun w' hb => by
            have h := (hA2.below hb).cells
            rw [HS2.out.x] at h
            exact ⟨h.1, h.2.2.2.2.1⟩
          clear hmul hmulD hnb2 hrk hds hh hv hzl hLm hz hI2 hA2 hle hln
          go_upto_region 8 with fail
          go_quiet ((go_at_call 32; exact Calls.quiet_of_same (HLen.out _)))
          have hbq : Below wr.heap.size wr (wr.drewN nq) := bel_drewN (Below.refl _ _) nq
          obtain ⟨wq, hwq⟩ : ∃ wq, wq = wr.drewN nq := ⟨_, rfl⟩
          rw [← hwq] at hbq ⊢
          obtain ⟨cq0, cq4⟩ := HC04.out _ hbq
          have hbd : Below wr.heap.size wr wq.drew := bel_drewN hbq 1
          have HBd := Lib.hid hbd
          have HAt1 := Lib.hid (HAt.out _ hbd)
          have HMv1 := Lib.hid (HMv.out _ hbd)
          clear hwq c0 c4 cf hbq hbd HLen
          have hwz : IntKind.i64.wrap (-z) = -z := by rw [IntKind.wrap_i64]; omega
          go_wp2_with fail
          go_region_with (first
            | (go_at_call 45; (with_reducible refine HAt1.out.mono ?_); rintro e w' ⟨rfl, rfl⟩)
            | (go_at_call 44; (with_reducible refine HMv1.out.mono ?_); rintro e w6 ⟨rfl, hU⟩; have HU := Lib.hid hU; clear hU))
          all_goals
            clear hwz
            rcases HDs.out with h0 | h0
            · have hr2 := HRk2.out
              rw [if_pos h0] at hr2
              subst hr2
              have h0b : decide (0 ≤ R.2) = true := by simpa using h0
              go_wp2_with fail
              go_ret
              obtain ⟨M3, u1, u2, u3, u4, u5, _⟩ := HU.out
              exact ⟨rfl, M3, u1, u2.trans HS2.out.x, by have := HNb2.out; have := HMul.out; have := HMulD.out; omega, touch_trans HS2.out.touch HS2.out.all u4, all_trans HS2.out.touch.size HS2.out.all u5, fun e => absurd e hD0⟩
            · by_cases h1 : 0 ≤ Lm.2
              · have hr2 := HRk2.out
                rw [if_pos h1] at hr2
                subst hr2
                have h0b : decide (0 ≤ R.2) = true := by simpa using h1
                clear h0
                go_wp2_with fail
                go_ret
                obtain ⟨M3, u1, u2, u3, u4, u5, _⟩ := HU.out
                exact ⟨rfl, M3, u1, u2.trans HS2.out.x, by have := HNb2.out; have := HMul.out; have := HMulD.out; omega, touch_trans HS2.out.touch HS2.out.all u4, all_trans HS2.out.touch.size HS2.out.all u5, fun e => absurd e hD0⟩
              · have hr2 := HRk2.out
                rw [if_neg h1] at hr2
                have h0b : decide (0 ≤ Lm.2) = false := by simpa using h1
                obtain ⟨i1, i2, i3, i4, i5⟩ := h0
                obtain ⟨M3, u1, u2, u3, u4, u5, _⟩ := HU.out
                have k4 := u1.cells.2.2.2.2.1
                have kf := u1.cells.2.2.2.2.2.2 4
                rw [u2, HS2.out.x] at k4 kf
                obtain ⟨d1, d2, d3⟩ := u1.setDone (Lm.1.done + 1)
                rw [u2, HS2.out.x] at d1 d2
                have hps := HS2.out.step (d' := S.cl.length + 1) i1 i4 i5 d1 u2 u3 (touch_trans u4 u5 d2) (all_trans u4.size u5 d3)
                rw [← HMul.out] at hps
                have HPs := Lib.hid hps
                have HR3 := Lib.hid hr2
                have HI2 := Lib.hid i2
                have HFu3 := Lib.hid (show (Lm.1.wDone (Lm.1.done + 1)).n < k + (Lm.1.wDone (Lm.1.done + 1)).done by show Lm.1.n < k + (Lm.1.done + 1); have := HFu2.out; omega)
                have hdl : Lm.1.done ≤ 5000 := by have := i1.doneLe; have := i1.good.len_le; have h9 : (Lm.1.wDone (Lm.1.done + 1)).n = S2.n := i4; have h8 : Lm.1.done + 1 ≤ Lm.1.es.length := i1.doneLe; have h7 : Lm.1.es.length ≤ Lm.1.n := i1.good.len_le; have h6 : Lm.1.n = S2.n := i4; omega
                clear i1 i2 i3 i4 i5 u1 u2 u3 u4 u5 d1 d2 d3 hps hr2 h1 HU
                go_wp2_with fail
                go_roundg k
                case measure => omega
                case rel => exact ⟨M3, _, by omega, HR3, HFu3, HI2, HPs⟩
        · rw [if_neg hd] at hrk
          subst hrk
          have hd2 : decide ((S2.done : Int) < (S2.es.length : Int)) = false := by simp; omega
          have hd3 : decide (S2.done < S2.es.length) = false := by simpa using hd
          have hmulD : (S.n + 1 - (k + 1)) * (S.cl.length + 1) ≤ D := by rw [HD.out]; exact Nat.mul_le_mul_right _ (by omega)
          have HMulD := Lib.hid hmulD
          clear hmulD hI2 hA2 hle hln hd HRk
          go_upto_region 8 with fail
          go_quiet ((go_at_call 32; exact Calls.quiet_of_same (HLen.out _)))
          go_wp2_with fail
          go_ret
          exact ⟨rfl, (HS2.out.below (bel_drewN (Below.refl _ _) nq)).up HMulD.out hD0⟩
    · have hF1 := HF1.out
      rw [hfr] at hF1
      unfold freshS at hF1
      have hI1 := HS1.out.inv
      have hc := hI1.freshLt c (by rw [hfr]; exact List.mem_cons_self ..)
      have hn1 : S1.n ≤ 5000 := by rw [HS1.out.n]; exact hn
      have hrow := hI1.rowLen c
      have hlits := fun x (hx : x ∈ S1.ls.getD c []) => (hI1.lits (c := c) (x := x) hx).2
      have hll : S1.ls.length = S1.cl.length := hI1.len
      obtain ⟨Lk, hLk⟩ : ∃ Lk, Lk = lookS S1 c := ⟨_, rfl⟩
      rw [← hLk] at hF1
      have HLook : Hid (Calls Try.prog 43 #[.pointer (some ⟨M.x, 0, none⟩), .int .i64 (c : Int)] wr fun e w' => e = .returned (.bool Lk.2) ∧ WUp 0 wr w' M1 S1 Lk.1) := Lib.hid (by
        have h := wlook_any wr M1 S1 hA1 hn1 hI1.good c (by omega) hlits (by omega)
        rw [HS1.out.x, ← hLk] at h
        exact h)
      have hlf := look_fresh S1 c
      rw [← hLk] at hlf
      have hstep : Lk.2 = false → WInv (Lk.1.wFresh rest) ∧ Lk.1.n = S1.n ∧ Lk.1.cl = S1.cl := fun hk => by
        rw [hLk] at hk ⊢
        exact fresh_step hI1 hfr hk
      have hfl2 : S1.fresh.length = rest.length + 1 := by rw [hfr]; rfl
      rw [hfr] at hoF hfF c5
      simp only [List.length_cons] at hfF c5
      obtain ⟨bF, oF, rfl, hcF, _, _⟩ := hfF (by omega)
      have hc0 := hcF 0 (by simp [natC])
      have hc0' : wr.cell? ⟨bF, oF, none⟩ = some (.int .i64 (c : Int)) := hc0
      have hri : (0 : Int) < (rest.length : Int) + 1 := by omega
      have hrl : rest.length ≤ 9223372036854775806 := by unfold maxLen at hcapM; rw [hfl2] at hcapF; omega
      have HStep := Lib.hid hstep
      have HLf := Lib.hid hlf
      have HF1 := Lib.hid hF1
      have HFl := Lib.hid hfl2
      have HFr := Lib.hid hfr
      clear hF1 hI1 hc hrow hlits hll hLk hlf hstep hfl2 hfr hoF hfF hcF hc0 hA1 eF c1 c2 c3 c4 hcapF hcapM cf
      obtain ⟨st, kk⟩ := Lk
      simp only at HStep HLf HF1 HLook
      cases kk with
      | true =>
        have hf := HF1.out
        rw [if_pos rfl] at hf
        subst hf
        have hR := HR.out
        rw [if_pos (by show (0 : Int) ≤ (c : Int); omega)] at hR
        subst hR
        go_wp2_with (go_at_call 43; (with_reducible refine HLook.out.mono ?_); rintro e w6 ⟨rfl, hU⟩; have HU := Lib.hid hU; clear hU)
        go_ret
        obtain ⟨M3, u1, u2, u3, u4, u5, _⟩ := HU.out
        exact ⟨rfl, M3, u1, u2.trans HS1.out.x, by have := HS1.out.nb; omega, touch_trans HS1.out.touch HS1.out.all u4, all_trans HS1.out.touch.size HS1.out.all u5, fun e => absurd e hD0⟩
      | false =>
        have hf := HF1.out
        rw [if_neg (by simp)] at hf
        have HF2 := Lib.hid hf
        clear hf
        go_upto_region 7 with (go_at_call 43; (with_reducible refine HLook.out.mono ?_); rintro e w6 ⟨rfl, hU⟩; have HU := Lib.hid hU; clear hU)
        obtain ⟨M3, u1, u2, u3, u4, u5, _⟩ := HU.out
        have hfr3 : st.fresh = c :: rest := HLf.out.1.trans HFr.out
        have hoF : Own w6 3 1 M3.vF st.fresh.length (natC st.fresh) := u1.part .fresh
        rw [hfr3] at hoF
        obtain ⟨aoF2, capF2, eF2, hcp, hcm, hfF⟩ := hoF.form
        simp only [List.length_cons] at hcp hfF eF2
        obtain ⟨bF2, oF2, rfl, _, _, _⟩ := hfF (by omega)
        have k5 := u1.cells.2.2.2.2.2.1
        have kf := u1.cells.2.2.2.2.2.2 5
        rw [u2, HS1.out.x] at k5 kf
        rw [eF2] at k5 hoF
        have HU1 := Lib.hid u1
        have HSt4 : Hid (∀ v', Own w6 3 1 v' rest.length (natC rest) → v'.ownBlock = M3.vF.ownBlock → ∃ M4, PrSt w (w6.setCell ⟨M.x, 5, none⟩ v') M M4 S (st.wFresh rest) 0) := Lib.hid fun v' ho hob => by
          obtain ⟨d1, d2, d3⟩ := u1.setFresh (Touch.refl _ w6) ho (fun k hk => .inl (hob ▸ hk))
          obtain ⟨i1, i2, i3⟩ := HStep.out trivial
          have e := HS1.out.step (d' := 0) i1 i2 i3 d1 u2 u3 (touch_trans u4 u5 d2) (all_trans u4.size u5 d3)
          rw [show M3.x = M.x from u2.trans HS1.out.x] at e
          exact ⟨_, e⟩
        rw [eF2] at HSt4
        clear u1 u2 u3 u4 u5 eF2 hfF HU HLook
        have hcm2 : (capF2 : Int) ≤ 9223372036854775807 := by unfold maxLen at hcm; omega
        have hcp2 : (rest.length : Int) + 1 ≤ (capF2 : Int) := by omega
        by_cases hcap : capF2 = 1
        · have hr0 : rest = [] := List.eq_nil_of_length_eq_zero (by omega)
          have ho2 := hoF.piece 0 0 0 (by omega) (by omega) (by omega) (by omega)
          have ho3 : Own w6 3 1 (.slice (some ⟨bF2, oF2, none⟩) 0 0) rest.length (natC rest) := by rw [hr0]; exact ho2
          obtain ⟨M4, hp4⟩ := HSt4.out _ ho3 rfl
          have HP4 := Lib.hid hp4
          subst hcap
          subst hr0
          simp only [List.length_nil] at k5
          clear hp4 ho2 ho3 hoF hcp hcp2
          go_wp2_with fail
          go_roundg 0
          case measure => have := HFl.out; simp at this; omega
          case rel => exact ⟨M4, _, rfl, HF2, HP4⟩
        · have ho2 := hoF.piece 1 (rest.length + 1) capF2 (by omega) (by omega) (by omega) (by omega)
          have ho3 : Own w6 3 1 (.slice (some ⟨bF2, oF2 + 1, none⟩) rest.length (capF2 - 1)) rest.length (natC rest) := by
            have e : ((natC (c :: rest)).drop (1 * 1)).take ((rest.length + 1 - 1) * 1) = natC rest := by
              have : (natC (c :: rest)).drop (1 * 1) = natC rest := rfl
              rw [this, List.take_of_length_le (by rw [natC_len]; omega)]
            rw [e] at ho2
            exact ho2
          obtain ⟨M4, hp4⟩ := HSt4.out _ ho3 rfl
          have HP4 := Lib.hid hp4
          clear hp4 ho2 ho3 hoF
          go_wp2_with fail
          go_roundg rest.length
          case measure => have := HFl.out; omega
          case rel => exact ⟨M4, _, rfl, HF2, HP4⟩

end Go.Proofs.Ytnachllhjojlcaa
