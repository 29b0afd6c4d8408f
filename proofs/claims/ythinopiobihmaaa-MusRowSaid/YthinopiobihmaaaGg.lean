/- A watcher's contracts: Propagate. -/
import Derived.Test.YthinopiobihmaaaGf
import Derived.Deep.LoopGhost
import Derived.Deep.RegionWith
namespace Go.Proofs.Ythinopiobihmaaa
open Go.ChangeShapes Go.WideShapes Go.ChangeAt Go.RowKit Go.Maps Go.Deep
set_option maxRecDepth 100000

set_option maxHeartbeats 4000000 in
theorem wprop_any (w : World) (M : WM) (S : WS) (h : WAt w M S) (hI : WInv S) (hn : S.n ≤ 5000) (hcl : S.cl.length ≤ 1000000) (hnB : M.nB ≤ 50000000000000) :
    Calls Try.prog 38 #[.pointer (some ⟨M.x, 0, none⟩)] w fun e w' => e = .returned (.int .i64 (propS S).2) ∧ WUp ((S.n + 1) * (S.cl.length + 1)) w w' M S (propS S).1 := by
  obtain ⟨D, hD⟩ : ∃ D, D = (S.n + 1) * (S.cl.length + 1) := ⟨_, rfl⟩
  have hD0 : D ≠ 0 := by rw [hD]; exact Nat.mul_ne_zero (by omega) (by omega)
  have hDb : D ≤ 5001 * 1000001 := by rw [hD]; exact Nat.mul_le_mul (by omega) (by omega)
  rw [← hD]
  obtain ⟨R, hR⟩ : ∃ R, R = propS S := ⟨_, rfl⟩
  rw [← hR]
  unfold propS at hR
  obtain ⟨F, hF⟩ : ∃ F, F = freshS S.fresh S := ⟨_, rfl⟩
  rw [← hF] at hR
  have HR := Lib.hid hR
  have HF := Lib.hid hF
  have HD := Lib.hid hD
  have hst : PrSt w w M M S S 0 := ⟨h, hI, rfl, rfl, rfl, Nat.le_refl _, Touch.refl _ _, fun _ hk => .inl hk⟩
  have HSt := Lib.hid hst
  clear hR hF h hI hst hD
  go_enter Try.func38, Try.ntmps38
  go_wp2_with fail
  go_loopg [3] S.fresh.length (fun k s3 wr => ∃ (M1 : WM) (S1 : WS), k = S1.fresh.length ∧ Hid (F = freshS S1.fresh S1) ∧ Hid (PrSt w wr M M1 S S1 0))
  case atStart => exact ⟨M, S, rfl, HF, HSt⟩
  case round =>
    obtain ⟨M1, S1, rfl, HF1, HS1⟩ := hrel
    have hA1 := HS1.out.at_
    obtain ⟨c0, c1, c2, c3, c4, c5, cf⟩ := hA1.cells
    rw [HS1.out.x] at c0 c4 c5
    have hoF : Own wr 3 1 M1.vF S1.fresh.length (natC S1.fresh) := hA1.part .fresh
    obtain ⟨aoF, capF, eF, hcapF, hcapM, hfF⟩ := hoF.form
    rw [eF] at c5
    rcases hfr : S1.fresh with _ | ⟨c, rest⟩
    · rw [hfr] at c5
      have hF1 := HF1.out
      rw [hfr] at hF1
      obtain rfl : F = (S1, -1) := hF1
      have hR := HR.out
      rw [if_neg (by simp)] at hR
      have HR2 := Lib.hid hR
      have HFr := Lib.hid hfr
      simp only [List.length_nil] at c5
      clear hfr hoF eF hcapF hcapM hfF hA1 cf c1 c2 c3 hR HF1 HR HF
      obtain ⟨wo, rfl⟩ : ∃ wo : World, wo = wr := ⟨_, rfl⟩
      go_wp2_with fail
      go_loopg [4] (S.n + 1) (fun k s4 wr => ∃ (M2 : WM) (S2 : WS), k ≤ S.n + 1 ∧ Hid (R = doneS k S2) ∧ Hid (S2.n < k + S2.done) ∧ Hid (S2.fresh = []) ∧ Hid (PrSt w wr M M2 S S2 ((S.n + 1 - k) * (S.cl.length + 1))))
      case atStart => exact ⟨M1, S1, by omega, HR2, Lib.hid (by rw [HS1.out.n]; omega), HFr, Lib.hid (by rw [Nat.sub_self, Nat.zero_mul]; exact HS1.out)⟩
      case round =>
        obtain ⟨M2, S2, hk, HRk, HFu, HFr2, HS2⟩ := hrel
        have hI2 := HS2.out.inv
        have hle := hI2.doneLe
        have hln := hI2.good.len_le
        obtain ⟨k, rfl⟩ : ∃ j, gk = j + 1 := ⟨gk - 1, by have := HFu.out; omega⟩
        have hA2 := HS2.out.at_
        obtain ⟨c0, _, _, _, c4, _, cf⟩ := hA2.cells
        rw [HS2.out.x] at c0 c4 cf
        have hrk := HRk.out
        unfold doneS at hrk
        have hn2 : S2.n ≤ 5000 := by rw [HS2.out.n]; exact hn
        have HLen : Hid (∀ m, Calls Try.prog 41 #[.pointer (some ⟨M2.g, 0, none⟩)] (wr.drewN m) fun e w' => e = .returned (.int .i64 S2.es.length) ∧ w' = wr.drewN m) := Lib.hid fun m =>
          (tr_len ((hA2.part .trail).below (bel_drewN (Below.refl _ _) m))).mono fun _ _ hh => ⟨hh.1, hh.2.symm⟩
        by_cases hd : S2.done < S2.es.length
        · rw [if_pos hd] at hrk
          obtain ⟨Lm, hLm⟩ : ∃ Lm, Lm = movesS (headS S2) (S2.by_ (headS S2)) S2 [] := ⟨_, rfl⟩
          obtain ⟨z, hz⟩ : ∃ z, z = atE S2.es (S2.done : Int) := ⟨_, rfl⟩
          have hh : headS S2 = -z := by
            rw [hz]
            unfold headS atE
            rw [if_neg (by omega)]
            simp
          have hv := head_val hI2 hd
          have hzl := val_lit (n := S2.n) (es := S2.es) (x := headS S2) (by omega)
          have hzb : -5000 ≤ z ∧ z ≤ 5000 := by rw [hh] at hzl; omega
          obtain ⟨hz1, hz2⟩ := hzb
          have hds : 0 ≤ Lm.2 ∨ (WInv (Lm.1.wDone (Lm.1.done + 1)) ∧ Lm.1.fresh = [] ∧ Lm.1.done = S2.done ∧ Lm.1.n = S2.n ∧ Lm.1.cl = S2.cl) := by
            by_cases h0 : 0 ≤ Lm.2
            · exact .inl h0
            · rw [hLm] at h0 ⊢
              exact .inr (done_step hI2 HFr2.out hd h0)
          rw [← hLm] at hrk
          have HAt : Hid (∀ w', Below wr.heap.size wr w' → Calls Try.prog 43 #[.pointer (some ⟨M2.g, 0, none⟩), .int .i64 (S2.done : Int)] w' fun e w'' => e = .returned (.int .i64 z) ∧ w' = w'') := Lib.hid fun w' hb => by
            have h := tr_at ((hA2.part .trail).below hb) (S2.done : Int)
            rwa [← hz] at h
          have hmul : (S.n + 1 - k) * (S.cl.length + 1) = (S.n + 1 - (k + 1)) * (S.cl.length + 1) + (S.cl.length + 1) := by
            rw [show S.n + 1 - k = (S.n + 1 - (k + 1)) + 1 by omega, Nat.add_mul, Nat.one_mul]
          have hmulD : (S.n + 1 - k) * (S.cl.length + 1) ≤ D := by rw [HD.out]; exact Nat.mul_le_mul_right _ (by omega)
          have hnb2 : M2.nB ≤ M.nB + (S.n + 1 - (k + 1)) * (S.cl.length + 1) := HS2.out.nb
          have HMv : Hid (∀ w', Below wr.heap.size wr w' → Calls Try.prog 63 #[.pointer (some ⟨M.x, 0, none⟩), .int .i64 (-z)] w' fun e w'' => e = .returned (.int .i64 Lm.2) ∧ WUp (S.cl.length + 1) wr w'' M2 S2 Lm.1) := Lib.hid fun w' hb => by
            have h := wmoves_any w' M2 S2 (hA2.below hb) hI2 HFr2.out hn2 (by rw [HS2.out.cl]; exact hcl) (by omega) (headS S2) (by rw [hh]; exact ⟨by omega, by omega⟩) hv
            rw [HS2.out.x, ← hLm, HS2.out.cl, hh] at h
            exact h.mono fun _ _ hq => ⟨hq.1, hq.2.after hb⟩
          have HB := Lib.hid (show S.n + 1 - (k + 1) + 1 = S.n + 1 - k by omega)
          have HMul := Lib.hid hmul
          have HMulD := Lib.hid hmulD
          have HNb2 := Lib.hid hnb2
          have HRk2 := Lib.hid hrk
          have HDs := Lib.hid hds
          have hdi : (S2.done : Int) < (S2.es.length : Int) := by omega
          have hd2 : decide ((S2.done : Int) < (S2.es.length : Int)) = true := by simpa using hd
          have hd3 : decide (S2.done < S2.es.length) = true := by simpa using hd
          have HFu2 := Lib.hid (show S2.n < k + (S2.done + 1) by have := HFu.out; omega)
          have HC04 : Hid (∀ w', Below wr.heap.size wr w' → w'.cell? ⟨M.x, 0, none⟩ = some (.pointer (some ⟨M2.g, 0, none⟩)) ∧ w'.cell? ⟨M.x, 4, none⟩ = some (.int .i64 (S2.done : Int))) := Lib.hid fun w' hb => by
            have h := (hA2.below hb).cells
            rw [HS2.out.x] at h
            exact ⟨h.1, h.2.2.2.2.1⟩
          clear hmul hmulD hnb2 hrk hds hh hv hzl hLm hz hI2 hA2 hle hln
          go_upto_region 8 with fail
          go_quiet ((go_at_call 41; exact Calls.quiet_of_same (HLen.out _)))
          have hbq : Below wr.heap.size wr (wr.drewN nq) := bel_drewN (Below.refl _ _) nq
          obtain ⟨wq, hwq⟩ : ∃ wq, wq = wr.drewN nq := ⟨_, rfl⟩
          rw [← hwq] at hbq ⊢
          obtain ⟨cq0, cq4⟩ := HC04.out _ hbq
          have hbd : Below wr.heap.size wr wq.drew := bel_drewN hbq 1
          have HBd := Lib.hid hbd
          have HAt1 := Lib.hid (HAt.out _ hbd)
          have HMv1 := Lib.hid (HMv.out _ hbd)
          clear hwq c0 c4 cf hbq hbd HLen
          have hwz : IntKind.i64.wrap (-z) = -z := by rw [IntKind.wrap_i64]; omega
          go_wp2_with fail
          go_region_with (first
            | (go_at_call 43; (with_reducible refine HAt1.out.mono ?_); rintro e w' ⟨rfl, rfl⟩)
            | (go_at_call 63; (with_reducible refine HMv1.out.mono ?_); rintro e w6 ⟨rfl, hU⟩; have HU := Lib.hid hU; clear hU))
          all_goals
            clear hwz
            rcases HDs.out with h0 | h0
            · have hr2 := HRk2.out
              rw [if_pos h0] at hr2
              subst hr2
              have h0b : decide (0 ≤ R.2) = true := by simpa using h0
              go_wp2_with fail
              go_ret
              obtain ⟨M3, u1, u2, u3, u4, u5, _⟩ := HU.out
              exact ⟨rfl, M3, u1, u2.trans HS2.out.x, by have := HNb2.out; have := HMul.out; have := HMulD.out; omega, touch_trans HS2.out.touch HS2.out.all u4, all_trans HS2.out.touch.size HS2.out.all u5, fun e => absurd e hD0⟩
            · by_cases h1 : 0 ≤ Lm.2
              · have hr2 := HRk2.out
                rw [if_pos h1] at hr2
                subst hr2
                have h0b : decide (0 ≤ R.2) = true := by simpa using h1
                clear h0
                go_wp2_with fail
                go_ret
                obtain ⟨M3, u1, u2, u3, u4, u5, _⟩ := HU.out
                exact ⟨rfl, M3, u1, u2.trans HS2.out.x, by have := HNb2.out; have := HMul.out; have := HMulD.out; omega, touch_trans HS2.out.touch HS2.out.all u4, all_trans HS2.out.touch.size HS2.out.all u5, fun e => absurd e hD0⟩
              · have hr2 := HRk2.out
                rw [if_neg h1] at hr2
                have h0b : decide (0 ≤ Lm.2) = false := by simpa using h1
                obtain ⟨i1, i2, i3, i4, i5⟩ := h0
                obtain ⟨M3, u1, u2, u3, u4, u5, _⟩ := HU.out
                have k4 := u1.cells.2.2.2.2.1
                have kf := u1.cells.2.2.2.2.2.2 4
                rw [u2, HS2.out.x] at k4 kf
                obtain ⟨d1, d2, d3⟩ := u1.setDone (Lm.1.done + 1)
                rw [u2, HS2.out.x] at d1 d2
                have hps := HS2.out.step (d' := S.cl.length + 1) i1 i4 i5 d1 u2 u3 (touch_trans u4 u5 d2) (all_trans u4.size u5 d3)
                rw [← HMul.out] at hps
                have HPs := Lib.hid hps
                have HR3 := Lib.hid hr2
                have HI2 := Lib.hid i2
                have HFu3 := Lib.hid (show (Lm.1.wDone (Lm.1.done + 1)).n < k + (Lm.1.wDone (Lm.1.done + 1)).done by show Lm.1.n < k + (Lm.1.done + 1); have := HFu2.out; omega)
                have hdl : Lm.1.done ≤ 5000 := by have := i1.doneLe; have := i1.good.len_le; have h9 : (Lm.1.wDone (Lm.1.done + 1)).n = S2.n := i4; have h8 : Lm.1.done + 1 ≤ Lm.1.es.length := i1.doneLe; have h7 : Lm.1.es.length ≤ Lm.1.n := i1.good.len_le; have h6 : Lm.1.n = S2.n := i4; omega
                clear i1 i2 i3 i4 i5 u1 u2 u3 u4 u5 d1 d2 d3 hps hr2 h1 HU
                go_wp2_with fail
                go_roundg k
                case measure => omega
                case rel => exact ⟨M3, _, by omega, HR3, HFu3, HI2, HPs⟩
        · rw [if_neg hd] at hrk
          subst hrk
          have hd2 : decide ((S2.done : Int) < (S2.es.length : Int)) = false := by simp; omega
          have hd3 : decide (S2.done < S2.es.length) = false := by simpa using hd
          have hmulD : (S.n + 1 - (k + 1)) * (S.cl.length + 1) ≤ D := by rw [HD.out]; exact Nat.mul_le_mul_right _ (by omega)
          have HMulD := Lib.hid hmulD
          clear hmulD hI2 hA2 hle hln hd HRk
          go_upto_region 8 with fail
          go_quiet ((go_at_call 41; exact Calls.quiet_of_same (HLen.out _)))
          go_wp2_with fail
          go_ret
          exact ⟨rfl, (HS2.out.below (bel_drewN (Below.refl _ _) nq)).up HMulD.out hD0⟩
    · have hF1 := HF1.out
      rw [hfr] at hF1
      unfold freshS at hF1
      have hI1 := HS1.out.inv
      have hc := hI1.freshLt c (by rw [hfr]; exact List.mem_cons_self ..)
      have hn1 : S1.n ≤ 5000 := by rw [HS1.out.n]; exact hn
      have hrow := hI1.rowLen c
      have hlits := fun x (hx : x ∈ S1.ls.getD c []) => (hI1.lits (c := c) (x := x) hx).2
      have hll : S1.ls.length = S1.cl.length := hI1.len
      obtain ⟨Lk, hLk⟩ : ∃ Lk, Lk = lookS S1 c := ⟨_, rfl⟩
      rw [← hLk] at hF1
      have HLook : Hid (Calls Try.prog 62 #[.pointer (some ⟨M.x, 0, none⟩), .int .i64 (c : Int)] wr fun e w' => e = .returned (.bool Lk.2) ∧ WUp 0 wr w' M1 S1 Lk.1) := Lib.hid (by
        have h := wlook_any wr M1 S1 hA1 hn1 hI1.good c (by omega) hlits (by omega)
        rw [HS1.out.x, ← hLk] at h
        exact h)
      have hlf := look_fresh S1 c
      rw [← hLk] at hlf
      have hstep : Lk.2 = false → WInv (Lk.1.wFresh rest) ∧ Lk.1.n = S1.n ∧ Lk.1.cl = S1.cl := fun hk => by
        rw [hLk] at hk ⊢
        exact fresh_step hI1 hfr hk
      have hfl2 : S1.fresh.length = rest.length + 1 := by rw [hfr]; rfl
      rw [hfr] at hoF hfF c5
      simp only [List.length_cons] at hfF c5
      obtain ⟨bF, oF, rfl, hcF, _, _⟩ := hfF (by omega)
      have hc0 := hcF 0 (by simp [natC])
      have hc0' : wr.cell? ⟨bF, oF, none⟩ = some (.int .i64 (c : Int)) := hc0
      have hri : (0 : Int) < (rest.length : Int) + 1 := by omega
      have hrl : rest.length ≤ 9223372036854775806 := by unfold maxLen at hcapM; rw [hfl2] at hcapF; omega
      have HStep := Lib.hid hstep
      have HLf := Lib.hid hlf
      have HF1 := Lib.hid hF1
      have HFl := Lib.hid hfl2
      have HFr := Lib.hid hfr
      clear hF1 hI1 hc hrow hlits hll hLk hlf hstep hfl2 hfr hoF hfF hcF hc0 hA1 eF c1 c2 c3 c4 hcapF hcapM cf
      obtain ⟨st, kk⟩ := Lk
      simp only at HStep HLf HF1 HLook
      cases kk with
      | true =>
        have hf := HF1.out
        rw [if_pos rfl] at hf
        subst hf
        have hR := HR.out
        rw [if_pos (by show (0 : Int) ≤ (c : Int); omega)] at hR
        subst hR
        go_wp2_with (go_at_call 62; (with_reducible refine HLook.out.mono ?_); rintro e w6 ⟨rfl, hU⟩; have HU := Lib.hid hU; clear hU)
        go_ret
        obtain ⟨M3, u1, u2, u3, u4, u5, _⟩ := HU.out
        exact ⟨rfl, M3, u1, u2.trans HS1.out.x, by have := HS1.out.nb; omega, touch_trans HS1.out.touch HS1.out.all u4, all_trans HS1.out.touch.size HS1.out.all u5, fun e => absurd e hD0⟩
      | false =>
        have hf := HF1.out
        rw [if_neg (by simp)] at hf
        have HF2 := Lib.hid hf
        clear hf
        go_upto_region 7 with (go_at_call 62; (with_reducible refine HLook.out.mono ?_); rintro e w6 ⟨rfl, hU⟩; have HU := Lib.hid hU; clear hU)
        obtain ⟨M3, u1, u2, u3, u4, u5, _⟩ := HU.out
        have hfr3 : st.fresh = c :: rest := HLf.out.1.trans HFr.out
        have hoF : Own w6 3 1 M3.vF st.fresh.length (natC st.fresh) := u1.part .fresh
        rw [hfr3] at hoF
        obtain ⟨aoF2, capF2, eF2, hcp, hcm, hfF⟩ := hoF.form
        simp only [List.length_cons] at hcp hfF eF2
        obtain ⟨bF2, oF2, rfl, _, _, _⟩ := hfF (by omega)
        have k5 := u1.cells.2.2.2.2.2.1
        have kf := u1.cells.2.2.2.2.2.2 5
        rw [u2, HS1.out.x] at k5 kf
        rw [eF2] at k5 hoF
        have HU1 := Lib.hid u1
        have HSt4 : Hid (∀ v', Own w6 3 1 v' rest.length (natC rest) → v'.ownBlock = M3.vF.ownBlock → ∃ M4, PrSt w (w6.setCell ⟨M.x, 5, none⟩ v') M M4 S (st.wFresh rest) 0) := Lib.hid fun v' ho hob => by
          obtain ⟨d1, d2, d3⟩ := u1.setFresh (Touch.refl _ w6) ho (fun k hk => .inl (hob ▸ hk))
          obtain ⟨i1, i2, i3⟩ := HStep.out trivial
          have e := HS1.out.step (d' := 0) i1 i2 i3 d1 u2 u3 (touch_trans u4 u5 d2) (all_trans u4.size u5 d3)
          rw [show M3.x = M.x from u2.trans HS1.out.x] at e
          exact ⟨_, e⟩
        rw [eF2] at HSt4
        clear u1 u2 u3 u4 u5 eF2 hfF HU HLook
        have hcm2 : (capF2 : Int) ≤ 9223372036854775807 := by unfold maxLen at hcm; omega
        have hcp2 : (rest.length : Int) + 1 ≤ (capF2 : Int) := by omega
        by_cases hcap : capF2 = 1
        · have hr0 : rest = [] := List.eq_nil_of_length_eq_zero (by omega)
          have ho2 := hoF.piece 0 0 0 (by omega) (by omega) (by omega) (by omega)
          have ho3 : Own w6 3 1 (.slice (some ⟨bF2, oF2, none⟩) 0 0) rest.length (natC rest) := by rw [hr0]; exact ho2
          obtain ⟨M4, hp4⟩ := HSt4.out _ ho3 rfl
          have HP4 := Lib.hid hp4
          subst hcap
          subst hr0
          simp only [List.length_nil] at k5
          clear hp4 ho2 ho3 hoF hcp hcp2
          go_wp2_with fail
          go_roundg 0
          case measure => have := HFl.out; simp at this; omega
          case rel => exact ⟨M4, _, rfl, HF2, HP4⟩
        · have ho2 := hoF.piece 1 (rest.length + 1) capF2 (by omega) (by omega) (by omega) (by omega)
          have ho3 : Own w6 3 1 (.slice (some ⟨bF2, oF2 + 1, none⟩) rest.length (capF2 - 1)) rest.length (natC rest) := by
            have e : ((natC (c :: rest)).drop (1 * 1)).take ((rest.length + 1 - 1) * 1) = natC rest := by
              have : (natC (c :: rest)).drop (1 * 1) = natC rest := rfl
              rw [this, List.take_of_length_le (by rw [natC_len]; omega)]
            rw [e] at ho2
            exact ho2
          obtain ⟨M4, hp4⟩ := HSt4.out _ ho3 rfl
          have HP4 := Lib.hid hp4
          clear hp4 ho2 ho3 hoF
          go_wp2_with fail
          go_roundg rest.length
          case measure => have := HFl.out; omega
          case rel => exact ⟨M4, _, rfl, HF2, HP4⟩

end Go.Proofs.Ythinopiobihmaaa

namespace Go.Proofs.Ythinopiobihmaaa
open Go.ChangeShapes Go.WideShapes Go.ChangeAt Go.RowKit Go.Maps
set_option maxRecDepth 100000

def singlesTo (ls : List (List Int)) (i : Nat) : List Nat := (List.range i).filter fun j => (ls.getD j []).length == 1
theorem singlesTo_succ (ls : List (List Int)) (i : Nat) : singlesTo ls (i + 1) = if (ls.getD i []).length = 1 then singlesTo ls i ++ [i] else singlesTo ls i := by
  unfold singlesTo
  rw [List.range_succ, List.filter_append]
  by_cases h : (ls.getD i []).length = 1
  · rw [if_pos h]
    congr 1
    rw [List.filter_cons, if_pos (beq_iff_eq.2 h)]
    rfl
  · rw [if_neg h, List.filter_cons, if_neg (fun e => h (beq_iff_eq.1 e))]
    simp
theorem singlesTo_len (ls : List (List Int)) (i : Nat) : (singlesTo ls i).length ≤ i := by
  unfold singlesTo
  have := List.length_filter_le (fun j => (ls.getD j []).length == 1) (List.range i)
  simpa using this

set_option maxHeartbeats 2000000 in
theorem wback_any (w : World) (M : WM) (S : WS) (h : WAt w M S) (hg : Good S.n S.es) (hn : S.n ≤ 5000) (hll : S.ls.length ≤ 1000000) (hfl : S.fresh.length ≤ 10000000000000) (lv : Int) (hlv : I64 lv) :
    Calls Try.prog 31 #[.pointer (some ⟨M.x, 0, none⟩), .int .i64 lv] w fun e w' => e = .returned (.int .i64 (backS S lv).2) ∧ WUp 0 w w' M S (backS S lv).1 := by
  obtain ⟨i3, hi3, hz0, hz1, hz2⟩ := info_parts (P := Try.prog) (e := 3) (z := .int .i64 0) (size := 1) (bytes := 8) (by kernel_rfl)
  obtain ⟨R, hR⟩ : ∃ R, R = backS S lv := ⟨_, rfl⟩
  rw [← hR]
  unfold backS at hR
  have HV := back_any M.F M.g S.n S.es lv w (h.part .trail) hg hn hlv.1 hlv.2
  have HT : Hid (∀ w', TrUp w w' M.F M.g (trE S.n (backC S.es lv).2) → WUp 0 w w' M S (S.wEs (backC S.es lv).2)) := Lib.hid fun w' hT => h.trail hT
  obtain ⟨c0, _⟩ := h.cells
  generalize hrd : backC S.es lv = r at *
  obtain ⟨r1, es'⟩ := r
  have HRdef := Lib.hid hrd.symm
  clear hrd
  simp only at HV HT hR
  have HV := Lib.hid HV
  by_cases h0 : r1 = 0
  · subst h0
    rw [if_pos rfl] at hR
    have HR := Lib.hid hR
    clear h hR hg
    go_enter Try.func31, Try.ntmps31
    go_upto_region 6 with (go_at_call 50; (with_reducible refine HV.out.mono ?_); rintro e w1 ⟨rfl, hT⟩; have HU := Lib.hid (HT.out _ hT); clear hT)
    obtain ⟨M0, u1, u2, u3, u4, u5, u6⟩ := HU.out
    have k4 := u1.cells.2.2.2.2.1
    have kf := u1.cells.2.2.2.2.2.2 4
    rw [u2] at k4 kf
    obtain ⟨d1, d2, d3⟩ := u1.setDone 0
    rw [u2] at d1 d2
    have hoL : Own w1 26 1 M0.vL S.ls.length _ := u1.part .lits
    obtain ⟨aoL, capL, eL, _, _, _⟩ := hoL.form
    have k2 := d1.cells.2.2.1
    rw [u2, eL] at k2
    have HW0 : Hid (WAt (w1.setCell ⟨M.x, 4, none⟩ (.int .i64 0)) M0 ((S.wEs es').wDone 0)) := Lib.hid d1
    have HT0 := Lib.hid (touch_trans u4 u5 d2)
    have HA0 := Lib.hid (all_trans u4.size u5 d3)
    have HX0 := Lib.hid u2
    have HN0 := Lib.hid u3
    have HB0 := Lib.hid (u6 rfl)
    have HEL := Lib.hid eL
    clear u1 u2 u3 u4 u5 u6 d1 d2 d3 hoL eL HU
    obtain ⟨w2, hw2⟩ : ∃ w2, w2 = w1.setCell ⟨M.x, 4, none⟩ (.int .i64 0) := ⟨_, rfl⟩
    rw [show ((0 : Nat) : Int) = (0 : Int) from rfl] at *
    rw [← hw2] at k2 HW0 HT0
    go_upto_region 7 with fail
    rw [← hw2]
    clear hw2 k4 kf
    go_wp2_with fail
    go_loopw [28] (fun s wr => ∃ (i : Nat) (M1 : WM), i ≤ S.ls.length ∧ s = .int .i64 i ∧ Hid (WAt wr M1 (((S.wEs es').wDone 0).wFresh (S.fresh ++ singlesTo S.ls i))) ∧ Hid (M1.x = M.x) ∧ Hid (M1.nB ≤ M.nB + 0) ∧ Hid (M1.B = M.B) ∧ Hid (M1.vL = M0.vL) ∧ Hid (M1.L = M0.L) ∧
      Hid (Touch (M.all S) w wr) ∧ Hid (∀ k, M1.all (((S.wEs es').wDone 0).wFresh (S.fresh ++ singlesTo S.ls i)) k → M.all S k ∨ w.heap.size ≤ k)) (fun s _ => S.ls.length - (intOf s).toNat)
    case atStart => exact ⟨0, M0, by omega, rfl, Lib.hid (by simpa [singlesTo] using HW0.out), HX0, HN0, HB0, Lib.hid rfl, Lib.hid rfl, HT0, Lib.hid (by simpa [singlesTo] using HA0.out)⟩
    case round =>
      obtain ⟨i, M1, hi, rfl, HW, HX, HN, HB, HvL, HL, HTc, HA⟩ := hrel
      have hsl := singlesTo_len S.ls i
      by_cases hil : i < S.ls.length
      · have hii : (i : Int) < (S.ls.length : Int) := by omega
        have hss := singlesTo_succ S.ls i
        have hA1 := HW.out
        obtain ⟨_, _, q2, _, _, q5, qf⟩ := hA1.cells
        rw [HX.out] at q2 q5 qf
        have hoL : Own wr 26 1 M1.vL S.ls.length (rowV S.ls.length M1.L) := hA1.part .lits
        rw [HvL.out, HEL.out] at hoL
        obtain ⟨_, _, e, _, _, hfL⟩ := hoL.form
        injection e with e1 _ e2
        subst e1
        obtain ⟨bL, oL, rfl, hcL, _, _⟩ := hfL (by omega)
        have hcl := hcL i (by rw [rowV_len]; exact hil)
        rw [rowV_get _ _ _ hil] at hcl
        have hoR : Own wr 3 1 (M1.L i) (S.ls.getD i []).length (inC (S.ls.getD i [])) := hA1.part (.li i) hil
        obtain ⟨aoR, capR, eR, _, _, _⟩ := hoR.form
        rw [eR] at hcl
        have hoF : Own wr 3 1 M1.vF (S.fresh ++ singlesTo S.ls i).length (natC (S.fresh ++ singlesTo S.ls i)) := hA1.part .fresh
        obtain ⟨aoF, capF, eF, _, _, _⟩ := hoF.form
        rw [eF] at q5 hoF
        have hfl2 : (S.fresh ++ singlesTo S.ls i).length ≤ 10000001000000 := by rw [List.length_append]; omega
        obtain ⟨fr, hfr⟩ : ∃ fr, fr = S.fresh ++ singlesTo S.ls i := ⟨_, rfl⟩
        by_cases h1 : (S.ls.getD i []).length = 1
        · rw [if_pos h1] at hss
          have hbl : Blk wr M1.x 81 _ := hA1.part .self
          have hxf : (Value.slice aoF (S.fresh ++ singlesTo S.ls i).length capF).ownBlock ≠ some M.x := fun e => by
            have := hA1.dis .fresh .self M1.x (by rw [HX.out]; show M1.vF.ownBlock = _; rw [eF]; exact e) rfl
            cases this
          have HFr : Hid (∀ w5 v', Own w5 3 1 v' (fr.length + 1) (natC fr ++ [.int .i64 (i : Int)]) → (wr.alloc (.cells #[.int .i64 (i : Int)] 3)).grownBy w5 (Value.slice aoF fr.length capF).ownBlock → (v'.ownBlock = (Value.slice aoF fr.length capF).ownBlock ∨ v'.ownBlock = some (wr.alloc (.cells #[.int .i64 (i : Int)] 3)).heap.size) →
              w5.cell? ⟨M.x, 5, none⟩ = some (.slice aoF fr.length capF) ∧ w5.frozen? ⟨M.x, 5, none⟩ = false ∧
              Hid (∃ M2 : WM, WAt (w5.setCell ⟨M.x, 5, none⟩ v') M2 (((S.wEs es').wDone 0).wFresh (S.fresh ++ singlesTo S.ls (i + 1))) ∧ M2.x = M.x ∧ M2.nB ≤ M.nB + 0 ∧ M2.B = M.B ∧ M2.vL = M0.vL ∧ M2.L = M0.L ∧ Touch (M.all S) w (w5.setCell ⟨M.x, 5, none⟩ v') ∧
                ∀ k, M2.all (((S.wEs es').wDone 0).wFresh (S.fresh ++ singlesTo S.ls (i + 1))) k → M.all S k ∨ w.heap.size ≤ k)) := Lib.hid fun w5 v' ho hg hat => by
            have hal : Below wr.heap.size wr (wr.alloc (.cells #[.int .i64 (i : Int)] 3)) := (Below.refl _ _).alloc (Nat.le_refl _) _
            have ht : Touch (fun k => M1.vF.ownBlock = some k) wr w5 := (Touch.of_below hal fun k => M1.vF.ownBlock = some k).trans (Touch.of_grown (F := fun k => M1.vF.ownBlock = some k) hg fun k hk => by rw [eF, ← hfr]; exact hk) fun _ _ hk => hk
            have hxw : M1.x < wr.heap.size := hbl.lt
            have hxn : ¬ M1.vF.ownBlock = some M1.x := fun e => by
              have := hA1.dis .fresh .self M1.x e rfl
              cases this
            have hxe := HX.out
            obtain ⟨s1, s2, s3⟩ := hA1.setFresh (fr := fr ++ [i]) ht (by rw [natC_snoc, List.length_append]; exact ho) (fun k hk => by
              rcases hat with e | e
              · exact .inl (by rw [eF, ← hfr]; exact e ▸ hk)
              · rw [e] at hk
                injection hk with hk
                exact .inr (by simp at hk; omega))
            have hres : S.fresh ++ singlesTo S.ls (i + 1) = fr ++ [i] := by rw [hss, hfr, List.append_assoc]
            rw [hres]
            refine ⟨(ht.cell (p := ⟨M.x, 5, none⟩) (by rw [← hxe]; exact hxw) (by rw [← hxe]; exact hxn)).trans (by rw [hfr]; exact q5), (ht.frozen (p := ⟨M.x, 5, none⟩) (by rw [← hxe]; exact hxw) (by rw [← hxe]; exact hxn)).trans (qf 5), Lib.hid ⟨{ M1 with vF := v' }, ?_, hxe, HN.out, HB.out, HvL.out, HL.out, ?_, ?_⟩⟩
            · rw [← hxe]; exact s1
            · rw [← hxe]; exact touch_trans HTc.out HA.out s2
            · exact all_trans HTc.out.size HA.out s3
          have HOF := Lib.hid (hoF.alloc (.cells #[.int .i64 (i : Int)] 3))
          rw [← hfr] at HOF q5 hfl2
          rw [h1] at hcl
          clear hss hA1 hoL hfL hcL hoR eR hoF eF hbl hxf hfr h1 e2 hsl
          go_wp2_with (at_builtin; refine wpList_append_S _ rfl (.tmp 40) (.tmp 42) _ _ rfl 3 i3 _ 1 8 Try.underlying26 hi3 hz0 hz1 hz2 rfl (by omega) (.slice aoF fr.length capF) fr.length (natC fr) rfl HOF.out (natC_one _) _ 1 [_] rfl (src_new wr Try.underlying26 3 _ rfl) (by simp only [maxLen]; omega) (by omega) ?_; intro ao2 cap2 w5 hn5 hm5 hown5 hg5 hat5 hlt5; obtain ⟨g1, g2, g3⟩ := HFr.out _ _ hown5 hg5 hat5; clear hown5 hg5 hat5 hlt5 hn5 hm5)
          go_roundw
          case rel =>
            obtain ⟨M2, m1, m2, m3, m4, m5, m6, m7, m8⟩ := g3.out
            exact ⟨i + 1, M2, by omega, by go_num, Lib.hid m1, Lib.hid m2, Lib.hid m3, Lib.hid m4, Lib.hid m5, Lib.hid m6, Lib.hid m7, Lib.hid m8⟩
          case measure => simp [intOf]; omega
        · rw [if_neg h1] at hss
          have hb1 : (((S.ls.getD i []).length : Int) == 1) = false := by
            rw [beq_eq_false_iff_ne]
            intro e
            exact h1 (by omega)
          have HSs := Lib.hid hss
          generalize (S.ls.getD i []).length = ll at *
          clear hss hA1 hoL hfL hcL hoR eR hoF eF hfr h1 e2 hsl
          go_wp2_with fail
          go_roundw
          case rel => exact ⟨i + 1, M1, by omega, by go_num, Lib.hid (by rw [HSs.out]; exact HW.out), HX, HN, HB, HvL, HL, HTc, Lib.hid (by rw [HSs.out]; exact HA.out)⟩
          case measure => simp [intOf]; omega
      · obtain rfl : i = S.ls.length := by omega
        obtain rfl := HR.out
        clear hsl
        go_wp2_with fail
        go_ret
        exact ⟨rfl, M1, HW.out, HX.out, HN.out, HTc.out, HA.out, fun _ => HB.out⟩
  · rw [if_neg h0] at hR
    subst hR
    have h0b : (r1 != 0) = true := by simpa using h0
    have HU : Hid (∀ w', TrUp w w' M.F M.g (trE S.n S.es) → WUp 0 w w' M S S) := Lib.hid fun w' hT => h.trail hT
    have HEs : Hid (es' = S.es) := Lib.hid (by
      have e : (r1, es') = backC S.es lv := HRdef.out
      unfold backC at e
      split at e
      · injection e
      · injection e with e _
        exact absurd e h0)
    clear h hg HT h0
    go_enter Try.func31, Try.ntmps31
    go_wp2_with (go_at_call 50; (with_reducible refine HV.out.mono ?_); rintro e w1 ⟨rfl, hT⟩)
    go_ret
    exact ⟨rfl, HU.out _ (by rw [← HEs.out]; exact hT)⟩

end Go.Proofs.Ythinopiobihmaaa

namespace Go.Proofs.Ythinopiobihmaaa
open Go.ChangeShapes Go.WideShapes Go.ChangeAt Go.RowKit Go.Maps
set_option maxRecDepth 100000

theorem index_any (v : Int) (l : List Int) (ao : Option Addr) (cap : Nat) (w : World) (hl : l.length ≤ 4611686018427387904)
    (hc : 0 < l.length → ∃ b off, ao = some ⟨b, off, none⟩ ∧ ∀ j (h : j < l.length), w.cell? ⟨b, off + j, none⟩ = some (.int .i64 l[j])) :
    Calls Try.prog 74 #[.slice ao l.length cap, .int .i64 v] w fun e w' => e = .returned (.int .i64 (firstAt (fun x => x == v) l 0)) ∧ w = w' := by
  obtain ⟨T, hT⟩ : ∃ T, T = firstAt (fun x => x == v) l 0 := ⟨_, rfl⟩
  have HT := Lib.hid hT
  rw [← hT]
  clear hT
  go_enter Try.func74, Try.ntmps74
  go_wp2_with fail
  go_loop [8] (fun i => ∃ k : Nat, k ≤ l.length ∧ i = .int .i64 k ∧ T = firstAt (fun x => x == v) (l.drop k) k) (fun i => l.length - (intOf i).toNat)
  case atStart => exact ⟨0, by omega, rfl, HT.out⟩
  case round =>
    obtain ⟨k, hk, rfl, hrest⟩ := hrel
    by_cases hlt : k < l.length
    · obtain ⟨b, off, rfl, hcell⟩ := hc (by omega)
      have hck := hcell k hlt
      have hki : (k : Int) < (l.length : Int) := by omega
      rw [List.drop_eq_getElem_cons hlt] at hrest
      unfold firstAt at hrest
      generalize l[k] = x at *
      by_cases hx : x = v
      · subst hx
        rw [if_pos (by simp)] at hrest
        subst hrest
        clear hc hcell
        go_wp2_with fail
        go_ret
        exact ⟨rfl, rfl⟩
      · rw [if_neg (by simpa using hx)] at hrest
        have h1 : (x == v) = false := by simpa using hx
        have h2 : (v == x) = false := by simp; omega
        have HR := Lib.hid hrest
        clear hc hcell hrest
        go_wp2_with fail
        go_round
        case rel => exact ⟨k + 1, by omega, by go_num, HR.out⟩
        case measure => simp [intOf]; omega
    · obtain rfl : k = l.length := by omega
      have hT : T = -1 := by rw [hrest, List.drop_length]; rfl
      subst hT
      clear hrest hc
      go_wp2_with fail
      go_ret
      exact ⟨rfl, rfl⟩

theorem contains_any (v : Int) (l : List Int) (ao : Option Addr) (cap : Nat) (w : World) (hl : l.length ≤ 4611686018427387904)
    (hc : 0 < l.length → ∃ b off, ao = some ⟨b, off, none⟩ ∧ ∀ j (h : j < l.length), w.cell? ⟨b, off + j, none⟩ = some (.int .i64 l[j])) :
    Calls Try.prog 59 #[.slice ao l.length cap, .int .i64 v] w fun e w' => e = .returned (.bool (l.any fun x => x == v)) ∧ w = w' := by
  have HI := Lib.hid (index_any v l ao cap w hl hc)
  have h := firstAt_any (fun x => x == v) l 0
  generalize firstAt (fun x => x == v) l 0 = r at *
  rw [← h]
  clear h hc
  go_enter Try.func59, Try.ntmps59
  go_wp2_with (go_at_call 74; refine HI.out.mono ?_; rintro e w' ⟨rfl, rfl⟩)
  go_ret
  exact ⟨rfl, rfl⟩

/-! ### Numbers that are read -/
def Ints (w : World) (ao : Option Addr) (l : List Int) : Prop :=
  0 < l.length → ∃ b off, ao = some ⟨b, off, none⟩ ∧ b < w.heap.size ∧ ∀ j (h : j < l.length), w.cell? ⟨b, off + j, none⟩ = some (.int .i64 l[j])
theorem Ints.below {w w' : World} {ao : Option Addr} {l : List Int} (h : Ints w ao l) (hb : Below w.heap.size w w') : Ints w' ao l := fun h0 => by
  obtain ⟨b, off, e, hbl, hc⟩ := h h0
  exact ⟨b, off, e, Nat.lt_of_lt_of_le hbl hb.size, fun j hj => (World.cell?_of_block (w := w) (hb.block b hbl)).trans (hc j hj)⟩
theorem Ints.touch {w w' : World} {F : Nat → Prop} {ao : Option Addr} {l : List Int} (h : Ints w ao l) (ht : Touch F w w') (hF : ∀ b off, ao = some ⟨b, off, none⟩ → ¬ F b) : Ints w' ao l := fun h0 => by
  obtain ⟨b, off, e, hbl, hc⟩ := h h0
  exact ⟨b, off, e, Nat.lt_of_lt_of_le hbl ht.size, fun j hj => (ht.cell (p := ⟨b, off + j, none⟩) hbl (hF b off e)).trans (hc j hj)⟩
theorem Own.ints {w : World} {v : Value} {l : List Int} (h : Own w 3 1 v l.length (inC l)) : ∃ ao cap, v = .slice ao l.length cap ∧ Ints w ao l := by
  obtain ⟨ao, cap, e, _, _, hf⟩ := h.form
  refine ⟨ao, cap, e, fun h0 => ?_⟩
  obtain ⟨g, off, e2, hc, _, hg⟩ := hf h0
  exact ⟨g, off, e2, hg, fun j hj => by rw [hc j (by rw [inC_len]; exact hj), inC_getD _ _ hj]; simp [List.getD, hj]⟩
theorem ints_src {w : World} {ao : Option Addr} {l : List Int} (c : Nat) (h : Ints w ao l) : Src Try.prog 1 26 (.slice ao l.length c) l.length (inC l) w := by
  rcases Nat.eq_zero_or_pos l.length with h0 | h0
  · have hx : l = [] := List.eq_nil_of_length_eq_zero h0
    subst hx
    cases ao with
    | none => exact Src.ofNil w Try.underlying26 c
    | some a => exact Src.ofSlice w Try.underlying26 a 0 c [] rfl (fun j u hu => by simp at hu) (by simp)
  · obtain ⟨g, off, rfl, _, hc⟩ := h h0
    refine Src.ofSlice w Try.underlying26 ⟨g, off, none⟩ l.length c (inC l) (by simp [inC]) (fun j u hu => ?_) (in_one l)
    have hj : j < l.length := by have := (List.getElem?_eq_some_iff.1 hu).1; simpa [inC] using this
    have ha : (⟨g, off, none⟩ : Addr).add j = ⟨g, off + j, none⟩ := by unfold Addr.add; split <;> simp_all
    rw [ha, hc j hj, ← hu]
    simp [inC, hj]

theorem cloneR_any (ao : Option Addr) (l : List Int) (cap : Nat) (w : World) (hI : Ints w ao l) (hn : l.length ≤ 5000) :
    Calls Try.prog 60 #[.slice ao l.length cap] w fun e w' => ∃ v', e = .returned v' ∧ Own w' 3 1 v' l.length (inC l) ∧ Below w.heap.size w w' ∧ ∀ k, v'.ownBlock = some k → w.heap.size ≤ k := by
  obtain ⟨i, hi, hz0, hz1, hz2⟩ := info_parts (P := Try.prog) (e := 3) (z := .int .i64 0) (size := 1) (bytes := 8) (by kernel_rfl)
  cases ao with
  | none =>
    have h0 : l.length = 0 := by
      rcases Nat.eq_zero_or_pos l.length with h | h
      · exact h
      · obtain ⟨_, _, e, _⟩ := hI h
        cases e
    obtain rfl : l = [] := List.eq_nil_of_length_eq_zero h0
    have hbo : ∀ W, Sem.run Try.prog (binOp BinOp.eql 26 (Value.slice none 0 cap) (Value.slice none 0 0)) W = .ok (.bool true) W := fun W => by kernel_rfl
    go_enter Try.func60, Try.ntmps60
    go_wp2_with fail
    go_ret
    exact ⟨_, rfl, Own.nil _ _ _, Below.refl _ _, fun k hk => by simp [Value.ownBlock] at hk⟩
  | some ad =>
    have hE : Own (w.alloc (.cells #[] 3)) 3 1 (.slice (some ⟨w.heap.size, 0, none⟩) 0 0) 0 [] := Own.made w 3 1 #[] 0 rfl (by decide)
    have hal : Below w.heap.size w (w.alloc (.cells #[] 3)) := (Below.refl _ _).alloc (Nat.le_refl _) _
    have hS := ints_src cap (hI.below hal)
    have hbo : ∀ (n : Nat) W, Sem.run Try.prog (binOp BinOp.eql 26 (Value.slice (some ad) n cap) (Value.slice none 0 0)) W = .ok (.bool false) W := fun n W => by kernel_rfl
    clear hI hal
    go_enter Try.func60, Try.ntmps60
    go_wp2_with (at_builtin; go_loud (refine wpList_append_S _ rfl (.tmp 5) (.tmp 6) _ _ rfl 3 i _ 1 8 Try.underlying26 hi hz0 hz1 hz2 rfl (by omega) (.slice (some ⟨w.heap.size, 0, none⟩) 0 0) 0 [] rfl hE (by simp) _ l.length _ rfl hS (by simp only [maxLen]; omega) (by omega) ?_); intro ao2 cap2 w1 hn1 hm1 hown1 hg1 hat1 hlt1)
    go_ret
    have hb : Below w.heap.size w w1 := ((Below.refl w.heap.size w).alloc (Nat.le_refl _) _).trans ⟨hg1.os, hg1.tape, hg1.output, Nat.le_trans (by simp) hg1.size, fun k hk => hg1.block k (by simp; omega) (by simp [Value.ownBlock]; omega)⟩
    refine ⟨.slice ao2 l.length cap2, rfl, ?_, hb, fun k hk => ?_⟩
    · simpa using hown1
    · rcases hat1 with h | h
      · rw [Nat.zero_add] at h
        rw [h] at hk
        simp [Value.ownBlock] at hk
        omega
      · rw [Nat.zero_add] at h
        rw [h] at hk
        injection hk with hk
        simp at hk
        omega

theorem rowV_snoc (n : Nat) (f : Nat → Value) (v : Value) : rowV (n + 1) (fun i => if i = n then v else f i) = rowV n f ++ [v] := by
  unfold rowV
  rw [List.range_succ, List.map_append]
  congr 1
  · apply List.map_congr_left
    intro i hi
    have := List.mem_range.1 hi
    rw [if_neg (by omega)]
  · simp

section
variable {w : World} {M : WM} {S : WS}
/-- A clause more: v, its row; vC', the rows anew. -/
theorem WAt.addCl (N : Nat → Prop) (hN : ∀ k, N k → ¬ M.all S k) (h : WAt w M S) {w1 : World} {v vC' : Value} {c : List Int} (ht : Touch (fun k => M.vC.ownBlock = some k) w w1) (hv : Own w1 3 1 v c.length (inC c))
    (hvN : ∀ k, v.ownBlock = some k → N k) (ho : Own w1 26 1 vC' (S.cl.length + 1) (rowV S.cl.length M.C ++ [v])) (hat : ∀ k, vC'.ownBlock = some k → M.vC.ownBlock = some k ∨ N k) :
    WAt (w1.setCell ⟨M.x, 1, none⟩ vC') { M with vC := vC', C := fun i => if i = S.cl.length then v else M.C i } ⟨S.n, S.es, S.cl ++ [c], S.ls, S.by_, S.done, S.fresh⟩ ∧ Touch (M.all S) w (w1.setCell ⟨M.x, 1, none⟩ vC') ∧
      ∀ k, WM.all { M with vC := vC', C := fun i => if i = S.cl.length then v else M.C i } ⟨S.n, S.es, S.cl ++ [c], S.ls, S.by_, S.done, S.fresh⟩ k → M.all S k ∨ N k := by
  have hb : Blk w M.x 81 _ := h.part .self
  have hxf : ¬ M.vC.ownBlock = some M.x := fun e => by
    have := h.dis .cls .self M.x e rfl
    cases this
  have hb1 := hb.touch ht hxf
  have hxv : vC'.ownBlock ≠ some M.x := fun e => by
    rcases hat _ e with h1 | h1
    · exact hxf h1
    · exact hN _ h1 ⟨.self, rfl⟩
  have hxr : v.ownBlock ≠ some M.x := fun e => hN _ (hvN _ e) ⟨.self, rfl⟩
  have ht2 : Touch (fun k => ∃ t, (t = Tag.self ∨ t = Tag.cls ∨ t = Tag.cl S.cl.length) ∧ M.own S t k) w (w1.setCell ⟨M.x, 1, none⟩ vC') :=
    (ht.mono (G := fun k => ∃ t, (t = Tag.self ∨ t = Tag.cls ∨ t = Tag.cl S.cl.length) ∧ M.own S t k) fun k _ hk => ⟨.cls, .inr (.inl rfl), hk⟩).setCell (p := ⟨M.x, 1, none⟩) (fun _ => ⟨.self, .inl rfl, rfl⟩) _
  have ho2 := ho.far (p := ⟨M.x, 1, none⟩) hxv vC'
  have hv2 := hv.far (p := ⟨M.x, 1, none⟩) hxr vC'
  have hvv : v.ownBlock = none ∨ v.ownBlock ≠ vC'.ownBlock := hv.ne_own ho (by decide)
  have hlen : (S.cl ++ [c]).length = S.cl.length + 1 := by simp
  refine WAt.updN (M' := { M with vC := vC', C := fun i => if i = S.cl.length then v else M.C i }) (S' := ⟨S.n, S.es, S.cl ++ [c], S.ls, S.by_, S.done, S.fresh⟩) (fun t => t = .self ∨ t = .cls ∨ t = .cl S.cl.length) N h hN ht2 (fun t ht hp => ?_) (fun t ht => ?_) (fun t ht k hk => ?_) (fun t ht k hk => ?_) (fun t ht k hk => ?_) (fun t t' ht ht' k h1 h2 => ?_)
  · cases t with
    | self => exact absurd (.inl rfl) ht
    | cls => exact absurd (.inr (.inl rfl)) ht
    | cl i =>
      have hic : i ≠ S.cl.length := fun e => ht (.inr (.inr (by rw [e])))
      intro hi
      have hi' : i < (S.cl ++ [c]).length := hi
      show Own _ 3 1 (if i = S.cl.length then v else M.C i) ((S.cl ++ [c]).getD i []).length (inC ((S.cl ++ [c]).getD i []))
      rw [if_neg hic, getD_snoc, if_pos (by omega)]
      exact hp (by omega)
    | _ => exact hp
  · rcases ht with rfl | rfl | rfl
    · exact hb1.set_ 1 vC'
    · show Own _ 26 1 vC' (S.cl ++ [c]).length (rowV (S.cl ++ [c]).length _)
      rw [hlen, rowV_snoc]
      exact ho2
    · intro _
      show Own _ 3 1 (if S.cl.length = S.cl.length then v else M.C S.cl.length) ((S.cl ++ [c]).getD S.cl.length []).length (inC ((S.cl ++ [c]).getD S.cl.length []))
      rw [if_pos rfl, getD_snoc, if_neg (by omega), if_pos rfl]
      exact hv2
  · cases t with
    | self => exact absurd (.inl rfl) ht
    | cls => exact absurd (.inr (.inl rfl)) ht
    | cl i =>
      have hic : i ≠ S.cl.length := fun e => ht (.inr (.inr (by rw [e])))
      obtain ⟨h1, h2⟩ := hk
      have h1' : i < (S.cl ++ [c]).length := h1
      have h2' : (if i = S.cl.length then v else M.C i).ownBlock = some k := h2
      rw [if_neg hic] at h2'
      exact ⟨by omega, h2'⟩
    | _ => exact hk
  · rcases ht with rfl | rfl | rfl
    · exact .inl ⟨.self, .inl rfl, hk⟩
    · rcases hat k hk with h1 | h1
      · exact .inl ⟨.cls, .inr (.inl rfl), h1⟩
      · exact .inr h1
    · have h2' : (if S.cl.length = S.cl.length then v else M.C S.cl.length).ownBlock = some k := hk.2
      rw [if_pos rfl] at h2'
      exact .inr (hvN k h2')
  · rcases ht with rfl | rfl | rfl
    · have hk' : k = M.x := hk
      subst hk'
      exact (hb1.set_ 1 vC').lt
    · exact ho2.lt k hk
    · have h2' : (if S.cl.length = S.cl.length then v else M.C S.cl.length).ownBlock = some k := hk.2
      rw [if_pos rfl] at h2'
      exact hv2.lt k h2'
  · have hcl : ∀ k, WM.own { M with vC := vC', C := fun i => if i = S.cl.length then v else M.C i } ⟨S.n, S.es, S.cl ++ [c], S.ls, S.by_, S.done, S.fresh⟩ (.cl S.cl.length) k → v.ownBlock = some k := fun k hk => by
      have h2' : (if S.cl.length = S.cl.length then v else M.C S.cl.length).ownBlock = some k := hk.2
      rwa [if_pos rfl] at h2'
    rcases ht with rfl | rfl | rfl <;> rcases ht' with rfl | rfl | rfl
    · rfl
    · cases h1; exact absurd h2 hxv
    · cases h1; exact absurd (hcl _ h2) hxr
    · cases h2; exact absurd h1 hxv
    · rfl
    · have h3 := hcl _ h2
      rcases hvv with e | e
      · rw [e] at h3; cases h3
      · exact absurd (h3.trans (show vC'.ownBlock = some k from h1).symm) e
    · cases h2; exact absurd (hcl _ h1) hxr
    · have h3 := hcl _ h1
      rcases hvv with e | e
      · rw [e] at h3; cases h3
      · exact absurd (h3.trans (show vC'.ownBlock = some k from h2).symm) e
    · rfl
/-- A row more. -/
theorem WAt.addLi (N : Nat → Prop) (hN : ∀ k, N k → ¬ M.all S k) (h : WAt w M S) {w1 : World} {v vL' : Value} {c : List Int} (ht : Touch (fun k => M.vL.ownBlock = some k) w w1) (hv : Own w1 3 1 v c.length (inC c))
    (hvN : ∀ k, v.ownBlock = some k → N k) (ho : Own w1 26 1 vL' (S.ls.length + 1) (rowV S.ls.length M.L ++ [v])) (hat : ∀ k, vL'.ownBlock = some k → M.vL.ownBlock = some k ∨ N k) :
    WAt (w1.setCell ⟨M.x, 2, none⟩ vL') { M with vL := vL', L := fun i => if i = S.ls.length then v else M.L i } ⟨S.n, S.es, S.cl, S.ls ++ [c], S.by_, S.done, S.fresh⟩ ∧ Touch (M.all S) w (w1.setCell ⟨M.x, 2, none⟩ vL') ∧
      ∀ k, WM.all { M with vL := vL', L := fun i => if i = S.ls.length then v else M.L i } ⟨S.n, S.es, S.cl, S.ls ++ [c], S.by_, S.done, S.fresh⟩ k → M.all S k ∨ N k := by
  have hb : Blk w M.x 81 _ := h.part .self
  have hxf : ¬ M.vL.ownBlock = some M.x := fun e => by
    have := h.dis .lits .self M.x e rfl
    cases this
  have hb1 := hb.touch ht hxf
  have hxv : vL'.ownBlock ≠ some M.x := fun e => by
    rcases hat _ e with h1 | h1
    · exact hxf h1
    · exact hN _ h1 ⟨.self, rfl⟩
  have hxr : v.ownBlock ≠ some M.x := fun e => hN _ (hvN _ e) ⟨.self, rfl⟩
  have ht2 : Touch (fun k => ∃ t, (t = Tag.self ∨ t = Tag.lits ∨ t = Tag.li S.ls.length) ∧ M.own S t k) w (w1.setCell ⟨M.x, 2, none⟩ vL') :=
    (ht.mono (G := fun k => ∃ t, (t = Tag.self ∨ t = Tag.lits ∨ t = Tag.li S.ls.length) ∧ M.own S t k) fun k _ hk => ⟨.lits, .inr (.inl rfl), hk⟩).setCell (p := ⟨M.x, 2, none⟩) (fun _ => ⟨.self, .inl rfl, rfl⟩) _
  have ho2 := ho.far (p := ⟨M.x, 2, none⟩) hxv vL'
  have hv2 := hv.far (p := ⟨M.x, 2, none⟩) hxr vL'
  have hvv : v.ownBlock = none ∨ v.ownBlock ≠ vL'.ownBlock := hv.ne_own ho (by decide)
  have hlen : (S.ls ++ [c]).length = S.ls.length + 1 := by simp
  refine WAt.updN (M' := { M with vL := vL', L := fun i => if i = S.ls.length then v else M.L i }) (S' := ⟨S.n, S.es, S.cl, S.ls ++ [c], S.by_, S.done, S.fresh⟩) (fun t => t = .self ∨ t = .lits ∨ t = .li S.ls.length) N h hN ht2 (fun t ht hp => ?_) (fun t ht => ?_) (fun t ht k hk => ?_) (fun t ht k hk => ?_) (fun t ht k hk => ?_) (fun t t' ht ht' k h1 h2 => ?_)
  · cases t with
    | self => exact absurd (.inl rfl) ht
    | lits => exact absurd (.inr (.inl rfl)) ht
    | li i =>
      have hic : i ≠ S.ls.length := fun e => ht (.inr (.inr (by rw [e])))
      intro hi
      have hi' : i < (S.ls ++ [c]).length := hi
      show Own _ 3 1 (if i = S.ls.length then v else M.L i) ((S.ls ++ [c]).getD i []).length (inC ((S.ls ++ [c]).getD i []))
      rw [if_neg hic, getD_snoc, if_pos (by omega)]
      exact hp (by omega)
    | _ => exact hp
  · rcases ht with rfl | rfl | rfl
    · exact hb1.set_ 2 vL'
    · show Own _ 26 1 vL' (S.ls ++ [c]).length (rowV (S.ls ++ [c]).length _)
      rw [hlen, rowV_snoc]
      exact ho2
    · intro _
      show Own _ 3 1 (if S.ls.length = S.ls.length then v else M.L S.ls.length) ((S.ls ++ [c]).getD S.ls.length []).length (inC ((S.ls ++ [c]).getD S.ls.length []))
      rw [if_pos rfl, getD_snoc, if_neg (by omega), if_pos rfl]
      exact hv2
  · cases t with
    | self => exact absurd (.inl rfl) ht
    | lits => exact absurd (.inr (.inl rfl)) ht
    | li i =>
      have hic : i ≠ S.ls.length := fun e => ht (.inr (.inr (by rw [e])))
      obtain ⟨h1, h2⟩ := hk
      have h1' : i < (S.ls ++ [c]).length := h1
      have h2' : (if i = S.ls.length then v else M.L i).ownBlock = some k := h2
      rw [if_neg hic] at h2'
      exact ⟨by omega, h2'⟩
    | _ => exact hk
  · rcases ht with rfl | rfl | rfl
    · exact .inl ⟨.self, .inl rfl, hk⟩
    · rcases hat k hk with h1 | h1
      · exact .inl ⟨.lits, .inr (.inl rfl), h1⟩
      · exact .inr h1
    · have h2' : (if S.ls.length = S.ls.length then v else M.L S.ls.length).ownBlock = some k := hk.2
      rw [if_pos rfl] at h2'
      exact .inr (hvN k h2')
  · rcases ht with rfl | rfl | rfl
    · have hk' : k = M.x := hk
      subst hk'
      exact (hb1.set_ 2 vL').lt
    · exact ho2.lt k hk
    · have h2' : (if S.ls.length = S.ls.length then v else M.L S.ls.length).ownBlock = some k := hk.2
      rw [if_pos rfl] at h2'
      exact hv2.lt k h2'
  · have hcl : ∀ k, WM.own { M with vL := vL', L := fun i => if i = S.ls.length then v else M.L i } ⟨S.n, S.es, S.cl, S.ls ++ [c], S.by_, S.done, S.fresh⟩ (.li S.ls.length) k → v.ownBlock = some k := fun k hk => by
      have h2' : (if S.ls.length = S.ls.length then v else M.L S.ls.length).ownBlock = some k := hk.2
      rwa [if_pos rfl] at h2'
    rcases ht with rfl | rfl | rfl <;> rcases ht' with rfl | rfl | rfl
    · rfl
    · cases h1; exact absurd h2 hxv
    · cases h1; exact absurd (hcl _ h2) hxr
    · cases h2; exact absurd h1 hxv
    · rfl
    · have h3 := hcl _ h2
      rcases hvv with e | e
      · rw [e] at h3; cases h3
      · exact absurd (h3.trans (show vL'.ownBlock = some k from h1).symm) e
    · cases h2; exact absurd (hcl _ h1) hxr
    · have h3 := hcl _ h1
      rcases hvv with e | e
      · rw [e] at h3; cases h3
      · exact absurd (h3.trans (show vL'.ownBlock = some k from h2).symm) e
    · rfl
end

end Go.Proofs.Ythinopiobihmaaa

namespace Go.Proofs.Ythinopiobihmaaa
open Go.ChangeShapes Go.WideShapes Go.ChangeAt Go.RowKit Go.Maps
set_option maxRecDepth 100000

theorem ded_take {l : List Int} (k : Nat) (h : k < l.length) : dedL (l.take (k + 1)) = if (dedL (l.take k)).any (fun y => y == l[k]) = true then dedL (l.take k) else dedL (l.take k) ++ [l[k]] := by
  unfold dedL
  rw [List.take_succ_eq_append_getElem h, List.foldl_append]
  rfl
theorem ded_len_go (l : List Int) : ∀ a : List Int, (l.foldl (fun a x => if a.any (fun y => y == x) then a else a ++ [x]) a).length ≤ a.length + l.length := by
  induction l with
  | nil => intro a; simp
  | cons x r ih =>
    intro a
    rw [List.foldl_cons]
    refine Nat.le_trans (ih _) ?_
    by_cases h : a.any (fun y => y == x) = true
    · rw [if_pos h, List.length_cons]; omega
    · rw [if_neg h, List.length_cons, List.length_append]; simp; omega
theorem ded_len (l : List Int) : (dedL l).length ≤ l.length := by
  have := ded_len_go l []
  simpa [dedL] using this
theorem any_known (n : Nat) (c : List Int) : (c.any fun x => !decide (1 ≤ x.natAbs ∧ x.natAbs ≤ n)) = !knownS n c := by
  unfold knownS
  induction c with
  | nil => rfl
  | cons x r ih => rw [List.any_cons, List.all_cons, ih, Bool.not_and]

/-- The state while Add goes on. -/
structure AdSt (W wr : World) (M M1 : WM) (S S1 : WS) (d : Nat) : Prop where
  at_ : WAt wr M1 S1
  x : M1.x = M.x
  nb : M1.nB ≤ M.nB + d
  touch : Touch (M.all S) W wr
  all : ∀ k, M1.all S1 k → M.all S k ∨ W.heap.size ≤ k

section
variable {W wr : World} {M M1 : WM} {S S1 : WS} {d : Nat}
theorem AdSt.start (h : WAt W M S) (hb : Below W.heap.size W wr) : AdSt W wr M M S S 0 := ⟨h.below hb, rfl, Nat.le_refl _, Touch.of_below hb _, fun _ hk => .inl hk⟩
theorem AdSt.up (h : AdSt W wr M M1 S S1 d) {d' : Nat} (hd : d ≤ d') (h0 : d' ≠ 0) : WUp d' W wr M S S1 := ⟨M1, h.at_, h.x, by have := h.nb; omega, h.touch, h.all, fun e => absurd e h0⟩
theorem AdSt.call (h : AdSt W wr M M1 S S1 d) {d' : Nat} {w' : World} {S2 : WS} (hu : WUp d' wr w' M1 S1 S2) : ∃ M2, AdSt W w' M M2 S S2 (d + d') := by
  obtain ⟨M2, u1, u2, u3, u4, u5, _⟩ := hu
  exact ⟨M2, u1, u2.trans h.x, by have := h.nb; omega, touch_trans h.touch h.all u4, all_trans h.touch.size h.all u5⟩

/-- A clause is laid beside the others. -/
theorem AdSt.cls (h : AdSt W wr M M1 S S1 d) {w6 wA w10 : World} {v v' : Value} {c : List Int} (h6 : Below wr.heap.size wr w6) (hv : Own w6 3 1 v c.length (inC c)) (hvn : ∀ k, v.ownBlock = some k → wr.heap.size ≤ k)
    (hA : Below w6.heap.size w6 wA) (ho : Own w10 26 1 v' (S1.cl.length + 1) (rowV S1.cl.length M1.C ++ [v])) (hg : wA.grownBy w10 M1.vC.ownBlock) (hat : v'.ownBlock = M1.vC.ownBlock ∨ v'.ownBlock = some wA.heap.size) :
    Touch (fun k => M1.vC.ownBlock = some k) wr w10 ∧ AdSt W (w10.setCell ⟨M.x, 1, none⟩ v') M { M1 with vC := v', C := fun i => if i = S1.cl.length then v else M1.C i } S ⟨S1.n, S1.es, S1.cl ++ [c], S1.ls, S1.by_, S1.done, S1.fresh⟩ d := by
  have t1 : Touch (fun k => M1.vC.ownBlock = some k) w6 w10 := (Touch.of_below hA fun k => M1.vC.ownBlock = some k).trans (Touch.of_grown (F := fun k => M1.vC.ownBlock = some k) hg fun k hk => hk) fun _ _ hk => hk
  have t2 : Touch (fun k => M1.vC.ownBlock = some k) wr w10 := (Touch.of_below h6 fun k => M1.vC.ownBlock = some k).trans t1 fun _ _ hk => hk
  have hv2 : Own w10 3 1 v c.length (inC c) := hv.touch t1 fun k hk e => by
    have h1 := hvn k hk
    have h2 := h.at_.lt .cls k e
    omega
  obtain ⟨s1, s2, s3⟩ := h.at_.addCl (fun k => wr.heap.size ≤ k) (fun k hk ⟨t, ht⟩ => by have := h.at_.lt t k ht; omega) t2 hv2 hvn ho (fun k hk => by
    rcases hat with e | e
    · exact .inl (e ▸ hk)
    · rw [e] at hk
      injection hk with hk
      have h1 := h6.size
      have h2 := hA.size
      exact .inr (by omega))
  rw [← h.x]
  exact ⟨t2, s1, h.x, h.nb, touch_trans h.touch h.all s2, all_trans h.touch.size h.all s3⟩

/-- A row is laid beside the others. -/
theorem AdSt.lits (h : AdSt W wr M M1 S S1 d) {wA w10 : World} {v v' : Value} {c : List Int} (hv : Own wr 3 1 v c.length (inC c)) (hvn : ∀ k, v.ownBlock = some k → W.heap.size ≤ k ∧ ¬ M1.all S1 k)
    (hA : Below wr.heap.size wr wA) (ho : Own w10 26 1 v' (S1.ls.length + 1) (rowV S1.ls.length M1.L ++ [v])) (hg : wA.grownBy w10 M1.vL.ownBlock) (hat : v'.ownBlock = M1.vL.ownBlock ∨ v'.ownBlock = some wA.heap.size) :
    Touch (fun k => M1.vL.ownBlock = some k) wr w10 ∧ AdSt W (w10.setCell ⟨M.x, 2, none⟩ v') M { M1 with vL := v', L := fun i => if i = S1.ls.length then v else M1.L i } S ⟨S1.n, S1.es, S1.cl, S1.ls ++ [c], S1.by_, S1.done, S1.fresh⟩ d := by
  have t2 : Touch (fun k => M1.vL.ownBlock = some k) wr w10 := (Touch.of_below hA fun k => M1.vL.ownBlock = some k).trans (Touch.of_grown (F := fun k => M1.vL.ownBlock = some k) hg fun k hk => hk) fun _ _ hk => hk
  have hv2 : Own w10 3 1 v c.length (inC c) := hv.touch t2 fun k hk e => (hvn k hk).2 ⟨.lits, e⟩
  obtain ⟨s1, s2, s3⟩ := h.at_.addLi (fun k => v.ownBlock = some k ∨ wr.heap.size ≤ k) (fun k hk ⟨t, ht⟩ => by
    rcases hk with hk | hk
    · exact (hvn k hk).2 ⟨t, ht⟩
    · have := h.at_.lt t k ht; omega) t2 hv2 (fun k hk => .inl hk) ho (fun k hk => by
    rcases hat with e | e
    · exact .inl (e ▸ hk)
    · rw [e] at hk
      injection hk with hk
      have h2 := hA.size
      exact .inr (.inr (by omega)))
  rw [← h.x]
  refine ⟨t2, s1, h.x, h.nb, touch_trans h.touch h.all s2, fun k hk => ?_⟩
  rcases s3 k hk with h1 | h1 | h1
  · exact h.all k h1
  · exact .inr (hvn k h1).1
  · exact .inr (Nat.le_trans h.touch.size h1)

/-- A fresh one more. -/
theorem AdSt.fresh (h : AdSt W wr M M1 S S1 d) {wA w10 : World} {v' : Value} {c : Nat} (hA : Below wr.heap.size wr wA) (ho : Own w10 3 1 v' (S1.fresh.length + 1) (natC S1.fresh ++ [.int .i64 (c : Int)])) (hg : wA.grownBy w10 M1.vF.ownBlock) (hat : v'.ownBlock = M1.vF.ownBlock ∨ v'.ownBlock = some wA.heap.size) :
    Touch (fun k => M1.vF.ownBlock = some k) wr w10 ∧ AdSt W (w10.setCell ⟨M.x, 5, none⟩ v') M { M1 with vF := v' } S (S1.wFresh (S1.fresh ++ [c])) d := by
  have t2 : Touch (fun k => M1.vF.ownBlock = some k) wr w10 := (Touch.of_below hA fun k => M1.vF.ownBlock = some k).trans (Touch.of_grown (F := fun k => M1.vF.ownBlock = some k) hg fun k hk => hk) fun _ _ hk => hk
  obtain ⟨s1, s2, s3⟩ := h.at_.setFresh (fr := S1.fresh ++ [c]) t2 (by rw [natC_snoc, List.length_append]; exact ho) (fun k hk => by
    rcases hat with e | e
    · exact .inl (e ▸ hk)
    · rw [e] at hk
      injection hk with hk
      have h2 := hA.size
      exact .inr (by omega))
  rw [← h.x]
  exact ⟨t2, s1, h.x, h.nb, touch_trans h.touch h.all s2, all_trans h.touch.size h.all s3⟩

/-- What is read of a watcher while a part of it is written: the place x + i. -/
theorem AdSt.read (h : AdSt W wr M M1 S S1 d) {w10 : World} {F : Nat → Prop} (t : Tag) (hF : ∀ k, F k → M1.own S1 t k) (hne : t ≠ .self) (ht : Touch F wr w10) (i : Nat) {u : Value} (hc : wr.cell? ⟨M.x, i, none⟩ = some u) :
    w10.cell? ⟨M.x, i, none⟩ = some u ∧ w10.frozen? ⟨M.x, i, none⟩ = false := by
  have hx : M.x < wr.heap.size := by have := h.at_.lt .self M1.x rfl; rw [h.x] at this; exact this
  have hn : ¬ F M.x := fun e => hne (h.at_.dis t .self M.x (hF _ e) h.x.symm)
  have hf := h.at_.cells.2.2.2.2.2.2 i
  rw [h.x] at hf
  exact ⟨(ht.cell (p := ⟨M.x, i, none⟩) hx hn).trans hc, (ht.frozen (p := ⟨M.x, i, none⟩) hx hn).trans hf⟩
/-- A block beside the watcher stays. -/
theorem AdSt.box (h : AdSt W wr M M1 S S1 d) {w10 : World} {F : Nat → Prop} (t : Tag) (hF : ∀ k, F k → M1.own S1 t k) (ht : Touch F wr w10) {cp : Nat} (hcp : cp < W.heap.size) (hno : ¬ M.all S cp) {u : Value} (hc : wr.cell? ⟨cp, 0, none⟩ = some u) : w10.cell? ⟨cp, 0, none⟩ = some u :=
  (ht.cell (p := ⟨cp, 0, none⟩) (Nat.lt_of_lt_of_le hcp h.touch.size) (fun e => by
    rcases h.all cp ⟨t, hF _ e⟩ with h1 | h1
    · exact hno h1
    · omega)).trans hc
end

theorem add_state (S : WS) (hl : S.ls.length = S.cl.length) (c D : List Int) (q : List Int × (Int → List Nat)) :
    (chS ⟨S.n, S.es, S.cl ++ [c], S.ls ++ [D], S.by_, S.done, S.fresh⟩ S.cl.length q).wFresh (S.fresh ++ [S.cl.length]) = ⟨S.n, S.es, S.cl ++ [c], S.ls ++ [q.1], q.2, S.done, S.fresh ++ [S.cl.length]⟩ := by
  show WS.mk S.n S.es (S.cl ++ [c]) ((S.ls ++ [D]).set S.cl.length q.1) q.2 S.done (S.fresh ++ [S.cl.length]) = _
  rw [← hl, List.set_append_right _ _ (Nat.le_refl _), Nat.sub_self]
  rfl

end Go.Proofs.Ythinopiobihmaaa
