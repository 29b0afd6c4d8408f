/- Contracts of package trail: Back. -/
import Derived.Test.YtnachllhjojlcaaT7
import Derived.BigRegion
namespace Go.Proofs.Ytnachllhjojlcaa
open Go.ChangeShapes Go.WideShapes Go.ChangeAt Go.RowKit
set_option maxRecDepth 100000

theorem forget_take (vars : List Kn) (xs : List Int) (i : Nat) (h : i < xs.length) : forget vars (xs.take (i + 1)) = (forget vars (xs.take i)).set (xs[i].natAbs - 1) ⟨0, -1, -1⟩ := by
  rw [List.take_succ_eq_append_getElem h, forget_append]
  rfl

theorem IsT.store_kn {W : World} {g bl off n cap : Nat} {b c : Value} {vs : List Kn} {ls bs : List Int} (h : IsT W g (.slice (some ⟨bl, off, none⟩) n cap) b c ⟨vs, ls, bs⟩) (hn : vs.length = n) (v : Nat) (hv : v < n) (x y z : Int) :
    IsT (((W.setCell ⟨bl, off + v * 3, none⟩ (.int .i64 x)).setCell ⟨bl, off + v * 3 + 1, none⟩ (.int .i64 y)).setCell ⟨bl, off + v * 3 + 2, none⟩ (.int .i64 z)) g (.slice (some ⟨bl, off, none⟩) n cap) b c ⟨vs.set v ⟨x, y, z⟩, ls, bs⟩ ∧
    Touch (fun j => j = bl) W (((W.setCell ⟨bl, off + v * 3, none⟩ (.int .i64 x)).setCell ⟨bl, off + v * 3 + 1, none⟩ (.int .i64 y)).setCell ⟨bl, off + v * 3 + 2, none⟩ (.int .i64 z)) := by
  subst hn
  have hgb : ¬ g = bl := fun e => h.vars.ne_blk h.blk (by decide) (by rw [e]; rfl)
  have hb : b.ownBlock ≠ some bl := fun e => by
    obtain ⟨_, hb1⟩ := h.lits.blk e
    obtain ⟨_, hb2⟩ := h.vars.blk (k := bl) rfl
    exact hb1.ne_ hb2 (by decide) rfl
  have hc : c.ownBlock ≠ some bl := fun e => by
    obtain ⟨_, hb1⟩ := h.begins.blk e
    obtain ⟨_, hb2⟩ := h.vars.blk (k := bl) rfl
    exact hb1.ne_ hb2 (by decide) rfl
  refine ⟨⟨((h.blk.far hgb _).far hgb _).far hgb _, ?_, ((h.lits.far hb _).far hb _).far hb _, ((h.begins.far hc _).far hc _).far hc _⟩, ?_⟩
  · have h := ((h.vars.stored (v * 3) (.int .i64 x)).stored (v * 3 + 1) (.int .i64 y)).stored (v * 3 + 2) (.int .i64 z)
    show Own _ 82 3 _ (vs.set v ⟨x, y, z⟩).length (knC (vs.set v ⟨x, y, z⟩))
    rw [knC_set vs ⟨x, y, z⟩ v hv, List.length_set]
    exact h
  · exact (((Touch.refl (fun k => k = bl) W).setCell (p := ⟨bl, off + v * 3, none⟩) (fun _ => rfl) _).setCell (p := ⟨bl, off + v * 3 + 1, none⟩) (fun _ => rfl) _).setCell (p := ⟨bl, off + v * 3 + 2, none⟩) (fun _ => rfl) _

set_option maxHeartbeats 1000000 in
theorem back_T (F : Nat → Prop) (g : Nat) (T : TrD) (lv k : Nat) (w : World) (hT : TrA w F g T) (hn : T.vars.length ≤ 5000) (hl : T.lits.length ≤ 5000) (hb : T.begins.length ≤ 5000)
    (hlv : lv < T.begins.length) (hk : T.begins[lv]? = some (k : Int)) (hkl : k < T.lits.length) (hvs : ∀ x ∈ T.lits, Lit T.vars.length x) :
    Calls Try.prog 34 #[.pointer (some ⟨g, 0, none⟩), .int .i64 lv] w fun e w' => e = .returned (.int .i64 0) ∧ TrUp w w' F g ⟨forget T.vars (T.lits.drop k), T.lits.take k, T.begins.take lv⟩ := by
  obtain ⟨a, b, c, k1, k2F, k3, k4, k5, k6, k7⟩ := hT
  obtain ⟨aoA, capA, rfl, _, _, hfA⟩ := k1.vars.form
  obtain ⟨aoB, capB, rfl, hcB, _, hfB⟩ := k1.lits.form
  obtain ⟨aoC, capC, rfl, hcC, _, hfC⟩ := k1.begins.form
  obtain ⟨bB, oB, rfl, hcellB, _, hltB⟩ := hfB (by omega)
  obtain ⟨bC, oC, rfl, hcellC, _, hltC⟩ := hfC (by omega)
  have hc1 := k1.blk.cell 1
  have hc2 := k1.blk.cell 2
  have hck := hcellC lv (by simpa [inC] using hlv)
  rw [show (inC T.begins)[lv]? = some (.int .i64 k) by simp [inC, hk]] at hck
  simp at hc1 hc2
  have hd1 : decide ((T.begins.length : Int) < (lv : Int)) = false := by simp; omega
  have hd2 : ((lv : Int) == (T.begins.length : Int)) = false := by simp; omega
  have hd3 : decide ((lv : Int) < 0) = false := by simp
  have hi1 : (lv : Int) < (T.begins.length : Int) := by omega
  have hi2 : (k : Int) ≤ (T.lits.length : Int) := by omega
  have hcBk : ¬ capB = k := by omega
  have hd4 : ¬ T.begins.length < lv := by omega
  have hj1 : (k : Int) ≤ (capB : Int) := by omega
  have hj2 : (lv : Int) ≤ (capC : Int) := by omega
  have hcBk' : ¬ capB - k = 0 := by omega
  have hx : ∀ m (h : k + m < T.lits.length), Lit T.vars.length (T.lits[k + m]'h) := fun m h => hvs _ (List.getElem_mem _)
  have hdl : (T.lits.drop k).length = T.lits.length - k := List.length_drop ..
  clear hcellB hcellC hcB hcC
  have hHF : Hid (∀ k, (Value.slice aoA T.vars.length capA).ownBlock = some k → F k) := Lib.hid k3
  have hHB : Hid (∀ j, F j → j < w.heap.size) := Lib.hid k7
  go_enter Try.func34, Try.ntmps34
  go_wp2_with fail
  go_loopw [45] (fun i wr => ∃ m : Nat, m ≤ T.lits.length - k ∧ i = .int .i64 m ∧ IsT wr g (.slice aoA T.vars.length capA) (.slice (some ⟨bB, oB, none⟩) T.lits.length capB) (.slice (some ⟨bC, oC, none⟩) T.begins.length capC) ⟨forget T.vars ((T.lits.drop k).take m), T.lits, T.begins⟩ ∧ Touch F w wr) (fun i _ => T.lits.length - k - (intOf i).toNat)
  case atStart => exact ⟨0, by omega, rfl, k1, Touch.refl _ _⟩
  case round =>
    obtain ⟨m, hm, rfl, hI, hTo⟩ := hrel
    by_cases hlt : m < T.lits.length - k
    · have hkm : k + m < T.lits.length := by omega
      have hxm := hx m hkm
      have hft := forget_take T.vars (T.lits.drop k) m (by rw [hdl]; exact hlt)
      rw [List.getElem_drop] at hft
      have hcx : wr.cell? ⟨bB, oB + k + m, none⟩ = some (.int .i64 T.lits[k + m]) := by
        obtain ⟨_, _, e, _, _, hf⟩ := hI.lits.form
        obtain ⟨b', o', e', hc, _, _⟩ := hf (by show 0 < T.lits.length; omega)
        subst e'
        injection e with e1 e2 e3
        injection e1 with e1
        injection e1 with e1 e4
        subst e1 e4
        have h := hc (k + m) (by simpa [inC] using hkm)
        rw [inC_get _ _ hkm] at h
        rw [Nat.add_assoc]
        exact h
      have hxl : -9223372036854775808 ≤ T.lits[k + m] ∧ T.lits[k + m] ≤ 9223372036854775807 := by unfold Lit at hxm; omega
      generalize T.lits[k + m] = x at *
      have hvx := varN_lit hxm
      have hxm' := hxm
      unfold Lit at hxm'
      obtain ⟨W, hW⟩ : ∃ W, W = wr.drew := ⟨_, rfl⟩
      have hIW : IsT W g (.slice aoA T.vars.length capA) (.slice (some ⟨bB, oB, none⟩) T.lits.length capB) (.slice (some ⟨bC, oC, none⟩) T.begins.length capC) ⟨forget T.vars ((T.lits.drop k).take m), T.lits, T.begins⟩ := by rw [hW]; exact ⟨hI.blk.drew, hI.vars.drew, hI.lits.drew, hI.begins.drew⟩
      have hToW : Touch F w W := by rw [hW]; exact hTo.drew
      have hlen : (forget T.vars ((T.lits.drop k).take m)).length = T.vars.length := forget_len _ _
      generalize hvs2 : forget T.vars ((T.lits.drop k).take m) = vs at *
      obtain ⟨v, hv⟩ : ∃ v, v = x.natAbs - 1 := ⟨_, rfl⟩
      rw [← hv] at hft hvx
      have hvl : v < T.vars.length := by omega
      obtain ⟨bl, off, cap', e, hcv, hcl, hcr, hfz, hbl⟩ := hIW.at_ v (by show v < vs.length; omega)
      injection e with e1 e2 e3
      subst e1 e3
      clear e2
      have HV : Hid (Calls Try.prog 55 #[.pointer (some ⟨g, 0, none⟩), .int .i64 x] W fun e w' => e = .returned (.int .i64 (v : Int)) ∧ w' = W) := Lib.hid (by
        have h := variable_any g _ T.vars.length capA _ _ x W hIW.blk (by omega) hxl.1 hxl.2
        rw [hvx] at h
        exact h.mono fun _ _ hh => ⟨hh.1, hh.2.symm⟩)
      have k0 := hIW.blk.cell 0
      simp at k0
      have hvi : (v : Int) < (T.vars.length : Int) := by omega
      have hmi : (m : Int) < ((T.lits.length - k : Nat) : Int) := by omega
      have h1 := Lib.hid hft
      have h2 := Lib.hid hxm
      have h3 := Lib.hid hlen
      clear hft hxm hvs2 hlen hvx hv hxm' hx hvs
      go_upto_region 11 with fail
      refine wp_region_still_tail 9 (by kernel_rfl) (by kernel_rfl) ?_
      change wpStill _ _ (World.drew wr) (fun a' => wpList _ _ _ _ a' (World.drew wr)) _ _
      rw [← hW]
      clear hW
      simp only [List.take_succ_cons, List.take_zero, List.drop_succ_cons, List.drop_zero]
      repeat still_step
      still_call HV.out
      repeat still_step
      refine wpStill_nil ?_
      go_wp2_with fail
      go_roundw
      case rel =>
        obtain ⟨r1, r2⟩ := hIW.store_kn h3.out v hvl 0 (-1) (-1)
        refine ⟨m + 1, by omega, by go_num, ?_, hToW.trans r2 fun y _ hy => ?_⟩
        · rw [h1.out]
          exact r1
        · subst hy
          exact hHF.out _ rfl
      case measure => simp [intOf]; omega
    · obtain rfl : m = T.lits.length - k := by omega
      have hfa : (T.lits.drop k).take (T.lits.length - k) = T.lits.drop k := List.take_of_length_le (by omega)
      rw [hfa] at hI
      have k1 := hI.blk.cell 1
      have k2 := hI.blk.cell 2
      have f1 := hI.blk.frozen 1
      have f2 := hI.blk.frozen 2
      simp at k1 k2
      have hfh := Lib.hid hfa
      clear hfa hx hvs
      go_upto_region 13 with fail
      go_cut [] from 59 (fun wx => Blk wx g 79 #[.slice aoA T.vars.length capA, .slice (some ⟨bB, oB, none⟩) k k, .slice (some ⟨bC, oC, none⟩) lv lv] ∧ Touch (fun j => j = g) wr wx)
      case first =>
        go_big_region
        all_goals
          go_wp2_with fail
          go_meet
          case rel => exact ⟨((hI.blk.set_ 1 _).set_ 2 _).drew, (((Touch.refl (fun j => j = g) wr).setCell (p := ⟨g, 1, none⟩) (fun _ => rfl) _).setCell (p := ⟨g, 2, none⟩) (fun _ => rfl) _).drew⟩
      case rest =>
        obtain ⟨hB, hTg⟩ := hcut
        go_wp2_with fail
        go_ret
        have hlA := hI.vars.ne_blk hI.blk (by decide)
        have hlB := hI.lits.ne_blk hI.blk (by decide)
        have hlC := hI.begins.ne_blk hI.blk (by decide)
        have hpB := (hI.lits.touch hTg fun j hj e => hlB (e ▸ hj)).piece 0 k k (by omega) (by show k ≤ T.lits.length; omega) (by omega) (by omega)
        have hpC := (hI.begins.touch hTg fun j hj e => hlC (e ▸ hj)).piece 0 lv lv (by omega) (by show lv ≤ T.begins.length; omega) (by omega) (by omega)
        have hpA := hI.vars.touch hTg fun j hj e => hlA (e ▸ hj)
        have hT2 : Touch F w wc := hTo.trans hTg fun y _ hy => hy ▸ k2F
        refine ⟨rfl, F, ⟨_, _, _, ⟨hB, hpA, ?_, ?_⟩, k2F, hHF.out, k4, k5, k6, fun j hj => Nat.lt_of_lt_of_le (hHB.out j hj) hT2.size⟩, hT2, fun j hj => .inl hj⟩
        · have e1 : (T.lits.take k).length = k := by rw [List.length_take]; omega
          show Own wc 3 1 _ (T.lits.take k).length (inC (T.lits.take k))
          rw [e1]
          simpa [inC, List.map_take] using hpB
        · have e1 : (T.begins.take lv).length = lv := by rw [List.length_take]; omega
          show Own wc 3 1 _ (T.begins.take lv).length (inC (T.begins.take lv))
          rw [e1]
          simpa [inC, List.map_take] using hpC


theorem pop_shorter {n : Nat} (lv : Int) {es : List En} (h : Good n es) (hl : lv < hi es) (h0 : 0 ≤ lv) : (popE lv es).length < es.length := by
  cases es with
  | nil => simp only [hi] at hl; omega
  | cons e es =>
    simp only [hi] at hl
    simp only [popE, if_pos hl, List.length_cons]
    have := congrArg List.length (cut_pop lv es)
    rw [List.length_append] at this
    omega

theorem back_any (F : Nat → Prop) (g n : Nat) (es : List En) (lv : Int) (w : World) (hT : TrA w F g (trE n es)) (hg : Good n es) (hn : n ≤ 5000) (h1 : -9223372036854775808 ≤ lv) (h2 : lv ≤ 9223372036854775807) :
    Calls Try.prog 34 #[.pointer (some ⟨g, 0, none⟩), .int .i64 lv] w fun e w' => e = .returned (.int .i64 (backC es lv).1) ∧ TrUp w w' F g (trE n (backC es lv).2) := by
  have hl : (trE n es).vars.length = n := varsE_len n es
  have hll : (trE n es).lits.length = es.length := by simp [trE]
  have hlen := hg.len_le
  have hlb : ((trE n es).begins.length : Int) = hi es := begs_len hg
  have hle := hi_le_len hg
  by_cases hbad : lv < 0 ∨ hi es < lv
  · simp only [backC, if_pos hbad]
    rw [← hlb] at hbad
    obtain ⟨a, b, c, k1, k⟩ := hT
    have hT : TrA w F g (trE n es) := ⟨a, b, c, k1, k⟩
    obtain ⟨aoC, capC, rfl, _, _, _⟩ := k1.begins.form
    have hc2 := k1.blk.cell 2
    simp at hc2
    clear hl hll hlb hle
    generalize trE n es = T at *
    go_enter Try.func34, Try.ntmps34
    by_cases hneg : lv < 0
    · go_wp2_with fail
      go_ret
      exact ⟨rfl, hT.up⟩
    · have hneg' : decide (lv < 0) = false := by simpa using hneg
      have hbig : (T.begins.length : Int) < lv := by omega
      go_wp2_with fail
      go_ret
      exact ⟨rfl, hT.up⟩
  · simp only [backC, if_neg hbad]
    obtain ⟨m, rfl⟩ := Int.eq_ofNat_of_zero_le (by omega : 0 ≤ lv)
    by_cases heq : (m : Int) = hi es
    · rw [pop_eq (m : Int) hg (by omega)]
      obtain ⟨a, b, c, k1, k⟩ := hT
      have hT : TrA w F g (trE n es) := ⟨a, b, c, k1, k⟩
      obtain ⟨aoC, capC, rfl, _, _, _⟩ := k1.begins.form
      have hc2 := k1.blk.cell 2
      simp at hc2
      have hm : m = (trE n es).begins.length := by omega
      clear hl hll hlb hle heq hbad h1 h2
      subst hm
      generalize trE n es = T at *
      have hd4 : ¬ T.begins.length < T.begins.length := by omega
      go_enter Try.func34, Try.ntmps34
      go_wp2_with fail
      go_ret
      exact ⟨rfl, hT.up⟩
    · have hlt : (m : Int) < hi es := by omega
      obtain ⟨b1, b2⟩ := begs_pop m hg hlt
      obtain ⟨t1, t2⟩ := take_lits (m : Int) es
      have h := back_T F g (trE n es) m (popE m es).length w hT (by omega) (by omega) (by omega) (by omega) b1 (by rw [hll]; exact pop_shorter _ hg hlt (by omega)) (by
        intro x hx
        rw [hl]
        simp only [trE, List.mem_reverse, List.mem_map] at hx
        obtain ⟨e, he, rfl⟩ := hx
        exact hg.lit e he)
      have e : (⟨forget (trE n es).vars ((trE n es).lits.drop (popE m es).length), (trE n es).lits.take (popE m es).length, (trE n es).begins.take m⟩ : TrD) = trE n (popE m es) := by
        have hf : forget (varsE n es) (((cutE (m : Int) es).map (·.lit)).reverse) = varsE n (popE m es) := by
          have hcp := cut_pop (m : Int) es
          have hg' := hg
          rw [← hcp] at hg'
          have := forget_vars hg'
          rwa [hcp] at this
        show (⟨forget (varsE n es) (((es.map (·.lit)).reverse).drop (popE m es).length), ((es.map (·.lit)).reverse).take (popE m es).length, (begs es).take m⟩ : TrD) = _
        rw [t1, t2, ← b2, hf]
        rfl
      rwa [e] at h

end Go.Proofs.Ytnachllhjojlcaa
