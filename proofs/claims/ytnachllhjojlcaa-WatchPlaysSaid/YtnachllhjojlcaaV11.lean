/- A watcher's contracts: Back. -/
import Derived.Test.YtnachllhjojlcaaV9
namespace Go.Proofs.Ytnachllhjojlcaa
open Go.ChangeShapes Go.WideShapes Go.ChangeAt Go.RowKit Go.Maps
set_option maxRecDepth 100000

def singlesTo (ls : List (List Int)) (i : Nat) : List Nat := (List.range i).filter fun j => (ls.getD j []).length == 1
theorem singlesTo_succ (ls : List (List Int)) (i : Nat) : singlesTo ls (i + 1) = if (ls.getD i []).length = 1 then singlesTo ls i ++ [i] else singlesTo ls i := by
  unfold singlesTo
  rw [List.range_succ, List.filter_append]
  by_cases h : (ls.getD i []).length = 1
  · rw [if_pos h]
    congr 1
    rw [List.filter_cons, if_pos (beq_iff_eq.2 h)]
    rfl
  · rw [if_neg h, List.filter_cons, if_neg (fun e => h (beq_iff_eq.1 e))]
    simp
theorem singlesTo_len (ls : List (List Int)) (i : Nat) : (singlesTo ls i).length ≤ i := by
  unfold singlesTo
  have := List.length_filter_le (fun j => (ls.getD j []).length == 1) (List.range i)
  simpa using this

set_option maxHeartbeats 2000000 in
theorem wback_any (w : World) (M : WM) (S : WS) (h : WAt w M S) (hg : Good S.n S.es) (hn : S.n ≤ 5000) (hll : S.ls.length ≤ 1000000) (hfl : S.fresh.length ≤ 10000000000000) (lv : Int) (hlv : I64 lv) :
    Calls Try.prog 20 #[.pointer (some ⟨M.x, 0, none⟩), .int .i64 lv] w fun e w' => e = .returned (.int .i64 (backS S lv).2) ∧ WUp 0 w w' M S (backS S lv).1 := by
  obtain ⟨i3, hi3, hz0, hz1, hz2⟩ := info_parts (P := Try.prog) (e := 3) (z := .int .i64 0) (size := 1) (bytes := 8) (by kernel_rfl)
  obtain ⟨R, hR⟩ : ∃ R, R = backS S lv := ⟨_, rfl⟩
  rw [← hR]
  unfold backS at hR
  have HV := back_any M.F M.g S.n S.es lv w (h.part .trail) hg hn hlv.1 hlv.2
  have HT : Hid (∀ w', TrUp w w' M.F M.g (trE S.n (backC S.es lv).2) → WUp 0 w w' M S (S.wEs (backC S.es lv).2)) := Lib.hid fun w' hT => h.trail hT
  obtain ⟨c0, _⟩ := h.cells
  generalize hrd : backC S.es lv = r at *
  obtain ⟨r1, es'⟩ := r
  have HRdef := Lib.hid hrd.symm
  clear hrd
  simp only at HV HT hR
  have HV := Lib.hid HV
  by_cases h0 : r1 = 0
  · subst h0
    rw [if_pos rfl] at hR
    have HR := Lib.hid hR
    clear h hR hg
    go_enter Try.func20, Try.ntmps20
    go_upto_region 6 with (go_at_call 34; (with_reducible refine HV.out.mono ?_); rintro e w1 ⟨rfl, hT⟩; have HU := Lib.hid (HT.out _ hT); clear hT)
    obtain ⟨M0, u1, u2, u3, u4, u5, u6⟩ := HU.out
    have k4 := u1.cells.2.2.2.2.1
    have kf := u1.cells.2.2.2.2.2.2 4
    rw [u2] at k4 kf
    obtain ⟨d1, d2, d3⟩ := u1.setDone 0
    rw [u2] at d1 d2
    have hoL : Own w1 23 1 M0.vL S.ls.length _ := u1.part .lits
    obtain ⟨aoL, capL, eL, _, _, _⟩ := hoL.form
    have k2 := d1.cells.2.2.1
    rw [u2, eL] at k2
    have HW0 : Hid (WAt (w1.setCell ⟨M.x, 4, none⟩ (.int .i64 0)) M0 ((S.wEs es').wDone 0)) := Lib.hid d1
    have HT0 := Lib.hid (touch_trans u4 u5 d2)
    have HA0 := Lib.hid (all_trans u4.size u5 d3)
    have HX0 := Lib.hid u2
    have HN0 := Lib.hid u3
    have HB0 := Lib.hid (u6 rfl)
    have HEL := Lib.hid eL
    clear u1 u2 u3 u4 u5 u6 d1 d2 d3 hoL eL HU
    obtain ⟨w2, hw2⟩ : ∃ w2, w2 = w1.setCell ⟨M.x, 4, none⟩ (.int .i64 0) := ⟨_, rfl⟩
    rw [show ((0 : Nat) : Int) = (0 : Int) from rfl] at *
    rw [← hw2] at k2 HW0 HT0
    go_upto_region 7 with fail
    rw [← hw2]
    clear hw2 k4 kf
    go_wp2_with fail
    go_loopw [28] (fun s wr => ∃ (i : Nat) (M1 : WM), i ≤ S.ls.length ∧ s = .int .i64 i ∧ Hid (WAt wr M1 (((S.wEs es').wDone 0).wFresh (S.fresh ++ singlesTo S.ls i))) ∧ Hid (M1.x = M.x) ∧ Hid (M1.nB ≤ M.nB + 0) ∧ Hid (M1.B = M.B) ∧ Hid (M1.vL = M0.vL) ∧ Hid (M1.L = M0.L) ∧
      Hid (Touch (M.all S) w wr) ∧ Hid (∀ k, M1.all (((S.wEs es').wDone 0).wFresh (S.fresh ++ singlesTo S.ls i)) k → M.all S k ∨ w.heap.size ≤ k)) (fun s _ => S.ls.length - (intOf s).toNat)
    case atStart => exact ⟨0, M0, by omega, rfl, Lib.hid (by simpa [singlesTo] using HW0.out), HX0, HN0, HB0, Lib.hid rfl, Lib.hid rfl, HT0, Lib.hid (by simpa [singlesTo] using HA0.out)⟩
    case round =>
      obtain ⟨i, M1, hi, rfl, HW, HX, HN, HB, HvL, HL, HTc, HA⟩ := hrel
      have hsl := singlesTo_len S.ls i
      by_cases hil : i < S.ls.length
      · have hii : (i : Int) < (S.ls.length : Int) := by omega
        have hss := singlesTo_succ S.ls i
        have hA1 := HW.out
        obtain ⟨_, _, q2, _, _, q5, qf⟩ := hA1.cells
        rw [HX.out] at q2 q5 qf
        have hoL : Own wr 23 1 M1.vL S.ls.length (rowV S.ls.length M1.L) := hA1.part .lits
        rw [HvL.out, HEL.out] at hoL
        obtain ⟨_, _, e, _, _, hfL⟩ := hoL.form
        injection e with e1 _ e2
        subst e1
        obtain ⟨bL, oL, rfl, hcL, _, _⟩ := hfL (by omega)
        have hcl := hcL i (by rw [rowV_len]; exact hil)
        rw [rowV_get _ _ _ hil] at hcl
        have hoR : Own wr 3 1 (M1.L i) (S.ls.getD i []).length (inC (S.ls.getD i [])) := hA1.part (.li i) hil
        obtain ⟨aoR, capR, eR, _, _, _⟩ := hoR.form
        rw [eR] at hcl
        have hoF : Own wr 3 1 M1.vF (S.fresh ++ singlesTo S.ls i).length (natC (S.fresh ++ singlesTo S.ls i)) := hA1.part .fresh
        obtain ⟨aoF, capF, eF, _, _, _⟩ := hoF.form
        rw [eF] at q5 hoF
        have hfl2 : (S.fresh ++ singlesTo S.ls i).length ≤ 10000001000000 := by rw [List.length_append]; omega
        obtain ⟨fr, hfr⟩ : ∃ fr, fr = S.fresh ++ singlesTo S.ls i := ⟨_, rfl⟩
        by_cases h1 : (S.ls.getD i []).length = 1
        · rw [if_pos h1] at hss
          have hbl : Blk wr M1.x 65 _ := hA1.part .self
          have hxf : (Value.slice aoF (S.fresh ++ singlesTo S.ls i).length capF).ownBlock ≠ some M.x := fun e => by
            have := hA1.dis .fresh .self M1.x (by rw [HX.out]; show M1.vF.ownBlock = _; rw [eF]; exact e) rfl
            cases this
          have HFr : Hid (∀ w5 v', Own w5 3 1 v' (fr.length + 1) (natC fr ++ [.int .i64 (i : Int)]) → (wr.alloc (.cells #[.int .i64 (i : Int)] 3)).grownBy w5 (Value.slice aoF fr.length capF).ownBlock → (v'.ownBlock = (Value.slice aoF fr.length capF).ownBlock ∨ v'.ownBlock = some (wr.alloc (.cells #[.int .i64 (i : Int)] 3)).heap.size) →
              w5.cell? ⟨M.x, 5, none⟩ = some (.slice aoF fr.length capF) ∧ w5.frozen? ⟨M.x, 5, none⟩ = false ∧
              Hid (∃ M2 : WM, WAt (w5.setCell ⟨M.x, 5, none⟩ v') M2 (((S.wEs es').wDone 0).wFresh (S.fresh ++ singlesTo S.ls (i + 1))) ∧ M2.x = M.x ∧ M2.nB ≤ M.nB + 0 ∧ M2.B = M.B ∧ M2.vL = M0.vL ∧ M2.L = M0.L ∧ Touch (M.all S) w (w5.setCell ⟨M.x, 5, none⟩ v') ∧
                ∀ k, M2.all (((S.wEs es').wDone 0).wFresh (S.fresh ++ singlesTo S.ls (i + 1))) k → M.all S k ∨ w.heap.size ≤ k)) := Lib.hid fun w5 v' ho hg hat => by
            have hal : Below wr.heap.size wr (wr.alloc (.cells #[.int .i64 (i : Int)] 3)) := (Below.refl _ _).alloc (Nat.le_refl _) _
            have ht : Touch (fun k => M1.vF.ownBlock = some k) wr w5 := (Touch.of_below hal fun k => M1.vF.ownBlock = some k).trans (Touch.of_grown (F := fun k => M1.vF.ownBlock = some k) hg fun k hk => by rw [eF, ← hfr]; exact hk) fun _ _ hk => hk
            have hxw : M1.x < wr.heap.size := hbl.lt
            have hxn : ¬ M1.vF.ownBlock = some M1.x := fun e => by
              have := hA1.dis .fresh .self M1.x e rfl
              cases this
            have hxe := HX.out
            obtain ⟨s1, s2, s3⟩ := hA1.setFresh (fr := fr ++ [i]) ht (by rw [natC_snoc, List.length_append]; exact ho) (fun k hk => by
              rcases hat with e | e
              · exact .inl (by rw [eF, ← hfr]; exact e ▸ hk)
              · rw [e] at hk
                injection hk with hk
                exact .inr (by simp at hk; omega))
            have hres : S.fresh ++ singlesTo S.ls (i + 1) = fr ++ [i] := by rw [hss, hfr, List.append_assoc]
            rw [hres]
            refine ⟨(ht.cell (p := ⟨M.x, 5, none⟩) (by rw [← hxe]; exact hxw) (by rw [← hxe]; exact hxn)).trans (by rw [hfr]; exact q5), (ht.frozen (p := ⟨M.x, 5, none⟩) (by rw [← hxe]; exact hxw) (by rw [← hxe]; exact hxn)).trans (qf 5), Lib.hid ⟨{ M1 with vF := v' }, ?_, hxe, HN.out, HB.out, HvL.out, HL.out, ?_, ?_⟩⟩
            · rw [← hxe]; exact s1
            · rw [← hxe]; exact touch_trans HTc.out HA.out s2
            · exact all_trans HTc.out.size HA.out s3
          have HOF := Lib.hid (hoF.alloc (.cells #[.int .i64 (i : Int)] 3))
          rw [← hfr] at HOF q5 hfl2
          rw [h1] at hcl
          clear hss hA1 hoL hfL hcL hoR eR hoF eF hbl hxf hfr h1 e2 hsl
          go_wp2_with (at_builtin; refine wpList_append_S _ rfl (.tmp 40) (.tmp 42) _ _ rfl 3 i3 _ 1 8 Try.underlying23 hi3 hz0 hz1 hz2 rfl (by omega) (.slice aoF fr.length capF) fr.length (natC fr) rfl HOF.out (natC_one _) _ 1 [_] rfl (src_new wr Try.underlying23 3 _ rfl) (by simp only [maxLen]; omega) (by omega) ?_; intro ao2 cap2 w5 hn5 hm5 hown5 hg5 hat5 hlt5; obtain ⟨g1, g2, g3⟩ := HFr.out _ _ hown5 hg5 hat5; clear hown5 hg5 hat5 hlt5 hn5 hm5)
          go_roundw
          case rel =>
            obtain ⟨M2, m1, m2, m3, m4, m5, m6, m7, m8⟩ := g3.out
            exact ⟨i + 1, M2, by omega, by go_num, Lib.hid m1, Lib.hid m2, Lib.hid m3, Lib.hid m4, Lib.hid m5, Lib.hid m6, Lib.hid m7, Lib.hid m8⟩
          case measure => simp [intOf]; omega
        · rw [if_neg h1] at hss
          have hb1 : (((S.ls.getD i []).length : Int) == 1) = false := by
            rw [beq_eq_false_iff_ne]
            intro e
            exact h1 (by omega)
          have HSs := Lib.hid hss
          generalize (S.ls.getD i []).length = ll at *
          clear hss hA1 hoL hfL hcL hoR eR hoF eF hfr h1 e2 hsl
          go_wp2_with fail
          go_roundw
          case rel => exact ⟨i + 1, M1, by omega, by go_num, Lib.hid (by rw [HSs.out]; exact HW.out), HX, HN, HB, HvL, HL, HTc, Lib.hid (by rw [HSs.out]; exact HA.out)⟩
          case measure => simp [intOf]; omega
      · obtain rfl : i = S.ls.length := by omega
        obtain rfl := HR.out
        clear hsl
        go_wp2_with fail
        go_ret
        exact ⟨rfl, M1, HW.out, HX.out, HN.out, HTc.out, HA.out, fun _ => HB.out⟩
  · rw [if_neg h0] at hR
    subst hR
    have h0b : (r1 != 0) = true := by simpa using h0
    have HU : Hid (∀ w', TrUp w w' M.F M.g (trE S.n S.es) → WUp 0 w w' M S S) := Lib.hid fun w' hT => h.trail hT
    have HEs : Hid (es' = S.es) := Lib.hid (by
      have e : (r1, es') = backC S.es lv := HRdef.out
      unfold backC at e
      split at e
      · injection e
      · injection e with e _
        exact absurd e h0)
    clear h hg HT h0
    go_enter Try.func20, Try.ntmps20
    go_wp2_with (go_at_call 34; (with_reducible refine HV.out.mono ?_); rintro e w1 ⟨rfl, hT⟩)
    go_ret
    exact ⟨rfl, HU.out _ (by rw [← HEs.out]; exact hT)⟩

end Go.Proofs.Ytnachllhjojlcaa
