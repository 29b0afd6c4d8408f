/- WatchBack: the walk. -/
import Derived.Test.YtnachllhjojlcaaV26
import Derived.BigQuiet
namespace Go.Proofs.Ytnachllhjojlcaa
open Go.ChangeShapes Go.WideShapes Go.ChangeAt Go.RowKit Go.Maps Go.Deep
set_option maxRecDepth 100000

def addsS (S : WS) (l : List (List Int)) : WS := l.foldl (fun S c => (addS S c).1) S
theorem adds_succ (S : WS) (l : List (List Int)) (k : Nat) (h : k < l.length) : addsS S (l.take (k + 1)) = (addS (addsS S (l.take k)) l[k]).1 := by
  unfold addsS
  rw [List.take_succ_eq_append_getElem h, List.foldl_append]
  rfl
theorem adds_es (n : Nat) : ∀ (l : List (List Int)) (S : WS), S.es = [] → (addsS S l).es = []
  | [], _, h => h
  | c :: l, S, h => adds_es n l (addS S c).1 (by
    unfold addS
    split
    · exact h
    · exact h)
theorem ext_hi {n : Nat} {cl : List (List Int)} {a a' : List En} (h : Ext n cl a a') : hi a' = hi a := by
  induction h with
  | refl => rfl
  | step e _ _ _ h3 _ _ _ ih => exact h3.trans ih
theorem Below.step {W w w' : World} (h : Below W.heap.size W w) (h2 : Below w.heap.size w w') : Below W.heap.size W w' := bel_new h h.size h2

set_option maxHeartbeats 4000000 in
theorem back_main (n : Nat) (hn : n ≤ 60) (aoC : Option Addr) (cls : List (List Int)) (capC : Nat) (aoG : Option Addr) (gone : List Int) (capG : Nat) (aoD : Option Addr) (dec : List Int) (capD : Nat) (w : World)
    (hC : IsCls w aoC cls) (hG : Ints w aoG gone) (hD : Ints w aoD dec) (hc80 : cls.length ≤ 80) (hd60 : dec.length ≤ 60) (hg60 : gone.length ≤ 60) (h40 : ∀ c ∈ cls, c.length ≤ 40)
    (hCI : ∀ c ∈ cls, ∀ x ∈ c, I64 x) (hGI : ∀ x ∈ gone, I64 x) (hDI : ∀ x ∈ dec, I64 x) :
    Calls Try.prog 8 #[.int .i64 n, .slice aoC cls.length capC, .slice aoG gone.length capG, .slice aoD dec.length capD] w fun e w' => e = .returned (.bool true) ∧ Below w.heap.size w w' := by
  have d1 : decide ((60 : Int) < (n : Int)) = false := by simp; omega
  have d2 : decide ((80 : Int) < (cls.length : Int)) = false := by simp; omega
  have d3 : decide ((60 : Int) < (dec.length : Int)) = false := by simp; omega
  have d4 : decide ((60 : Int) < (gone.length : Int)) = false := by simp; omega
  have HC := Lib.hid hC
  have HG := Lib.hid hG
  have HD := Lib.hid hD
  have H40 := Lib.hid h40
  have HCI := Lib.hid hCI
  have HGI := Lib.hid hGI
  have HDI := Lib.hid hDI
  clear hC hG hD h40 hCI hGI hDI
  go_enter Try.func8, Try.ntmps8
  go_wp2_with (go_at_call 9; (with_reducible refine (awake_any _).mono ?_); rintro e w1 ⟨rfl, hb1⟩)
  go_loopw [9] (fun s wr => ∃ k : Nat, k ≤ cls.length ∧ s = .int .i64 k ∧ w1 = wr) (fun s _ => cls.length - (intOf s).toNat)
  case atStart => exact ⟨0, by omega, rfl, rfl⟩
  case round =>
    obtain ⟨k, hk, rfl, rfl⟩ := hrel
    by_cases hlt : k < cls.length
    · have hki : (k : Int) < (cls.length : Int) := by omega
      obtain ⟨b, off, ai, ci, rfl, hcc, _⟩ := (HC.out.below hb1).row k hlt
      have hm := H40.out _ (List.getElem_mem hlt)
      generalize cls[k] = c at *
      have hm2 : decide ((40 : Int) < (c.length : Int)) = false := by simp; omega
      go_wp2_with fail
      go_roundw
      case rel => exact ⟨k + 1, by omega, by go_num, by first | rfl | trivial⟩
      case measure => simp [intOf]; omega
    · obtain rfl : k = cls.length := by omega
      go_wp2_with (first
        | (go_at_call 10; (with_reducible refine (on_new' hb1 hn).mono ?_); rintro e w2 ⟨xa, rfl, h2⟩)
        | (go_at_call 10; (with_reducible refine (pair_new h2 hn).mono ?_); rintro e w3 ⟨xb, rfl, h3⟩))
      go_loopw [14] (fun s wr => ∃ k : Nat, k ≤ cls.length ∧ s = .int .i64 k ∧ On w wr (Pair xa n k (addsS (newS n) (cls.take k)) xb k (addsS (newS n) (cls.take k)))) (fun s _ => cls.length - (intOf s).toNat)
      case atStart => exact ⟨0, by omega, rfl, h3⟩
      case round =>
        obtain ⟨k, hk, rfl, hr⟩ := hrel
        by_cases hlt : k < cls.length
        · have hki : (k : Int) < (cls.length : Int) := by omega
          have hsu := adds_succ (newS n) cls k hlt
          have hm := H40.out _ (List.getElem_mem hlt)
          have hI := HCI.out _ (List.getElem_mem hlt)
          obtain ⟨b, off, ai, ci, rfl, hcc, hi⟩ := (HC.out.below hr.bel).row k hlt
          have HRow : Hid (∀ w4, Below w.heap.size w w4 → w4.cell? ⟨b, off + k, none⟩ = some (.slice ai cls[k].length ci) ∧ Ints w4 ai cls[k]) := Lib.hid fun w4 hb => by
            obtain ⟨b', off', ai', ci', e', hcc', hi'⟩ := HC.out.row k hlt
            simp only [Option.some.injEq, Addr.mk.injEq, and_true] at e'
            obtain ⟨rfl, rfl⟩ := e'
            have hlt2 : b < w.heap.size := World.block_lt_of_cell? (a := ⟨b, off + k, none⟩) _ hcc'
            have e2 := (World.cell?_of_block (w := w) (hr.bel.block b hlt2) (a := ⟨b, off + k, none⟩)).symm.trans hcc
            rw [hcc'] at e2
            simp only [Option.some.injEq, Value.slice.injEq, true_and] at e2
            obtain ⟨rfl, rfl⟩ := e2
            exact ⟨(World.cell?_of_block (w := w) (hb.block b hlt2)).trans hcc', hi'.below hb⟩
          generalize addsS (newS n) (cls.take k) = S at *
          generalize cls[k] = c at *
          have HSu := Lib.hid hsu
          clear hsu
          have HA := Lib.hid (pa_add hr hn (by omega) ai c ci hi hm hI)
          have HMm := Lib.hid hm
          have HIi := Lib.hid hI
          clear hr hi hm hI
          go_wp2_with (first
            | (go_at_call 12; (with_reducible refine HA.out.mono ?_); rintro e w4 ⟨rfl, h4⟩; obtain ⟨hc4, hi4⟩ := HRow.out _ h4.bel)
            | (go_at_call 12; (with_reducible refine (pb_add h4 hn (by omega) _ _ _ hi4 HMm.out HIi.out).mono ?_); rintro e w5 ⟨rfl, h5⟩))
          go_roundw
          case rel => exact ⟨k + 1, by omega, by go_num, by rw [HSu.out]; exact h5⟩
          case measure => simp [intOf]; omega
        · obtain rfl : k = cls.length := by omega
          rw [List.take_length] at hr
          have hokA := pa_ok hr
          have hAe : (addsS (newS n) cls).es = [] := adds_es n cls (newS n) rfl
          generalize addsS (newS n) cls = A at *
          obtain ⟨⟨A1, p⟩, hP⟩ : ∃ P, propS A = P := ⟨_, rfl⟩
          have HP := Lib.hid hP
          have HPa := Lib.hid (pa_prop hr hn (by omega) hP)
          by_cases hp : 0 ≤ p
          · have hpd : decide (0 ≤ p) = true := by simpa using hp
            clear hr hokA hAe hP
            go_wp2_with (first
              | (go_at_call 14; (with_reducible refine HPa.out.mono ?_); rintro e w4 ⟨rfl, h4⟩)
              | (go_at_call 14; (with_reducible refine (pb_prop h4 hn (by omega) HP.out).mono ?_); rintro e w5 ⟨rfl, h5⟩))
            go_ret
            exact ⟨rfl, h5.bel⟩
          · have hpd : decide (0 ≤ p) = false := by simpa using hp
            obtain ⟨kA, sA⟩ := prop_spec hokA.inv
            rw [hP] at kA sA
            have hA1n : A1.n = n := kA.n.trans hokA.n
            have hA1c : A1.cl = A.cl := kA.cl
            have hse := (sA (by show p < 0; omega)).2
            have hroot : popE 0 A1.es = A1.es := by
              have h1 := ext_hi kA.ext
              have h2 := kA.inv.good
              rw [hAe] at h1
              exact pop_eq 0 h2 (by rw [h1]; exact Int.le_refl _)
            simp only at hse
            rw [hokA.n] at hse
            have HSe := Lib.hid hse
            have HA1n := Lib.hid hA1n
            have HA1c := Lib.hid hA1c
            have HRt1 := Lib.hid hroot
            clear hr hokA hAe hP kA sA hA1n hA1c hse hroot
            go_wp2_with (go_at_call 14; (with_reducible refine HPa.out.mono ?_); rintro e w4 ⟨rfl, h4⟩)
            go_loopw [15] (fun s wr => ∃ (k : Nat) (Sa : WS), k ≤ gone.length ∧ s = .int .i64 k ∧ On w wr (Pair xa n (cls.length + 1 + 2 * k) Sa xb cls.length A) ∧ Hid (popE 0 Sa.es = A1.es) ∧ Hid (Sa.cl = A.cl)) (fun s _ => gone.length - (intOf s).toNat)
            case atStart => exact ⟨0, A1, by omega, rfl, h4, HRt1, HA1c⟩
            case round =>
              obtain ⟨k, Sa, hk, rfl, hr, HRt, HCl⟩ := hrel
              by_cases hlt : k < gone.length
              · have hki : (k : Int) < (gone.length : Int) := by omega
                obtain ⟨b, off, rfl, hbl, hcc⟩ := HG.out (by omega)
                have hcell : wr.cell? ⟨b, off + k, none⟩ = some (.int .i64 gone[k]) := (World.cell?_of_block (w := w) (hr.bel.block b hbl)).trans (hcc k hlt)
                have hgI := HGI.out _ (List.getElem_mem hlt)
                have ok := pa_ok hr
                generalize gone[k] = g at *
                obtain ⟨⟨S1, r1⟩, hS1⟩ : ∃ P, decS Sa g = P := ⟨_, rfl⟩
                obtain ⟨⟨S2, r2⟩, hS2⟩ : ∃ P, propS S1 = P := ⟨_, rfl⟩
                have HD1 := Lib.hid (pa_decide hr hn g hgI hS1)
                have HS2 := Lib.hid hS2
                have hrt : popE 0 S2.es = A1.es ∧ S2.cl = A.cl := by
                  have i1 := dec_inv ok.inv g
                  have i2 := dec_root ok.inv.good g HRt.out
                  rw [hS1] at i1 i2
                  have i3 : S1.cl = Sa.cl := by have := congrArg (fun P => P.1.cl) hS1; exact this.symm
                  have i4 : S1.n = n := by have := congrArg (fun P => P.1.n) hS1; exact this.symm.trans ok.n
                  have i5 := prop_root i1 i2 (by rw [i3, i4, HCl.out]; exact HSe.out)
                  have i6 := (prop_spec i1).1.cl
                  rw [hS2] at i5 i6
                  exact ⟨i5, i6.trans (i3.trans HCl.out)⟩
                obtain ⟨hrt1, hrt2⟩ := hrt
                have HRt2 := Lib.hid hrt1
                have HCl2 := Lib.hid hrt2
                clear hr ok hS1 hS2 hrt1 hrt2 hcc hgI
                by_cases hq : 0 ≤ r2
                · have hqd : decide (0 ≤ r2) = true := by simpa using hq
                  go_wp2_with (first
                    | (go_at_call 13; (with_reducible refine HD1.out.mono ?_); rintro e w5 ⟨rfl, h5⟩)
                    | (go_at_call 14; (with_reducible refine (pa_prop h5 hn (by omega) HS2.out).mono ?_); rintro e w6 ⟨rfl, h0⟩))
                  obtain ⟨S0, rfl⟩ : ∃ S0 : WS, S0 = S2 := ⟨_, rfl⟩
                  obtain ⟨t0, ht0⟩ : ∃ t, t = cls.length + 1 + 2 * k + 1 + 1 := ⟨_, rfl⟩
                  rw [← ht0] at h0
                  have HRt0 := HRt2
                  have HCl0 := HCl2
                  clear HRt HCl HRt2 HCl2 HD1 HS2
                  have okS := pa_ok h0
                  obtain ⟨q1, q2, q3, q4⟩ := back_root okS.inv.good HRt0.out
                  obtain ⟨⟨S3, r3⟩, hS3⟩ : ∃ P, backS S0 0 = P := ⟨_, rfl⟩
                  rw [hS3] at q1 q2 q3 q4
                  simp only at q1 q2 q3 q4
                  subst q1
                  have HBk := Lib.hid (pa_back h0 hn (by omega) 0 (by decide) hS3)
                  have HTw0 : Hid (Twin S3 A1) := Lib.hid ⟨by rw [q3, okS.n]; exact HA1n.out, fun x => by rw [q2], by rw [q4, HCl0.out, HA1c.out]; exact Like.refl _, by rw [q4, HCl0.out, HA1c.out]; exact Like.refl _⟩
                  clear okS q2 q3 q4 hS3 h0
                  go_wp2_with (first
                    | (go_at_call 20; (with_reducible refine HBk.out.mono ?_); rintro e w4 ⟨rfl, h4⟩)
                    | (go_at_call 14; (with_reducible refine (pb_prop h4 hn (by omega) HP.out).mono ?_); rintro e w5 ⟨rfl, h5⟩))
                  go_loopw [16] (fun s wr => ∃ (k : Nat) (z : Int) (Sa Sb : WS), k ≤ dec.length + 1 ∧ s = .int .i64 z ∧ z = (k : Int) - 1 ∧ On w wr (Pair xa n (t0 + 1 + 2 * k) Sa xb (cls.length + 1 + 2 * k) Sb) ∧ Hid (Twin Sa Sb)) (fun s _ => ((dec.length : Int) - intOf s).toNat)
                  case atStart => exact ⟨0, _, S3, A1, by omega, rfl, by omega, h5, HTw0⟩
                  case round =>
                    obtain ⟨k, z, Sa, Sb, hk, rfl, hz, hr, HTs⟩ := hrel
                    by_cases hlt : k ≤ dec.length
                    · have hzi : z < (dec.length : Int) := by omega
                      rcases Nat.eq_zero_or_pos k with hk0 | hk0
                      · obtain rfl : z = -1 := by omega
                        obtain rfl : k = 0 := hk0
                        clear hz
                        obtain ⟨S1, rfl⟩ : ∃ S1 : WS, S1 = Sa := ⟨_, rfl⟩
                        obtain ⟨S2, rfl⟩ : ∃ S2 : WS, S2 = Sb := ⟨_, rfl⟩
                        have HT5 := HTs
                        clear hzi
                        have hzi : (-1 : Int) < (dec.length : Int) := by omega
                        go_wp2_with fail
                        go_quiet (fail)
                        have h5 := On.below (pairSolid ..) hr (bel_drewN (Below.refl wr.heap.size wr) nq)
                        obtain ⟨⟨P1, p1⟩, hp1⟩ : ∃ P, propS S1 = P := ⟨_, rfl⟩
                        obtain ⟨⟨P2, p2⟩, hp2⟩ : ∃ P, propS S2 = P := ⟨_, rfl⟩
                        have ok1 := pa_ok h5
                        have ok2 := pb_ok h5
                        obtain ⟨tw1, tw2⟩ := prop_twin HT5.out ok1.inv ok2.inv
                        rw [hp1, hp2] at tw1 tw2
                        simp only at tw1 tw2
                        have ok1n := ok1.n
                        have ok1i := Lib.hid ok1.inv
                        have HP1 := Lib.hid hp1
                        have HP2 := Lib.hid hp2
                        have HPn : Hid (P1.n = n) := Lib.hid (by
                          have h1 := (prop_spec ok1.inv).1.n
                          rw [hp1] at h1
                          exact h1.trans ok1.n)
                        clear ok1 ok2 hp1 hp2
                        by_cases hp0 : p1 < 0
                        · have hp0b := tw1.1 hp0
                          have HTw := Lib.hid (tw2 hp0)
                          have e1 : decide (p1 < 0) = true := by simpa using hp0
                          have e2 : decide (p2 < 0) = true := by simpa using hp0b
                          have e3 : decide (0 ≤ p1) = false := by simp; omega
                          clear tw1 tw2
                          go_wp2_with (first
                            | (go_at_call 14; (with_reducible refine (pa_prop h5 hn (by omega) HP1.out).mono ?_); rintro e w6 ⟨rfl, h6⟩)
                            | (go_at_call 14; (with_reducible refine (pb_prop h6 hn (by omega) HP2.out).mono ?_); rintro e w7 ⟨rfl, h7⟩)
                            | (go_at_call 36; (with_reducible refine (pa_settled ok1i.out ok1n HP1.out h7 hn (by omega)).mono ?_); rintro e w8 ⟨rfl, hb8⟩; have h8 := On.below (pairSolid ..) h7 hb8))
                          go_loopw [19] (fun s wr => ∃ i5 : Nat, 1 ≤ i5 ∧ i5 ≤ n + 1 ∧ s = .int .i64 i5 ∧ w8 = wr) (fun s _ => n + 1 - (intOf s).toNat)
                          case atStart => exact ⟨1, by omega, by omega, rfl, rfl⟩
                          case round =>
                            obtain ⟨i5, hj1, hj2, rfl, rfl⟩ := hrel
                            by_cases hjn : i5 ≤ n
                            · have hjni : (i5 : Int) ≤ (n : Int) := by omega
                              have hvv := HTw.out.val (i5 : Int)
                              rw [HPn.out] at hvv
                              obtain ⟨v, hv⟩ : ∃ v, v = valE n P1.es (i5 : Int) := ⟨_, rfl⟩
                              have HV1 := Lib.hid (pa_value h8 hn (i5 : Int) (by unfold I64; omega) hv.symm)
                              have HV2 := Lib.hid (pb_value h8 hn (i5 : Int) (by unfold I64; omega) (hvv.symm.trans hv.symm))
                              clear hvv hv
                              go_wp2_with (first
                                | (go_at_call 15; (with_reducible refine HV1.out.mono ?_); rintro e w9 ⟨rfl, rfl⟩)
                                | (go_at_call 15; (with_reducible refine HV2.out.mono ?_); rintro e w9 ⟨rfl, rfl⟩))
                              go_roundw
                              case rel => exact ⟨i5 + 1, by omega, by omega, by go_num, by first | rfl | trivial⟩
                              case measure => simp [intOf]; omega
                            · have hjni : ¬ (i5 : Int) ≤ (n : Int) := by omega
                              have hjd : decide ((i5 : Int) ≤ (n : Int)) = false := by simpa using hjni
                              go_wp2_with fail
                              go_roundw
                              case rel => refine ⟨1, _, P1, P2, ?_, rfl, ?_, ?_, HTw⟩ <;> first | omega | exact On.more (ctxB _ _ _ _) (On.more (ctxA _ _ _ _) h8 (by omega)) (by omega)
                              case measure => simp [intOf]
                        · have hp0b : ¬ p2 < 0 := fun h => hp0 (tw1.2 h)
                          have e1 : decide (p1 < 0) = false := by simpa using hp0
                          have e2 : decide (p2 < 0) = false := by simpa using hp0b
                          have e3 : decide (0 ≤ p1) = true := by simp; omega
                          clear tw1 tw2
                          go_wp2_with (first
                            | (go_at_call 14; (with_reducible refine (pa_prop h5 hn (by omega) HP1.out).mono ?_); rintro e w6 ⟨rfl, h6⟩)
                            | (go_at_call 14; (with_reducible refine (pb_prop h6 hn (by omega) HP2.out).mono ?_); rintro e w7 ⟨rfl, h7⟩)
                            | (go_at_call 36; (with_reducible refine (pa_settled ok1i.out ok1n HP1.out h7 hn (by omega)).mono ?_); rintro e w8 ⟨rfl, hb8⟩))
                          go_ret
                          exact ⟨rfl, bel_new h7.bel h7.bel.size hb8⟩
                      · obtain ⟨j, rfl⟩ : ∃ j, k = j + 1 := ⟨k - 1, by omega⟩
                        obtain rfl : z = (j : Int) := by omega
                        clear hz hk0
                        have hjl : j < dec.length := by omega
                        have hj0 : decide ((0 : Int) ≤ (j : Int)) = true := by simp
                        obtain ⟨bD, offD, rfl, hbl, hcc⟩ := HD.out (by omega)
                        have HCell : Hid (∀ w', Below w.heap.size w w' → w'.cell? ⟨bD, offD + j, none⟩ = some (.int .i64 dec[j])) := Lib.hid fun w' hb => (World.cell?_of_block (w := w) (hb.block bD hbl)).trans (hcc j hjl)
                        have hdI := HDI.out _ (List.getElem_mem hjl)
                        generalize dec[j] = d at *
                        obtain ⟨hde, hdt⟩ := dec_twin HTs.out d
                        obtain ⟨⟨S1, r1⟩, hS1⟩ : ∃ P, decS Sa d = P := ⟨_, rfl⟩
                        obtain ⟨⟨S2, r2⟩, hS2⟩ : ∃ P, decS Sb d = P := ⟨_, rfl⟩
                        rw [hS1, hS2] at hde hdt
                        simp only at hde hdt
                        subst hde
                        have HT5 := Lib.hid hdt
                        have HS1 := Lib.hid hS1
                        have HS2 := Lib.hid hS2
                        have hdr : On w wr.drew (Pair xa n (t0 + 1 + 2 * (j + 1)) Sa xb (cls.length + 1 + 2 * (j + 1)) Sb) := On.below (pairSolid ..) hr (bel_drewN (Below.refl _ _) 1)
                        have hcd : wr.drew.cell? ⟨bD, offD + j, none⟩ = some (.int .i64 d) := HCell.out _ hdr.bel
                        have HdI := Lib.hid hdI
                        clear hdt hS1 hS2 hdI hcc hbl HTs
                        go_wp2_with fail
                        go_region_held3 (fun w' => w'.cell? ⟨bD, offD + j, none⟩ = some (.int .i64 d)) (assumption)
                          ((first
                            | (go_at_call 13; (with_reducible refine (pa_decide hdr hn d HdI.out HS1.out).mono ?_); rintro e w4 ⟨rfl, h4⟩; have hc4 := HCell.out _ h4.bel)
                            | (go_at_call 13; (with_reducible refine (pb_decide h4 hn d HdI.out HS2.out).mono ?_); rintro e w5 ⟨rfl, h5⟩; have hc5 := HCell.out _ h5.bel)
                            | (go_at_call 13; (with_reducible refine (pb_decide hdr hn d HdI.out HS2.out).mono ?_); rintro e w4 ⟨rfl, h4⟩; have hc4 := HCell.out _ h4.bel)
                            | (go_at_call 13; (with_reducible refine (pa_decide h4 hn d HdI.out HS1.out).mono ?_); rintro e w5 ⟨rfl, h5⟩; have hc5 := HCell.out _ h5.bel)))
                        all_goals
                          obtain ⟨⟨P1, p1⟩, hp1⟩ : ∃ P, propS S1 = P := ⟨_, rfl⟩
                          obtain ⟨⟨P2, p2⟩, hp2⟩ : ∃ P, propS S2 = P := ⟨_, rfl⟩
                          have ok1 := pa_ok h5
                          have ok2 := pb_ok h5
                          obtain ⟨tw1, tw2⟩ := prop_twin HT5.out ok1.inv ok2.inv
                          rw [hp1, hp2] at tw1 tw2
                          simp only at tw1 tw2
                          have ok1n := ok1.n
                          have ok1i := Lib.hid ok1.inv
                          have HP1 := Lib.hid hp1
                          have HP2 := Lib.hid hp2
                          have HPn : Hid (P1.n = n) := Lib.hid (by
                            have h1 := (prop_spec ok1.inv).1.n
                            rw [hp1] at h1
                            exact h1.trans ok1.n)
                          clear ok1 ok2 hp1 hp2
                          by_cases hp0 : p1 < 0
                          · have hp0b := tw1.1 hp0
                            have HTw := Lib.hid (tw2 hp0)
                            have e1 : decide (p1 < 0) = true := by simpa using hp0
                            have e2 : decide (p2 < 0) = true := by simpa using hp0b
                            have e3 : decide (0 ≤ p1) = false := by simp; omega
                            clear tw1 tw2
                            go_wp2_with (first
                              | (go_at_call 14; (with_reducible refine (pa_prop h5 hn (by omega) HP1.out).mono ?_); rintro e w6 ⟨rfl, h6⟩)
                              | (go_at_call 14; (with_reducible refine (pb_prop h6 hn (by omega) HP2.out).mono ?_); rintro e w7 ⟨rfl, h7⟩)
                              | (go_at_call 36; (with_reducible refine (pa_settled ok1i.out ok1n HP1.out h7 hn (by omega)).mono ?_); rintro e w8 ⟨rfl, hb8⟩; have h8 := On.below (pairSolid ..) h7 hb8))
                            go_loopw [19] (fun s wr => ∃ i5 : Nat, 1 ≤ i5 ∧ i5 ≤ n + 1 ∧ s = .int .i64 i5 ∧ w8 = wr) (fun s _ => n + 1 - (intOf s).toNat)
                            case atStart => exact ⟨1, by omega, by omega, rfl, rfl⟩
                            case round =>
                              obtain ⟨i5, hj1, hj2, rfl, rfl⟩ := hrel
                              by_cases hjn : i5 ≤ n
                              · have hjni : (i5 : Int) ≤ (n : Int) := by omega
                                have hvv := HTw.out.val (i5 : Int)
                                rw [HPn.out] at hvv
                                obtain ⟨v, hv⟩ : ∃ v, v = valE n P1.es (i5 : Int) := ⟨_, rfl⟩
                                have HV1 := Lib.hid (pa_value h8 hn (i5 : Int) (by unfold I64; omega) hv.symm)
                                have HV2 := Lib.hid (pb_value h8 hn (i5 : Int) (by unfold I64; omega) (hvv.symm.trans hv.symm))
                                clear hvv hv
                                go_wp2_with (first
                                  | (go_at_call 15; (with_reducible refine HV1.out.mono ?_); rintro e w9 ⟨rfl, rfl⟩)
                                  | (go_at_call 15; (with_reducible refine HV2.out.mono ?_); rintro e w9 ⟨rfl, rfl⟩))
                                go_roundw
                                case rel => exact ⟨i5 + 1, by omega, by omega, by go_num, by first | rfl | trivial⟩
                                case measure => simp [intOf]; omega
                              · have hjni : ¬ (i5 : Int) ≤ (n : Int) := by omega
                                have hjd : decide ((i5 : Int) ≤ (n : Int)) = false := by simpa using hjni
                                go_wp2_with fail
                                go_roundw
                                case rel => refine ⟨j + 1 + 1, _, P1, P2, ?_, rfl, ?_, ?_, HTw⟩ <;> first | omega | exact On.more (ctxB _ _ _ _) (On.more (ctxA _ _ _ _) h8 (by omega)) (by omega)
                                case measure => simp [intOf]; omega
                          · have hp0b : ¬ p2 < 0 := fun h => hp0 (tw1.2 h)
                            have e1 : decide (p1 < 0) = false := by simpa using hp0
                            have e2 : decide (p2 < 0) = false := by simpa using hp0b
                            have e3 : decide (0 ≤ p1) = true := by simp; omega
                            clear tw1 tw2
                            go_wp2_with (first
                              | (go_at_call 14; (with_reducible refine (pa_prop h5 hn (by omega) HP1.out).mono ?_); rintro e w6 ⟨rfl, h6⟩)
                              | (go_at_call 14; (with_reducible refine (pb_prop h6 hn (by omega) HP2.out).mono ?_); rintro e w7 ⟨rfl, h7⟩)
                              | (go_at_call 36; (with_reducible refine (pa_settled ok1i.out ok1n HP1.out h7 hn (by omega)).mono ?_); rintro e w8 ⟨rfl, hb8⟩))
                            go_ret
                            exact ⟨rfl, bel_new h7.bel h7.bel.size hb8⟩
                    · have hzi : ¬ z < (dec.length : Int) := by omega
                      have hzd : decide (z < (dec.length : Int)) = false := by simpa using hzi
                      have hb := hr.bel
                      clear hr
                      go_wp2_with fail
                      go_ret
                      exact ⟨rfl, hb⟩
                · have hqd : decide (0 ≤ r2) = false := by simpa using hq
                  go_wp2_with (first
                    | (go_at_call 13; (with_reducible refine HD1.out.mono ?_); rintro e w5 ⟨rfl, h5⟩)
                    | (go_at_call 14; (with_reducible refine (pa_prop h5 hn (by omega) HS2.out).mono ?_); rintro e w6 ⟨rfl, h6⟩))
                  go_roundw
                  case rel => exact ⟨k + 1, S2, by omega, by go_num, h6, HRt2, HCl2⟩
                  case measure => simp [intOf]; omega
              · obtain rfl : k = gone.length := by omega
                obtain ⟨S0, rfl⟩ : ∃ S0 : WS, S0 = Sa := ⟨_, rfl⟩
                obtain ⟨t0, ht0⟩ : ∃ t, t = cls.length + 1 + 2 * gone.length := ⟨_, rfl⟩
                rw [← ht0] at hr
                have h0 := hr
                have HRt0 := HRt
                have HCl0 := HCl
                clear hr HRt HCl
                have okS := pa_ok h0
                obtain ⟨q1, q2, q3, q4⟩ := back_root okS.inv.good HRt0.out
                obtain ⟨⟨S3, r3⟩, hS3⟩ : ∃ P, backS S0 0 = P := ⟨_, rfl⟩
                rw [hS3] at q1 q2 q3 q4
                simp only at q1 q2 q3 q4
                subst q1
                have HBk := Lib.hid (pa_back h0 hn (by omega) 0 (by decide) hS3)
                have HTw0 : Hid (Twin S3 A1) := Lib.hid ⟨by rw [q3, okS.n]; exact HA1n.out, fun x => by rw [q2], by rw [q4, HCl0.out, HA1c.out]; exact Like.refl _, by rw [q4, HCl0.out, HA1c.out]; exact Like.refl _⟩
                clear okS q2 q3 q4 hS3 h0
                go_wp2_with (first
                  | (go_at_call 20; (with_reducible refine HBk.out.mono ?_); rintro e w4 ⟨rfl, h4⟩)
                  | (go_at_call 14; (with_reducible refine (pb_prop h4 hn (by omega) HP.out).mono ?_); rintro e w5 ⟨rfl, h5⟩))
                go_loopw [16] (fun s wr => ∃ (k : Nat) (z : Int) (Sa Sb : WS), k ≤ dec.length + 1 ∧ s = .int .i64 z ∧ z = (k : Int) - 1 ∧ On w wr (Pair xa n (t0 + 1 + 2 * k) Sa xb (cls.length + 1 + 2 * k) Sb) ∧ Hid (Twin Sa Sb)) (fun s _ => ((dec.length : Int) - intOf s).toNat)
                case atStart => exact ⟨0, _, S3, A1, by omega, rfl, by omega, h5, HTw0⟩
                case round =>
                  obtain ⟨k, z, Sa, Sb, hk, rfl, hz, hr, HTs⟩ := hrel
                  by_cases hlt : k ≤ dec.length
                  · have hzi : z < (dec.length : Int) := by omega
                    rcases Nat.eq_zero_or_pos k with hk0 | hk0
                    · obtain rfl : z = -1 := by omega
                      obtain rfl : k = 0 := hk0
                      clear hz
                      obtain ⟨S1, rfl⟩ : ∃ S1 : WS, S1 = Sa := ⟨_, rfl⟩
                      obtain ⟨S2, rfl⟩ : ∃ S2 : WS, S2 = Sb := ⟨_, rfl⟩
                      have HT5 := HTs
                      clear hzi
                      have hzi : (-1 : Int) < (dec.length : Int) := by omega
                      go_wp2_with fail
                      go_quiet (fail)
                      have h5 := On.below (pairSolid ..) hr (bel_drewN (Below.refl wr.heap.size wr) nq)
                      obtain ⟨⟨P1, p1⟩, hp1⟩ : ∃ P, propS S1 = P := ⟨_, rfl⟩
                      obtain ⟨⟨P2, p2⟩, hp2⟩ : ∃ P, propS S2 = P := ⟨_, rfl⟩
                      have ok1 := pa_ok h5
                      have ok2 := pb_ok h5
                      obtain ⟨tw1, tw2⟩ := prop_twin HT5.out ok1.inv ok2.inv
                      rw [hp1, hp2] at tw1 tw2
                      simp only at tw1 tw2
                      have ok1n := ok1.n
                      have ok1i := Lib.hid ok1.inv
                      have HP1 := Lib.hid hp1
                      have HP2 := Lib.hid hp2
                      have HPn : Hid (P1.n = n) := Lib.hid (by
                        have h1 := (prop_spec ok1.inv).1.n
                        rw [hp1] at h1
                        exact h1.trans ok1.n)
                      clear ok1 ok2 hp1 hp2
                      by_cases hp0 : p1 < 0
                      · have hp0b := tw1.1 hp0
                        have HTw := Lib.hid (tw2 hp0)
                        have e1 : decide (p1 < 0) = true := by simpa using hp0
                        have e2 : decide (p2 < 0) = true := by simpa using hp0b
                        have e3 : decide (0 ≤ p1) = false := by simp; omega
                        clear tw1 tw2
                        go_wp2_with (first
                          | (go_at_call 14; (with_reducible refine (pa_prop h5 hn (by omega) HP1.out).mono ?_); rintro e w6 ⟨rfl, h6⟩)
                          | (go_at_call 14; (with_reducible refine (pb_prop h6 hn (by omega) HP2.out).mono ?_); rintro e w7 ⟨rfl, h7⟩)
                          | (go_at_call 36; (with_reducible refine (pa_settled ok1i.out ok1n HP1.out h7 hn (by omega)).mono ?_); rintro e w8 ⟨rfl, hb8⟩; have h8 := On.below (pairSolid ..) h7 hb8))
                        go_loopw [19] (fun s wr => ∃ i5 : Nat, 1 ≤ i5 ∧ i5 ≤ n + 1 ∧ s = .int .i64 i5 ∧ w8 = wr) (fun s _ => n + 1 - (intOf s).toNat)
                        case atStart => exact ⟨1, by omega, by omega, rfl, rfl⟩
                        case round =>
                          obtain ⟨i5, hj1, hj2, rfl, rfl⟩ := hrel
                          by_cases hjn : i5 ≤ n
                          · have hjni : (i5 : Int) ≤ (n : Int) := by omega
                            have hvv := HTw.out.val (i5 : Int)
                            rw [HPn.out] at hvv
                            obtain ⟨v, hv⟩ : ∃ v, v = valE n P1.es (i5 : Int) := ⟨_, rfl⟩
                            have HV1 := Lib.hid (pa_value h8 hn (i5 : Int) (by unfold I64; omega) hv.symm)
                            have HV2 := Lib.hid (pb_value h8 hn (i5 : Int) (by unfold I64; omega) (hvv.symm.trans hv.symm))
                            clear hvv hv
                            go_wp2_with (first
                              | (go_at_call 15; (with_reducible refine HV1.out.mono ?_); rintro e w9 ⟨rfl, rfl⟩)
                              | (go_at_call 15; (with_reducible refine HV2.out.mono ?_); rintro e w9 ⟨rfl, rfl⟩))
                            go_roundw
                            case rel => exact ⟨i5 + 1, by omega, by omega, by go_num, by first | rfl | trivial⟩
                            case measure => simp [intOf]; omega
                          · have hjni : ¬ (i5 : Int) ≤ (n : Int) := by omega
                            have hjd : decide ((i5 : Int) ≤ (n : Int)) = false := by simpa using hjni
                            go_wp2_with fail
                            go_roundw
                            case rel => refine ⟨1, _, P1, P2, ?_, rfl, ?_, ?_, HTw⟩ <;> first | omega | exact On.more (ctxB _ _ _ _) (On.more (ctxA _ _ _ _) h8 (by omega)) (by omega)
                            case measure => simp [intOf]
                      · have hp0b : ¬ p2 < 0 := fun h => hp0 (tw1.2 h)
                        have e1 : decide (p1 < 0) = false := by simpa using hp0
                        have e2 : decide (p2 < 0) = false := by simpa using hp0b
                        have e3 : decide (0 ≤ p1) = true := by simp; omega
                        clear tw1 tw2
                        go_wp2_with (first
                          | (go_at_call 14; (with_reducible refine (pa_prop h5 hn (by omega) HP1.out).mono ?_); rintro e w6 ⟨rfl, h6⟩)
                          | (go_at_call 14; (with_reducible refine (pb_prop h6 hn (by omega) HP2.out).mono ?_); rintro e w7 ⟨rfl, h7⟩)
                          | (go_at_call 36; (with_reducible refine (pa_settled ok1i.out ok1n HP1.out h7 hn (by omega)).mono ?_); rintro e w8 ⟨rfl, hb8⟩))
                        go_ret
                        exact ⟨rfl, bel_new h7.bel h7.bel.size hb8⟩
                    · obtain ⟨j, rfl⟩ : ∃ j, k = j + 1 := ⟨k - 1, by omega⟩
                      obtain rfl : z = (j : Int) := by omega
                      clear hz hk0
                      have hjl : j < dec.length := by omega
                      have hj0 : decide ((0 : Int) ≤ (j : Int)) = true := by simp
                      obtain ⟨bD, offD, rfl, hbl, hcc⟩ := HD.out (by omega)
                      have HCell : Hid (∀ w', Below w.heap.size w w' → w'.cell? ⟨bD, offD + j, none⟩ = some (.int .i64 dec[j])) := Lib.hid fun w' hb => (World.cell?_of_block (w := w) (hb.block bD hbl)).trans (hcc j hjl)
                      have hdI := HDI.out _ (List.getElem_mem hjl)
                      generalize dec[j] = d at *
                      obtain ⟨hde, hdt⟩ := dec_twin HTs.out d
                      obtain ⟨⟨S1, r1⟩, hS1⟩ : ∃ P, decS Sa d = P := ⟨_, rfl⟩
                      obtain ⟨⟨S2, r2⟩, hS2⟩ : ∃ P, decS Sb d = P := ⟨_, rfl⟩
                      rw [hS1, hS2] at hde hdt
                      simp only at hde hdt
                      subst hde
                      have HT5 := Lib.hid hdt
                      have HS1 := Lib.hid hS1
                      have HS2 := Lib.hid hS2
                      have hdr : On w wr.drew (Pair xa n (t0 + 1 + 2 * (j + 1)) Sa xb (cls.length + 1 + 2 * (j + 1)) Sb) := On.below (pairSolid ..) hr (bel_drewN (Below.refl _ _) 1)
                      have hcd : wr.drew.cell? ⟨bD, offD + j, none⟩ = some (.int .i64 d) := HCell.out _ hdr.bel
                      have HdI := Lib.hid hdI
                      clear hdt hS1 hS2 hdI hcc hbl HTs
                      go_wp2_with fail
                      go_region_held3 (fun w' => w'.cell? ⟨bD, offD + j, none⟩ = some (.int .i64 d)) (assumption)
                        ((first
                          | (go_at_call 13; (with_reducible refine (pa_decide hdr hn d HdI.out HS1.out).mono ?_); rintro e w4 ⟨rfl, h4⟩; have hc4 := HCell.out _ h4.bel)
                          | (go_at_call 13; (with_reducible refine (pb_decide h4 hn d HdI.out HS2.out).mono ?_); rintro e w5 ⟨rfl, h5⟩; have hc5 := HCell.out _ h5.bel)
                          | (go_at_call 13; (with_reducible refine (pb_decide hdr hn d HdI.out HS2.out).mono ?_); rintro e w4 ⟨rfl, h4⟩; have hc4 := HCell.out _ h4.bel)
                          | (go_at_call 13; (with_reducible refine (pa_decide h4 hn d HdI.out HS1.out).mono ?_); rintro e w5 ⟨rfl, h5⟩; have hc5 := HCell.out _ h5.bel)))
                      all_goals
                        obtain ⟨⟨P1, p1⟩, hp1⟩ : ∃ P, propS S1 = P := ⟨_, rfl⟩
                        obtain ⟨⟨P2, p2⟩, hp2⟩ : ∃ P, propS S2 = P := ⟨_, rfl⟩
                        have ok1 := pa_ok h5
                        have ok2 := pb_ok h5
                        obtain ⟨tw1, tw2⟩ := prop_twin HT5.out ok1.inv ok2.inv
                        rw [hp1, hp2] at tw1 tw2
                        simp only at tw1 tw2
                        have ok1n := ok1.n
                        have ok1i := Lib.hid ok1.inv
                        have HP1 := Lib.hid hp1
                        have HP2 := Lib.hid hp2
                        have HPn : Hid (P1.n = n) := Lib.hid (by
                          have h1 := (prop_spec ok1.inv).1.n
                          rw [hp1] at h1
                          exact h1.trans ok1.n)
                        clear ok1 ok2 hp1 hp2
                        by_cases hp0 : p1 < 0
                        · have hp0b := tw1.1 hp0
                          have HTw := Lib.hid (tw2 hp0)
                          have e1 : decide (p1 < 0) = true := by simpa using hp0
                          have e2 : decide (p2 < 0) = true := by simpa using hp0b
                          have e3 : decide (0 ≤ p1) = false := by simp; omega
                          clear tw1 tw2
                          go_wp2_with (first
                            | (go_at_call 14; (with_reducible refine (pa_prop h5 hn (by omega) HP1.out).mono ?_); rintro e w6 ⟨rfl, h6⟩)
                            | (go_at_call 14; (with_reducible refine (pb_prop h6 hn (by omega) HP2.out).mono ?_); rintro e w7 ⟨rfl, h7⟩)
                            | (go_at_call 36; (with_reducible refine (pa_settled ok1i.out ok1n HP1.out h7 hn (by omega)).mono ?_); rintro e w8 ⟨rfl, hb8⟩; have h8 := On.below (pairSolid ..) h7 hb8))
                          go_loopw [19] (fun s wr => ∃ i5 : Nat, 1 ≤ i5 ∧ i5 ≤ n + 1 ∧ s = .int .i64 i5 ∧ w8 = wr) (fun s _ => n + 1 - (intOf s).toNat)
                          case atStart => exact ⟨1, by omega, by omega, rfl, rfl⟩
                          case round =>
                            obtain ⟨i5, hj1, hj2, rfl, rfl⟩ := hrel
                            by_cases hjn : i5 ≤ n
                            · have hjni : (i5 : Int) ≤ (n : Int) := by omega
                              have hvv := HTw.out.val (i5 : Int)
                              rw [HPn.out] at hvv
                              obtain ⟨v, hv⟩ : ∃ v, v = valE n P1.es (i5 : Int) := ⟨_, rfl⟩
                              have HV1 := Lib.hid (pa_value h8 hn (i5 : Int) (by unfold I64; omega) hv.symm)
                              have HV2 := Lib.hid (pb_value h8 hn (i5 : Int) (by unfold I64; omega) (hvv.symm.trans hv.symm))
                              clear hvv hv
                              go_wp2_with (first
                                | (go_at_call 15; (with_reducible refine HV1.out.mono ?_); rintro e w9 ⟨rfl, rfl⟩)
                                | (go_at_call 15; (with_reducible refine HV2.out.mono ?_); rintro e w9 ⟨rfl, rfl⟩))
                              go_roundw
                              case rel => exact ⟨i5 + 1, by omega, by omega, by go_num, by first | rfl | trivial⟩
                              case measure => simp [intOf]; omega
                            · have hjni : ¬ (i5 : Int) ≤ (n : Int) := by omega
                              have hjd : decide ((i5 : Int) ≤ (n : Int)) = false := by simpa using hjni
                              go_wp2_with fail
                              go_roundw
                              case rel => refine ⟨j + 1 + 1, _, P1, P2, ?_, rfl, ?_, ?_, HTw⟩ <;> first | omega | exact On.more (ctxB _ _ _ _) (On.more (ctxA _ _ _ _) h8 (by omega)) (by omega)
                              case measure => simp [intOf]; omega
                        · have hp0b : ¬ p2 < 0 := fun h => hp0 (tw1.2 h)
                          have e1 : decide (p1 < 0) = false := by simpa using hp0
                          have e2 : decide (p2 < 0) = false := by simpa using hp0b
                          have e3 : decide (0 ≤ p1) = true := by simp; omega
                          clear tw1 tw2
                          go_wp2_with (first
                            | (go_at_call 14; (with_reducible refine (pa_prop h5 hn (by omega) HP1.out).mono ?_); rintro e w6 ⟨rfl, h6⟩)
                            | (go_at_call 14; (with_reducible refine (pb_prop h6 hn (by omega) HP2.out).mono ?_); rintro e w7 ⟨rfl, h7⟩)
                            | (go_at_call 36; (with_reducible refine (pa_settled ok1i.out ok1n HP1.out h7 hn (by omega)).mono ?_); rintro e w8 ⟨rfl, hb8⟩))
                          go_ret
                          exact ⟨rfl, bel_new h7.bel h7.bel.size hb8⟩
                  · have hzi : ¬ z < (dec.length : Int) := by omega
                    have hzd : decide (z < (dec.length : Int)) = false := by simpa using hzi
                    have hb := hr.bel
                    clear hr
                    go_wp2_with fail
                    go_ret
                    exact ⟨rfl, hb⟩

end Go.Proofs.Ytnachllhjojlcaa
