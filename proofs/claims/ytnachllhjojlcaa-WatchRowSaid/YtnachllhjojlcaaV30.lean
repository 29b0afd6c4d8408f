/- WatchRow: the walk. -/
import Derived.Test.YtnachllhjojlcaaV27
import Derived.Test.YtnachllhjojlcaaV29
namespace Go.Proofs.Ytnachllhjojlcaa
open Go.ChangeShapes Go.WideShapes Go.ChangeAt Go.RowKit Go.Maps Go.Deep
set_option maxRecDepth 100000

theorem adds_cl (n : Nat) : ∀ (l : List (List Int)) (S : WS), S.n = n → (addsS S l).cl = S.cl ++ l.filter (knownS n) ∧ (addsS S l).n = n
  | [], S, h => ⟨by simp [addsS], h⟩
  | c :: l, S, h => by
    have e : (addS S c).1.cl = S.cl ++ [c].filter (knownS n) ∧ (addS S c).1.n = n := by
      unfold addS
      rw [h]
      by_cases hk : knownS n c = true
      · rw [if_pos hk]
        exact ⟨by simp [hk], rfl⟩
      · rw [if_neg hk]
        exact ⟨by simp [hk], h⟩
    obtain ⟨h1, h2⟩ := adds_cl n l (addS S c).1 e.2
    refine ⟨?_, h2⟩
    show (addsS (addS S c).1 l).cl = _
    rw [h1, e.1, List.append_assoc, ← List.filter_append]
    rfl
theorem known_perm {n : Nat} {a b : List Int} (h : ∀ x, x ∈ a ↔ x ∈ b) (hk : knownS n a = true) : knownS n b = true := by
  unfold knownS at *
  rw [List.all_eq_true] at *
  exact fun x hx => hk x ((h x).2 hx)
theorem like_of {a b : List (List Int)} (h : ∀ c ∈ a, ∃ d ∈ b, ∀ x, x ∈ c ↔ x ∈ d) : Like a b := fun i hi => by
  obtain ⟨d, hd, hx⟩ := h _ (getD_mem hi)
  obtain ⟨j, hj, e⟩ := List.getElem_of_mem hd
  exact ⟨j, hj, fun x => by rw [hx, List.getD_eq_getElem?_getD, List.getElem?_eq_getElem hj, ← e]; rfl⟩
theorem turn_mem {cls : List (List Int)} {d : List Int} : d ∈ turnS cls ↔ ∃ c ∈ cls, c.reverse = d := by simp [turnS]
theorem row_twin (n : Nat) (cls : List (List Int)) : Twin (addsS (newS n) cls) (addsS (newS n) (turnS cls)) := by
  obtain ⟨a1, a2⟩ := adds_cl n cls (newS n) rfl
  obtain ⟨b1, b2⟩ := adds_cl n (turnS cls) (newS n) rfl
  have ea := adds_es n cls (newS n) rfl
  have eb := adds_es n (turnS cls) (newS n) rfl
  refine ⟨b2.trans a2.symm, fun x => by rw [ea, eb], ?_, ?_⟩
  · rw [a1, b1]
    refine like_of fun c hc => ?_
    simp only [newS, List.nil_append, List.mem_filter] at hc ⊢
    exact ⟨c.reverse, ⟨turn_mem.2 ⟨c, hc.1, rfl⟩, known_perm (fun x => by simp) hc.2⟩, fun x => by simp⟩
  · rw [a1, b1]
    refine like_of fun d hd => ?_
    simp only [newS, List.nil_append, List.mem_filter] at hd ⊢
    obtain ⟨c, hc, rfl⟩ := turn_mem.1 hd.1
    exact ⟨c, ⟨hc, known_perm (fun x => by simp) hd.2⟩, fun x => by simp⟩
theorem On.drop {W w : World} {A B : Ast} (h : On W w (A.and B)) : On W w A := by
  obtain ⟨F, ⟨Fa, Fb, a, _, _, e⟩, f, b⟩ := h
  exact ⟨Fa, a, fun k hk => f k ((e k).2 (.inl hk)), b⟩

set_option maxHeartbeats 4000000 in
theorem row_main (n : Nat) (hn : n ≤ 60) (aoC : Option Addr) (cls : List (List Int)) (capC : Nat) (aoD : Option Addr) (dec : List Int) (capD : Nat) (w : World)
    (hC : IsCls w aoC cls) (hD : Ints w aoD dec) (hc80 : cls.length ≤ 80) (hd60 : dec.length ≤ 60) (h40 : ∀ c ∈ cls, c.length ≤ 40)
    (hCI : ∀ c ∈ cls, ∀ x ∈ c, I64 x) (hDI : ∀ x ∈ dec, I64 x) :
    Calls Try.prog 3 #[.int .i64 n, .slice aoC cls.length capC, .slice aoD dec.length capD] w fun e w' => e = .returned (.bool true) ∧ Below w.heap.size w w' := by
  have d1 : decide ((60 : Int) < (n : Int)) = false := by simp; omega
  have d2 : decide ((80 : Int) < (cls.length : Int)) = false := by simp; omega
  have d3 : decide ((60 : Int) < (dec.length : Int)) = false := by simp; omega
  have HC := Lib.hid hC
  have HD := Lib.hid hD
  have H40 := Lib.hid h40
  have HCI := Lib.hid hCI
  have HDI := Lib.hid hDI
  have HTu : Hid (∀ w1, Below w.heap.size w w1 → Calls Try.prog 11 #[.slice aoC cls.length capC] w1 fun e w' => ∃ ao' cap', e = .returned (.slice ao' cls.length cap') ∧ NewCls w1 w' ao' (turnS cls) ∧ Below w1.heap.size w1 w') := Lib.hid fun w1 hb => turned_any w1 aoC cls capC (hC.below hb) hc80 h40
  have HTwin := Lib.hid (row_twin n cls)
  have hTl := turn_len cls
  have HT40 : Hid (∀ d ∈ turnS cls, d.length ≤ 40 ∧ ∀ x ∈ d, I64 x) := Lib.hid fun d hd => by
    obtain ⟨c, hc, rfl⟩ := turn_mem.1 hd
    exact ⟨by simpa using h40 c hc, fun x hx => hCI c hc x (by simpa using hx)⟩
  generalize turnS cls = T at *
  clear hC hD h40 hCI hDI
  go_enter Try.func3, Try.ntmps3
  go_wp2_with (go_at_call 9; (with_reducible refine (awake_any _).mono ?_); rintro e w1 ⟨rfl, hb1⟩)
  go_loopw [7] (fun s wr => ∃ k : Nat, k ≤ cls.length ∧ s = .int .i64 k ∧ w1 = wr) (fun s _ => cls.length - (intOf s).toNat)
  case atStart => exact ⟨0, by omega, rfl, rfl⟩
  case round =>
    obtain ⟨k, hk, rfl, rfl⟩ := hrel
    by_cases hlt : k < cls.length
    · have hki : (k : Int) < (cls.length : Int) := by omega
      obtain ⟨b, off, ai, ci, rfl, hcc, _⟩ := (HC.out.below hb1).row k hlt
      have hm := H40.out _ (List.getElem_mem hlt)
      generalize cls[k] = c at *
      have hm2 : decide ((40 : Int) < (c.length : Int)) = false := by simp; omega
      go_wp2_with fail
      go_roundw
      case rel => exact ⟨k + 1, by omega, by go_num, by first | rfl | trivial⟩
      case measure => simp [intOf]; omega
    · obtain rfl : k = cls.length := by omega
      go_wp2_with (first
        | (go_at_call 10; (with_reducible refine (on_new' hb1 hn).mono ?_); rintro e w2 ⟨xa, rfl, h2⟩)
        | (go_at_call 10; (with_reducible refine (pair_new h2 hn).mono ?_); rintro e w3 ⟨xb, rfl, h3⟩)
        | (go_at_call 11; (with_reducible refine (HTu.out _ h3.bel).mono ?_); rintro e w4 ⟨aoT, capT, rfl, hnew, hb4⟩))
      have h4 : On w w4 ((Pair xa n 0 (newS n) xb 0 (newS n)).and (snap w3 w4)) := h3.newSnap (pairSolid ..) hb4
      have HNew := Lib.hid hnew
      clear hnew h3 hb4
      go_loopw [13] (fun s wr => ∃ k : Nat, k ≤ cls.length ∧ s = .int .i64 k ∧ On w wr ((Pair xa n k (addsS (newS n) (cls.take k)) xb k (addsS (newS n) (T.take k))).and (snap w3 w4))) (fun s _ => cls.length - (intOf s).toNat)
      case atStart => exact ⟨0, by omega, rfl, h4⟩
      case round =>
        obtain ⟨k, hk, rfl, hr⟩ := hrel
        by_cases hlt : k < cls.length
        · have hki : (k : Int) < (cls.length : Int) := by omega
          have hkT : k < T.length := by omega
          have hsu := adds_succ (newS n) cls k hlt
          have hsuT := adds_succ (newS n) T k hkT
          have hm := H40.out _ (List.getElem_mem hlt)
          have hI := HCI.out _ (List.getElem_mem hlt)
          obtain ⟨hmT, hIT⟩ := HT40.out _ (List.getElem_mem hkT)
          obtain ⟨b, off, ai, ci, rfl, hcc, hi⟩ := HC.out.row k hlt
          have hltb : b < w.heap.size := World.block_lt_of_cell? (a := ⟨b, off + k, none⟩) _ hcc
          have hcr : wr.cell? ⟨b, off + k, none⟩ = some (.slice ai cls[k].length ci) := (World.cell?_of_block (w := w) (hr.bel.block b hltb)).trans hcc
          have hir := hi.below hr.bel
          obtain ⟨bT, oT, rfl, hT1, hT2, hTc⟩ := HNew.out (by omega)
          obtain ⟨aT, cT, hTc1, hTc2⟩ := hTc k hkT
          have HRT : Hid (∀ w5 F, snap w3 w4 w5 F → w5.cell? ⟨bT, oT + k, none⟩ = some (.slice aT T[k].length cT) ∧ Ints w5 aT T[k]) := Lib.hid fun w5 F hs => by
            refine ⟨(snap_cell hs ⟨bT, oT + k, none⟩ hT1 hT2).trans hTc1, fun h3 => ?_⟩
            obtain ⟨b', off', e', h1', h2', hcc'⟩ := hTc2 h3
            have hsz := hs.2.1
            exact ⟨b', off', e', by omega, fun q hq => (snap_cell hs ⟨b', off' + q, none⟩ h1' h2').trans (hcc' q hq)⟩
          generalize addsS (newS n) (cls.take k) = Sa at *
          generalize addsS (newS n) (T.take k) = Sb at *
          generalize cls[k] = c at *
          generalize T[k] = d at *
          have HSu := Lib.hid hsu
          have HSuT := Lib.hid hsuT
          have HA := Lib.hid (on_add (((Ctx.id.left (Solid.snap w3 w4)).left (Solid.wat xb n k Sb)).right Solid.emp) hr hn (by omega) ai c ci hir hm hI)
          have HmT := Lib.hid hmT
          have HIT := Lib.hid hIT
          clear hsu hsuT hr hi hir hm hI hmT hIT hcc hTc hTc1 hTc2 hT1 hT2 hltb
          go_wp2_with (first
            | (go_at_call 12; (with_reducible refine HA.out.mono ?_); rintro e w5 ⟨rfl, h5⟩; have h5c := h5; obtain ⟨_, ⟨_, Fs, _, hsn, _, _⟩, _, _⟩ := h5c; obtain ⟨hc5, hi5⟩ := HRT.out _ _ hsn)
            | (go_at_call 12; (with_reducible refine (on_add ((Ctx.id.left (Solid.snap w3 w4)).right (Solid.emp.and (Solid.wat xa n (k + 1) (addS Sa c).1))) h5 hn (by omega) _ _ _ hi5 HmT.out HIT.out).mono ?_); rintro e w6 ⟨rfl, h6⟩))
          go_roundw
          case rel =>
            refine ⟨k + 1, by omega, by go_num, ?_⟩
            rw [HSu.out, HSuT.out]
            exact h6
          case measure => simp [intOf]; omega
        · obtain rfl : k = cls.length := by omega
          rw [List.take_length, List.take_of_length_le (by omega)] at hr
          have h0 := hr.drop
          have HTw0 := HTwin
          generalize addsS (newS n) cls = A at *
          generalize addsS (newS n) T = B at *
          clear hr
          go_wp2_with fail
          go_loopw [14] (fun s wr => ∃ (k : Nat) (z : Int) (Sa Sb : WS), k ≤ dec.length + 1 ∧ s = .int .i64 z ∧ z = (k : Int) - 1 ∧ On w wr (Pair xa n (cls.length + 2 * k) Sa xb (cls.length + 2 * k) Sb) ∧ Hid (Twin Sa Sb)) (fun s _ => ((dec.length : Int) - intOf s).toNat)
          case atStart => exact ⟨0, _, A, B, by omega, rfl, by omega, h0, HTw0⟩
          case round =>
            obtain ⟨k, z, Sa, Sb, hk, rfl, hz, hr, HTs⟩ := hrel
            by_cases hlt : k ≤ dec.length
            · have hzi : z < (dec.length : Int) := by omega
              rcases Nat.eq_zero_or_pos k with hk0 | hk0
              · obtain rfl : z = -1 := by omega
                obtain rfl : k = 0 := hk0
                clear hz
                obtain ⟨S1, rfl⟩ : ∃ S1 : WS, S1 = Sa := ⟨_, rfl⟩
                obtain ⟨S2, rfl⟩ : ∃ S2 : WS, S2 = Sb := ⟨_, rfl⟩
                have HT5 := HTs
                clear hzi
                have hzi : (-1 : Int) < (dec.length : Int) := by omega
                go_wp2_with fail
                go_quiet (fail)
                have h5 := On.below (pairSolid ..) hr (bel_drewN (Below.refl wr.heap.size wr) nq)
                obtain ⟨⟨P1, p1⟩, hp1⟩ : ∃ P, propS S1 = P := ⟨_, rfl⟩
                obtain ⟨⟨P2, p2⟩, hp2⟩ : ∃ P, propS S2 = P := ⟨_, rfl⟩
                have ok1 := pa_ok h5
                have ok2 := pb_ok h5
                obtain ⟨tw1, tw2⟩ := prop_twin HT5.out ok1.inv ok2.inv
                rw [hp1, hp2] at tw1 tw2
                simp only at tw1 tw2
                have ok1n := ok1.n
                have ok1i := Lib.hid ok1.inv
                have HP1 := Lib.hid hp1
                have HP2 := Lib.hid hp2
                have HPn : Hid (P1.n = n) := Lib.hid (by
                  have h1 := (prop_spec ok1.inv).1.n
                  rw [hp1] at h1
                  exact h1.trans ok1.n)
                clear ok1 ok2 hp1 hp2
                by_cases hp0 : p1 < 0
                · have hp0b := tw1.1 hp0
                  have HTw := Lib.hid (tw2 hp0)
                  have e1 : decide (p1 < 0) = true := by simpa using hp0
                  have e2 : decide (p2 < 0) = true := by simpa using hp0b
                  have e3 : decide (0 ≤ p1) = false := by simp; omega
                  clear tw1 tw2
                  go_wp2_with (first
                    | (go_at_call 14; (with_reducible refine (pa_prop h5 hn (by omega) HP1.out).mono ?_); rintro e w6 ⟨rfl, h6⟩)
                    | (go_at_call 14; (with_reducible refine (pb_prop h6 hn (by omega) HP2.out).mono ?_); rintro e w7 ⟨rfl, h7⟩))
                  go_loopw [17] (fun s wr => ∃ i5 : Nat, 1 ≤ i5 ∧ i5 ≤ n + 1 ∧ s = .int .i64 i5 ∧ w7 = wr) (fun s _ => n + 1 - (intOf s).toNat)
                  case atStart => exact ⟨1, by omega, by omega, rfl, rfl⟩
                  case round =>
                    obtain ⟨i5, hj1, hj2, rfl, rfl⟩ := hrel
                    by_cases hjn : i5 ≤ n
                    · have hjni : (i5 : Int) ≤ (n : Int) := by omega
                      have hvv := HTw.out.val (i5 : Int)
                      rw [HPn.out] at hvv
                      obtain ⟨v, hv⟩ : ∃ v, v = valE n P1.es (i5 : Int) := ⟨_, rfl⟩
                      have HV1 := Lib.hid (pa_value h7 hn (i5 : Int) (by unfold I64; omega) hv.symm)
                      have HV2 := Lib.hid (pb_value h7 hn (i5 : Int) (by unfold I64; omega) (hvv.symm.trans hv.symm))
                      clear hvv hv
                      go_wp2_with (first
                        | (go_at_call 15; (with_reducible refine HV1.out.mono ?_); rintro e w9 ⟨rfl, rfl⟩)
                        | (go_at_call 15; (with_reducible refine HV2.out.mono ?_); rintro e w9 ⟨rfl, rfl⟩))
                      go_roundw
                      case rel => exact ⟨i5 + 1, by omega, by omega, by go_num, by first | rfl | trivial⟩
                      case measure => simp [intOf]; omega
                    · have hjni : ¬ (i5 : Int) ≤ (n : Int) := by omega
                      have hjd : decide ((i5 : Int) ≤ (n : Int)) = false := by simpa using hjni
                      go_wp2_with fail
                      go_roundw
                      case rel => refine ⟨1, _, P1, P2, ?_, rfl, ?_, ?_, HTw⟩ <;> first | omega | exact On.more (ctxB _ _ _ _) (On.more (ctxA _ _ _ _) h7 (by omega)) (by omega)
                      case measure => simp [intOf]
                · have hp0b : ¬ p2 < 0 := fun h => hp0 (tw1.2 h)
                  have e1 : decide (p1 < 0) = false := by simpa using hp0
                  have e2 : decide (p2 < 0) = false := by simpa using hp0b
                  have e3 : decide (0 ≤ p1) = true := by simp; omega
                  clear tw1 tw2
                  go_wp2_with (first
                    | (go_at_call 14; (with_reducible refine (pa_prop h5 hn (by omega) HP1.out).mono ?_); rintro e w6 ⟨rfl, h6⟩)
                    | (go_at_call 14; (with_reducible refine (pb_prop h6 hn (by omega) HP2.out).mono ?_); rintro e w7 ⟨rfl, h7⟩))
                  go_ret
                  exact ⟨rfl, h7.bel⟩
              · obtain ⟨j, rfl⟩ : ∃ j, k = j + 1 := ⟨k - 1, by omega⟩
                obtain rfl : z = (j : Int) := by omega
                clear hz hk0
                have hjl : j < dec.length := by omega
                have hj0 : decide ((0 : Int) ≤ (j : Int)) = true := by simp
                obtain ⟨bD, offD, rfl, hbl, hcc⟩ := HD.out (by omega)
                have HCell : Hid (∀ w', Below w.heap.size w w' → w'.cell? ⟨bD, offD + j, none⟩ = some (.int .i64 dec[j])) := Lib.hid fun w' hb => (World.cell?_of_block (w := w) (hb.block bD hbl)).trans (hcc j hjl)
                have hdI := HDI.out _ (List.getElem_mem hjl)
                generalize dec[j] = d at *
                obtain ⟨hde, hdt⟩ := dec_twin HTs.out d
                obtain ⟨⟨S1, r1⟩, hS1⟩ : ∃ P, decS Sa d = P := ⟨_, rfl⟩
                obtain ⟨⟨S2, r2⟩, hS2⟩ : ∃ P, decS Sb d = P := ⟨_, rfl⟩
                rw [hS1, hS2] at hde hdt
                simp only at hde hdt
                subst hde
                have HT5 := Lib.hid hdt
                have HS1 := Lib.hid hS1
                have HS2 := Lib.hid hS2
                have hdr : On w wr.drew (Pair xa n (cls.length + 2 * (j + 1)) Sa xb (cls.length + 2 * (j + 1)) Sb) := On.below (pairSolid ..) hr (bel_drewN (Below.refl _ _) 1)
                have hcd : wr.drew.cell? ⟨bD, offD + j, none⟩ = some (.int .i64 d) := HCell.out _ hdr.bel
                have HdI := Lib.hid hdI
                clear hdt hS1 hS2 hdI hcc hbl HTs
                go_wp2_with fail
                go_region_held3 (fun w' => w'.cell? ⟨bD, offD + j, none⟩ = some (.int .i64 d)) (assumption)
                  ((first
                    | (go_at_call 13; (with_reducible refine (pa_decide hdr hn d HdI.out HS1.out).mono ?_); rintro e w4 ⟨rfl, h4⟩; have hc4 := HCell.out _ h4.bel)
                    | (go_at_call 13; (with_reducible refine (pb_decide h4 hn d HdI.out HS2.out).mono ?_); rintro e w5 ⟨rfl, h5⟩; have hc5 := HCell.out _ h5.bel)
                    | (go_at_call 13; (with_reducible refine (pb_decide hdr hn d HdI.out HS2.out).mono ?_); rintro e w4 ⟨rfl, h4⟩; have hc4 := HCell.out _ h4.bel)
                    | (go_at_call 13; (with_reducible refine (pa_decide h4 hn d HdI.out HS1.out).mono ?_); rintro e w5 ⟨rfl, h5⟩; have hc5 := HCell.out _ h5.bel)))
                all_goals
                  obtain ⟨⟨P1, p1⟩, hp1⟩ : ∃ P, propS S1 = P := ⟨_, rfl⟩
                  obtain ⟨⟨P2, p2⟩, hp2⟩ : ∃ P, propS S2 = P := ⟨_, rfl⟩
                  have ok1 := pa_ok h5
                  have ok2 := pb_ok h5
                  obtain ⟨tw1, tw2⟩ := prop_twin HT5.out ok1.inv ok2.inv
                  rw [hp1, hp2] at tw1 tw2
                  simp only at tw1 tw2
                  have ok1n := ok1.n
                  have ok1i := Lib.hid ok1.inv
                  have HP1 := Lib.hid hp1
                  have HP2 := Lib.hid hp2
                  have HPn : Hid (P1.n = n) := Lib.hid (by
                    have h1 := (prop_spec ok1.inv).1.n
                    rw [hp1] at h1
                    exact h1.trans ok1.n)
                  clear ok1 ok2 hp1 hp2
                  by_cases hp0 : p1 < 0
                  · have hp0b := tw1.1 hp0
                    have HTw := Lib.hid (tw2 hp0)
                    have e1 : decide (p1 < 0) = true := by simpa using hp0
                    have e2 : decide (p2 < 0) = true := by simpa using hp0b
                    have e3 : decide (0 ≤ p1) = false := by simp; omega
                    clear tw1 tw2
                    go_wp2_with (first
                      | (go_at_call 14; (with_reducible refine (pa_prop h5 hn (by omega) HP1.out).mono ?_); rintro e w6 ⟨rfl, h6⟩)
                      | (go_at_call 14; (with_reducible refine (pb_prop h6 hn (by omega) HP2.out).mono ?_); rintro e w7 ⟨rfl, h7⟩))
                    go_loopw [17] (fun s wr => ∃ i5 : Nat, 1 ≤ i5 ∧ i5 ≤ n + 1 ∧ s = .int .i64 i5 ∧ w7 = wr) (fun s _ => n + 1 - (intOf s).toNat)
                    case atStart => exact ⟨1, by omega, by omega, rfl, rfl⟩
                    case round =>
                      obtain ⟨i5, hj1, hj2, rfl, rfl⟩ := hrel
                      by_cases hjn : i5 ≤ n
                      · have hjni : (i5 : Int) ≤ (n : Int) := by omega
                        have hvv := HTw.out.val (i5 : Int)
                        rw [HPn.out] at hvv
                        obtain ⟨v, hv⟩ : ∃ v, v = valE n P1.es (i5 : Int) := ⟨_, rfl⟩
                        have HV1 := Lib.hid (pa_value h7 hn (i5 : Int) (by unfold I64; omega) hv.symm)
                        have HV2 := Lib.hid (pb_value h7 hn (i5 : Int) (by unfold I64; omega) (hvv.symm.trans hv.symm))
                        clear hvv hv
                        go_wp2_with (first
                          | (go_at_call 15; (with_reducible refine HV1.out.mono ?_); rintro e w9 ⟨rfl, rfl⟩)
                          | (go_at_call 15; (with_reducible refine HV2.out.mono ?_); rintro e w9 ⟨rfl, rfl⟩))
                        go_roundw
                        case rel => exact ⟨i5 + 1, by omega, by omega, by go_num, by first | rfl | trivial⟩
                        case measure => simp [intOf]; omega
                      · have hjni : ¬ (i5 : Int) ≤ (n : Int) := by omega
                        have hjd : decide ((i5 : Int) ≤ (n : Int)) = false := by simpa using hjni
                        go_wp2_with fail
                        go_roundw
                        case rel => refine ⟨j + 1 + 1, _, P1, P2, ?_, rfl, ?_, ?_, HTw⟩ <;> first | omega | exact On.more (ctxB _ _ _ _) (On.more (ctxA _ _ _ _) h7 (by omega)) (by omega)
                        case measure => simp [intOf]; omega
                  · have hp0b : ¬ p2 < 0 := fun h => hp0 (tw1.2 h)
                    have e1 : decide (p1 < 0) = false := by simpa using hp0
                    have e2 : decide (p2 < 0) = false := by simpa using hp0b
                    have e3 : decide (0 ≤ p1) = true := by simp; omega
                    clear tw1 tw2
                    go_wp2_with (first
                      | (go_at_call 14; (with_reducible refine (pa_prop h5 hn (by omega) HP1.out).mono ?_); rintro e w6 ⟨rfl, h6⟩)
                      | (go_at_call 14; (with_reducible refine (pb_prop h6 hn (by omega) HP2.out).mono ?_); rintro e w7 ⟨rfl, h7⟩))
                    go_ret
                    exact ⟨rfl, h7.bel⟩
            · have hzi : ¬ z < (dec.length : Int) := by omega
              have hzd : decide (z < (dec.length : Int)) = false := by simpa using hzi
              have hb := hr.bel
              clear hr
              go_wp2_with fail
              go_ret
              exact ⟨rfl, hb⟩

end Go.Proofs.Ytnachllhjojlcaa
