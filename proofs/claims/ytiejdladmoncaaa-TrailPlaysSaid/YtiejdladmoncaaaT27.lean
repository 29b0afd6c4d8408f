/- The law's like. -/
import Derived.Test.YtiejdladmoncaaaT26
import Derived.Deep.RegionHeld3
import Derived.BigQuiet
import Derived.Deep.QuietTactic
namespace Go.Proofs.Ytiejdladmoncaaa
open Go.ChangeShapes Go.WideShapes Go.ChangeAt Go.RowKit
set_option maxRecDepth 100000

theorem entE_of {n : Nat} {es : List En} (v : Int) (h : ¬ (v < 0 ∨ (n : Int) ≤ v)) : (entE es v).level = (ofE n es v).level ∧ (entE es v).reason = (ofE n es v).reason := by
  unfold entE ofE
  rw [if_neg h, if_neg (by omega)]
  cases look es v.toNat <;> exact ⟨rfl, rfl⟩

set_option maxHeartbeats 4000000 in
theorem like_any {w0 : World} {X : Nat → Prop} {L : List (Nat × TrD)} (i g x n : Nat) (es : List En) (w : World) (hT : Trails w0 w X L) (hL : L[i]? = some (g, trE n es)) (hR : RefA w X x n es) (hg : Good n es) (hn : n ≤ 5000) :
    Calls Try.prog 28 #[.pointer (some ⟨g, 0, none⟩), .pointer (some ⟨x, 0, none⟩)] w fun e w' => e = .returned (.bool true) ∧ Below w.heap.size w w' := by
  have hlen := hg.len_le
  have HT : Hid (∀ w', Below w.heap.size w w' → Trails w0 w' X L) := Lib.hid fun w' h => hT.below h
  have HR : Hid (∀ w', Below w.heap.size w w' → RefA w' X x n es) := Lib.hid fun w' h => hR.below h
  obtain ⟨v, hb, hO, hX, hvX⟩ := hR
  obtain ⟨ao, cap, rfl, _, _, _⟩ := hO.form
  have hc0 := hb.cell 0
  have hc1 := hb.cell 1
  have hc2 := hb.cell 2
  simp at hc0 hc1 hc2
  have hxl := hb.lt
  have HB := Lib.hid hb
  have HO := Lib.hid hO
  have HG := Lib.hid hg
  obtain ⟨hh, hhe⟩ : ∃ hh, hi es = hh := ⟨_, rfl⟩
  rw [hhe] at hc2
  have HA1 : Hid (∀ w', Below w.heap.size w w' → Calls Try.prog 13 #[.pointer (some ⟨g, 0, none⟩), .int .i64 (-1)] w' fun e w'' => e = .returned (.int .i64 0) ∧ w'' = w') := Lib.hid fun w' h => (at_eq (hT.below h) i hL (-1) 0 (at_out es (-1) (.inl (by omega)))).mono fun _ _ hh => ⟨hh.1, hh.2.symm⟩
  have HA2 : Hid (∀ w', Below w.heap.size w w' → Calls Try.prog 13 #[.pointer (some ⟨g, 0, none⟩), .int .i64 es.length] w' fun e w'' => e = .returned (.int .i64 0) ∧ w'' = w') := Lib.hid fun w' h => (at_eq (hT.below h) i hL es.length 0 (at_out es es.length (.inr (Int.le_refl _)))).mono fun _ _ hh => ⟨hh.1, hh.2.symm⟩
  have HVa : Hid (∀ w', Below w.heap.size w w' → Calls Try.prog 22 #[.pointer (some ⟨g, 0, none⟩)] w' fun e w'' => e = .returned (.int .i64 n) ∧ w'' = w') := Lib.hid fun w' h => (vars_tr (hT.below h) i hL).mono fun _ _ hh => ⟨hh.1, hh.2.symm⟩
  have HLn : Hid (∀ w', Below w.heap.size w w' → Calls Try.prog 12 #[.pointer (some ⟨g, 0, none⟩)] w' fun e w'' => e = .returned (.int .i64 es.length) ∧ w'' = w') := Lib.hid fun w' h => (len_tr (hT.below h) i hL).mono fun _ _ hh => ⟨hh.1, hh.2.symm⟩
  have HLv : Hid (∀ w', Below w.heap.size w w' → Calls Try.prog 15 #[.pointer (some ⟨g, 0, none⟩)] w' fun e w'' => e = .returned (.int .i64 hh) ∧ w'' = w') := Lib.hid fun w' h => (level_eq (hT.below h) i hL hg hh hhe).mono fun _ _ hh => ⟨hh.1, hh.2.symm⟩
  have HAt : Hid (∀ (k : Nat) (z : Int), atE es k = z → ∀ w', Below w.heap.size w w' → Calls Try.prog 13 #[.pointer (some ⟨g, 0, none⟩), .int .i64 k] w' fun e w'' => e = .returned (.int .i64 z) ∧ w'' = w') := Lib.hid fun k z hz w' h => (at_eq (hT.below h) i hL k z hz).mono fun _ _ hh => ⟨hh.1, hh.2.symm⟩
  clear hT hb hO hg hhe
  go_enter Try.func28, Try.ntmps28
  go_wp2_with fail
  go_quiet (first
    | (go_at_call 22; exact Calls.quiet_of_same (HVa.out _ (bel_drewN (Below.refl _ _) _)))
    | (go_at_call 12; exact Calls.quiet_of_same (HLn.out _ (bel_drewN (Below.refl _ _) _)))
    | (go_at_call 15; exact Calls.quiet_of_same (HLv.out _ (bel_drewN (Below.refl _ _) _)))
    | (go_at_call 13; with_reducible exact Calls.quiet_of_same (HA1.out _ (bel_drewN (Below.refl _ _) _)))
    | (go_at_call 13; with_reducible exact Calls.quiet_of_same (HA2.out _ (bel_drewN (Below.refl _ _) _))))
  go_wp2_with fail
  go_loopw [5] (fun i wr => ∃ k : Nat, k ≤ es.length ∧ i = .int .i64 k ∧ Below w.heap.size w wr) (fun i _ => es.length - (intOf i).toNat)
  case atStart => exact ⟨0, by omega, rfl, bel_drewN (Below.refl _ _) _⟩
  case round =>
    obtain ⟨k, hk, rfl, hB⟩ := hrel
    have hbr := HB.out.below hB hxl
    have hOr := HO.out.new hB
    have hc1r := hbr.cell 1
    simp at hc1r
    have HBl := Lib.hid hB
    by_cases hlt : k < es.length
    · obtain ⟨e, he, hold, hrev, hat⟩ := older_rev es k hlt
      obtain ⟨bl, off, cap', ev, hce, _, _, hbl⟩ := ref_at hOr k e hlt hrev
      injection ev with e1 e2 e3
      subst e1 e3
      have hki : (k : Int) < (es.length : Int) := by omega
      have HA := Lib.hid (HAt.out k e.lit hat)
      generalize e.lit = el at *
      clear hold hrev he hat e2 hbr hOr hB
      go_wp2_with fail
      go_quiet (first | (go_at_call 13; exact Calls.quiet_of_same (HA.out _ (bel_drewN HBl.out _))))
      go_wp2_with fail
      go_roundw
      case rel => exact ⟨k + 1, by omega, by go_num, bel_drewN HBl.out _⟩
      case measure => simp [intOf]; omega
    · obtain rfl : k = es.length := by omega
      clear hbr hOr
      go_wp2_with fail
      go_loopw [6] (fun i wr => ∃ vI : Int, -1 ≤ vI ∧ vI ≤ n + 1 ∧ vI ≤ 30 ∧ i = .int .i64 vI ∧ Below w.heap.size w wr) (fun i _ => (5002 - intOf i).toNat)
      case atStart => exact ⟨-1, by omega, by omega, by omega, rfl, HBl.out⟩
      case round =>
        obtain ⟨vI, hv1, hv2, hv3, rfl, hB⟩ := hrel
        have hbr := HB.out.below hB hxl
        have hc0r := hbr.cell 0
        simp at hc0r
        by_cases hout : (n : Int) < vI
        · have ho1 : ¬ vI ≤ (n : Int) := by omega
          have ho2 : decide (vI ≤ (n : Int)) = false := by simpa using ho1
          have HBl := Lib.hid hB
          clear hbr hB
          go_wp2_with fail
          go_ret
          exact ⟨rfl, HBl.out⟩
        · by_cases hout2 : 30 ≤ vI
          · have ho1 : ¬ vI < 30 := by omega
            have ho2 : decide (vI < 30) = false := by simpa using ho1
            have ho3 : vI ≤ (n : Int) := by omega
            have HBl := Lib.hid hB
            clear hbr hB
            go_wp2_with fail
            go_ret
            exact ⟨rfl, HBl.out⟩
          · have ho3 : vI ≤ (n : Int) := by omega
            have ho4 : vI < 30 := by omega
            have HBl := Lib.hid hB
            have hw1 : IntKind.i64.wrap (vI + 1) = vI + 1 := by rw [IntKind.wrap_i64]; omega
            have hw2 : IntKind.i64.wrap (-vI) = -vI := by rw [IntKind.wrap_i64]; omega
            have hw3 : IntKind.i64.wrap (-vI - 1) = -vI - 1 := by rw [IntKind.wrap_i64]; omega
            have HV1 : Hid (∀ w', Below w.heap.size w w' → Calls Try.prog 10 #[.pointer (some ⟨g, 0, none⟩), .int .i64 (vI + 1)] w' fun e w'' => e = .returned (.int .i64 (valE n es (vI + 1))) ∧ w' = w'') := Lib.hid fun w' h => value_eq (HT.out w' h) i hL hn (vI + 1) ⟨by omega, by omega⟩ _ rfl
            have HV2 : Hid (∀ w', Below w.heap.size w w' → Calls Try.prog 10 #[.pointer (some ⟨g, 0, none⟩), .int .i64 (-vI - 1)] w' fun e w'' => e = .returned (.int .i64 (valE n es (-vI - 1))) ∧ w' = w'') := Lib.hid fun w' h => value_eq (HT.out w' h) i hL hn (-vI - 1) ⟨by omega, by omega⟩ _ rfl
            have HW1 : Hid (∀ w', Below w.heap.size w w' → Calls Try.prog 37 #[.pointer (some ⟨x, 0, none⟩), .int .i64 (vI + 1)] w' fun e w'' => e = .returned (.int .i64 (valE n es (vI + 1))) ∧ w' = w'') := Lib.hid fun w' h => rvalue_any X x n es (vI + 1) w' (HR.out w' h) HG.out hn ⟨by omega, by omega⟩
            have HW2 : Hid (∀ w', Below w.heap.size w w' → Calls Try.prog 37 #[.pointer (some ⟨x, 0, none⟩), .int .i64 (-vI - 1)] w' fun e w'' => e = .returned (.int .i64 (valE n es (-vI - 1))) ∧ w' = w'') := Lib.hid fun w' h => rvalue_any X x n es (-vI - 1) w' (HR.out w' h) HG.out hn ⟨by omega, by omega⟩
            have HE : Hid (∀ w', Below w.heap.size w w' → Calls Try.prog 11 #[.pointer (some ⟨g, 0, none⟩), .int .i64 vI] w' fun e w'' => e = .returned (.int .i64 (ofE n es vI).level) ∧ Below w'.heap.size w' w'') := Lib.hid fun w' h => levelOf_tr (HT.out w' h) i hL hn vI
            have HRs : Hid (∀ w', Below w.heap.size w w' → Calls Try.prog 14 #[.pointer (some ⟨g, 0, none⟩), .int .i64 vI] w' fun e w'' => e = .returned (.int .i64 (ofE n es vI).reason) ∧ Below w'.heap.size w' w'') := Lib.hid fun w' h => reason_tr (HT.out w' h) i hL hn vI
            have HOf := Lib.hid (rof_any X x n es vI wr (HR.out wr hB) HG.out hn hv1 (by omega))
            have hen : ¬ (vI < 0 ∨ (n : Int) ≤ vI) → (entE es vI).level = (ofE n es vI).level ∧ (entE es vI).reason = (ofE n es vI).reason := entE_of vI
            have hofo : (vI < 0 ∨ (n : Int) ≤ vI) → (ofE n es vI).level = -1 ∧ (ofE n es vI).reason = -1 := fun h => by
              unfold ofE
              rw [if_pos h]
              exact ⟨rfl, rfl⟩
            generalize valE n es (vI + 1) = z1 at *
            generalize valE n es (-vI - 1) = z2 at *
            generalize (ofE n es vI).level = lvl at *
            generalize (ofE n es vI).reason = rsn at *
            generalize (entE es vI).lit = el0 at *
            generalize (entE es vI).level = el1 at *
            generalize (entE es vI).reason = el2 at *
            clear hbr hB
            by_cases hin : vI < 0 ∨ (n : Int) ≤ vI
            · obtain ⟨rfl, rfl⟩ := hofo hin
              clear hofo hen
              by_cases hneg : vI < 0
              · clear hin
                go_upto_region 14 with (first
                  | (go_at_call 39; refine HOf.out.mono ?_; rintro e w2 ⟨rfl, hB2⟩; have hc02 := (HB.out.below (bel_new HBl.out HBl.out.size hB2) hxl).cell 0; simp at hc02; have hx2 : x < w2.heap.size := (by have h1 := HBl.out.size; have h2 := hB2.size; omega)))
                have hB3 := bel_new HBl.out HBl.out.size hB2
                obtain ⟨W, hW⟩ : ∃ W, W = w2.alloc (.cells #[.int .i64 0, .int .i64 (-1), .int .i64 (-1)] 62) := ⟨_, rfl⟩
                have hBW : Below w.heap.size w W := by rw [hW]; exact hB3.alloc hB3.size _
                have hBk : Blk W w2.heap.size 62 #[.int .i64 0, .int .i64 (-1), .int .i64 (-1)] := by rw [hW]; exact Blk.new w2 _ _
                have HS : Hid (∀ w', Below W.heap.size W w' → w'.cell? ⟨w2.heap.size, 1, none⟩ = some (.int .i64 (-1)) ∧ w'.cell? ⟨w2.heap.size, 2, none⟩ = some (.int .i64 (-1))) := Lib.hid fun w' h => by
                  have hh := hBk.below h hBk.lt
                  exact ⟨hh.cell 1, hh.cell 2⟩
                have HBW := Lib.hid hBW
                have hbd : Below W.heap.size W W.drew := bel_drewN (Below.refl _ _) 1
                rw [← hW]
                clear hW hBk hB3 hBW hB2
                go_region_held3 (fun w' => w'.cell? ⟨w2.heap.size, 1, none⟩ = some (.int .i64 (-1)) ∧ w'.cell? ⟨w2.heap.size, 2, none⟩ = some (.int .i64 (-1))) (first | exact HS.out _ (by assumption)) ((first
                  | (go_at_call 10; (with_reducible refine (HV1.out _ (bel_new HBW.out HBW.out.size hbd)).mono ?_); rintro e w' ⟨rfl, rfl⟩)
                  | (go_at_call 10; (with_reducible refine (HV2.out _ (bel_new HBW.out HBW.out.size hbd)).mono ?_); rintro e w' ⟨rfl, rfl⟩)
                  | (go_at_call 37; (with_reducible refine (HW1.out _ (bel_new HBW.out HBW.out.size hbd)).mono ?_); rintro e w' ⟨rfl, rfl⟩)
                  | (go_at_call 37; (with_reducible refine (HW2.out _ (bel_new HBW.out HBW.out.size hbd)).mono ?_); rintro e w' ⟨rfl, rfl⟩)
                  | (go_at_call 11; (with_reducible refine (HE.out _ (bel_new HBW.out HBW.out.size hbd)).mono ?_); rintro e w5 ⟨rfl, hb5⟩; have hb5' := bel_new hbd hbd.size hb5)
                  | (go_at_call 14; (with_reducible refine (HRs.out _ (bel_new HBW.out HBW.out.size hb5')).mono ?_); rintro e w6 ⟨rfl, hb6⟩; have hb6' := bel_new hb5' hb5'.size hb6)))
                go_wp2_with fail
                go_roundw
                case rel => exact ⟨vI + 1, by omega, by omega, by omega, by go_num, bel_new HBW.out HBW.out.size hb6'⟩
                case measure => simp [intOf]; omega
              · have hi1 : decide (vI < 0) = false := by simpa using hneg
                have hi2 : (n : Int) ≤ vI := by omega
                clear hin
                go_upto_region 14 with (first
                  | (go_at_call 39; refine HOf.out.mono ?_; rintro e w2 ⟨rfl, hB2⟩; have hc02 := (HB.out.below (bel_new HBl.out HBl.out.size hB2) hxl).cell 0; simp at hc02; have hx2 : x < w2.heap.size := (by have h1 := HBl.out.size; have h2 := hB2.size; omega)))
                have hB3 := bel_new HBl.out HBl.out.size hB2
                obtain ⟨W, hW⟩ : ∃ W, W = w2.alloc (.cells #[.int .i64 0, .int .i64 (-1), .int .i64 (-1)] 62) := ⟨_, rfl⟩
                have hBW : Below w.heap.size w W := by rw [hW]; exact hB3.alloc hB3.size _
                have hBk : Blk W w2.heap.size 62 #[.int .i64 0, .int .i64 (-1), .int .i64 (-1)] := by rw [hW]; exact Blk.new w2 _ _
                have HS : Hid (∀ w', Below W.heap.size W w' → w'.cell? ⟨w2.heap.size, 1, none⟩ = some (.int .i64 (-1)) ∧ w'.cell? ⟨w2.heap.size, 2, none⟩ = some (.int .i64 (-1))) := Lib.hid fun w' h => by
                  have hh := hBk.below h hBk.lt
                  exact ⟨hh.cell 1, hh.cell 2⟩
                have HBW := Lib.hid hBW
                have hbd : Below W.heap.size W W.drew := bel_drewN (Below.refl _ _) 1
                rw [← hW]
                clear hW hBk hB3 hBW hB2
                go_region_held3 (fun w' => w'.cell? ⟨w2.heap.size, 1, none⟩ = some (.int .i64 (-1)) ∧ w'.cell? ⟨w2.heap.size, 2, none⟩ = some (.int .i64 (-1))) (first | exact HS.out _ (by assumption)) ((first
                  | (go_at_call 10; (with_reducible refine (HV1.out _ (bel_new HBW.out HBW.out.size hbd)).mono ?_); rintro e w' ⟨rfl, rfl⟩)
                  | (go_at_call 10; (with_reducible refine (HV2.out _ (bel_new HBW.out HBW.out.size hbd)).mono ?_); rintro e w' ⟨rfl, rfl⟩)
                  | (go_at_call 37; (with_reducible refine (HW1.out _ (bel_new HBW.out HBW.out.size hbd)).mono ?_); rintro e w' ⟨rfl, rfl⟩)
                  | (go_at_call 37; (with_reducible refine (HW2.out _ (bel_new HBW.out HBW.out.size hbd)).mono ?_); rintro e w' ⟨rfl, rfl⟩)
                  | (go_at_call 11; (with_reducible refine (HE.out _ (bel_new HBW.out HBW.out.size hbd)).mono ?_); rintro e w5 ⟨rfl, hb5⟩; have hb5' := bel_new hbd hbd.size hb5)
                  | (go_at_call 14; (with_reducible refine (HRs.out _ (bel_new HBW.out HBW.out.size hb5')).mono ?_); rintro e w6 ⟨rfl, hb6⟩; have hb6' := bel_new hb5' hb5'.size hb6)))
                go_wp2_with fail
                go_roundw
                case rel => exact ⟨vI + 1, by omega, by omega, by omega, by go_num, bel_new HBW.out HBW.out.size hb6'⟩
                case measure => simp [intOf]; omega
            · obtain ⟨rfl, rfl⟩ := hen hin
              have hi1 : decide (vI < 0) = false := by simp; omega
              have hi2 : decide ((n : Int) ≤ vI) = false := by simp; omega
              clear hofo hen
              go_upto_region 14 with (first
                | (go_at_call 39; refine HOf.out.mono ?_; rintro e w2 ⟨rfl, hB2⟩; have hc02 := (HB.out.below (bel_new HBl.out HBl.out.size hB2) hxl).cell 0; simp at hc02; have hx2 : x < w2.heap.size := (by have h1 := HBl.out.size; have h2 := hB2.size; omega)))
              have hB3 := bel_new HBl.out HBl.out.size hB2
              obtain ⟨W, hW⟩ : ∃ W, W = w2.alloc (.cells #[.int .i64 el0, .int .i64 el1, .int .i64 el2] 62) := ⟨_, rfl⟩
              have hBW : Below w.heap.size w W := by rw [hW]; exact hB3.alloc hB3.size _
              have hBk : Blk W w2.heap.size 62 #[.int .i64 el0, .int .i64 el1, .int .i64 el2] := by rw [hW]; exact Blk.new w2 _ _
              have HS : Hid (∀ w', Below W.heap.size W w' → w'.cell? ⟨w2.heap.size, 1, none⟩ = some (.int .i64 el1) ∧ w'.cell? ⟨w2.heap.size, 2, none⟩ = some (.int .i64 el2)) := Lib.hid fun w' h => by
                have hh := hBk.below h hBk.lt
                exact ⟨hh.cell 1, hh.cell 2⟩
              have HBW := Lib.hid hBW
              have hbd : Below W.heap.size W W.drew := bel_drewN (Below.refl _ _) 1
              rw [← hW]
              clear hW hBk hB3 hBW hB2
              go_region_held3 (fun w' => w'.cell? ⟨w2.heap.size, 1, none⟩ = some (.int .i64 el1) ∧ w'.cell? ⟨w2.heap.size, 2, none⟩ = some (.int .i64 el2)) (first | exact HS.out _ (by assumption)) ((first
                | (go_at_call 10; (with_reducible refine (HV1.out _ (bel_new HBW.out HBW.out.size hbd)).mono ?_); rintro e w' ⟨rfl, rfl⟩)
                | (go_at_call 10; (with_reducible refine (HV2.out _ (bel_new HBW.out HBW.out.size hbd)).mono ?_); rintro e w' ⟨rfl, rfl⟩)
                | (go_at_call 37; (with_reducible refine (HW1.out _ (bel_new HBW.out HBW.out.size hbd)).mono ?_); rintro e w' ⟨rfl, rfl⟩)
                | (go_at_call 37; (with_reducible refine (HW2.out _ (bel_new HBW.out HBW.out.size hbd)).mono ?_); rintro e w' ⟨rfl, rfl⟩)
                | (go_at_call 11; (with_reducible refine (HE.out _ (bel_new HBW.out HBW.out.size hbd)).mono ?_); rintro e w5 ⟨rfl, hb5⟩; have hb5' := bel_new hbd hbd.size hb5)
                | (go_at_call 14; (with_reducible refine (HRs.out _ (bel_new HBW.out HBW.out.size hb5')).mono ?_); rintro e w6 ⟨rfl, hb6⟩; have hb6' := bel_new hb5' hb5'.size hb6)))
              go_wp2_with fail
              go_roundw
              case rel => exact ⟨vI + 1, by omega, by omega, by omega, by go_num, bel_new HBW.out HBW.out.size hb6'⟩
              case measure => simp [intOf]; omega

end Go.Proofs.Ytiejdladmoncaaa
