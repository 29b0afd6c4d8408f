/- TrailJust: the walk. -/
import Derived.Test.YtiejdladmoncaaaT20
namespace Go.Proofs.Ytiejdladmoncaaa
open Go.ChangeShapes Go.WideShapes Go.ChangeAt Go.RowKit
set_option maxRecDepth 100000

theorem val_lit {n : Nat} {es : List En} {x : Int} (h : valE n es x = 0) (hx : Lit n x) : look es (x.natAbs - 1) = none := by
  have hx' := hx
  unfold Lit at hx'
  unfold valE at h
  rw [if_pos hx'] at h
  cases hl : look es (x.natAbs - 1) with
  | none => rfl
  | some e =>
    rw [hl] at h
    simp only at h
    split at h <;> cases h
theorem val_none {n : Nat} {es : List En} {x : Int} (h : look es (x.natAbs - 1) = none) : valE n es x = 0 := by
  unfold valE
  split
  · rw [h]
  · rfl

/-- What the two puts make of a trail, as TrailJust asks of it. -/
structure Just (n : Nat) (es esT esD : List En) (lit reason ce cf : Int) : Prop where
  hT : Good n esT
  hD : Good n esD
  hA : asnC n es lit reason = (ce, esT)
  hDc : decC n es lit = (cf, esD)
  same : ∀ v : Nat, (v : Int) + 1 ≠ lit.natAbs → look esT v = look es v ∧ look esD v = look es v

theorem just_of {n : Nat} {es : List En} (lit reason : Int) (hg : Good n es) : ∃ esT esD ce cf, Just n es esT esD lit reason ce cf := by
  refine ⟨_, _, _, _, asnC_good lit reason hg, decC_good lit hg, rfl, rfl, fun v hv => ⟨?_, ?_⟩⟩
  · simp only [asnC]
    split
    · rfl
    · by_cases ho : openC n es lit = 0
      · simp only [if_pos ho, look]
        rw [if_neg (by omega)]
      · simp only [if_neg ho]
  · simp only [decC]
    split
    · simp only [look]
      rw [if_neg (by omega)]
    · rfl

set_option maxHeartbeats 4000000 in
theorem just_main (n : Nat) (hn : n ≤ 5000) (ao : Option Addr) (l : List StepD) (cap b off : Nat) (lit reason : Int) (hlit : I64 lit) (w : World)
    (hl : IsSteps w w.heap.size ao b off l) (hll : l.length ≤ 300) :
    Calls Try.prog 4 #[.int .i64 n, .slice ao l.length cap, .int .i64 lit, .int .i64 reason] w fun e w' => e = .returned (.bool true) ∧ Below w.heap.size w w' := by
  have HP : Hid (∀ w1, Below w.heap.size w w1 → Calls Try.prog 9 #[.int .i64 n, .slice ao l.length cap] w1 fun e w' => ∃ g, e = .returned (.pointer (some ⟨g, 0, none⟩)) ∧ Trails w w' (fun _ => False) [(g, trE n (playE n [] l))]) :=
    Lib.hid fun w1 hb => played_any n ao l cap b off w w1 hb hl hn hll
  have hg := playE_good (n := n) l (es := []) trivial
  generalize playE n [] l = es at *
  have hlen := hg.len_le
  have hA1 : ¬ (300 : Int) < (l.length : Int) := by omega
  have hD1 : decide ((300 : Int) < (l.length : Int)) = false := by simpa using hA1
  have hA3 : ¬ (5000 : Int) < (n : Int) := by omega
  have hD3 : decide ((5000 : Int) < (n : Int)) = false := by simpa using hA3
  have HG := Lib.hid hg
  have HI := Lib.hid hlit
  obtain ⟨esT, esD, ce, cf, hj⟩ := just_of lit reason hg
  have HJ := Lib.hid hj
  clear hl hg hlen hj hlit
  by_cases hmin : lit = -9223372036854775808
  · subst hmin
    have hop : openC n es (-9223372036854775808) = 1 := by
      unfold openC
      rw [if_neg (by omega)]
    have hce : ce = 1 := by
      have h := HJ.out.hA
      by_cases hr : reason < 0
      · simp only [asnC, if_pos hr] at h
        injection h with h _
        exact h.symm
      · simp only [asnC, if_neg hr, hop] at h
        injection h with h _
        exact h.symm
    have hcf : cf = 1 := by
      have h := HJ.out.hDc
      simp only [decC, hop] at h
      injection h with h _
      exact h.symm
    clear hop
    subst hce hcf
    go_enter Try.func4, Try.ntmps4
    go_wp2_with (first
      | (go_at_call 8; refine (works_any w).mono ?_; rintro r w1 ⟨rfl, hB1⟩)
      | (go_at_call 9; refine (HP.out _ hB1).mono ?_; rintro r w2 ⟨g, rfl, h2⟩)
      | (go_at_call 16; (with_reducible refine (copy_tr (g := g) (n := n) (es := es) h2 0 (by kernel_rfl) HG.out hn).mono ?_); rintro r w3 ⟨g2, rfl, h3, _⟩)
      | (go_at_call 16; (with_reducible refine (copy_tr (g := g) (n := n) (es := es) h3 0 (by kernel_rfl) HG.out hn).mono ?_); rintro r w4 ⟨g3, rfl, h4, _⟩)
      | (go_at_call 17; (with_reducible refine (assign_eq' (g := g) (n := n) (es := es) h4 0 (by kernel_rfl) HG.out hn _ reason HI.out 1 esT HJ.out.hA).mono ?_); rintro r w5 ⟨rfl, h5, _⟩)
      | (go_at_call 18; (with_reducible refine (decide_eq' (g := g2) (n := n) (es := es) h5 1 (by kernel_rfl) HG.out hn _ HI.out 1 esD HJ.out.hDc).mono ?_); rintro r w6 ⟨rfl, h6, _⟩))
    go_ret
    exact ⟨rfl, h6.bel⟩
  · have hmin' : (lit == -9223372036854775808) = false := by simpa using hmin
    have hb1 : -9223372036854775807 ≤ lit := by have := HI.out.1; omega
    have hb2 : lit ≤ 9223372036854775807 := HI.out.2
    obtain ⟨mI, hmI⟩ : ∃ mI : Int, mI = (lit.natAbs : Int) - 1 := ⟨_, rfl⟩
    have HM := Lib.hid hmI
    clear hmI
    go_enter Try.func4, Try.ntmps4
    go_upto_region 11 with (first
      | (go_at_call 8; refine (works_any w).mono ?_; rintro r w1 ⟨rfl, hB1⟩)
      | (go_at_call 9; refine (HP.out _ hB1).mono ?_; rintro r w2 ⟨g, rfl, h2⟩)
      | (go_at_call 16; (with_reducible refine (copy_tr (g := g) (n := n) (es := es) h2 0 (by kernel_rfl) HG.out hn).mono ?_); rintro r w3 ⟨g2, rfl, h3, _⟩)
      | (go_at_call 16; (with_reducible refine (copy_tr (g := g) (n := n) (es := es) h3 0 (by kernel_rfl) HG.out hn).mono ?_); rintro r w4 ⟨g3, rfl, h4, _⟩)
      | (go_at_call 17; (with_reducible refine (assign_eq' (g := g) (n := n) (es := es) h4 0 (by kernel_rfl) HG.out hn lit reason HI.out ce esT HJ.out.hA).mono ?_); rintro r w5 ⟨rfl, h5, _⟩)
      | (go_at_call 18; (with_reducible refine (decide_eq' (g := g2) (n := n) (es := es) h5 1 (by kernel_rfl) HG.out hn lit HI.out cf esD HJ.out.hDc).mono ?_); rintro r w6 ⟨rfl, h6, _⟩))
    have hT : Trails w w6 (fun _ => False) [(g, trE n esT), (g2, trE n esD), (g3, trE n es)] := h6
    have HT := Lib.hid hT
    clear HP h2 h3 h4 h5 h6 hT
    go_cut [14] from 52 (fun s14 wx => s14 = .int .i64 mI ∧ wx = w6)
    case first =>
      by_cases hneg : lit < 0
      · have hm1 : lit < -lit := by omega
        have hm3 : -lit - 1 = mI := by have := HM.out; omega
        go_wp2_with fail
        go_meet
        case rel => exact ⟨by first | rfl | go_num, rfl⟩
      · have hm2 : ¬ lit < -lit := by omega
        have hm3 : lit - 1 = mI := by have := HM.out; omega
        go_wp2_with fail
        go_meet
        case rel => exact ⟨by first | rfl | go_num, rfl⟩
    case rest =>
      obtain ⟨rfl, rfl⟩ := hcut
      obtain ⟨LL, hLL⟩ : ∃ LL, LL = [(g, trE n esT), (g2, trE n esD), (g3, trE n es)] := ⟨_, rfl⟩
      have hT := HT.out
      rw [← hLL] at hT
      have L0 : LL[0]? = some (g, trE n esT) := by rw [hLL]; rfl
      have L1 : LL[1]? = some (g2, trE n esD) := by rw [hLL]; rfl
      have L2 : LL[2]? = some (g3, trE n es) := by rw [hLL]; rfl
      have HL0 := Lib.hid L0
      have HL1 := Lib.hid L1
      have HL2 := Lib.hid L2
      clear HT hLL L0 L1 L2
      go_wp2_with fail
      go_loopw [15] (fun x wr => ∃ v : Nat, v ≤ n ∧ x = .int .i64 v ∧ Trails w wr (fun _ => False) LL) (fun x _ => n - (intOf x).toNat)
      case atStart => exact ⟨0, by omega, rfl, hT⟩
      case round =>
        obtain ⟨v, hv, rfl, hT⟩ := hrel
        by_cases hlt : v < n
        · have hvi : (v : Int) < (n : Int) := by omega
          by_cases hvm : (v : Int) = mI
          · have HT := Lib.hid hT
            have HVM := Lib.hid hvm
            have hvm' : ((v : Int) == mI) = true := by simpa using hvm
            clear hT hvm
            go_wp2_with fail
            go_roundw
            case rel => exact ⟨v + 1, by omega, by go_num, HT.out⟩
            case measure => simp [intOf]; omega
          · have hvm' : ((v : Int) == mI) = false := by simpa using hvm
            obtain ⟨e1, e2⟩ := HJ.out.same v (by have := HM.out; omega)
            have p1 := val_pos (es := esT) v hlt
            have p2 := val_pos (es := esD) v hlt
            have p3 := val_pos (es := es) v hlt
            have o1 := of_var (es := esT) v hlt
            have o2 := of_var (es := esD) v hlt
            have o3 := of_var (es := es) v hlt
            rw [e1] at p1 o1
            rw [e2] at p2 o2
            have HV1 := Lib.hid (value_eq hT 0 HL0.out hn ((v : Int) + 1) ⟨by omega, by omega⟩ _ p1)
            have HV2 := Lib.hid (value_eq hT 1 HL1.out hn ((v : Int) + 1) ⟨by omega, by omega⟩ _ p2)
            have HV3 := Lib.hid (value_eq hT 2 HL2.out hn ((v : Int) + 1) ⟨by omega, by omega⟩ _ p3)
            have HE1 := Lib.hid (levelOf_eq hT 0 HL0.out hn (v : Int) (knE (look es v)).level (by rw [o1]))
            have HE3 : Hid (∀ w3, Trails w w3 (fun _ => False) LL → Calls Try.prog 11 #[.pointer (some ⟨g3, 0, none⟩), .int .i64 (v : Int)] w3 fun e' w' => e' = .returned (.int .i64 (knE (look es v)).level) ∧ Below w3.heap.size w3 w' ∧ Trails w w' (fun _ => False) LL) := Lib.hid fun w3 h => levelOf_eq h 2 HL2.out hn (v : Int) _ (by rw [o3])
            have HR2 : Hid (∀ w3, Trails w w3 (fun _ => False) LL → Calls Try.prog 14 #[.pointer (some ⟨g2, 0, none⟩), .int .i64 (v : Int)] w3 fun e' w' => e' = .returned (.int .i64 (knE (look es v)).reason) ∧ Below w3.heap.size w3 w' ∧ Trails w w' (fun _ => False) LL) := Lib.hid fun w3 h => reason_eq h 1 HL1.out hn (v : Int) _ (by rw [o2])
            have HR3 : Hid (∀ w3, Trails w w3 (fun _ => False) LL → Calls Try.prog 14 #[.pointer (some ⟨g3, 0, none⟩), .int .i64 (v : Int)] w3 fun e' w' => e' = .returned (.int .i64 (knE (look es v)).reason) ∧ Below w3.heap.size w3 w' ∧ Trails w w' (fun _ => False) LL) := Lib.hid fun w3 h => reason_eq h 2 HL2.out hn (v : Int) _ (by rw [o3])
            generalize sgn v (look es v) = s at *
            generalize (knE (look es v)).level = lv at *
            generalize (knE (look es v)).reason = rs at *
            clear p1 p2 p3 o1 o2 o3 e1 e2 hvm hT
            go_wp2_with (first
              | (go_at_call 10; (with_reducible refine HV1.out.mono ?_); rintro e w' ⟨rfl, rfl⟩)
              | (go_at_call 10; (with_reducible refine HV2.out.mono ?_); rintro e w' ⟨rfl, rfl⟩)
              | (go_at_call 10; (with_reducible refine HV3.out.mono ?_); rintro e w' ⟨rfl, rfl⟩)
              | (go_at_call 11; (with_reducible refine HE1.out.mono ?_); rintro e u1 ⟨rfl, _, t1⟩)
              | (go_at_call 11; (with_reducible refine (HE3.out _ t1).mono ?_); rintro e u2 ⟨rfl, _, t2⟩)
              | (go_at_call 14; (with_reducible refine (HR2.out _ t2).mono ?_); rintro e u3 ⟨rfl, _, t3⟩)
              | (go_at_call 14; (with_reducible refine (HR3.out _ t3).mono ?_); rintro e u4 ⟨rfl, _, t4⟩))
            go_roundw
            case rel => exact ⟨v + 1, by omega, by go_num, t4⟩
            case measure => simp [intOf]; omega
        · obtain rfl : v = n := by omega
          obtain ⟨hh, hhe⟩ : ∃ hh, hh = Go.Proofs.Ytiejdladmoncaaa.hi es := ⟨_, rfl⟩
          obtain ⟨ln, hln⟩ : ∃ ln, es.length = ln := ⟨_, rfl⟩
          have hhb : 0 ≤ hh ∧ hh ≤ 5000 ∧ ln ≤ 5000 := by
            have h1 := hi_nonneg HG.out
            have h2 := hi_le_len HG.out
            have h3 := HG.out.len_le
            omega
          have HH := Lib.hid hhe
          have HLN := Lib.hid hln
          by_cases hc : openC v es lit = 0
          · obtain ⟨hx, hlk⟩ := openC_zero hc
            have hDD : cf = 0 ∧ esD = ⟨lit, hh + 1, -1⟩ :: es := by
              have h := HJ.out.hDc
              simp only [decC, hc, if_true] at h
              injection h with h1 h2
              exact ⟨h1.symm, by rw [hhe]; exact h2.symm⟩
            obtain ⟨rfl, rfl⟩ := hDD
            have hgD := HJ.out.hD
            have hxl := hx
            unfold Lit at hxl
            obtain ⟨u, hu⟩ : ∃ u, u = lit.natAbs - 1 := ⟨_, rfl⟩
            have hmu : mI = (u : Int) := by have := HM.out; omega
            subst hmu
            have hval0 : valE v es lit = 0 := val_none hlk
            obtain ⟨hd1, hd2⟩ := on_trail hgD (e := ⟨lit, hh + 1, -1⟩) (List.mem_cons_self ..)
            simp only at hd1 hd2
            rw [← hu] at hd2
            have hui : (u : Int) < (v : Int) := by omega
            have hl0 : (lit == 0) = false := by simp; omega
            have hl1 : (lit != 0) = true := by simp; omega
            have HVw : Hid (∀ w3, Trails w w3 (fun _ => False) LL → Calls Try.prog 10 #[.pointer (some ⟨g3, 0, none⟩), .int .i64 lit] w3 fun e' w' => e' = .returned (.int .i64 0) ∧ w3 = w') := Lib.hid fun w3 h => value_eq h 2 HL2.out hn lit ⟨by omega, by omega⟩ 0 hval0
            have HVd : Hid (∀ w3, Trails w w3 (fun _ => False) LL → Calls Try.prog 10 #[.pointer (some ⟨g2, 0, none⟩), .int .i64 lit] w3 fun e' w' => e' = .returned (.int .i64 1) ∧ w3 = w') := Lib.hid fun w3 h => value_eq h 1 HL1.out hn lit ⟨by omega, by omega⟩ 1 hd1
            have HRd : Hid (∀ w3, Trails w w3 (fun _ => False) LL → Calls Try.prog 14 #[.pointer (some ⟨g2, 0, none⟩), .int .i64 (u : Int)] w3 fun e' w' => e' = .returned (.int .i64 (-1)) ∧ Below w3.heap.size w3 w' ∧ Trails w w' (fun _ => False) LL) := Lib.hid fun w3 h => reason_eq h 1 HL1.out hn (u : Int) (-1) (by rw [hd2])
            have HEd : Hid (∀ w3, Trails w w3 (fun _ => False) LL → Calls Try.prog 11 #[.pointer (some ⟨g2, 0, none⟩), .int .i64 (u : Int)] w3 fun e' w' => e' = .returned (.int .i64 (hh + 1)) ∧ Below w3.heap.size w3 w' ∧ Trails w w' (fun _ => False) LL) := Lib.hid fun w3 h => levelOf_eq h 1 HL1.out hn (u : Int) (hh + 1) (by rw [hd2])
            have HLvw : Hid (∀ w3, Trails w w3 (fun _ => False) LL → Calls Try.prog 15 #[.pointer (some ⟨g3, 0, none⟩)] w3 fun e' w' => e' = .returned (.int .i64 hh) ∧ w3 = w') := Lib.hid fun w3 h => level_eq h 2 HL2.out HG.out hh HH.out.symm
            have HLvd : Hid (∀ w3, Trails w w3 (fun _ => False) LL → Calls Try.prog 15 #[.pointer (some ⟨g2, 0, none⟩)] w3 fun e' w' => e' = .returned (.int .i64 (hh + 1)) ∧ w3 = w') := Lib.hid fun w3 h => level_eq h 1 HL1.out hgD (hh + 1) rfl
            by_cases hr : reason < 0
            · have hAA : ce = 1 := by
                have h := HJ.out.hA
                simp only [asnC, if_pos hr] at h
                injection h with h1 h2
                exact h1.symm
              subst hAA
              have hr2 : ¬ 0 ≤ reason := by omega
              have hr3 : decide (0 ≤ reason) = false := by simpa using hr
              clear hhe hln hc hx hlk hgD hxl hu hval0 hd1 hd2
              go_wp2_with (first
                | (go_at_call 10; (with_reducible refine (HVw.out _ (by assumption)).mono ?_); rintro e' w' ⟨rfl, rfl⟩)
                | (go_at_call 10; (with_reducible refine (HVd.out _ (by assumption)).mono ?_); rintro e' w' ⟨rfl, rfl⟩)
                | (go_at_call 14; (with_reducible refine (HRd.out _ (by assumption)).mono ?_); rintro e' uHRd ⟨rfl, _, tHRd⟩)
                | (go_at_call 11; (with_reducible refine (HEd.out _ (by assumption)).mono ?_); rintro e' uHEd ⟨rfl, _, tHEd⟩)
                | (go_at_call 15; (with_reducible refine (HLvw.out _ (by assumption)).mono ?_); rintro e' w' ⟨rfl, rfl⟩)
                | (go_at_call 15; (with_reducible refine (HLvd.out _ (by assumption)).mono ?_); rintro e' w' ⟨rfl, rfl⟩))
              go_ret
              exact ⟨rfl, tHEd.bel⟩
            · have hAA : ce = 0 ∧ esT = ⟨lit, hh, reason⟩ :: es := by
                have h := HJ.out.hA
                simp only [asnC, if_neg hr, hc, if_true] at h
                injection h with h1 h2
                exact ⟨h1.symm, by rw [hhe]; exact h2.symm⟩
              obtain ⟨rfl, rfl⟩ := hAA
              have hgT := HJ.out.hT
              obtain ⟨ht1, ht2⟩ := on_trail hgT (e := ⟨lit, hh, reason⟩) (List.mem_cons_self ..)
              simp only at ht1 ht2
              rw [← hu] at ht2
              have hr2 : 0 ≤ reason := by omega
              have HVt : Hid (∀ w3, Trails w w3 (fun _ => False) LL → Calls Try.prog 10 #[.pointer (some ⟨g, 0, none⟩), .int .i64 lit] w3 fun e' w' => e' = .returned (.int .i64 1) ∧ w3 = w') := Lib.hid fun w3 h => value_eq h 0 HL0.out hn lit ⟨by omega, by omega⟩ 1 ht1
              have HRt : Hid (∀ w3, Trails w w3 (fun _ => False) LL → Calls Try.prog 14 #[.pointer (some ⟨g, 0, none⟩), .int .i64 (u : Int)] w3 fun e' w' => e' = .returned (.int .i64 reason) ∧ Below w3.heap.size w3 w' ∧ Trails w w' (fun _ => False) LL) := Lib.hid fun w3 h => reason_eq h 0 HL0.out hn (u : Int) reason (by rw [ht2])
              have HEt : Hid (∀ w3, Trails w w3 (fun _ => False) LL → Calls Try.prog 11 #[.pointer (some ⟨g, 0, none⟩), .int .i64 (u : Int)] w3 fun e' w' => e' = .returned (.int .i64 hh) ∧ Below w3.heap.size w3 w' ∧ Trails w w' (fun _ => False) LL) := Lib.hid fun w3 h => levelOf_eq h 0 HL0.out hn (u : Int) hh (by rw [ht2])
              have HLvt : Hid (∀ w3, Trails w w3 (fun _ => False) LL → Calls Try.prog 15 #[.pointer (some ⟨g, 0, none⟩)] w3 fun e' w' => e' = .returned (.int .i64 hh) ∧ w3 = w') := Lib.hid fun w3 h => level_eq h 0 HL0.out hgT hh rfl
              have HLnt : Hid (∀ w3, Trails w w3 (fun _ => False) LL → Calls Try.prog 12 #[.pointer (some ⟨g, 0, none⟩)] w3 fun e' w' => e' = .returned (.int .i64 ((ln : Int) + 1)) ∧ w3 = w') := Lib.hid fun w3 h => len_eq h 0 HL0.out ((ln : Int) + 1) (by rw [List.length_cons, hln]; omega)
              have HLnw : Hid (∀ w3, Trails w w3 (fun _ => False) LL → Calls Try.prog 12 #[.pointer (some ⟨g3, 0, none⟩)] w3 fun e' w' => e' = .returned (.int .i64 (ln : Int)) ∧ w3 = w') := Lib.hid fun w3 h => len_eq h 2 HL2.out (ln : Int) (by rw [hln])
              clear hhe hln hc hx hlk hgD hgT hxl hu hval0 hd1 hd2 ht1 ht2
              go_wp2_with (first
                | (go_at_call 10; (with_reducible refine (HVt.out _ (by assumption)).mono ?_); rintro e' w' ⟨rfl, rfl⟩)
                | (go_at_call 14; (with_reducible refine (HRt.out _ (by assumption)).mono ?_); rintro e' uHRt ⟨rfl, _, tHRt⟩)
                | (go_at_call 11; (with_reducible refine (HEt.out _ (by assumption)).mono ?_); rintro e' uHEt ⟨rfl, _, tHEt⟩)
                | (go_at_call 15; (with_reducible refine (HLvt.out _ (by assumption)).mono ?_); rintro e' w' ⟨rfl, rfl⟩)
                | (go_at_call 12; (with_reducible refine (HLnt.out _ (by assumption)).mono ?_); rintro e' w' ⟨rfl, rfl⟩)
                | (go_at_call 12; (with_reducible refine (HLnw.out _ (by assumption)).mono ?_); rintro e' w' ⟨rfl, rfl⟩)
                | (go_at_call 10; (with_reducible refine (HVw.out _ (by assumption)).mono ?_); rintro e' w' ⟨rfl, rfl⟩)
                | (go_at_call 10; (with_reducible refine (HVd.out _ (by assumption)).mono ?_); rintro e' w' ⟨rfl, rfl⟩)
                | (go_at_call 14; (with_reducible refine (HRd.out _ (by assumption)).mono ?_); rintro e' uHRd ⟨rfl, _, tHRd⟩)
                | (go_at_call 11; (with_reducible refine (HEd.out _ (by assumption)).mono ?_); rintro e' uHEd ⟨rfl, _, tHEd⟩)
                | (go_at_call 15; (with_reducible refine (HLvw.out _ (by assumption)).mono ?_); rintro e' w' ⟨rfl, rfl⟩)
                | (go_at_call 15; (with_reducible refine (HLvd.out _ (by assumption)).mono ?_); rintro e' w' ⟨rfl, rfl⟩))
              go_ret
              exact ⟨rfl, tHEd.bel⟩
          · have hDD : cf ≠ 0 := by
              have h := HJ.out.hDc
              simp only [decC, if_neg hc] at h
              injection h with h1 h2
              rw [← h1]
              exact hc
            have hAA : ce ≠ 0 := by
              have h := HJ.out.hA
              by_cases hr : reason < 0
              · simp only [asnC, if_pos hr] at h
                injection h with h1 h2
                omega
              · simp only [asnC, if_neg hr, if_neg hc] at h
                injection h with h1 h2
                rw [← h1]
                exact hc
            have hc1 : (cf == 0) = false := by simpa using hDD
            have hc2 : (ce == 0) = false := by simpa using hAA
            have hbel := hT.bel
            by_cases hl0 : lit = 0
            · have hl0' : (lit != 0) = false := by simpa using hl0
              clear hl0 hT
              go_wp2_with fail
              go_ret
              exact ⟨rfl, hbel⟩
            · have hl0' : (lit != 0) = true := by simpa using hl0
              by_cases hmv : mI < (v : Int)
              · have hx : Lit v lit := by unfold Lit; have := HM.out; omega
                have hvn : valE v es lit ≠ 0 := fun h => by
                  have h1 := val_lit h hx
                  unfold Lit at hx
                  unfold openC at hc
                  rw [if_pos hx, h1] at hc
                  exact hc rfl
                have HVw := Lib.hid (value_eq hT 2 HL2.out hn lit ⟨by omega, by omega⟩ _ rfl)
                generalize valE v es lit = z at *
                have hz : (z == 0) = false := by simpa using hvn
                clear hT hx hvn
                go_wp2_with (first
                  | (go_at_call 10; (with_reducible refine HVw.out.mono ?_); rintro e w' ⟨rfl, rfl⟩))
                go_ret
                exact ⟨rfl, hbel⟩
              · have hmv' : decide (mI < (v : Int)) = false := by simpa using hmv
                clear hT
                go_wp2_with fail
                go_ret
                exact ⟨rfl, hbel⟩

theorem just_walk (vars lit reason : Int) (hv : (Lit.int .i64 vars).wf = true) (hlit : (Lit.int .i64 lit).wf = true) (ao : Option Addr) (l : List StepD) (cap b off : Nat) (w : World) (hl : IsSteps w w.heap.size ao b off l) :
    Calls Try.prog 4 #[.int .i64 vars, .slice ao l.length cap, .int .i64 lit, .int .i64 reason] w fun e w' => e = .returned (.bool true) ∧ Below w.heap.size w w' := by
  have hv' := wf_i64b hv
  by_cases hb1 : 300 < l.length
  · have h1 : (300 : Int) < (l.length : Int) := by omega
    go_enter Try.func4, Try.ntmps4
    go_wp2_with (first
      | (go_at_call 8; (with_reducible refine (works_any w).mono ?_); rintro r w1 ⟨rfl, hB1⟩)
      | (go_at_call 8; refine (works_any _).mono ?_; rintro r w2 ⟨rfl, hB2⟩))
    go_ret
    exact ⟨rfl, bel_trans hB1 hB2⟩
  · have h1 : ¬ (300 : Int) < (l.length : Int) := by omega
    have h2 : decide ((300 : Int) < (l.length : Int)) = false := by simpa using h1
    by_cases hb2 : 5000 < vars
    · go_enter Try.func4, Try.ntmps4
      go_wp2_with (first
        | (go_at_call 8; (with_reducible refine (works_any w).mono ?_); rintro r w1 ⟨rfl, hB1⟩)
        | (go_at_call 8; refine (works_any _).mono ?_; rintro r w2 ⟨rfl, hB2⟩))
      go_ret
      exact ⟨rfl, bel_trans hB1 hB2⟩
    · have h3 : decide (5000 < vars) = false := by simpa using hb2
      by_cases hb3 : vars < 0
      · have h4 := fun W => Lib.hid (played_bad vars (.slice ao l.length cap) W hb3)
        go_enter Try.func4, Try.ntmps4
        go_wp2_with (first
          | (go_at_call 8; refine (works_any w).mono ?_; rintro r w1 ⟨rfl, hB1⟩)
          | (go_at_call 9; refine (h4 _).out.mono ?_; rintro r w2 ⟨rfl, rfl⟩))
        go_ret
        exact ⟨rfl, hB1⟩
      · obtain ⟨n, rfl⟩ := Int.eq_ofNat_of_zero_le (by omega : 0 ≤ vars)
        exact just_main n (by omega) ao l cap b off lit reason (wf_i64b hlit) w hl (by omega)

end Go.Proofs.Ytiejdladmoncaaa
