/- TrailOnce: the walk. -/
import Derived.Test.YtiejdladmoncaaaT17
namespace Go.Proofs.Ytiejdladmoncaaa
open Go.ChangeShapes Go.WideShapes Go.ChangeAt Go.RowKit
set_option maxRecDepth 100000

/-- Met variables, as the law's own row has them. -/
def metOf (n : Nat) (es : List En) : List Int := (List.range n).map fun v => if (look es v).isSome then 1 else 0
theorem metOf_len (n : Nat) (es : List En) : (metOf n es).length = n := by simp [metOf]
theorem metOf_nil (n : Nat) : metOf n [] = List.replicate n 0 := by
  unfold metOf
  simp only [look, Option.isSome_none, Bool.false_eq_true, if_false, List.map_const', List.length_range]
theorem metOf_get (n : Nat) (es : List En) (v : Nat) (h : v < n) : (inC (metOf n es))[v]? = some (.int .i64 (if (look es v).isSome then 1 else 0)) := by simp [metOf, inC, h]
theorem metOf_set (n : Nat) (es : List En) (e : En) (h : Lit n e.lit) : (inC (metOf n es)).set (e.lit.natAbs - 1) (.int .i64 1) = inC (metOf n (e :: es)) := by
  have h1 := h.1
  apply List.ext_getElem?
  intro v
  by_cases hv : v < n
  · rw [metOf_get _ _ v hv]
    by_cases hev : e.lit.natAbs - 1 = v
    · have h2 : e.lit.natAbs = v + 1 := by omega
      rw [hev]
      simp [look, h2, inC, metOf, hv]
    · rw [List.getElem?_set_ne hev, metOf_get _ _ v hv]
      have h3 : ¬ e.lit.natAbs = v + 1 := by omega
      simp only [look, if_neg h3]
  · rw [List.getElem?_eq_none (by simp [inC, metOf_len]; omega), List.getElem?_eq_none (by simp [inC, metOf_len]; omega)]

set_option maxHeartbeats 2000000 in
theorem once_main (n : Nat) (hn : n ≤ 5000) (ao : Option Addr) (l : List StepD) (cap b off : Nat) (w : World) (hl : IsSteps w w.heap.size ao b off l) (hll : l.length ≤ 300) :
    Calls Try.prog 3 #[.int .i64 n, .slice ao l.length cap] w fun e w' => e = .returned (.bool true) ∧ Below w.heap.size w w' := by
  obtain ⟨i3, hi, hz0, hz1, hz2⟩ := info_parts (P := Try.prog) (e := 3) (z := .int .i64 0) (size := 1) (bytes := 8) (by kernel_rfl)
  have HP : Hid (∀ w1, Below w.heap.size w w1 → Calls Try.prog 9 #[.int .i64 n, .slice ao l.length cap] w1 fun e w' => ∃ g, e = .returned (.pointer (some ⟨g, 0, none⟩)) ∧ Trails w w' (fun _ => False) [(g, trE n (playE n [] l))]) :=
    Lib.hid fun w1 hb => played_any n ao l cap b off w w1 hb hl hn hll
  have hg := playE_good (n := n) l (es := []) trivial
  generalize playE n [] l = es at *
  have hlen := hg.len_le
  have hA1 : ¬ (300 : Int) < (l.length : Int) := by omega
  have hA2 : ¬ 300 < l.length := by omega
  have hA3 : ¬ (5000 : Int) < (n : Int) := by omega
  have hA4 : ¬ 5000 < n := by omega
  have hD1 : decide ((300 : Int) < (l.length : Int)) = false := by simpa using hA1
  have hD2 : decide ((5000 : Int) < (n : Int)) = false := by simpa using hA3
  have hcnt := cnt_look hg
  have Hcnt := Lib.hid hcnt
  have Hg := Lib.hid hg
  clear hl hcnt hg
  go_enter Try.func3, Try.ntmps3
  go_wp2_with (first
    | (go_at_call 8; refine (works_any w).mono ?_; rintro r w1 ⟨rfl, hB1⟩)
    | (go_at_call 9; refine (HP.out _ hB1).mono ?_; rintro r w2 ⟨g, rfl, hT⟩))
  clear HP
  go_loopw [6, 7] (fun c i wr => ∃ v : Nat, v ≤ n ∧ i = .int .i64 v ∧ c = .int .i64 (cnt (fun v => (look es v).isSome) v : Nat) ∧ Trails w wr (fun _ => False) [(g, trE n es)]) (fun _ i _ => n - (intOf i).toNat)
  case atStart => exact ⟨0, by omega, rfl, rfl, hT⟩
  case round =>
    obtain ⟨v, hv, rfl, rfl, hT⟩ := hrel
    by_cases hlt : v < n
    · have h1 := val_pos (es := es) v hlt
      have h2 := val_neg (es := es) v hlt
      have h3 := of_var (es := es) v hlt
      have hcs : cnt (fun v => (look es v).isSome) (v + 1) = cnt (fun v => (look es v).isSome) v + if (look es v).isSome then 1 else 0 := rfl
      have hcl := cnt_le (fun v => (look es v).isSome) v
      generalize cnt (fun v => (look es v).isSome) v = c0 at *
      have hvi : (v : Int) < (n : Int) := by omega
      have hw1 : IntKind.i64.wrap ((v : Int) + 1) = (v : Int) + 1 := by rw [IntKind.wrap_i64]; omega
      have hw2 : IntKind.i64.wrap (-(v : Int)) = -(v : Int) := by rw [IntKind.wrap_i64]; omega
      have hw3 : IntKind.i64.wrap (-(v : Int) - 1) = -(v : Int) - 1 := by rw [IntKind.wrap_i64]; omega
      have Hb : Hid (∀ e, look es v = some e → 0 ≤ e.level) := Lib.hid fun e he => (level_le Hg.out e (look_some he).1).1
      cases hlk : look es v with
      | none =>
        rw [hlk] at h1 h2 h3 hcs
        simp only [sgn, knE] at h1 h2 h3
        have HV1 := Lib.hid (value_eq hT 0 rfl hn ((v : Int) + 1) ⟨by omega, by omega⟩ 0 h1)
        have HV2 := Lib.hid (value_eq hT 0 rfl hn (-(v : Int) - 1) ⟨by omega, by omega⟩ 0 h2)
        have HV3 := Lib.hid (levelOf_eq hT 0 rfl hn (v : Int) (-1) (by rw [h3]))
        have HS := Lib.hid hcs
        clear h1 h2 h3 hlk hcs
        go_wp2_with (first
          | (go_at_call 10; (with_reducible refine HV1.out.mono ?_); rintro e w' ⟨rfl, rfl⟩)
          | (go_at_call 10; (with_reducible refine HV2.out.mono ?_); rintro e w' ⟨rfl, rfl⟩)
          | (go_at_call 11; (with_reducible refine HV3.out.mono ?_); rintro e w3 ⟨rfl, _, hT3⟩))
        go_roundw
        case rel => exact ⟨v + 1, by omega, by go_num, by rw [HS.out]; rfl, hT3⟩
        case measure => simp [intOf]; omega
      | some e =>
        have hlev := Hb.out e hlk
        rw [hlk] at h1 h2 h3 hcs
        simp only [sgn, knE] at h1 h2 h3
        have h3' : (ofE n es (v : Int)).level = e.level := by rw [h3]
        obtain ⟨s, hs, h1', h2'⟩ : ∃ s : Int, (s = 1 ∨ s = -1) ∧ valE n es ((v : Int) + 1) = s ∧ valE n es (-(v : Int) - 1) = -s := ⟨_, by split <;> simp, h1, h2⟩
        have HV3 := Lib.hid (levelOf_eq hT 0 rfl hn (v : Int) e.level h3')
        generalize e.level = lv at *
        have hl1 : (lv == -1) = false := by simp; omega
        have HS := Lib.hid hcs
        clear h1 h2 h3 h3' hlk hcs
        rcases hs with rfl | rfl
        all_goals
          have HV1 := Lib.hid (value_eq hT 0 rfl hn ((v : Int) + 1) ⟨by omega, by omega⟩ _ h1')
          have HV2 := Lib.hid (value_eq hT 0 rfl hn (-(v : Int) - 1) ⟨by omega, by omega⟩ _ h2')
          clear h1' h2'
          go_wp2_with (first
            | (go_at_call 10; (with_reducible refine HV1.out.mono ?_); rintro e w' ⟨rfl, rfl⟩)
            | (go_at_call 10; (with_reducible refine HV2.out.mono ?_); rintro e w' ⟨rfl, rfl⟩)
            | (go_at_call 11; (with_reducible refine HV3.out.mono ?_); rintro e w3 ⟨rfl, _, hT3⟩))
          go_roundw
          case rel => exact ⟨v + 1, by omega, by go_num, by rw [HS.out]; go_num, hT3⟩
          case measure => simp [intOf]; omega
    · obtain rfl : v = n := by omega
      rw [Hcnt.out]
      go_wp2_with (at_make; go_loud (refine wpList_make_full _ rfl (.tmp 77) (.tmp 77) _ rfl 0 3 i3 _ 1 Try.underlying27 hi hz0 hz1 .i64 .i64 _ _ v rfl rfl rfl rfl (by rw [hz2]; omega) (by simp only [maxLen]; omega) (Nat.zero_le _) ?_); intro w1 hown hgr)
      have hB2 : Below wr.heap.size wr w1 := ⟨hgr.os, hgr.tape, hgr.output, hgr.size, fun k hk => hgr.block k hk (by simp)⟩
      have hO := Own.of_kit hown
      have hgl := hO.lt wr.heap.size rfl
      have hgw : w.heap.size ≤ wr.heap.size := hT.bel.size
      have hT1 : Trails w w1 (fun j => j = wr.heap.size) [(g, trE v es)] := hT.withX hB2 fun k hk => .inr ⟨by omega, by omega⟩
      have hcl : (madeCells (Value.int .i64 0).cells (v * 1)).toList = inC (metOf v []) := by
        have e1 : (Value.int .i64 0).cells = #[.int .i64 0] := rfl
        rw [e1, toList_madeCells_one, metOf_nil]
        simp [inC]
      rw [hcl] at hO
      clear hown hgr hcl hB2 hT hgl
      generalize wr.heap.size = gm at *
      go_loopw [9, 11] (fun lv i wr => ∃ k : Nat, k ≤ es.length ∧ i = .int .i64 k ∧ lv = .int .i64 (Go.Proofs.Ytiejdladmoncaaa.hi (older es k)) ∧ Own wr 3 1 (.slice (some ⟨gm, 0, none⟩) v v) v (inC (metOf v (older es k))) ∧ Trails w wr (fun j => j = gm) [(g, trE v es)]) (fun _ i _ => es.length - (intOf i).toNat)
      case atStart => exact ⟨0, by omega, rfl, by rw [older_zero]; rfl, by rw [older_zero]; exact hO, hT1⟩
      case round =>
        obtain ⟨k, hk, rfl, rfl, hO, hT⟩ := hrel
        have HL := Lib.hid (len_eq hT 0 rfl es.length rfl)
        by_cases hlt : k < es.length
        · obtain ⟨e, he, hold, hat⟩ := older_succ es k hlt
          have hlit := Hg.out.lit e he
          obtain ⟨hval, hof⟩ := on_trail Hg.out he
          have hgo := older_good (k + 1) Hg.out
          rw [hold] at hgo
          have HA := Lib.hid (at_eq hT 0 rfl (k : Int) e.lit hat)
          have hlit' := hlit
          unfold Lit at hlit'
          have hki : (k : Int) < (es.length : Int) := by omega
          have hgm : ∀ j, j = gm → w.heap.size ≤ j := fun j hj => hj ▸ hgw
          obtain ⟨u, hu⟩ : ∃ u, u = e.lit.natAbs - 1 := ⟨_, rfl⟩
          have hui : (u : Int) < (v : Int) := by omega
          have hui2 : ¬ (v : Int) ≤ (u : Int) := by omega
          have hmc := metOf_get v (older es k) u (by omega)
          have hnl : look (older es k) u = none := by rw [hu]; exact hgo.2.1
          rw [hnl] at hmc
          simp only [Option.isSome_none, Bool.false_eq_true, if_false] at hmc
          have hms := metOf_set v (older es k) e hlit
          rw [← hu] at hms hof
          have hlv := hgo.2.2.1
          have hhi : Go.Proofs.Ytiejdladmoncaaa.hi (older es (k + 1)) = e.level := by rw [hold]; rfl
          have HV := Lib.hid (value_eq hT 0 rfl hn e.lit ⟨by omega, by omega⟩ 1 hval)
          obtain ⟨_, c', e1, _, _, hf⟩ := hO.form
          obtain ⟨b', o', e', hcm, hfm, _⟩ := hf (by omega)
          subst e'
          injection e1 with e1 e2 e3
          subst e3
          injection e1 with e1
          injection e1 with e1 e4
          subst e1 e4
          have hcu := hcm u (by simp [inC, metOf_len]; omega)
          rw [hmc] at hcu
          simp only [Nat.zero_add] at hcu
          have hTs := hT.foreign (w' := wr.setCell ⟨gm, u, none⟩ (.int .i64 1)) ((Touch.refl (fun j => j = gm) wr).setCell (p := ⟨gm, u, none⟩) (fun _ => rfl) _) (fun j hj => hj ▸ hgw)
          have HR := Lib.hid (reason_eq hTs 0 rfl hn (u : Int) e.reason (by rw [hof]))
          have Hold := Lib.hid hold
          have Hms := Lib.hid hms
          have Hlv := Lib.hid hlv
          have Hhi := Lib.hid hhi
          have HO := Lib.hid hO
          have HTs := Lib.hid hTs
          have Hgo := Lib.hid hgo
          have hel : e.level = if e.reason = -1 then Go.Proofs.Ytiejdladmoncaaa.hi (older es k) + 1 else Go.Proofs.Ytiejdladmoncaaa.hi (older es k) := by
            rcases hlv with ⟨h1, h2⟩ | ⟨h1, h2⟩
            · rw [if_pos h1]; exact h2
            · rw [if_neg (by omega)]; exact h2
          have hhb : 0 ≤ Go.Proofs.Ytiejdladmoncaaa.hi (older es k) ∧ Go.Proofs.Ytiejdladmoncaaa.hi (older es k) ≤ 5000 := by
            have h1 := hi_nonneg hgo.2.2.2
            have h2 := hi_le_len hgo.2.2.2
            have h3 := hgo.2.2.2.len_le
            omega
          have HLev : Hid (∀ w3, Trails w w3 (fun j => j = gm) [(g, trE v es)] → Calls Try.prog 11 #[.pointer (some ⟨g, 0, none⟩), .int .i64 (u : Int)] w3 fun e' w' => e' = .returned (.int .i64 e.level) ∧ Below w3.heap.size w3 w' ∧ Trails w w' (fun j => j = gm) [(g, trE v es)]) := Lib.hid fun w3 h => levelOf_eq h 0 rfl hn (u : Int) e.level (by rw [hof])
          clear hold hms hlv hhi hO hTs hgo hof hval hat hlit hT
          generalize Go.Proofs.Ytiejdladmoncaaa.hi (older es k) = lv0 at *
          generalize e.level = lv1 at *
          generalize e.reason = rs at *
          generalize hx : e.lit = x at *
          by_cases hneg : x < 0
          · have hxu : -x - 1 = (u : Int) := by omega
            have hm1 : x < -x := by omega
            have hm2 : ¬ -x < x := by omega
            have hb1 : -5001 ≤ x := by omega
            have Hx := Lib.hid hx
            clear hlit' hu hx
            by_cases hrs : rs = -1
            · rw [if_pos hrs] at hel
              subst hrs hel
              go_wp2_with (first
                | (go_at_call 12; (with_reducible refine HL.out.mono ?_); rintro e w' ⟨rfl, rfl⟩)
                | (go_at_call 13; (with_reducible refine HA.out.mono ?_); rintro e w' ⟨rfl, rfl⟩)
                | (go_at_call 10; (with_reducible refine HV.out.mono ?_); rintro e w' ⟨rfl, rfl⟩)
                | (go_at_call 14; (with_reducible refine HR.out.mono ?_); rintro e w3 ⟨rfl, hbr, hTr⟩)
                | (go_at_call 11; (with_reducible refine (HLev.out _ hTr).mono ?_); rintro e w4 ⟨rfl, hb4, hT4⟩))
              go_roundw
              case rel =>
                refine ⟨k + 1, by omega, by go_num, by rw [Hhi.out], ?_, hT4⟩
                rw [Hold.out, ← Hms.out]
                have h1 := HO.out.stored u (.int .i64 1)
                rw [Nat.zero_add] at h1
                exact (h1.new hbr).new hb4
              case measure => simp [intOf]; omega
            · rw [if_neg hrs] at hel
              have hrs' : (rs == -1) = false := by simpa using hrs
              subst hel
              go_wp2_with (first
                | (go_at_call 12; (with_reducible refine HL.out.mono ?_); rintro e w' ⟨rfl, rfl⟩)
                | (go_at_call 13; (with_reducible refine HA.out.mono ?_); rintro e w' ⟨rfl, rfl⟩)
                | (go_at_call 10; (with_reducible refine HV.out.mono ?_); rintro e w' ⟨rfl, rfl⟩)
                | (go_at_call 14; (with_reducible refine HR.out.mono ?_); rintro e w3 ⟨rfl, hbr, hTr⟩)
                | (go_at_call 11; (with_reducible refine (HLev.out _ hTr).mono ?_); rintro e w4 ⟨rfl, hb4, hT4⟩))
              go_roundw
              case rel =>
                refine ⟨k + 1, by omega, by go_num, by rw [Hhi.out], ?_, hT4⟩
                rw [Hold.out, ← Hms.out]
                have h1 := HO.out.stored u (.int .i64 1)
                rw [Nat.zero_add] at h1
                exact (h1.new hbr).new hb4
              case measure => simp [intOf]; omega
          · have hxu : x - 1 = (u : Int) := by omega
            have hm1 : -x < x := by omega
            have hm2 : ¬ x < -x := by omega
            have hb1 : x ≤ 5001 := by omega
            have Hx := Lib.hid hx
            clear hlit' hu hx
            by_cases hrs : rs = -1
            · rw [if_pos hrs] at hel
              subst hrs hel
              go_wp2_with (first
                | (go_at_call 12; (with_reducible refine HL.out.mono ?_); rintro e w' ⟨rfl, rfl⟩)
                | (go_at_call 13; (with_reducible refine HA.out.mono ?_); rintro e w' ⟨rfl, rfl⟩)
                | (go_at_call 10; (with_reducible refine HV.out.mono ?_); rintro e w' ⟨rfl, rfl⟩)
                | (go_at_call 14; (with_reducible refine HR.out.mono ?_); rintro e w3 ⟨rfl, hbr, hTr⟩)
                | (go_at_call 11; (with_reducible refine (HLev.out _ hTr).mono ?_); rintro e w4 ⟨rfl, hb4, hT4⟩))
              go_roundw
              case rel =>
                refine ⟨k + 1, by omega, by go_num, by rw [Hhi.out], ?_, hT4⟩
                rw [Hold.out, ← Hms.out]
                have h1 := HO.out.stored u (.int .i64 1)
                rw [Nat.zero_add] at h1
                exact (h1.new hbr).new hb4
              case measure => simp [intOf]; omega
            · rw [if_neg hrs] at hel
              have hrs' : (rs == -1) = false := by simpa using hrs
              subst hel
              go_wp2_with (first
                | (go_at_call 12; (with_reducible refine HL.out.mono ?_); rintro e w' ⟨rfl, rfl⟩)
                | (go_at_call 13; (with_reducible refine HA.out.mono ?_); rintro e w' ⟨rfl, rfl⟩)
                | (go_at_call 10; (with_reducible refine HV.out.mono ?_); rintro e w' ⟨rfl, rfl⟩)
                | (go_at_call 14; (with_reducible refine HR.out.mono ?_); rintro e w3 ⟨rfl, hbr, hTr⟩)
                | (go_at_call 11; (with_reducible refine (HLev.out _ hTr).mono ?_); rintro e w4 ⟨rfl, hb4, hT4⟩))
              go_roundw
              case rel =>
                refine ⟨k + 1, by omega, by go_num, by rw [Hhi.out], ?_, hT4⟩
                rw [Hold.out, ← Hms.out]
                have h1 := HO.out.stored u (.int .i64 1)
                rw [Nat.zero_add] at h1
                exact (h1.new hbr).new hb4
              case measure => simp [intOf]; omega
        · obtain rfl : k = es.length := by omega
          rw [older_all]
          have HLv := Lib.hid (level_eq hT 0 rfl Hg.out (Go.Proofs.Ytiejdladmoncaaa.hi es) rfl)
          generalize Go.Proofs.Ytiejdladmoncaaa.hi es = hh at *
          have hbel := hT.bel
          go_wp2_with (first
            | (go_at_call 12; (with_reducible refine HL.out.mono ?_); rintro e w' ⟨rfl, rfl⟩)
            | (go_at_call 15; (with_reducible refine HLv.out.mono ?_); rintro e w' ⟨rfl, rfl⟩))
          go_ret
          exact ⟨rfl, hbel⟩

end Go.Proofs.Ytiejdladmoncaaa
