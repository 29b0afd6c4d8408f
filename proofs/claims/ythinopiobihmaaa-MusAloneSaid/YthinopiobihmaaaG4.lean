/- The walk of MusAlone. Conditions: as each theorem names them. -/
import Derived.Test.YthinopiobihmaaaG3
namespace Go.Proofs.Ythinopiobihmaaa
open Go.ChangeShapes Go.WideShapes Go.ChangeAt Go.RowKit Go.Maps Go.Deep
set_option maxRecDepth 100000

set_option maxHeartbeats 4000000 in
theorem malone_walk (vars : Int) (base : List (List Int)) (items more : List (List (List Int))) (ab ai am : Option Addr) (cb ci cm : Nat) (av : Nat → Option Addr) (cv : Nat → Nat) (aI : Nat → Option Addr) (cI : Nat → Nat) (avI : Nat → Nat → Option Addr) (cvI : Nat → Nat → Nat)
    (aM : Nat → Option Addr) (cM : Nat → Nat) (avM : Nat → Nat → Option Addr) (cvM : Nat → Nat → Nat) (w : World) (hR : IsRows w ab base av cv) (hI : IsItems w ai items aI cI avI cvI) (hM : IsItems w am more aM cM avM cvM) :
    Calls Try.prog 4 #[.int .i64 vars, .slice ab base.length cb, .slice ai items.length ci, .slice am more.length cm] w fun e w' => e = .returned (.bool true) ∧ Below w.heap.size w w' := by
  have HRt : Hid (∀ w', Below w.heap.size w w' → Calls Try.prog 15 #[.int .i64 vars, .slice ab base.length cb, .slice ai items.length ci] w' fun e w'' => e = .returned (.bool (rightE vars base items)) ∧ w' = w'') := Lib.hid fun w' hb => right_any vars base items ab ai cb ci av cv aI cI avI cvI w' (hR.below hb) (hI.below hb)
  have HRm : Hid (∀ w', Below w.heap.size w w' → Calls Try.prog 15 #[.int .i64 vars, .slice ab base.length cb, .slice am more.length cm] w' fun e w'' => e = .returned (.bool (rightE vars base more)) ∧ w' = w'') := Lib.hid fun w' hb => right_any vars base more ab am cb cm av cv aM cM avM cvM w' (hR.below hb) (hM.below hb)
  cases hr : rightE vars base items with
  | false =>
    rw [hr] at HRt
    clear hR hI hM hr HRm
    go_enter Try.func4, Try.ntmps4
    go_wp2_with (first
      | (go_at_call 15; (with_reducible refine (HRt.out _ hb1).mono ?_); rintro e w2 ⟨rfl, rfl⟩; have Hd := Lib.hid hb1; clear hb1)
      | (go_at_call 10; (with_reducible refine (awake_any _).mono ?_); rintro e w1 ⟨rfl, hb1⟩)
      | fail)
    go_ret
    exact ⟨rfl, bel_trans Hd.out hb1⟩
  | true =>
    rw [hr] at HRt
    cases hr2 : rightE vars base more with
    | false =>
      rw [hr2] at HRm
      clear hR hI hM hr hr2
      have tok : True := trivial
      go_enter Try.func4, Try.ntmps4
      go_wp2_with (first
        | (go_at_call 15; (have _t := tok); (with_reducible refine (HRt.out _ hb1).mono ?_); rintro e w2 ⟨rfl, rfl⟩; clear tok)
        | (go_at_call 15; (with_reducible refine (HRm.out _ hb1).mono ?_); rintro e w2 ⟨rfl, rfl⟩; have Hd := Lib.hid hb1; clear hb1)
        | (go_at_call 10; (with_reducible refine (awake_any _).mono ?_); rintro e w1 ⟨rfl, hb1⟩)
        | fail)
      go_ret
      exact ⟨rfl, bel_trans Hd.out hb1⟩
    | true =>
      rw [hr2] at HRm
      obtain ⟨n, rfl, hf⟩ := right_yes hr
      obtain ⟨n', hn', hf2⟩ := right_yes hr2
      obtain rfl : n = n' := by omega
      have hok := hf.ok
      have hokW : ItOk n base (items ++ more) := it_ok (M := 20) hok.n12 (by rw [List.length_append]; have := hf.il; have := hf2.il; omega) (by rw [List.length_append]; have := hf.il; have := hf2.il; have := hf.bl; omega) (fun c hc => Nat.le_trans (hf.br c hc) (by decide)) fun it hit => by
        rcases List.mem_append.1 hit with h | h
        · exact ⟨(hf.ir it h).1, fun c hc => Nat.le_trans ((hf.ir it h).2 c hc) (by decide)⟩
        · exact ⟨(hf2.ir it h).1, fun c hc => Nat.le_trans ((hf2.ir it h).2 c hc) (by decide)⟩
      have hkW := known_app hf.known hf2.known
      have HR := Lib.hid hR
      have HI := Lib.hid hI
      have HM := Lib.hid hM
      have HRi := Lib.hid (show ∀ w', Below w.heap.size w w' → IsRows w' ab base av cv from fun w' hb => hR.below hb)
      cases hy : (solveE n (allE base items (everyS items))).yes with
      | true =>
        have HLe : Hid (∀ w', Below w.heap.size w w' → Calls Try.prog 12 #[.int .i64 n, .slice ab base.length cb, .slice ai items.length ci, .int .i64 1099511627776] w' (GotYes w')) := Lib.hid fun w' hb => full_yes hok hf.known (hR.below hb) (hI.below hb) hy
        unfold GotYes at HLe
        have tok : True := trivial
        clear hR hI hM hr hr2 hf hf2 hok hokW hkW hy hn'
        go_enter Try.func4, Try.ntmps4
        go_wp2_with (first
          | (go_at_call 15; (have _t := tok); (with_reducible refine (HRt.out _ hb1).mono ?_); rintro e w2 ⟨rfl, rfl⟩; clear tok)
          | (go_at_call 15; (with_reducible refine (HRm.out _ hb1).mono ?_); rintro e w2 ⟨rfl, rfl⟩)
          | (go_at_call 10; (with_reducible refine (awake_any _).mono ?_); rintro e w1 ⟨rfl, hb1⟩)
          | (go_at_call 12; (with_reducible refine (HLe.out _ hb1).mono ?_); rintro e w2 ⟨hb2, a2, c2, s2, rfl⟩)
          | fail)
        go_ret
        exact ⟨rfl, bel_trans hb1 hb2⟩
      | false =>
        obtain ⟨q, hq⟩ : ∃ q, q = kept n base items := ⟨_, rfl⟩
        have hqlt : ∀ x ∈ q, x < items.length := by rw [hq]; exact kept_lt
        have hqn : q.length ≤ items.length := by rw [hq]; exact kept_len
        obtain ⟨m, hm⟩ : ∃ m, m = q.length := ⟨_, rfl⟩
        have HL1 : Hid (∀ w', Below w.heap.size w w' → Calls Try.prog 12 #[.int .i64 n, .slice ab base.length cb, .slice ai items.length ci, .int .i64 1099511627776] w' fun e w'' => Below w'.heap.size w' w'' ∧ ∃ a c s, e = .returned (.tuple #[.slice a m c, .int .i64 s, .int .i64 0]) ∧ Ints w'' a (natsE q)) := Lib.hid fun w' hb => by
          have h := full_no (cb := cb) (ci := ci) hok hf.known (hR.below hb) (hI.below hb) hy
          rw [← hq] at h
          unfold GotNo at h
          rw [← hm] at h
          exact h
        have hokA : ItOk n base (pickI items q) := it_ok (M := 20) hok.n12 (by rw [pickI_len]; have := hf.il; omega) (by rw [pickI_len]; have := hf.il; have := hf.bl; omega) (fun c hc => Nat.le_trans (hf.br c hc) (by decide)) fun it hit => by
          have h1 := hf.ir it (pickI_mem hqlt it hit)
          exact ⟨h1.1, fun c hc => Nat.le_trans (h1.2 c hc) (by decide)⟩
        have HL2 : Hid (∀ w' a c, Below w.heap.size w w' → (∃ aI cI avI cvI, IsItems w' a (pickI items q) aI cI avI cvI) → Calls Try.prog 12 #[.int .i64 n, .slice ab base.length cb, .slice a m c, .int .i64 1099511627776] w' fun e w'' => Below w'.heap.size w' w'' ∧ ∃ a c s, e = .returned (.tuple #[.slice a m c, .int .i64 s, .int .i64 0])) := Lib.hid fun w' a c hb ⟨aJ, cJ, avJ, cvJ, hJ⟩ => by
          have h := full_no (cb := cb) (ci := c) hokA (known_pick hf.known hqlt) (hR.below hb) hJ (by rw [hq]; exact alone_yes hf.known hy)
          unfold GotNo at h
          rw [pickI_len, ← hm] at h
          refine h.mono fun e w'' ⟨h1, a2, c2, s2, h2, _⟩ => ⟨h1, a2, c2, s2, ?_⟩
          rw [h2, hq, alone_kept hf.known, ← hq, List.length_range, ← hm]
        obtain ⟨b, hb⟩ : ∃ b, b = kept n base (items ++ more) := ⟨_, rfl⟩
        have hbn : b.length ≤ items.length + more.length := by rw [hb, ← List.length_append]; exact kept_len
        obtain ⟨mb, hmb⟩ : ∃ mb, mb = b.length := ⟨_, rfl⟩
        rw [← hmb] at hbn
        obtain ⟨N, hN⟩ : ∃ N, N = items.length + more.length := ⟨_, rfl⟩
        have hyW := more_yes hf.known hf2.known hy
        have HL3 : Hid (∀ w' a c, Below w.heap.size w w' → (∃ aI cI avI cvI, IsItems w' a (items ++ more) aI cI avI cvI) → Calls Try.prog 12 #[.int .i64 n, .slice ab base.length cb, .slice a N c, .int .i64 1099511627776] w' fun e w'' => Below w'.heap.size w' w'' ∧ ∃ a c s, e = .returned (.tuple #[.slice a mb c, .int .i64 s, .int .i64 0]) ∧ Ints w'' a (natsE b)) := Lib.hid fun w' a c hbl ⟨aJ, cJ, avJ, cvJ, hJ⟩ => by
          have h := full_no (cb := cb) (ci := c) hokW hkW (hR.below hbl) hJ hyW
          unfold GotNo at h
          rw [List.length_append, ← hN, ← hb, ← hmb] at h
          exact h
        have HN3 : Hid (∀ w' a c a4 c4, Below w.heap.size w w' → (∃ aI cI avI cvI, IsItems w' a (items ++ more) aI cI avI cvI) → Ints w' a4 (natsE b) → Calls Try.prog 16 #[.int .i64 n, .slice ab base.length cb, .slice a N c, .slice a4 mb c4, .int .i64 (-1)] w' fun e w'' => e = .returned (.bool true) ∧ Below w'.heap.size w' w'') := Lib.hid fun w' a c a4 c4 hbl ⟨aJ, cJ, avJ, cvJ, hJ⟩ hi => by
          have hlt : ∀ x ∈ b, x < (items ++ more).length := by rw [hb]; exact kept_lt
          have hil := hf.il
          have hil2 := hf2.il
          have h := nolaw_any n base (items ++ more) b (-1) ab a a4 cb c c4 av cv aJ cJ avJ cvJ w' (hR.below hbl) hJ hi hlt (by omega) (by rw [List.length_append]; omega) hkW (it_ok (M := 20) hok.n12 (by rw [pickI_len]; omega) (by rw [pickI_len]; have := hf.bl; omega) (fun c hc => Nat.le_trans (hf.br c hc) (by decide)) fun it hit => by
            have h1 := pickI_mem hlt it hit
            rcases List.mem_append.1 h1 with h | h
            · exact ⟨(hf.ir it h).1, fun c hc => Nat.le_trans ((hf.ir it h).2 c hc) (by decide)⟩
            · exact ⟨(hf2.ir it h).1, fun c hc => Nat.le_trans ((hf2.ir it h).2 c hc) (by decide)⟩)
          rw [hb, kept_no hkW hyW, ← hb, ← hmb, List.length_append, ← hN] at h
          exact h
        obtain ⟨iI, hiI, hv0, hv1, hv2⟩ := info_parts (P := Try.prog) (e := 22) (z := .slice none 0 0) (size := 1) (bytes := 24) (by kernel_rfl)
        have hil := hf.il
        have hil2 := hf2.il
        have HMq := Lib.hid hm
        have HNN := Lib.hid hN
        have HQlt := Lib.hid hqlt
        have hmle : m ≤ items.length := by omega
        have hmbN : mb ≤ N := by omega
        have hNs : N ≤ 48 := by omega
        have tok : True := trivial
        clear hR hI hM hr hr2 hf hf2 hok hokW hokA hkW hy hn' hq hqlt hqn hm hb hbn hmb hN hyW
        go_enter Try.func4, Try.ntmps4
        go_wp2_with (first
          | (go_at_call 15; (have _t := tok); (with_reducible refine (HRt.out _ hb1).mono ?_); rintro e w2 ⟨rfl, rfl⟩; clear tok)
          | (go_at_call 15; (with_reducible refine (HRm.out _ hb1).mono ?_); rintro e w2 ⟨rfl, rfl⟩)
          | (go_at_call 10; (with_reducible refine (awake_any _).mono ?_); rintro e w1 ⟨rfl, hb1⟩)
          | (go_at_call 12; (with_reducible refine (HL1.out _ hb1).mono ?_); rintro e w2 ⟨hb2, a2, c2, s2, rfl, hi2⟩)
          | fail)
        have HB2 := Lib.hid (bel_trans hb1 hb2)
        have HI2 := Lib.hid hi2
        clear hb1 hb2 hi2 HL1 HRt HRm
        go_loopw [12, 13] (fun s i wr => ∃ (k c : Nat) (a : Option Addr), k ≤ m ∧ i = .int .i64 k ∧ s = .slice a k c ∧ Hid (ItAt w2 wr a k c (pickI items (q.take k))) ∧ Hid (Below w2.heap.size w2 wr)) (fun _ i _ => m - (intOf i).toNat)
        case atStart => exact ⟨0, 0, none, by omega, rfl, rfl, Lib.hid (ItAt.nil _ _), Lib.hid (Below.refl _ _)⟩
        case round =>
          obtain ⟨k, c, a, hk, rfl, rfl, HA, HBr⟩ := hrel
          by_cases hlt : k < m
          · have hki : (k : Int) < (m : Int) := by omega
            have hkq : k < q.length := by rw [← HMq.out]; exact hlt
            obtain ⟨bl, ol, rfl, hlc⟩ := nats_cell (HI2.out.below HBr.out) hkq
            have hck := hlc k hkq
            have hxl := HQlt.out _ (List.getElem_mem hkq)
            have HTk := Lib.hid (show pickI items (q.take (k + 1)) = pickI items (q.take k) ++ [items[q[k]]] by
              unfold pickI
              rw [List.take_succ_eq_append_getElem hkq, List.map_append]
              simp [List.getD_eq_getElem?_getD, hxl])
            generalize q[k] = x at *
            have hxi : (x : Int) < (items.length : Int) := by omega
            have hd1 : decide ((x : Int) < 0) = false := by simp
            have hd2 : decide ((items.length : Int) ≤ (x : Int)) = false := by simp; omega
            have hd3 : decide (items.length ≤ x) = false := by simp; omega
            obtain ⟨bi, oi, rfl, _, hcells⟩ := HI.out.rows (by omega)
            have hbw := bel_trans HB2.out HBr.out
            have hcx := (bel_cell hbw (hcells x hxl)).trans (hcells x hxl)
            have HOne := Lib.hid (ItemsV.one (c := cI x) ((HI.out.item x hxl).below HB2.out))
            obtain ⟨vals, hO, hv⟩ := HA.out.own
            have hone := hv.cell
            have HV := Lib.hid hv
            have HO1 := Lib.hid (hO.alloc (.cells #[.slice (aI x) items[x].length (cI x)] 22))
            clear hlc hcells hbw hkq hO hv
            go_wp2_with (first
              | (at_builtin; go_loud (refine wpList_append_S _ rfl (.tmp 70) (.tmp 78) _ _ rfl 22 iI _ 1 24 Try.underlying23 hiI hv0 hv1 hv2 rfl (by omega) (.slice a k c) k vals rfl HO1.out hone _ 1 [.slice (aI x) items[x].length (cI x)] rfl (src_new wr Try.underlying23 22 _ rfl) (by simp only [maxLen]; omega) (by omega) ?_); intro ao4 cap4 w4 hn4 hm4 hown4 hg4 hat4 hlt4
                 have H4 := Lib.hid (it_app (m := 1) HA.out.len HV.out HA.out.new rfl HOne.out (HBr.out.alloc HBr.out.size (.cells #[.slice (aI x) items[x].length (cI x)] 22)) hown4 hg4 hat4)
                 clear hown4 hg4 hat4 hlt4 hn4 hm4)
              | fail)
            go_roundw
            case rel => exact ⟨k + 1, cap4, ao4, by omega, by go_num, rfl, by rw [HTk.out]; exact Lib.hid H4.out.1, Lib.hid H4.out.2⟩
            case measure => simp [intOf]; omega
          · obtain rfl : k = m := by omega
            obtain ⟨w3, rfl⟩ : ∃ w3, w3 = wr := ⟨_, rfl⟩
            have hA := HA.out
            rw [HMq.out, List.take_length, ← HMq.out] at hA
            have hbw := bel_trans HB2.out HBr.out
            have HL2' := Lib.hid (HL2.out w3 a c hbw (hA.items HBr.out))
            have HB3 := Lib.hid hbw
            clear hA hbw HL2 HA
            go_upto_region 14 with (first
              | (go_at_call 12; (with_reducible refine HL2'.out.mono ?_); rintro e w4 ⟨hb4, a4, c4, s4, rfl⟩)
              | fail)
            have HB4 := Lib.hid (bel_trans HB3.out hb4)
            have hI4 := HI.out.below HB4.out
            have hM4 := HM.out.below HB4.out
            have HS1 := Lib.hid (items_src (hI4.below ((Below.refl w4.heap.size w4).alloc (Nat.le_refl _) (.cells #[] 22))) ci)
            have HV1 := Lib.hid (items_vals hI4)
            have HV2 := Lib.hid (items_vals hM4)
            have HM4 := Lib.hid hM4
            have hone1 := (items_vals hI4).cell
            have hb40 : Below w4.heap.size w4 (w4.alloc (.cells #[] 22)) := (Below.refl _ _).alloc (Nat.le_refl _) _
            have HB40 := Lib.hid hb40
            clear hI4 hM4 hb40 HL2' hb4
            go_upto_region 17 with (first
              | (at_builtin; go_loud (refine wpList_append_S _ rfl (.tmp 97) (.tmp 98) _ _ rfl 22 iI _ 1 24 Try.underlying23 hiI hv0 hv1 hv2 rfl (by omega) (.slice (some ⟨w4.heap.size, 0, none⟩) 0 0) 0 [] rfl (Own.made w4 22 1 #[] 0 rfl (by simp)) (by simp) (.slice ai items.length ci) items.length (itemVals items aI cI) rfl HS1.out (by simp only [maxLen]; omega) (by omega) ?_); intro ao5 cap5 w5 hn5 hm5 hown5 hg5 hat5 hlt5; simp only [Nat.zero_add, List.nil_append] at hown5 hat5 hlt5 ⊢
                 have hb5 : Below w4.heap.size w4 w5 := HB40.out.grown hg5 HB40.out.size fun k e => by injection e with e; exact Nat.le_of_eq e
                 have HA5 := Lib.hid (show ItAt w4 w5 ao5 items.length cap5 items from ⟨rfl, ⟨_, hown5, HV1.out⟩, fun k hk => by
                   rcases hat5 with e | e
                   · rw [hk] at e; injection e with e; exact Nat.le_of_eq e.symm
                   · rw [hk] at e; injection e with e; rw [e]; exact HB40.out.size⟩)
                 have HS2 := Lib.hid (items_src (HM4.out.below hb5) cm)
                 have HO5 := Lib.hid hown5
                 have HB5 := Lib.hid hb5
                 clear hn5 hm5 hown5 hg5 hat5 hlt5 hb5)
              | (at_builtin; go_loud (refine wpList_append_S _ rfl (.tmp 99) (.tmp 100) _ _ rfl 22 iI _ 1 24 Try.underlying23 hiI hv0 hv1 hv2 rfl (by omega) (.slice ao5 items.length cap5) items.length (itemVals items aI cI) rfl HO5.out hone1 (.slice am more.length cm) more.length (itemVals more aM cM) rfl HS2.out (by simp only [maxLen]; omega) (by omega) ?_); intro ao6 cap6 w6 hn6 hm6 hown6 hg6 hat6 hlt6
                 have H6 := Lib.hid (it_app HA5.out.len HV1.out HA5.out.new rfl HV2.out HB5.out hown6 hg6 hat6)
                 clear hn6 hm6 hown6 hg6 hat6 hlt6)
              | fail)
            rw [← HNN.out] at H6 ⊢
            have hb46 := H6.out.2
            have hb6 := bel_trans HB4.out hb46
            have hit6 := H6.out.1.items hb46
            have HL3' := Lib.hid (HL3.out w6 ao6 cap6 hb6 hit6)
            have HN3' := Lib.hid (fun (w7 : World) (a4 : Option Addr) (c4 : Nat) (hb : Below w6.heap.size w6 w7) (hi : Ints w7 a4 (natsE b)) => HN3.out w7 ao6 cap6 a4 c4 (bel_trans hb6 hb) (by
              obtain ⟨aJ, cJ, avJ, cvJ, hJ⟩ := hit6
              exact ⟨aJ, cJ, avJ, cvJ, hJ.below hb⟩) hi)
            have HB6 := Lib.hid hb6
            have hlen : decide ((mb : Int) ≤ (N : Int)) = true := by simp; omega
            have hlen2 : decide (mb ≤ N) = true := by simp; omega
            clear hb46 hb6 hit6 H6 HL3 HN3 HO5 HS1 HS2 HV1 HV2 HA5 HB5 HB40 hone1
            go_wp2_with (first
              | (go_at_call 12; (with_reducible refine HL3'.out.mono ?_); rintro e w7 ⟨hb7, a7, c7, s7, rfl, hi7⟩; have HI7 := Lib.hid hi7; have HB7 := Lib.hid hb7; clear hi7 hb7)
              | (go_at_call 16; (with_reducible refine (HN3'.out _ _ _ HB7.out HI7.out).mono ?_); rintro e w8 ⟨rfl, hb8⟩)
              | fail)
            go_ret
            exact ⟨rfl, bel_trans HB6.out (bel_trans HB7.out hb8)⟩

end Go.Proofs.Ythinopiobihmaaa
