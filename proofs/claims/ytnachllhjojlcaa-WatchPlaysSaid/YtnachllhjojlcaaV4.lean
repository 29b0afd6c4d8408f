/- A watcher's contracts: choose. -/
import Derived.Test.YtnachllhjojlcaaV3
import Derived.Deep.RegionHeld3
import Derived.Deep.QuietTactic
import Derived.BigQuiet
namespace Go.Proofs.Ytnachllhjojlcaa
open Go.ChangeShapes Go.WideShapes Go.ChangeAt Go.RowKit Go.Maps Go.Deep
set_option maxRecDepth 100000

/-- The state while choose goes on. -/
abbrev chS (S : WS) (c : Nat) (q : List Int × (Int → List Nat)) : WS := (S.wLs (S.ls.set c q.1)).wBy q.2
theorem chS_row (S : WS) (c : Nat) (q : List Int × (Int → List Nat)) (hc : c < S.ls.length) : (chS S c q).ls.getD c [] = q.1 := by
  show (S.ls.set c q.1).getD c [] = q.1
  rw [getD_setL _ _ _ hc, if_pos rfl]
theorem chS_len (S : WS) (c : Nat) (q : List Int × (Int → List Nat)) : (chS S c q).ls.length = S.ls.length := by
  show (S.ls.set c q.1).length = _
  simp
theorem chS_start (S : WS) (c : Nat) : chS S c (S.ls.getD c [], S.by_) = S := by
  have e : S.ls.set c (S.ls.getD c []) = S.ls := by
    apply List.ext_getElem?
    intro i
    by_cases h : c = i
    · subst h
      rw [List.getElem?_set]
      simp only [if_true, List.getD_eq_getElem?_getD]
      split
      · next hl => rw [List.getElem?_eq_getElem hl]; rfl
      · next hl => rw [List.getElem?_eq_none (by omega)]
    · rw [List.getElem?_set_ne h]
  show WS.mk S.n S.es S.cl (S.ls.set c (S.ls.getD c [])) S.by_ S.done S.fresh = S
  rw [e]
theorem chS_swap (S : WS) (c : Nat) (l : List Int) (b : Int → List Nat) (l' : List Int) : (chS S c (l, b)).wLs ((chS S c (l, b)).ls.set c l') = chS S c (l', b) := by
  show WS.mk S.n S.es S.cl ((S.ls.set c l).set c l') b S.done S.fresh = WS.mk S.n S.es S.cl (S.ls.set c l') b S.done S.fresh
  rw [List.set_set]

theorem ch_pre (r : Int → Int) (c : Nat) (l : List Int) (b : Int → List Nat) : ∀ i, i ≤ l.length → ((List.range i).foldl (chStep r c) (l, b)).1.Perm l ∧ ∀ x, (((List.range i).foldl (chStep r c) (l, b)).2 x).length ≤ (b x).length + i
  | 0, _ => ⟨List.Perm.refl _, fun _ => Nat.le_refl _⟩
  | i + 1, h => by
    obtain ⟨h1, h2⟩ := ch_pre r c l b i (by omega)
    rw [List.range_succ, List.foldl_append]
    generalize (List.range i).foldl (chStep r c) (l, b) = q at *
    have hq := h1.length_eq
    refine ⟨(best_spec r q.1 i (by omega)).1.trans h1, fun x => ?_⟩
    have h3 := h2 x
    show (updF q.2 ((bestC r q.1 i).getD i 0) (q.2 ((bestC r q.1 i).getD i 0) ++ [c]) x).length ≤ _
    unfold updF
    split
    · next e => rw [← e, List.length_append]; simp; omega
    · omega
theorem inner_next (r : Int → Int) (i : Nat) (l : List Int) (j : Nat) (hj : i + 1 ≤ j) : innerC r i l (List.range' (i + 1) (j + 1 - (i + 1))) =
    if r ((innerC r i l (List.range' (i + 1) (j - (i + 1)))).getD i 0) < r ((innerC r i l (List.range' (i + 1) (j - (i + 1)))).getD j 0) then swapL (innerC r i l (List.range' (i + 1) (j - (i + 1)))) i j else innerC r i l (List.range' (i + 1) (j - (i + 1))) := by
  have e : j + 1 - (i + 1) = (j - (i + 1)) + 1 := by omega
  have e2 : i + 1 + (j - (i + 1)) = j := by omega
  rw [e, List.range'_1_concat, e2]
  unfold innerC
  rw [List.foldl_append]
  rfl

set_option maxHeartbeats 4000000 in
theorem wchoose_any (w : World) (M : WM) (S : WS) (h : WAt w M S) (hn : S.n ≤ 5000) (c : Nat) (hc : c < S.ls.length) (hk : ∀ x ∈ S.ls.getD c [], 1 ≤ x.natAbs ∧ x.natAbs ≤ S.n) (hl : (S.ls.getD c []).length ≤ 1000000)
    (hby : ∀ x, (S.by_ x).length ≤ 1000000) (hnB : M.nB ≤ 1000000000000) :
    Calls Try.prog 42 #[.pointer (some ⟨M.x, 0, none⟩), .int .i64 c] w fun e w' => e = .returned (.tuple #[]) ∧ WUp 2 w w' M S (chS S c (chooseE (rankE S.n S.es) c (S.ls.getD c []) S.by_)) := by
  obtain ⟨i3, hi3, hz0, hz1, hz2⟩ := info_parts (P := Try.prog) (e := 3) (z := .int .i64 0) (size := 1) (bytes := 8) (by kernel_rfl)
  obtain ⟨l, hll⟩ : ∃ l, l = S.ls.getD c [] := ⟨_, rfl⟩
  obtain ⟨r, hr⟩ : ∃ r, r = rankE S.n S.es := ⟨_, rfl⟩
  have hoR : Own w 3 1 (M.L c) _ _ := h.part (.li c) hc
  obtain ⟨aoR, capR, eL, hcapR, hcapM, _⟩ := hoR.form
  have hoL : Own w 23 1 M.vL S.ls.length _ := h.part .lits
  obtain ⟨aoL, capL, eLL, _, _, hfL⟩ := hoL.form
  obtain ⟨bL, oL, rfl, hcL, _, _⟩ := hfL (by omega)
  have hcl := hcL c (by rw [rowV_len]; exact hc)
  rw [rowV_get _ _ _ hc, eL] at hcl
  obtain ⟨_, _, c2, c3, _, _, _⟩ := h.cells
  rw [eLL] at c2
  rw [← hll] at hk hl eL hcapR hcl ⊢
  rw [← hr]
  have hci : (c : Int) < (S.ls.length : Int) := by omega
  obtain ⟨m, hm⟩ : ∃ m, m = min 2 l.length := ⟨_, rfl⟩
  have hmin : min (2 : Int) (l.length : Int) = (m : Int) := by omega
  have hm2 : m ≤ 2 := by omega
  have hml : m ≤ l.length := by omega
  have HM := Lib.hid hm
  have HW0 : Hid (WAt w M (chS S c (l, S.by_))) := Lib.hid (by rw [hll, chS_start]; exact h)
  have HWo := Lib.hid h
  have HAll : Hid (∀ k, M.all (chS S c (l, S.by_)) k → M.all S k ∨ w.heap.size ≤ k) := Lib.hid (by rw [hll, chS_start]; exact fun k hk => .inl hk)
  have HK := Lib.hid hk
  have HR := Lib.hid hr
  have HBy := Lib.hid hby
  have HL := Lib.hid eL
  clear h hoR hoL hcL hfL hk hr hby hm hll eL eLL
  go_enter Try.func42, Try.ntmps42
  go_wp2_with fail
  all_goals
    go_loopw [17] (fun s wr => ∃ (i : Nat) (M1 : WM) (q : List Int × (Int → List Nat)), i ≤ m ∧ s = .int .i64 i ∧ Hid (q = (List.range i).foldl (chStep r c) (l, S.by_)) ∧ Hid (WAt wr M1 (chS S c q)) ∧ Hid (M1.x = M.x) ∧ Hid (M1.L c = M.L c) ∧ Hid (M1.nB ≤ M.nB + i) ∧
      Hid (Touch (M.all S) w wr) ∧ Hid (∀ k, M1.all (chS S c q) k → M.all S k ∨ w.heap.size ≤ k)) (fun s _ => m - (intOf s).toNat)
    case atStart => exact ⟨0, M, (l, S.by_), by omega, rfl, Lib.hid rfl, HW0, Lib.hid rfl, Lib.hid rfl, Lib.hid (Nat.le_refl _), Lib.hid (Touch.refl _ _), HAll⟩
    case round =>
      obtain ⟨i, M1, q, him, rfl, HQ, HW, HX, HLc, HNb, HT, HA⟩ := hrel
      by_cases hlt : i < m
      · have hti : (i : Int) < (l.length : Int) := by omega
        have hti2 : (i : Int) < 2 := by omega
        have hrow := HW.out.row (c := c) (by rw [chS_len]; exact hc)
        have hpre := ch_pre r c l S.by_ i (by omega)
        rw [← HQ.out] at hpre
        obtain ⟨hper, hqb⟩ := hpre
        have hql := hper.length_eq
        have HPer := Lib.hid hper
        have HQb := Lib.hid hqb
        rw [chS_row _ _ _ hc, HLc.out, HL.out, hql] at hrow
        obtain ⟨b, off, cap', eLc, _, _, _, hbl⟩ := hrow (by omega)
        injection eLc with e1 _ e3
        subst e1
        obtain ⟨wo, rfl⟩ : ∃ wo : World, wo = wr := ⟨_, rfl⟩
        clear hper hqb hrow e3
        go_wp2_with fail
        go_loopw [6] (fun s wq => ∃ (j : Nat) (l2 : List Int), i + 1 ≤ j ∧ j ≤ l.length ∧ s = .int .i64 j ∧ Hid (l2 = innerC r i q.1 (List.range' (i + 1) (j - (i + 1)))) ∧ Hid (WAt wq M1 (chS S c (l2, q.2))) ∧
          Hid (Touch (M.all S) w wq) ∧ Hid (∀ k, M1.all (chS S c (l2, q.2)) k → M.all S k ∨ w.heap.size ≤ k)) (fun s _ => l.length - (intOf s).toNat)
        case atStart => exact ⟨i + 1, q.1, by omega, by omega, by go_num, Lib.hid (by rw [Nat.sub_self]; rfl), HW, HT, HA⟩
        case round =>
          obtain ⟨j, l2, hj1, hj2, rfl, HI, HW2, HT2, HA2⟩ := hrel
          have hq1 : q.1.length = l.length := HPer.out.length_eq
          obtain ⟨hp1, _, _⟩ := inner_spec r i q.1 (by omega) (j - (i + 1)) (by omega)
          rw [← HI.out] at hp1
          have hl2 : l2.length = l.length := by rw [hp1.length_eq, hq1]
          have HP2 := Lib.hid (hp1.trans HPer.out)
          have hrow := HW2.out.row (c := c) (by rw [chS_len]; exact hc)
          rw [chS_row _ _ _ hc, HLc.out, HL.out, hl2] at hrow
          obtain ⟨b', off', cap2, eLc, _, hcell, hfro, _⟩ := hrow (by omega)
          injection eLc with e1 _ e3
          injection e1 with e1
          injection e1 with e1 e2
          subst e1 e2
          clear e3
          have hyi : l2.getD i 0 ∈ l := HP2.out.mem_iff.1 (by rw [List.getD_eq_getElem?_getD, List.getElem?_eq_getElem (by omega : i < l2.length)]; exact List.getElem_mem _)
          have hki := HK.out _ hyi
          have HRk : Hid (∀ w' y, Below wr.heap.size wr w' → 1 ≤ y.natAbs ∧ y.natAbs ≤ S.n → Calls Try.prog 61 #[.pointer (some ⟨M.x, 0, none⟩), .int .i64 y] w' fun e w'' => e = .returned (.int .i64 (r y)) ∧ Below w'.heap.size w' w'') := Lib.hid fun w' y hb hy => by
            have h := wrank (HW2.out.below hb) hn y hy
            rw [HX.out] at h
            rw [HR.out]
            exact h
          by_cases hjl : j < l.length
          · have hji : (j : Int) < (l.length : Int) := by omega
            have hyj : l2.getD j 0 ∈ l := HP2.out.mem_iff.1 (by rw [List.getD_eq_getElem?_getD, List.getElem?_eq_getElem (by omega : j < l2.length)]; exact List.getElem_mem _)
            have hkj := HK.out _ hyj
            have hnx := inner_next r i q.1 j hj1
            rw [← HI.out] at hnx
            have HSw : Hid (∀ w', Below wr.heap.size wr w' → WAt ((w'.setCell ⟨b, off + i, none⟩ (.int .i64 (l2.getD j 0))).setCell ⟨b, off + j, none⟩ (.int .i64 (l2.getD i 0))) M1 (chS S c (swapL l2 i j, q.2)) ∧
              Touch (M.all S) w ((w'.setCell ⟨b, off + i, none⟩ (.int .i64 (l2.getD j 0))).setCell ⟨b, off + j, none⟩ (.int .i64 (l2.getD i 0))) ∧ ∀ k, M1.all (chS S c (swapL l2 i j, q.2)) k → M.all S k ∨ w.heap.size ≤ k) := Lib.hid fun w' hb => by
              have h := (HW2.out.below hb).swap (c := c) (by rw [chS_len]; exact hc) (b := b) (off := off) (cap := capR) (by rw [chS_row _ _ _ hc, HLc.out, HL.out, hl2]) i j
              rw [chS_row _ _ _ hc, chS_swap] at h
              obtain ⟨k1, k2, k3⟩ := h
              have ht := HT2.out.trans (Touch.of_below hb fun _ => False) fun _ _ hf => hf.elim
              exact ⟨k1, touch_trans ht HA2.out k2, all_trans ht.size HA2.out k3⟩
            have hcj := hcell j hjl
            have hcii := hcell i (by omega)
            have hbw : b < wr.heap.size := World.block_lt_of_cell? _ _ hcj
            have HC : Hid (∀ w', Below wr.heap.size wr w' → w'.cell? ⟨b, off + j, none⟩ = some (.int .i64 (l2.getD j 0)) ∧ w'.cell? ⟨b, off + i, none⟩ = some (.int .i64 (l2.getD i 0))) := Lib.hid fun w' hb =>
              ⟨(World.cell?_of_block (w := wr) (hb.block b hbw)).trans hcj, (World.cell?_of_block (w := wr) (hb.block b hbw)).trans hcii⟩
            have HF : Hid (∀ w', Below wr.heap.size wr w' → ∀ i, w'.frozen? ⟨b, i, none⟩ = false) := Lib.hid fun w' hb i => (hb.frozen (p := ⟨b, i, none⟩) hbw).trans (hfro i)
            generalize hyj' : l2.getD j 0 = yj at *
            generalize hyi' : l2.getD i 0 = yi at *
            have hbd : Below wr.heap.size wr wr.drew := bel_drewN (Below.refl _ _) 1
            by_cases hcmp : r yi < r yj
            · have hcmp2 : decide (r yi < r yj) = true := by simpa using hcmp
              rw [if_pos hcmp] at hnx
              have HNx := Lib.hid hnx
              clear hnx hcell hfro hp1 hl2 HI HT2 HA2 HW2 hyi hyj hyi' hyj' hcmp
              go_wp2_with fail
              go_region_held3 (fun w' => w'.cell? ⟨b, off + j, none⟩ = some (.int .i64 yj) ∧ w'.cell? ⟨b, off + i, none⟩ = some (.int .i64 yi)) (first | exact HC.out _ (by assumption)) ((first
                | (go_at_call 61; (with_reducible refine (HRk.out _ yj hbd hkj).mono ?_); rintro e w5 ⟨rfl, hb5⟩; have hb5' := bel_new hbd hbd.size hb5)
                | (go_at_call 61; (with_reducible refine (HRk.out _ yi hbd hki).mono ?_); rintro e w5 ⟨rfl, hb5⟩; have hb5' := bel_new hbd hbd.size hb5)
                | (go_at_call 61; (with_reducible refine (HRk.out _ yi hb5' hki).mono ?_); rintro e w6 ⟨rfl, hb6⟩; have hb6' := bel_new hb5' hb5'.size hb6)
                | (go_at_call 61; (with_reducible refine (HRk.out _ yj hb5' hkj).mono ?_); rintro e w6 ⟨rfl, hb6⟩; have hb6' := bel_new hb5' hb5'.size hb6)))
              all_goals
                obtain ⟨hc6, hc7⟩ := HC.out _ hb6'
                have hf6 := HF.out _ hb6'
                go_wp2_with fail
                go_region
                all_goals
                  go_wp2_with fail
                  go_roundw
                  case rel =>
                    obtain ⟨k1, k2, k3⟩ := HSw.out _ hb6'
                    exact ⟨j + 1, swapL l2 i j, by omega, by omega, by go_num, Lib.hid HNx.out.symm, Lib.hid (k1.below (bel_drewN (Below.refl _ _) 1)), Lib.hid k2.drew, Lib.hid k3⟩
                  case measure => simp [intOf]; omega
            · have hcmp2 : decide (r yi < r yj) = false := by simpa using hcmp
              rw [if_neg hcmp] at hnx
              have HNx := Lib.hid hnx
              clear hnx hcell hfro hp1 hl2 HI hyi hyj hyi' hyj' hcmp HSw
              go_wp2_with fail
              go_region_held3 (fun w' => w'.cell? ⟨b, off + j, none⟩ = some (.int .i64 yj) ∧ w'.cell? ⟨b, off + i, none⟩ = some (.int .i64 yi)) (first | exact HC.out _ (by assumption)) ((first
                | (go_at_call 61; (with_reducible refine (HRk.out _ yj hbd hkj).mono ?_); rintro e w5 ⟨rfl, hb5⟩; have hb5' := bel_new hbd hbd.size hb5)
                | (go_at_call 61; (with_reducible refine (HRk.out _ yi hbd hki).mono ?_); rintro e w5 ⟨rfl, hb5⟩; have hb5' := bel_new hbd hbd.size hb5)
                | (go_at_call 61; (with_reducible refine (HRk.out _ yi hb5' hki).mono ?_); rintro e w6 ⟨rfl, hb6⟩; have hb6' := bel_new hb5' hb5'.size hb6)
                | (go_at_call 61; (with_reducible refine (HRk.out _ yj hb5' hkj).mono ?_); rintro e w6 ⟨rfl, hb6⟩; have hb6' := bel_new hb5' hb5'.size hb6)))
              all_goals
                go_wp2_with fail
                go_roundw
                case rel => exact ⟨j + 1, l2, by omega, by omega, by go_num, Lib.hid HNx.out.symm, Lib.hid (HW2.out.below hb6'), Lib.hid (HT2.out.trans (Touch.of_below hb6' fun _ => False) fun _ _ hf => hf.elim), HA2⟩
                case measure => simp [intOf]; omega
          · obtain rfl : j = l.length := by omega
            have hbest : l2 = bestC r q.1 i := by
              rw [HI.out]
              unfold bestC
              rw [hq1]
            have hcii := hcell i (by omega)
            have hyI : I64 (l2.getD i 0) := ⟨by omega, by omega⟩
            have hqn : (((List.range i).foldl (chStep r c) (l, S.by_)).2 (l2.getD i 0)).length ≤ 1000002 := by
              rw [← HQ.out]
              have := HQb.out (l2.getD i 0)
              have := HBy.out (l2.getD i 0)
              omega
            rw [← HQ.out] at hqn
            have HStep : Hid ((l2, updF q.2 (l2.getD i 0) (q.2 (l2.getD i 0) ++ [c])) = (List.range (i + 1)).foldl (chStep r c) (l, S.by_)) := Lib.hid (by
              rw [List.range_succ, List.foldl_append, ← HQ.out, hbest]
              rfl)
            have hOB : Own wr 3 1 (M1.B (l2.getD i 0)) (q.2 (l2.getD i 0)).length (natC (q.2 (l2.getD i 0))) := HW2.out.part (.by_ (l2.getD i 0))
            obtain ⟨aoB, capB, eB, _, _, _⟩ := hOB.form
            obtain ⟨_, _, _, k3, _, _, _⟩ := HW2.out.cells
            rw [HX.out] at k3
            have hnb : M1.nB < maxLen := by have := HNb.out; simp only [maxLen]; omega
            have hbw : b < wr.heap.size := World.block_lt_of_cell? _ _ hcii
            have hm : MapV wr M1.mb M1.nB M1.B := HW2.out.part .map
            have HSt : Hid (∀ w', Touch (fun k => (M1.B (l2.getD i 0)).ownBlock = some k ∨ k = M1.mb) wr w' → w'.cell? ⟨M.x, 3, none⟩ = some (.map (some M1.mb)) ∧ w'.cell? ⟨b, off + i, none⟩ = some (.int .i64 (l2.getD i 0))) := Lib.hid fun w' ht => by
              have d1 := HW2.out.dis (.by_ (l2.getD i 0)) .self M1.x
              have d2 := HW2.out.dis (.by_ (l2.getD i 0)) (.li c) b
              have d3 := HW2.out.dis .map .self M1.x
              have d4 := HW2.out.dis .map (.li c) b
              have hxw : M1.x < wr.heap.size := HW2.out.lt .self _ rfl
              have hbo : (chS S c (l2, q.2)).ls.length > c ∧ (M1.L c).ownBlock = some b := ⟨by rw [chS_len]; exact hc, by rw [HLc.out, HL.out]; rfl⟩
              refine ⟨(ht.cell (p := ⟨M.x, 3, none⟩) (by rw [← HX.out]; exact hxw) (fun e => ?_)).trans k3, (ht.cell (p := ⟨b, off + i, none⟩) hbw (fun e => ?_)).trans hcii⟩
              · have e' : (M1.B (l2.getD i 0)).ownBlock = some M1.x ∨ M1.x = M1.mb := by rw [HX.out]; exact e
                rcases e' with e | e
                · have := d1 e rfl
                  cases this
                · have := d3 e rfl
                  cases this
              · have e' : (M1.B (l2.getD i 0)).ownBlock = some b ∨ b = M1.mb := e
                rcases e' with e | e
                · have := d2 e hbo
                  cases this
                · have := d4 e hbo
                  cases this
            have hlk1 : (Instr.lookup 63 (.map (some M1.mb)) (.int .i64 (l2.getD i 0)) false).run Try.prog wr.drew = .ok (M1.B (l2.getD i 0)) wr.drew := MapV.look (w := wr.drew) (hm.keep rfl) hyI
            have hlk2 : (Instr.lookup 63 (.map (some M1.mb)) (.int .i64 (l2.getD i 0)) false).run Try.prog (wr.alloc (.cells #[.int .i64 (c : Int)] 3)).drew = .ok (M1.B (l2.getD i 0)) (wr.alloc (.cells #[.int .i64 (c : Int)] 3)).drew :=
              MapV.look (w := (wr.alloc (.cells #[.int .i64 (c : Int)] 3)).drew) (hm.keep (Below.heap_alloc _ _ _ hm.lt)) hyI
            have HPut : Hid (∀ w10 v', Own w10 3 1 v' ((q.2 (l2.getD i 0)).length + 1) (natC (q.2 (l2.getD i 0)) ++ [.int .i64 (c : Int)]) → (wr.alloc (.cells #[.int .i64 (c : Int)] 3)).drew.grownBy w10 (M1.B (l2.getD i 0)).ownBlock → (v'.ownBlock = (M1.B (l2.getD i 0)).ownBlock ∨ v'.ownBlock = some (wr.alloc (.cells #[.int .i64 (c : Int)] 3)).drew.heap.size) →
                ∃ w2, (Instr.mapUpdate 63 (.map (some M1.mb)) (.int .i64 (l2.getD i 0)) v').run Try.prog w10 = .ok () w2 ∧ (w10.cell? ⟨M.x, 3, none⟩ = some (.map (some M1.mb)) ∧ w10.cell? ⟨b, off + i, none⟩ = some (.int .i64 (l2.getD i 0))) ∧
                  (w2.cell? ⟨M.x, 3, none⟩ = some (.map (some M1.mb)) ∧ w2.cell? ⟨b, off + i, none⟩ = some (.int .i64 (l2.getD i 0))) ∧
                  Hid (∃ M', WAt w2 M' (chS S c (l2, updF q.2 (l2.getD i 0) (q.2 (l2.getD i 0) ++ [c]))) ∧ M'.x = M.x ∧ M'.L c = M.L c ∧ M'.nB ≤ M.nB + (i + 1) ∧ Touch (M.all S) w w2 ∧ ∀ k, M'.all (chS S c (l2, updF q.2 (l2.getD i 0) (q.2 (l2.getD i 0) ++ [c]))) k → M.all S k ∨ w.heap.size ≤ k)) := Lib.hid fun w10 v' ho hg hat => by
              have hA : Below wr.heap.size wr (wr.alloc (.cells #[.int .i64 (c : Int)] 3)).drew := bel_drewN ((Below.refl _ wr).alloc (Nat.le_refl _) _) 1
              obtain ⟨w2, r1, r5, r2, r3, r4⟩ := HW2.out.byPush hyI hnb c hA ho hg hat
              have t1 : Touch (fun k => (M1.B (l2.getD i 0)).ownBlock = some k ∨ k = M1.mb) wr w10 := (Touch.of_below hA fun k => (M1.B (l2.getD i 0)).ownBlock = some k ∨ k = M1.mb).trans (Touch.of_grown (F := fun k => (M1.B (l2.getD i 0)).ownBlock = some k) hg fun k hk => hk) fun _ _ hk => .inl hk
              exact ⟨w2, r1, HSt.out _ t1, HSt.out _ (t1.trans (Touch.of_grown (F := fun k => k = M1.mb) r5 fun k hk => by injection hk with hk; exact hk.symm) fun _ _ hk => .inr hk), Lib.hid ⟨_, r2, HX.out, HLc.out, (by have := HNb.out; show M1.nB + 1 ≤ _; omega), touch_trans HT2.out HA2.out r3, all_trans HT2.out.size HA2.out r4⟩⟩
            rw [eB] at HPut hlk1 hlk2 hOB
            have HOB := Lib.hid hOB
            generalize l2.getD i 0 = yi at *
            generalize hQ : q.2 yi = Lq at *
            clear hbest hyI hOB eB hnb hcell hfro hp1 hl2 HI hyi hki hQ HRk
            go_wp2_with fail
            go_region_held3 (fun w' => w'.cell? ⟨M.x, 3, none⟩ = some (.map (some M1.mb)) ∧ w'.cell? ⟨b, off + i, none⟩ = some (.int .i64 yi))
              (first | exact HSt.out _ (((Touch.refl _ wr).alloc _).drew) | assumption | exact HSt.out _ ((Touch.refl _ wr).drew))
              ((refine step_append_S _ (by rfl) (.tmp 71) (.tmp 73) _ _ (by rfl) 3 i3 _ 1 8 Try.underlying23 hi3 hz0 hz1 hz2 rfl (by omega) (.slice aoB Lq.length capB) Lq.length (natC Lq) (by rfl) (HOB.out.alloc _).drew (natC_one _) _ 1 [_] (by rfl) (src_new wr.drew Try.underlying23 3 _ rfl) (by simp only [maxLen]; omega) (by omega) ?_; intro ao2 cap2 w10 hn1 hm1 hown1 hg1 hat1 hlt1; obtain ⟨w11, hrun, hs10, hs11, m1⟩ := HPut.out w10 _ hown1 hg1 hat1; clear hown1 hg1 hat1 hlt1 hn1 hm1))
            all_goals
              go_wp2_with fail
              go_roundw
              case rel =>
                obtain ⟨M', n1, n2, n3, n4, n5, n6⟩ := m1.out
                exact ⟨i + 1, M', (l2, updF q.2 yi (Lq ++ [c])), by omega, by go_num, HStep, Lib.hid n1, Lib.hid n2, Lib.hid n3, Lib.hid n4, Lib.hid n5, Lib.hid n6⟩
              case measure => simp [intOf]; omega
      · obtain rfl : i = m := by omega
        have hq : q = chooseE r c l S.by_ := by
          rw [HQ.out, HM.out]
          rfl
        have HQ2 := Lib.hid hq
        have HB : Hid (M1.nB ≤ M.nB + 2) := Lib.hid (by have := HNb.out; omega)
        clear hq
        go_wp2_with fail
        go_end0
        exact ⟨rfl, by rw [← HQ2.out]; exact ⟨M1, HW.out, HX.out, HB.out, HT.out, HA.out, fun h0 => absurd h0 (by decide)⟩⟩

end Go.Proofs.Ytnachllhjojlcaa
