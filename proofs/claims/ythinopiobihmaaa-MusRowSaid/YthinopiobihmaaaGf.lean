/- A watcher's contracts: moves. -/
import Derived.Test.YthinopiobihmaaaGe
import Derived.Deep.RegionHeld3
import Derived.Deep.QuietTactic
import Derived.BigQuiet
import Derived.StillTailTactics
import Derived.Deep.Cut
import Derived.Deep.CutRange
import Derived.IntWalk
namespace Go.Proofs.Ythinopiobihmaaa
open Go.ChangeShapes Go.WideShapes Go.ChangeAt Go.RowKit Go.Maps Go.Deep
set_option maxRecDepth 100000

theorem mvSwap_len (x0 : Int) (l : List Int) : (mvSwap x0 l).length = l.length := by
  unfold mvSwap
  split
  · exact swapL_len _ _ _
  · rfl

theorem set_same (S : WS) (c : Nat) : S.wLs (S.ls.set c (S.ls.getD c [])) = S := by
  have e : S.ls.set c (S.ls.getD c []) = S.ls := by
    apply List.ext_getElem?
    intro i
    by_cases h : c = i
    · subst h
      rw [List.getElem?_set]
      simp only [if_true, List.getD_eq_getElem?_getD]
      split
      · next hl => rw [List.getElem?_eq_getElem hl]; rfl
      · next hl => rw [List.getElem?_eq_none (by omega)]
    · rw [List.getElem?_set_ne h]
  show WS.mk S.n S.es S.cl (S.ls.set c (S.ls.getD c [])) S.by_ S.done S.fresh = S
  rw [e]
theorem look_byEq (S : WS) (c : Nat) : (lookS S c).1.by_ = S.by_ := by
  unfold lookS
  split
  · rfl
  · split <;> rfl
theorem take2_pos {x0 : Int} {l : List Int} (h : x0 ∈ l.take 2) : 0 < l.length := by
  cases l with
  | nil => simp at h
  | cons a l => simp
theorem getD_getElem (l : List Int) (i : Nat) (h : i < l.length) : l.getD i 0 = l[i] := by simp [List.getD, h]

set_option maxHeartbeats 8000000 in
theorem wmoves_any (w : World) (M : WM) (S : WS) (h : WAt w M S) (hI : WInv S) (hf : S.fresh = []) (hn : S.n ≤ 5000) (hcl : S.cl.length ≤ 1000000) (hnB : M.nB ≤ 100000000000000) (x0 : Int) (hx : I64 x0) (hv : valE S.n S.es x0 = -1) :
    Calls Try.prog 63 #[.pointer (some ⟨M.x, 0, none⟩), .int .i64 x0] w fun e w' => e = .returned (.int .i64 (movesS x0 (S.by_ x0) S []).2) ∧ WUp (S.cl.length + 1) w w' M S (movesS x0 (S.by_ x0) S []).1 := by
  obtain ⟨i3, hi3, hz0, hz1, hz2⟩ := info_parts (P := Try.prog) (e := 3) (z := .int .i64 0) (size := 1) (bytes := 8) (by kernel_rfl)
  have hmf : ∀ (fn : Fn) (first cap : Array Value) (w : World), (Instr.makeFunc fn first cap).run Try.prog w = .ok (.func fn first cap) w := fun _ _ _ _ => rfl
  have hmid := mid_start hI hf hv
  have hold := hI.byLen x0
  obtain ⟨R, hR⟩ : ∃ R, R = movesS x0 (S.by_ x0) S [] := ⟨_, rfl⟩
  rw [← hR]
  have hoB : Own w 3 1 (M.B x0) _ _ := h.part (.by_ x0)
  obtain ⟨aoO, capO, eO, hcO, hcOm, hfO⟩ := hoB.form
  have hmV : MapV w M.mb M.nB M.B := h.part .map
  obtain ⟨W, hW⟩ : ∃ W, W = w.alloc (.cells #[.pointer (some ⟨M.x, 0, none⟩)] 55) := ⟨_, rfl⟩
  have hb : Below w.heap.size w W := by rw [hW]; exact (Below.refl _ _).alloc (Nat.le_refl _) _
  have hcpW : W.cell? ⟨w.heap.size, 0, none⟩ = some (.pointer (some ⟨M.x, 0, none⟩)) := by rw [hW]; exact (Blk.new w _ _).cell 0
  have hlt : w.heap.size < W.heap.size := by rw [hW]; simp
  have hWA := h.below hb
  have hx3 := hWA.cells.2.2.2.1
  have hlk : (Instr.lookup 79 (.map (some M.mb)) (.int .i64 x0) false).run Try.prog W = .ok (M.B x0) W := MapV.look (w := W) (hmV.keep (hb.block _ hmV.lt)) hx
  rw [eO] at hlk
  have hst : MvSt W W M M S S x0 (.slice aoO (S.by_ x0).length capO) 0 [] (.slice none 0 0) := ⟨hWA, rfl, eO, Nat.le_refl _, Touch.refl _ _, fun _ hk => .inl hk, Own.nil _ _ _, fun k hk => by simp [Value.ownBlock] at hk⟩
  have HBoxN : Hid (∀ k, M.all S k → k ≠ w.heap.size) := Lib.hid fun k ⟨t, hk⟩ => by have := h.lt t k hk; omega
  obtain ⟨old, hOld⟩ : ∃ old, old = S.by_ x0 := ⟨_, rfl⟩
  have HOld := Lib.hid hOld
  have HEnd : Hid (∀ w' d S', WUp d W w' M S S' → WUp d w w' M S S') := Lib.hid fun w' d S' hu => hu.after hb
  rw [← hOld] at hmid hold hR hlk hst
  have HMid := Lib.hid hmid
  have HR := Lib.hid hR
  have HSt := Lib.hid hst
  have HCp := Lib.hid hcpW
  have HLt := Lib.hid hlt
  have HV := Lib.hid hv
  clear hmid hR hoB eO hcO hcOm hfO hmV hWA hst hOld hcpW hlt h hI hf hb hv
  go_enter Try.func63, Try.ntmps63
  go_upto_region 1 with fail
  rw [← hW]
  have hcb := HCp.out
  clear hW
  go_wp2_with fail
  clear hcb hx3 hlk
  go_loopw [6, 19] (fun s6 s19 wr => ∃ (i : Nat) (M1 : WM) (S1 : WS) (left : List Nat) (aL : Option Addr) (cL : Nat), i ≤ old.length ∧ s19 = .int .i64 i ∧ s6 = .slice aL left.length cL ∧ Hid (R = movesS x0 (old.drop i) S1 left) ∧ Hid (Mid S1 x0 left (old.drop i)) ∧
    Hid (S1.n = S.n) ∧ Hid (S1.cl = S.cl) ∧ Hid (S1.by_ x0 = old) ∧ Hid (MvSt W wr M M1 S S1 x0 (.slice aoO old.length capO) i left (.slice aL left.length cL))) (fun _ s _ => old.length - (intOf s).toNat)
  case atStart => exact ⟨0, M, S, [], none, 0, by omega, rfl, rfl, HR, HMid, Lib.hid rfl, Lib.hid rfl, Lib.hid HOld.out.symm, HSt⟩
  case round =>
    obtain ⟨i, M1, S1, left, aL, cL, hi, rfl, rfl, HR1, HM1, HN1, HC1, HB1, HS1⟩ := hrel
    by_cases hil : i < old.length
    · have hii : (i : Int) < (old.length : Int) := by omega
      have hdrop := List.drop_eq_getElem_cons hil
      have hm1 := HM1.out
      rw [hdrop] at hm1
      have hr1 := HR1.out
      rw [hdrop] at hr1
      obtain ⟨hcl1, hx0t, hndl⟩ := hm1.head
      have hW1 := hm1.inv
      have hrow : (S1.ls.getD old[i] []).length ≤ 2 * S1.n := hW1.rowLen old[i]
      have hlits := fun x (hx : x ∈ S1.ls.getD old[i] []) => (hW1.lits (c := old[i]) (x := x) hx).2
      have hll : S1.ls.length = S1.cl.length := hW1.len
      -- the old row's cell
      have hoB : Own wr 3 1 (M1.B x0) _ _ := HS1.out.at_.part (.by_ x0)
      rw [HS1.out.B0, HB1.out] at hoB
      obtain ⟨ao', cap', e, _, _, hfO⟩ := hoB.form
      injection e with e1 _ e3
      subst e1
      obtain ⟨bO, oO, rfl, hcO, _, hbO⟩ := hfO (by omega)
      have hco := hcO i (by rw [natC_len]; exact hil)
      rw [natC_get _ _ hil] at hco
      generalize hcc : old[i] = c at *
      have hcS : c < S1.ls.length := by omega
      have hA1 := HS1.out.at_
      have hBox : Hid (∀ w' M2 S2 d lf v, MvSt W w' M M2 S S2 x0 (.slice (some ⟨bO, oO, none⟩) old.length capO) d lf v → w'.cell? ⟨w.heap.size, 0, none⟩ = some (.pointer (some ⟨M.x, 0, none⟩))) := Lib.hid fun w' M2 S2 d lf v hs =>
        (hs.touch.cell (p := ⟨w.heap.size, 0, none⟩) HLt.out (fun hk => HBoxN.out _ hk rfl)).trans HCp.out
      have hcb := hBox.out _ _ _ _ _ _ HS1.out
      have hl0 := take2_pos hx0t
      have HLL := Lib.hid hll
      obtain ⟨b, off, capR, eL, hcapR, hcell, hfro, hbl⟩ := hA1.row hcS hl0
      have hoL : Own wr 26 1 M1.vL S1.ls.length _ := hA1.part .lits
      obtain ⟨aoL, capL, eLL, _, _, hfL⟩ := hoL.form
      obtain ⟨bL, oL, rfl, hcL, _, _⟩ := hfL (by omega)
      have hclc := hcL c (by rw [rowV_len]; exact hcS)
      rw [rowV_get _ _ _ hcS, eL] at hclc
      have hx2 := hA1.cells.2.2.1
      rw [eLL, HS1.out.x] at hx2
      have hcSi : (c : Int) < (S1.ls.length : Int) := by omega
      have hc0 := hcell 0 hl0
      have hc0' : wr.cell? ⟨b, off, none⟩ = some (.int .i64 ((S1.ls.getD c []).getD 0 0)) := hc0
      have HSw := Lib.hid (hA1.swap hcS eL 0 1)
      have HSame := Lib.hid (set_same S1 c)
      have HEL := Lib.hid eL
      have HM1' := Lib.hid hm1
      have HR1' := Lib.hid hr1
      have HX0t := Lib.hid hx0t
      have HLits := Lib.hid hlits
      generalize hl : S1.ls.getD c [] = l at *
      have Hl := Lib.hid hl
      clear hl hm1 hr1 hW1 hlits hoB hfO hcO hA1 hoL hfL hcL eLL eL hndl hdrop hc0 HM1 HR1 e3 hll hcc
      go_upto_region 7 with fail
      obtain ⟨y0, hy0⟩ : ∃ y0, y0 = l.getD 0 0 := ⟨_, rfl⟩
      rw [← hy0] at hc0'
      have HY0 := Lib.hid hy0
      obtain ⟨q, hq⟩ : ∃ q, q = decide (y0 = x0 ∧ 1 < l.length) := ⟨_, rfl⟩
      have HQ := Lib.hid hq
      have HCell := Lib.hid hcell
      clear hy0 hq hcell
      go_cut [40] from 31 to 40 (fun s40 wx => s40 = .bool q ∧ wx = wr)
      case first =>
        by_cases h0 : y0 = x0
        · subst h0
          by_cases h1 : 1 < l.length
          · have hb1 : decide ((1 : Int) < (l.length : Int)) = true := by simp; omega
            have hb2 : decide (1 < l.length) = true := by simpa using h1
            obtain rfl : q = true := by rw [HQ.out]; simp [h1]
            go_wp2_with fail
            go_meet
            case rel => exact ⟨rfl, rfl⟩
          · have hb1 : decide ((1 : Int) < (l.length : Int)) = false := by simp; omega
            have hb2 : decide (1 < l.length) = false := by simpa using h1
            obtain rfl : q = false := by rw [HQ.out]; simp; omega
            go_wp2_with fail
            go_meet
            case rel => exact ⟨rfl, rfl⟩
        · have hne : (y0 == x0) = false := by simpa using h0
          obtain rfl : q = false := by rw [HQ.out]; simp [h0]
          clear h0
          go_wp2_with fail
          go_meet
          case rel => exact ⟨rfl, rfl⟩
      case rest =>
        obtain ⟨rfl, hw⟩ := hcut
        rw [hw]
        clear hw
        go_upto_if 40 with fail
        go_cut [] from 41 to 50 (fun wx => MvSt W wx M M1 S (S1.wLs (S1.ls.set c (mvSwap x0 l))) x0 (.slice (some ⟨bO, oO, none⟩) old.length capO) i left (.slice aL left.length cL))
        case first =>
          by_cases hsw : y0 = x0 ∧ 1 < l.length
          · have hmv : mvSwap x0 l = swapL l 0 1 := by unfold mvSwap; rw [← HY0.out, if_pos hsw]
            obtain rfl : q = true := by rw [HQ.out]; simpa using hsw
            obtain ⟨h0, h1⟩ := hsw
            subst h0
            have HMv := Lib.hid hmv
            have hc1 := HCell.out 1 h1
            have hl1i : (1 : Int) < (l.length : Int) := by omega
            rw [← HY0.out] at HSw
            generalize l.getD 1 0 = y1 at *
            clear hmv
            go_wp2_with fail
            go_region
            all_goals
              go_wp2_with fail
              go_meet
              case rel =>
                obtain ⟨k1, k2, k3⟩ := HSw.out
                have h5 := (HS1.out.upd (d' := 0) k1 k2 k3 rfl rfl (Nat.le_refl _)).below (bel_drewN (Below.refl _ _) 1)
                rw [HMv.out]
                exact h5
          · have hmv : mvSwap x0 l = l := by unfold mvSwap; rw [← HY0.out, if_neg hsw]
            obtain rfl : q = false := by rw [HQ.out]; simpa using hsw
            have HMv := Lib.hid hmv
            clear hsw hmv
            go_wp2_with fail
            go_meet
            case rel => rw [HMv.out, HSame.out]; exact HS1.out
        case rest =>
          obtain ⟨w2, rfl⟩ : ∃ w2 : World, w2 = wc := ⟨_, rfl⟩
          have HS2 := Lib.hid hcut
          obtain ⟨l', hl'⟩ : ∃ l', l' = mvSwap x0 l := ⟨_, rfl⟩
          rw [← hl'] at HS2
          have hspec : l' = [x0] ∨ ∃ p r, l' = p :: x0 :: r := by
            rw [hl']
            rcases mvSwap_spec HX0t.out with ⟨_, h2⟩ | ⟨p, r, h2, _⟩
            · exact .inl h2
            · exact .inr ⟨p, r, h2⟩
          have HL' := Lib.hid hl'
          have hlen' : l'.length = l.length := by rw [hl', mvSwap_len]
          have hrow2 : (S1.wLs (S1.ls.set c l')).ls.getD c [] = l' := by
            show (S1.ls.set c l').getD c [] = l'
            rw [getD_setL _ _ _ hcS, if_pos rfl]
          have hcS2 : c < (S1.wLs (S1.ls.set c l')).ls.length := by show c < (S1.ls.set c l').length; simpa using hcS
          have hl2 : ∀ x ∈ l', 1 ≤ x.natAbs ∧ x.natAbs ≤ S1.n := fun x hx => by
            have hW := mid_keep HM1'.out (l' := l') (by
              rw [Hl.out, hl']
              rcases mvSwap_spec HX0t.out with ⟨h1, h2⟩ | ⟨p, r, h2, h3 | h3⟩
              · exact .inl (by rw [h2, h1])
              · exact .inl (by rw [h2, h3])
              · exact .inr ⟨p, r, h2, h3⟩)
            exact (hW.lits (c := c) (x := x) (by show x ∈ (S1.ls.set c l').getD c []; rw [getD_setL _ _ _ hcS, if_pos rfl]; exact hx)).2
          have HLit2 := Lib.hid hl2
          have HLen' := Lib.hid hlen'
          obtain ⟨b', off', cap', eL2, hcap2, hcell2, hfro2, hbl2⟩ := HS2.out.at_.row hcS2 (by rw [hrow2]; omega)
          rw [hrow2] at eL2 hcap2 hcell2
          have eL3 := eL2.symm.trans HEL.out
          injection eL3 with e4 e5 e6
          injection e4 with e4
          injection e4 with e4 e7
          subst e4 e6 e7
          have HC2 := Lib.hid hcell2
          have hcb2 := hBox.out _ _ _ _ _ _ HS2.out
          have hn1 : S1.n ≤ 5000 := by rw [HN1.out]; exact hn
          obtain ⟨p0, hp0⟩ : ∃ p0, p0 = l'.getD 0 0 := ⟨_, rfl⟩
          have hp0m : p0 ∈ l' := by
            rw [hp0, List.getD_eq_getElem?_getD, List.getElem?_eq_getElem (by omega : 0 < l'.length)]
            exact List.getElem_mem _
          have hc20 := hcell2 0 (by omega)
          rw [← hp0] at hc20
          have hc20' : w2.cell? ⟨b', off', none⟩ = some (.int .i64 p0) := hc20
          obtain ⟨vp, hvp⟩ : ∃ vp, vp = valE S1.n S1.es p0 := ⟨_, rfl⟩
          have HVal : Hid (∀ w', Below w2.heap.size w2 w' → Calls Try.prog 32 #[.pointer (some ⟨M.x, 0, none⟩), .int .i64 p0] w' fun e w'' => e = .returned (.int .i64 vp) ∧ w' = w'') := Lib.hid fun w' hb => by
            have h := wvalue (HS2.out.at_.below hb) hn1 p0 (by have := HLit2.out p0 hp0m; exact ⟨by omega, by omega⟩)
            rw [HS2.out.x] at h
            rw [hvp]
            exact h
          obtain ⟨at_, hat⟩ : ∃ at_, at_ = mvAt S1.n S1.es l' := ⟨_, rfl⟩
          have hat2 := hat
          unfold mvAt at hat2
          rw [← hp0, ← hvp] at hat2
          have HAt := Lib.hid hat
          have HAt2 := Lib.hid hat2
          have HP0 := Lib.hid hp0
          have HVp := Lib.hid hvp
          obtain ⟨q2, hq2⟩ : ∃ q2, q2 = decide (1 < l'.length ∧ vp ≠ 1) := ⟨_, rfl⟩
          have HQ2 := Lib.hid hq2
          rw [← hlen']
          have hll2 : l'.length ≤ 10000 := by omega
          have hl0' : 0 < l'.length := by omega
          clear hcut hl' hlen' hl2 eL2 hcell2 hp0 hvp hat hat2 hq2 hc20 HSw HSame hx2 hclc hc0' hfro e5
          go_upto_region 10 with fail
          go_cut [61] from 51 to 61 (fun s61 wx => s61 = .bool q2 ∧ ∃ m, wx = w2.drewN m)
          case first =>
            by_cases h1 : 1 < l'.length
            · have hb1 : decide ((1 : Int) < (l'.length : Int)) = true := by simp; omega
              have hb2 : decide (1 < l'.length) = true := by simpa using h1
              have HVq : Hid (∀ m, Calls Try.prog 32 #[.pointer (some ⟨M.x, 0, none⟩), .int .i64 p0] (w2.drewN m) fun e w'' => e = .returned (.int .i64 vp) ∧ w'' = w2.drewN m) := Lib.hid fun m => (HVal.out _ (bel_drewN (Below.refl _ _) m)).mono fun _ _ hh => ⟨hh.1, hh.2.symm⟩
              by_cases h2 : vp = 1
              · obtain rfl : q2 = false := by rw [HQ2.out]; simp [h2]
                have h2b : (vp != 1) = false := by simp [h2]
                clear h2
                go_quiet ((go_at_call 32; exact Calls.quiet_of_same (HVq.out _)))
                go_wp2_with fail
                go_meet
                case rel => exact ⟨rfl, _, rfl⟩
              · obtain rfl : q2 = true := by rw [HQ2.out]; simp [h1, h2]
                have h2b : (vp != 1) = true := by simp [h2]
                clear h2
                go_quiet ((go_at_call 32; exact Calls.quiet_of_same (HVq.out _)))
                go_wp2_with fail
                go_meet
                case rel => exact ⟨rfl, _, rfl⟩
            · have hb1 : decide ((1 : Int) < (l'.length : Int)) = false := by simp; omega
              have hb2 : decide (1 < l'.length) = false := by simpa using h1
              obtain rfl : q2 = false := by rw [HQ2.out]; simp; omega
              go_quiet (fail)
              go_wp2_with fail
              go_meet
              case rel => exact ⟨rfl, _, rfl⟩
          case rest =>
            obtain ⟨rfl, m, hw⟩ := hcut
            rw [hw]
            have HS3 := HS2.out.below (bel_drewN (Below.refl _ _) m)
            obtain ⟨W3, hW3⟩ : ∃ W3, W3 = w2.drewN m := ⟨_, rfl⟩
            rw [← hW3] at HS3 ⊢
            have hb3 : Below w2.heap.size w2 W3 := by rw [hW3]; exact bel_drewN (Below.refl _ _) m
            have HS3 := Lib.hid HS3
            have HB3 := Lib.hid hb3
            clear hw hW3 hcb hcb2 hc20' HVal
            have hcb3 := hBox.out _ _ _ _ _ _ HS3.out
            go_upto_if 61 with fail
            go_cut [10] from 62 to 65 (fun s10 wx => s10 = .int .i64 at_ ∧ wx = W3)
            case first =>
              by_cases h1 : 1 < l'.length ∧ vp ≠ 1
              · obtain rfl : q2 = true := by rw [HQ2.out]; simpa using h1
                have hatv := HAt2.out
                rw [if_pos h1] at hatv
                have hcells3 : ∀ j, j < l'.length → W3.cell? ⟨b', off' + j, none⟩ = some (.int .i64 (l'.getD j 0)) := fun j hj => (World.cell?_of_block (w := w2) (HB3.out.block b' hbl2)).trans (HC2.out j hj)
                have hIF : ∀ ao cp', (0 < (l'.drop 2).length → ao = some ⟨b', off' + 2, none⟩) → Calls Try.prog 73 #[.slice ao (l'.drop 2).length cp', .func (.func 78) #[] #[.pointer (some ⟨w.heap.size, 0, none⟩)]] W3 fun e w' => e = .returned (.int .i64 at_) ∧ W3 = w' := fun ao cp' hao => by
                  rw [hatv]
                  refine indexF_wmoves1 (fun x => decide (0 ≤ valE S1.n S1.es x)) w.heap.size (l'.drop 2) ao cp' W3 (by rw [List.length_drop]; omega) (fun h0 => ⟨b', off' + 2, hao h0, fun j hj => ?_⟩) (fun x hx => ?_)
                  · have hj2 : 2 + j < l'.length := by rw [List.length_drop] at hj; omega
                    have := hcells3 (2 + j) hj2
                    rw [show off' + 2 + j = off' + (2 + j) by omega, this, getD_getElem _ _ hj2]
                    simp
                  · have hx' := HLit2.out x (List.mem_of_mem_drop hx)
                    exact wmoves1_any HS3.out.at_ hn1 (by rw [HS3.out.x]; exact hcb3) x ⟨by omega, by omega⟩
                have hdl : (l'.drop 2).length = l'.length - 2 := List.length_drop ..
                rw [hdl] at hIF
                have HIF := Lib.hid hIF
                obtain ⟨h1, _⟩ := h1
                have h2i : (2 : Int) ≤ (l'.length : Int) := by omega
                have hcpi : (l'.length : Int) ≤ (cap' : Int) := by omega
                have hcm : (cap' : Int) ≤ 9223372036854775807 := by
                  have ho : Own W3 3 1 (M1.L c) _ _ := HS3.out.at_.part (.li c) (by show c < (S1.ls.set c l').length; simpa using hcS)
                  rw [HEL.out] at ho
                  obtain ⟨_, _, e, _, hm, _⟩ := ho.form
                  injection e with _ _ e
                  unfold maxLen at hm
                  omega
                clear hatv hIF hdl
                by_cases hcap : cap' = 2
                · have h0 := HIF.out (some ⟨b', off', none⟩) 0 (fun h0 => by exfalso; omega)
                  rw [show l'.length - 2 = 0 by omega] at h0
                  have H0 := Lib.hid h0
                  clear h0
                  subst hcap
                  go_wp2_with fail
                  (with_reducible refine H0.out.mono ?_)
                  rintro e w' ⟨rfl, rfl⟩
                  go_wp2_with fail
                  go_meet
                  case rel => exact ⟨rfl, rfl⟩
                · go_wp2_with fail
                  refine (HIF.out _ _ (fun h0 => ?_)).mono ?_
                  · rfl
                  · rintro e w' ⟨rfl, rfl⟩
                    go_wp2_with fail
                    go_meet
                    case rel => exact ⟨rfl, rfl⟩
              · obtain rfl : q2 = false := by rw [HQ2.out]; simpa using h1
                have hatv := HAt2.out
                rw [if_neg h1] at hatv
                subst hatv
                clear h1
                go_wp2_with fail
                go_meet
                case rel => exact ⟨rfl, rfl⟩
            case rest =>
              obtain ⟨rfl, hw⟩ := hcut
              rw [hw]
              clear hw
              have hrdef := HR1'.out
              unfold movesS at hrdef
              by_cases ha : 0 ≤ at_
              · obtain ⟨j, rfl⟩ := Int.eq_ofNat_of_zero_le ha
                have hmv : mvStep x0 S1 left (List.drop (i + 1) old) c = ((S1.wLs (S1.ls.set c (swapL l' 1 (2 + j)))).wBy (updF S1.by_ ((swapL l' 1 (2 + j)).getD 1 0) (S1.by_ ((swapL l' 1 (2 + j)).getD 1 0) ++ [c])), left, false) := by
                  unfold mvStep
                  rw [Hl.out, ← HL'.out, ← HAt.out, if_pos ha]
                  simp only [Int.toNat_natCast]
                rw [hmv, if_neg (by simp)] at hrdef
                have hstep := mid_step HM1'.out
                rw [hmv] at hstep
                have hmid2 : Mid ((S1.wLs (S1.ls.set c (swapL l' 1 (2 + j)))).wBy (updF S1.by_ ((swapL l' 1 (2 + j)).getD 1 0) (S1.by_ ((swapL l' 1 (2 + j)).getD 1 0) ++ [c]))) x0 left (List.drop (i + 1) old) := by
                  rcases hstep with ⟨h1, _⟩ | ⟨_, h2, _⟩
                  · cases h1
                  · exact h2
                have hfa : 1 < l'.length ∧ vp ≠ 1 ∧ 2 + j < l'.length ∧ 0 ≤ valE S1.n S1.es (l'.getD (2 + j) 0) := by
                  have h2 := HAt2.out
                  by_cases hc : 1 < l'.length ∧ vp ≠ 1
                  · rw [if_pos hc] at h2
                    rcases firstAt_spec (fun x => decide (0 ≤ valE S1.n S1.es x)) (l'.drop 2) 0 with ⟨h3, _⟩ | ⟨j', h3, h4, h5⟩
                    · rw [h3] at h2; omega
                    · rw [h4] at h2
                      obtain rfl : j = j' := by omega
                      rw [List.length_drop] at h3
                      have h6 : (l'.drop 2).getD j 0 = l'.getD (2 + j) 0 := by simp [List.getD_eq_getElem?_getD, List.getElem?_drop]
                      rw [h6] at h5
                      exact ⟨hc.1, hc.2, by omega, by simpa using h5⟩
                  · rw [if_neg hc] at h2; omega
                obtain ⟨hf1, _, hf2, hf3⟩ := hfa
                have hy1 : (swapL l' 1 (2 + j)).getD 1 0 = l'.getD (2 + j) 0 := by
                  rw [swapL_get hf1 hf2, if_neg (by omega), if_pos rfl]
                rw [hy1] at hrdef hmid2
                have hym : l'.getD (2 + j) 0 ∈ l' := by
                  rw [getD_getElem _ _ hf2]
                  exact List.getElem_mem _
                have hyk := HLit2.out _ hym
                have hyx : l'.getD (2 + j) 0 ≠ x0 := fun e => by
                  rw [e] at hf3
                  have := HM1'.out.neg
                  omega
                have hcells3 : ∀ k, k < l'.length → W3.cell? ⟨b', off' + k, none⟩ = some (.int .i64 (l'.getD k 0)) := fun k hk => (World.cell?_of_block (w := w2) (HB3.out.block b' hbl2)).trans (HC2.out k hk)
                have hcy := hcells3 (2 + j) hf2
                have hc1 := hcells3 1 hf1
                have hfro3 : ∀ k, W3.frozen? ⟨b', k, none⟩ = false := fun k => (HB3.out.frozen (p := ⟨b', k, none⟩) hbl2).trans (hfro2 k)
                have hsw := HS3.out.at_.swap (c := c) (by show c < (S1.ls.set c l').length; simpa using hcS) (b := b') (off := off') (cap := cap') (by rw [HEL.out]; show _ = Value.slice _ ((S1.ls.set c l').getD c []).length _; rw [getD_setL _ _ _ hcS, if_pos rfl, HLen'.out]) 1 (2 + j)
                have e1 : (S1.wLs (S1.ls.set c l')).ls.getD c [] = l' := by show (S1.ls.set c l').getD c [] = l'; rw [getD_setL _ _ _ hcS, if_pos rfl]
                have e2 : ∀ l2, (S1.wLs (S1.ls.set c l')).wLs ((S1.wLs (S1.ls.set c l')).ls.set c l2) = S1.wLs (S1.ls.set c l2) := fun l2 => by
                  show WS.mk S1.n S1.es S1.cl ((S1.ls.set c l').set c l2) S1.by_ S1.done S1.fresh = WS.mk S1.n S1.es S1.cl (S1.ls.set c l2) S1.by_ S1.done S1.fresh
                  rw [List.set_set]
                rw [e1, e2] at hsw
                have HSw2 := Lib.hid hsw
                have HRd := Lib.hid hrdef
                have HMd := Lib.hid hmid2
                have HSl : Hid ((S1.wLs (S1.ls.set c (swapL l' 1 (2 + j)))).ls.getD c [] = swapL l' 1 (2 + j)) := Lib.hid (by show (S1.ls.set c (swapL l' 1 (2 + j))).getD c [] = _; rw [getD_setL _ _ _ hcS, if_pos rfl])
                have HY1 := Lib.hid hy1
                have HYx := Lib.hid hyx
                have hji : (2 : Int) + (j : Int) < (l'.length : Int) := by omega
                have h1i : (1 : Int) < (l'.length : Int) := by omega
                obtain ⟨l2, hl2⟩ : ∃ l2, l2 = swapL l' 1 (2 + j) := ⟨_, rfl⟩
                have hl2l : l2.length = l'.length := by rw [hl2, swapL_len]
                rw [← hl2] at HSw2 HRd HMd HSl HY1
                generalize l'.getD (2 + j) 0 = y at *
                generalize l'.getD 1 0 = x1 at *
                clear hrdef hmv hstep hmid2 hy1 hym hyx hcells3 hsw e1 e2 hl2 hcb3 ha hf3
                go_upto_region 13 with fail
                go_cut [] from 68 to 81 (fun wx => MvSt W wx M M1 S (S1.wLs (S1.ls.set c l2)) x0 (.slice (some ⟨bO, oO, none⟩) old.length capO) i left (.slice aL left.length cL))
                case first =>
                  go_region
                  all_goals
                    go_wp2_with fail
                    go_meet
                    case rel =>
                      obtain ⟨k1, k2, k3⟩ := HSw2.out
                      exact (HS3.out.upd (d' := 0) k1 k2 k3 rfl rfl (Nat.le_refl _)).below (bel_drewN (Below.refl _ _) 1)
                case rest =>
                  obtain ⟨w4, rfl⟩ : ∃ w4 : World, w4 = wc := ⟨_, rfl⟩
                  have HS4 := Lib.hid hcut
                  have hA4 := hcut.at_
                  obtain ⟨b5, off5, cap5, eL5, _, hcell5, _, hbl5⟩ := hA4.row (c := c) (by show c < (S1.ls.set c l2).length; simpa using hcS) (by rw [HSl.out]; omega)
                  rw [HSl.out] at eL5 hcell5
                  have eL6 := eL5.symm.trans HEL.out
                  injection eL6 with f1 f2 f3
                  injection f1 with f1
                  injection f1 with f1 f4
                  subst f1 f3 f4
                  have hcy4 := hcell5 1 (by omega)
                  rw [HY1.out] at hcy4
                  have hyI : I64 y := ⟨by omega, by omega⟩
                  have hcb4 := hBox.out _ _ _ _ _ _ hcut
                  have k3 := hA4.cells.2.2.2.1
                  rw [hcut.x] at k3
                  have hOB : Own w4 3 1 (M1.B y) (S1.by_ y).length (natC (S1.by_ y)) := hA4.part (.by_ y)
                  have hqn : (S1.by_ y).length ≤ 1000000 := by
                    have h1 := HM1'.out.inv.byLen y
                    have h2 : (S1.wBy (updF S1.by_ x0 (left ++ c :: List.drop (i + 1) old))).by_ y = S1.by_ y := updF_ne _ _ HYx.out
                    have h3 : (S1.wBy (updF S1.by_ x0 (left ++ c :: List.drop (i + 1) old))).cl.length = S.cl.length := congrArg List.length HC1.out
                    rw [h2, h3] at h1
                    omega
                  obtain ⟨aoB, capB, eB, _, _, _⟩ := hOB.form
                  have hnb : M1.nB < maxLen := by have := HS4.out.nb; simp only [maxLen]; omega
                  have hm : MapV w4 M1.mb M1.nB M1.B := hA4.part .map
                  have hbw : b5 < w4.heap.size := hbl5
                  have HBx4 : Hid (∀ w', Touch (fun k => (M1.B y).ownBlock = some k ∨ k = M1.mb) w4 w' → (w'.cell? ⟨w.heap.size, 0, none⟩ = some (.pointer (some ⟨M.x, 0, none⟩))) ∧ w'.cell? ⟨M.x, 3, none⟩ = some (.map (some M1.mb)) ∧ w'.cell? ⟨b5, off5 + 1, none⟩ = some (.int .i64 y)) := Lib.hid fun w' ht => by
                    have d1 := hA4.dis (.by_ y) .self M1.x
                    have d2 := hA4.dis (.by_ y) (.li c) b5
                    have d3 := hA4.dis .map .self M1.x
                    have d4 := hA4.dis .map (.li c) b5
                    have hxw : M1.x < w4.heap.size := hA4.lt .self _ rfl
                    have hbo : c < (S1.wLs (S1.ls.set c l2)).ls.length ∧ (M1.L c).ownBlock = some b5 := ⟨by show c < (S1.ls.set c l2).length; simpa using hcS, by rw [HEL.out]; rfl⟩
                    have hbx : w.heap.size < w4.heap.size := Nat.lt_of_lt_of_le HLt.out HS4.out.touch.size
                    have hna : ∀ k, M1.all (S1.wLs (S1.ls.set c l2)) k → k ≠ w.heap.size := fun k hk => by
                      rcases HS4.out.all k hk with h | h
                      · exact HBoxN.out k h
                      · have := HLt.out; omega
                    refine ⟨(ht.cell (p := ⟨w.heap.size, 0, none⟩) hbx (fun e => ?_)).trans hcb4, (ht.cell (p := ⟨M.x, 3, none⟩) (by rw [← HS4.out.x]; exact hxw) (fun e => ?_)).trans k3, (ht.cell (p := ⟨b5, off5 + 1, none⟩) hbw (fun e => ?_)).trans hcy4⟩
                    · rcases e with e | e
                      · exact hna _ ⟨.by_ y, e⟩ rfl
                      · exact hna _ ⟨.map, rfl⟩ e.symm
                    · have e' : (M1.B y).ownBlock = some M1.x ∨ M1.x = M1.mb := by rw [HS4.out.x]; exact e
                      rcases e' with e | e
                      · have := d1 e rfl
                        cases this
                      · have := d3 e rfl
                        cases this
                    · have e' : (M1.B y).ownBlock = some b5 ∨ b5 = M1.mb := e
                      rcases e' with e | e
                      · have := d2 e hbo
                        cases this
                      · have := d4 e hbo
                        cases this
                  have hlk1 : (Instr.lookup 79 (.map (some M1.mb)) (.int .i64 y) false).run Try.prog w4.drew = .ok (M1.B y) w4.drew := MapV.look (w := w4.drew) (hm.keep rfl) hyI
                  have hlk2 : (Instr.lookup 79 (.map (some M1.mb)) (.int .i64 y) false).run Try.prog (w4.alloc (.cells #[.int .i64 (c : Int)] 3)).drew = .ok (M1.B y) (w4.alloc (.cells #[.int .i64 (c : Int)] 3)).drew :=
                    MapV.look (w := (w4.alloc (.cells #[.int .i64 (c : Int)] 3)).drew) (hm.keep (Below.heap_alloc _ _ _ hm.lt)) hyI
                  have HPut : Hid (∀ w10 v', Own w10 3 1 v' ((S1.by_ y).length + 1) (natC (S1.by_ y) ++ [.int .i64 (c : Int)]) → (w4.alloc (.cells #[.int .i64 (c : Int)] 3)).drew.grownBy w10 (M1.B y).ownBlock → (v'.ownBlock = (M1.B y).ownBlock ∨ v'.ownBlock = some (w4.alloc (.cells #[.int .i64 (c : Int)] 3)).drew.heap.size) →
                      ∃ w2, (Instr.mapUpdate 79 (.map (some M1.mb)) (.int .i64 y) v').run Try.prog w10 = .ok () w2 ∧ (w10.cell? ⟨w.heap.size, 0, none⟩ = some (.pointer (some ⟨M.x, 0, none⟩)) ∧ w10.cell? ⟨M.x, 3, none⟩ = some (.map (some M1.mb)) ∧ w10.cell? ⟨b5, off5 + 1, none⟩ = some (.int .i64 y)) ∧
                        (w2.cell? ⟨w.heap.size, 0, none⟩ = some (.pointer (some ⟨M.x, 0, none⟩)) ∧ w2.cell? ⟨M.x, 3, none⟩ = some (.map (some M1.mb)) ∧ w2.cell? ⟨b5, off5 + 1, none⟩ = some (.int .i64 y)) ∧
                        Hid (∃ M2, MvSt W w2 M M2 S ((S1.wLs (S1.ls.set c l2)).wBy (updF S1.by_ y (S1.by_ y ++ [c]))) x0 (.slice (some ⟨bO, oO, none⟩) old.length capO) (i + 1) left (.slice aL left.length cL))) := Lib.hid fun w10 v' ho hg hat => by
                    have hA : Below w4.heap.size w4 (w4.alloc (.cells #[.int .i64 (c : Int)] 3)).drew := bel_drewN ((Below.refl _ w4).alloc (Nat.le_refl _) _) 1
                    obtain ⟨w2, r1, r5, r2, r3, r4⟩ := hA4.byPush hyI hnb c hA ho hg hat
                    have t1 : Touch (fun k => (M1.B y).ownBlock = some k ∨ k = M1.mb) w4 w10 := (Touch.of_below hA fun k => (M1.B y).ownBlock = some k ∨ k = M1.mb).trans (Touch.of_grown (F := fun k => (M1.B y).ownBlock = some k) hg fun k hk => hk) fun _ _ hk => .inl hk
                    exact ⟨w2, r1, HBx4.out _ t1, HBx4.out _ (t1.trans (Touch.of_grown (F := fun k => k = M1.mb) r5 fun k hk => by injection hk with hk; exact hk.symm) fun _ _ hk => .inr hk), Lib.hid ⟨_, HS4.out.upd (d' := 1) r2 r3 r4 rfl (by show (if x0 = y then v' else M1.B x0) = M1.B x0; rw [if_neg (Ne.symm HYx.out)]) (Nat.le_refl _)⟩⟩
                  rw [eB] at HPut hlk1 hlk2 hOB
                  have HOB := Lib.hid hOB
                  have HBy1 := Lib.hid (show ((S1.wLs (S1.ls.set c l2)).wBy (updF S1.by_ y (S1.by_ y ++ [c]))).by_ x0 = old from (updF_ne _ _ (Ne.symm HYx.out)).trans HB1.out)
                  generalize hQ : S1.by_ y = Lq at *
                  clear hcut hA4 hcell5 eL5 hOB eB hnb hyI hm hQ f2
                  go_upto_region 14 with fail
                  go_region_held3 (fun w' => w'.cell? ⟨w.heap.size, 0, none⟩ = some (.pointer (some ⟨M.x, 0, none⟩)) ∧ w'.cell? ⟨M.x, 3, none⟩ = some (.map (some M1.mb)) ∧ w'.cell? ⟨b5, off5 + 1, none⟩ = some (.int .i64 y))
                    (first | exact HBx4.out _ (((Touch.refl _ w4).alloc _).drew) | assumption | exact HBx4.out _ ((Touch.refl _ w4).drew))
                    ((refine step_append_S _ (by rfl) (.tmp 96) (.tmp 98) _ _ (by rfl) 3 i3 _ 1 8 Try.underlying26 hi3 hz0 hz1 hz2 rfl (by omega) (.slice aoB Lq.length capB) Lq.length (natC Lq) (by rfl) (HOB.out.alloc _).drew (natC_one _) _ 1 [_] (by rfl) (src_new w4.drew Try.underlying26 3 _ rfl) (by simp only [maxLen]; omega) (by omega) ?_; intro ao2 cap2 w10 hn1' hm1 hown1 hg1 hat1 hlt1; obtain ⟨w11, hrun, hs10, hs11, m1⟩ := HPut.out w10 _ hown1 hg1 hat1; clear hown1 hg1 hat1 hlt1 hn1' hm1))
                  all_goals
                    go_wp2_with fail
                    go_roundw
                    case rel =>
                      obtain ⟨M2, n1⟩ := m1.out
                      exact ⟨i + 1, M2, (S1.wLs (S1.ls.set c l2)).wBy (updF S1.by_ y (Lq ++ [c])), left, aL, cL, by omega, by go_num, rfl, HRd, HMd, HN1, HC1, HBy1, Lib.hid n1⟩
                    case measure => simp [intOf]; omega
              · obtain ⟨L0, hL0⟩ : ∃ L0, L0 = lookS (S1.wLs (S1.ls.set c l')) c := ⟨_, rfl⟩
                have hmv : mvStep x0 S1 left (List.drop (i + 1) old) c = ((if L0.2 = true then L0.1.wBy (updF S1.by_ x0 (left ++ [c] ++ List.drop (i + 1) old)) else L0.1), left ++ [c], L0.2) := by
                  unfold mvStep
                  rw [Hl.out, ← HL'.out, ← HAt.out, if_neg ha, ← hL0]
                rw [hmv] at hrdef
                have hstep := mid_step HM1'.out
                rw [hmv] at hstep
                have hby := look_byEq (S1.wLs (S1.ls.set c l')) c
                rw [← hL0] at hby
                have HLook : Hid (∀ w5, WAt w5 M1 (S1.wLs (S1.ls.set c l')) → Calls Try.prog 62 #[.pointer (some ⟨M.x, 0, none⟩), .int .i64 (c : Int)] w5 fun e w' => e = .returned (.bool L0.2) ∧ WUp 0 w5 w' M1 (S1.wLs (S1.ls.set c l')) L0.1) := Lib.hid fun w5 h5 => by
                  have e1 : (S1.wLs (S1.ls.set c l')).ls.getD c [] = l' := by show (S1.ls.set c l').getD c [] = l'; rw [getD_setL _ _ _ hcS, if_pos rfl]
                  have h := wlook_any w5 M1 (S1.wLs (S1.ls.set c l')) h5 hn1 HM1'.out.inv.good c (by show c < (S1.ls.set c l').length; simpa using hcS) (by rw [e1]; exact HLit2.out) (by rw [e1]; omega)
                  rw [HS3.out.x, ← hL0] at h
                  exact h
                obtain ⟨st, k⟩ := L0
                simp only at hrdef hstep hby HLook
                have hat0 : decide (0 ≤ at_) = false := by simpa using ha
                have HLf := Lib.hid (HS3.out.lf.alloc (.cells #[.int .i64 (c : Int)] 3))
                have hleft : left.length ≤ 1000000 := by
                  have h1 := HM1'.out.inv.byLen x0
                  have h2 : (S1.wBy (updF S1.by_ x0 (left ++ c :: List.drop (i + 1) old))).by_ x0 = left ++ c :: List.drop (i + 1) old := updF_same _ _ _
                  have h3 : (S1.wBy (updF S1.by_ x0 (left ++ c :: List.drop (i + 1) old))).cl.length = S.cl.length := congrArg List.length HC1.out
                  rw [h2, h3, List.length_append] at h1
                  omega
                have HPu : Hid (∀ w5 v', Own w5 3 1 v' (left.length + 1) (natC left ++ [.int .i64 (c : Int)]) → (W3.alloc (.cells #[.int .i64 (c : Int)] 3)).grownBy w5 (Value.slice aL left.length cL).ownBlock → (v'.ownBlock = (Value.slice aL left.length cL).ownBlock ∨ v'.ownBlock = some (W3.alloc (.cells #[.int .i64 (c : Int)] 3)).heap.size) →
                    MvSt W w5 M M1 S (S1.wLs (S1.ls.set c l')) x0 (.slice (some ⟨bO, oO, none⟩) old.length capO) i (left ++ [c]) v') := Lib.hid fun w5 v' ho hg hat => HS3.out.push ((Below.refl _ W3).alloc (Nat.le_refl _) _) ho hg hat
                have HBySt := Lib.hid hby
                clear hmv hL0 hby ha
                cases k with
                | false =>
                  rw [if_neg (by simp)] at hrdef
                  simp only [Bool.false_eq_true, if_false] at hrdef hstep
                  have hmid2 : Mid st x0 (left ++ [c]) (List.drop (i + 1) old) ∧ st.n = S1.n ∧ st.cl = S1.cl := by
                    rcases hstep with ⟨h1, _⟩ | ⟨_, h2, h3, h4, _⟩
                    · cases h1
                    · exact ⟨h2, h3, h4⟩
                  have HRd := Lib.hid hrdef
                  have HMd := Lib.hid hmid2
                  clear hrdef hstep hmid2
                  go_wp2_with (first
                    | (at_builtin; refine wpList_append_S _ rfl (.tmp 100) (.tmp 102) _ _ rfl 3 i3 _ 1 8 Try.underlying26 hi3 hz0 hz1 hz2 rfl (by omega) (.slice aL left.length cL) left.length (natC left) rfl HLf.out (natC_one _) _ 1 [_] rfl (src_new W3 Try.underlying26 3 _ rfl) (by simp only [maxLen]; omega) (by omega) ?_; intro ao2 cap2 w5 hn5 hm5 hown5 hg5 hat5 hlt5; have H5 := Lib.hid (HPu.out _ _ hown5 hg5 hat5); have hcb5 := hBox.out _ _ _ _ _ _ H5.out; clear hown5 hg5 hat5 hlt5 hn5 hm5)
                    | (go_at_call 62; (with_reducible refine (HLook.out _ H5.out.at_).mono ?_); rintro e w6 ⟨rfl, hU⟩; have HU := Lib.hid hU; clear hU))
                  go_roundw
                  case rel =>
                    obtain ⟨M2, u1, u2, u3, u4, u5, u6⟩ := HU.out
                    have h6 := H5.out.upd (d' := 0) u1 u4 u5 u2 (congrFun (u6 rfl) x0) u3
                    have hle : (left ++ [c]).length = left.length + 1 := by simp
                    have h7 : MvSt W w6 M M2 S st x0 (.slice (some ⟨bO, oO, none⟩) old.length capO) (i + 1) (left ++ [c]) (.slice ao2 (left.length + 1) cap2) := ⟨h6.at_, h6.x, h6.B0, by have := h6.nb; omega, h6.touch, h6.all, h6.lf, h6.lfNew⟩
                    refine ⟨i + 1, M2, st, left ++ [c], ao2, cap2, by omega, by go_num, by rw [hle], HRd, Lib.hid HMd.out.1, Lib.hid (HMd.out.2.1.trans HN1.out), Lib.hid (HMd.out.2.2.trans HC1.out), Lib.hid ((congrFun HBySt.out x0).trans HB1.out), Lib.hid (by rw [hle]; exact h7)⟩
                  case measure => simp [intOf]; omega
                | true =>
                  rw [if_pos rfl] at hrdef
                  simp only [if_true] at hrdef
                  have HRd := Lib.hid hrdef
                  clear hrdef hstep
                  go_upto_region 17 with (first
                    | (at_builtin; refine wpList_append_S _ rfl (.tmp 100) (.tmp 102) _ _ rfl 3 i3 _ 1 8 Try.underlying26 hi3 hz0 hz1 hz2 rfl (by omega) (.slice aL left.length cL) left.length (natC left) rfl HLf.out (natC_one _) _ 1 [_] rfl (src_new W3 Try.underlying26 3 _ rfl) (by simp only [maxLen]; omega) (by omega) ?_; intro ao2 cap2 w5 hn5 hm5 hown5 hg5 hat5 hlt5; have H5 := Lib.hid (HPu.out _ _ hown5 hg5 hat5); have hcb5 := hBox.out _ _ _ _ _ _ H5.out; clear hown5 hg5 hat5 hlt5 hn5 hm5)
                    | (go_at_call 62; (with_reducible refine (HLook.out _ H5.out.at_).mono ?_); rintro e w6 ⟨rfl, hU⟩; have HU := Lib.hid hU; clear hU))
                  obtain ⟨M2, u1, u2, u3, u4, u5, u6⟩ := HU.out
                  have h6 := H5.out.upd (d' := 0) u1 u4 u5 u2 (congrFun (u6 rfl) x0) u3
                  have hle : (left ++ [c]).length = left.length + 1 := by simp
                  have hin : natC (left ++ [c]) = natC left ++ [.int .i64 (c : Int)] := natC_snoc _ _
                  have hcb6 := hBox.out _ _ _ _ _ _ h6
                  have k3 := h6.at_.cells.2.2.2.1
                  rw [h6.x] at k3
                  have hOO : Own w6 3 1 (M2.B x0) (st.by_ x0).length (natC (st.by_ x0)) := h6.at_.part (.by_ x0)
                  rw [h6.B0, show st.by_ x0 = old from (congrFun HBySt.out x0).trans HB1.out] at hOO
                  obtain ⟨_, _, eO, hcO1, hcO2, hfO⟩ := hOO.form
                  injection eO with g1 _ g2
                  subst g1 g2
                  obtain ⟨_, _, g3, hcO, _, _⟩ := hfO (by omega)
                  injection g3 with g3
                  injection g3 with g3 g4
                  subst g3 g4
                  have hsrc : ∀ a cp, (0 < old.length - (i + 1) → a = some ⟨bO, oO + (i + 1), none⟩) → Src Try.prog 1 26 (.slice a (old.length - (i + 1)) cp) (old.length - (i + 1)) (natC (old.drop (i + 1))) w6.drew := fun a cp ha => by
                    rcases Nat.eq_zero_or_pos (old.length - (i + 1)) with h0 | h0
                    · have hx : old.drop (i + 1) = [] := List.drop_of_length_le (by omega)
                      rw [hx, h0]
                      cases a with
                      | none => exact Src.ofNil _ Try.underlying26 cp
                      | some a => exact Src.ofSlice _ Try.underlying26 a 0 cp [] rfl (fun j u hu => by simp at hu) (by simp)
                    · rw [ha h0]
                      refine Src.ofSlice _ Try.underlying26 _ _ cp (natC (old.drop (i + 1))) (by rw [natC_len, List.length_drop]; omega) (fun j u hu => ?_) (natC_one _)
                      have hj : j < old.length - (i + 1) := by have := (List.getElem?_eq_some_iff.1 hu).1; rw [natC_len, List.length_drop] at this; exact this
                      have ha2 : (⟨bO, oO + (i + 1), none⟩ : Addr).add j = ⟨bO, oO + (i + 1 + j), none⟩ := by unfold Addr.add; split <;> simp_all [Nat.add_assoc]
                      rw [ha2]
                      have h1 := hcO (i + 1 + j) (by rw [natC_len]; omega)
                      have h2 : w6.drew.cell? ⟨bO, oO + (i + 1 + j), none⟩ = (natC old)[i + 1 + j]? := h1
                      rw [h2, ← hu, natC, natC, List.map_drop, List.getElem?_drop]
                  have HBx6 : Hid (∀ w', Touch (fun k => (Value.slice ao2 (left.length + 1) cap2).ownBlock = some k ∨ k = M2.mb) w6 w' → (w'.cell? ⟨w.heap.size, 0, none⟩ = some (.pointer (some ⟨M.x, 0, none⟩))) ∧ w'.cell? ⟨M.x, 3, none⟩ = some (.map (some M2.mb))) := Lib.hid fun w' ht => by
                    have d3 := h6.at_.dis .map .self M2.x
                    have hxw : M2.x < w6.heap.size := h6.at_.lt .self _ rfl
                    have hbx : w.heap.size < w6.heap.size := Nat.lt_of_lt_of_le HLt.out h6.touch.size
                    refine ⟨(ht.cell (p := ⟨w.heap.size, 0, none⟩) hbx (fun e => ?_)).trans hcb6, (ht.cell (p := ⟨M.x, 3, none⟩) (by rw [← h6.x]; exact hxw) (fun e => ?_)).trans k3⟩
                    · rcases e with e | e
                      · have h1 : W.heap.size ≤ w.heap.size := (h6.lfNew _ e).1
                        have := HLt.out; omega
                      · rcases h6.all _ ⟨.map, rfl⟩ with h | h
                        · exact HBoxN.out _ h e.symm
                        · have := HLt.out; have e' : w.heap.size = M2.mb := e; omega
                    · have e' : (Value.slice ao2 (left.length + 1) cap2).ownBlock = some M2.x ∨ M2.x = M2.mb := by rw [h6.x]; exact e
                      rcases e' with e | e
                      · exact (h6.lfNew _ e).2 ⟨.self, rfl⟩
                      · have := d3 e rfl
                        cases this
                  have hrl : (old.drop (i + 1)).length = old.length - (i + 1) := List.length_drop ..
                  have hnb : M2.nB < maxLen := by have := h6.nb; simp only [maxLen]; omega
                  have HPut : Hid (∀ w10 v', Own w10 3 1 v' (left.length + 1 + (old.length - (i + 1))) (natC (left ++ [c]) ++ natC (old.drop (i + 1))) → w6.drew.grownBy w10 (Value.slice ao2 (left.length + 1) cap2).ownBlock → (v'.ownBlock = (Value.slice ao2 (left.length + 1) cap2).ownBlock ∨ v'.ownBlock = some w6.drew.heap.size) →
                      ∃ w2, (Instr.mapUpdate 79 (.map (some M2.mb)) (.int .i64 x0) v').run Try.prog w10 = .ok () w2 ∧ (w10.cell? ⟨w.heap.size, 0, none⟩ = some (.pointer (some ⟨M.x, 0, none⟩)) ∧ w10.cell? ⟨M.x, 3, none⟩ = some (.map (some M2.mb))) ∧
                        (w2.cell? ⟨w.heap.size, 0, none⟩ = some (.pointer (some ⟨M.x, 0, none⟩)) ∧ w2.cell? ⟨M.x, 3, none⟩ = some (.map (some M2.mb))) ∧
                        Hid (WUp (i + 0 + 1) W w2 M S (st.wBy (updF st.by_ x0 (left ++ [c] ++ old.drop (i + 1)))))) := Lib.hid fun w10 v' ho hg hat => by
                    have hA : Below w6.heap.size w6 w6.drew := bel_drewN (Below.refl _ w6) 1
                    have h7 := h6.app (more := old.drop (i + 1)) hA (by rw [hle, hrl]; exact ho) hg hat
                    obtain ⟨w2, r1, r5, r2⟩ := h7.done hx hnb
                    have t1 : Touch (fun k => (Value.slice ao2 (left.length + 1) cap2).ownBlock = some k ∨ k = M2.mb) w6 w10 := (Touch.of_below hA fun k => (Value.slice ao2 (left.length + 1) cap2).ownBlock = some k ∨ k = M2.mb).trans (Touch.of_grown (F := fun k => (Value.slice ao2 (left.length + 1) cap2).ownBlock = some k) hg fun k hk => hk) fun _ _ hk => .inl hk
                    exact ⟨w2, r1, HBx6.out _ t1, HBx6.out _ (t1.trans (Touch.of_grown (F := fun k => k = M2.mb) r5 fun k hk => by injection hk with hk; exact hk.symm) fun _ _ hk => .inr hk), Lib.hid r2⟩
                  have HOL := Lib.hid h6.lf
                  rw [hle] at HOL
                  have hby2 : st.by_ = S1.by_ := HBySt.out
                  rw [hby2] at HPut
                  have HSrc := Lib.hid hsrc
                  have hi1 : (i : Int) + 1 ≤ (old.length : Int) := by omega
                  have hcO3 : (old.length : Int) ≤ (capO : Int) := by omega
                  have hcO4 : (capO : Int) ≤ 9223372036854775807 := by unfold maxLen at hcO2; omega
                  have hi0 : (0 : Int) ≤ (i : Int) + 1 := by omega
                  clear u1 u2 u3 u4 u5 u6 h6 hOO hfO hcO hsrc hrl hnb hby2 HU H5 hle
                  have h63 : left.length + 1 + (old.length - (i + 1)) ≤ maxLen := by simp only [maxLen]; omega
                  have hby8 : (left.length + 1 + (old.length - (i + 1))) * 8 ≤ 140737488355328 := by omega
                  have hmono : i + 0 + 1 ≤ S.cl.length + 1 := by omega
                  have hp1 : 0 < 1 := by omega
                  by_cases hcap : capO = i + 1
                  · have hnz : ¬ 0 < old.length - (i + 1) := by omega
                    have hsrc0 := HSrc.out (some ⟨bO, oO, none⟩) 0 (fun h => absurd h hnz)
                    have hol : old.length = i + 1 := by omega
                    clear HSrc hnz hcO1 hcO2
                    generalize hgl : old.length = m1 at hsrc0 HPut h63 hby8 hol ⊢
                    subst hol
                    subst hcap
                    rw [Nat.sub_self] at hsrc0 HPut h63 hby8
                    have HSrc := Lib.hid hsrc0
                    clear hsrc0 hgl hcO3 hi1 hil hii hcO4
                    have hw1 : IntKind.i64.wrap ((i : Int) + 1) = (i : Int) + 1 := IntWalk.i64_in _ (by omega)
                    have hw2 : ((i : Int) + 1).toNat = i + 1 := by omega
                    go_region_held3 (fun w' => w'.cell? ⟨w.heap.size, 0, none⟩ = some (.pointer (some ⟨M.x, 0, none⟩)) ∧ w'.cell? ⟨M.x, 3, none⟩ = some (.map (some M2.mb)))
                      (first | exact HBx6.out _ ((Touch.refl _ w6).drew) | assumption)
                      ((refine step_append_S _ (by rfl) (.tmp 112) (.tmp 116) _ _ (by rfl) 3 i3 _ 1 8 Try.underlying26 hi3 hz0 hz1 hz2 rfl hp1 (.slice ao2 (left.length + 1) cap2) (left.length + 1) (natC (left ++ [c])) (by rfl) HOL.out.drew (natC_one _) _ 0 (natC (old.drop (i + 1))) (by rfl) HSrc.out h63 hby8 ?_; intro ao3 cap3 w10 hn6 hm6 hown6 hg6 hat6 hlt6; obtain ⟨w11, hrun, hs10, hs11, m1⟩ := HPut.out w10 _ hown6 hg6 hat6; clear hown6 hg6 hat6 hlt6 hn6 hm6))
                    all_goals
                      clear hw1 hw2
                      obtain rfl := HRd.out
                      go_wp2_with fail
                      go_ret
                      exact ⟨rfl, HEnd.out _ _ _ (by have h := m1.out.mono hmono; rw [List.append_assoc] at h; exact h)⟩
                  · have hw1 : IntKind.i64.wrap ((i : Int) + 1) = (i : Int) + 1 := IntWalk.i64_in _ (by omega)
                    have hw2 : ((i : Int) + 1).toNat = i + 1 := by omega
                    go_region_held3 (fun w' => w'.cell? ⟨w.heap.size, 0, none⟩ = some (.pointer (some ⟨M.x, 0, none⟩)) ∧ w'.cell? ⟨M.x, 3, none⟩ = some (.map (some M2.mb)))
                      (first | exact HBx6.out _ ((Touch.refl _ w6).drew) | assumption)
                      ((refine step_append_S _ (by rfl) (.tmp 112) (.tmp 116) _ _ (by rfl) 3 i3 _ 1 8 Try.underlying26 hi3 hz0 hz1 hz2 rfl hp1 (.slice ao2 (left.length + 1) cap2) (left.length + 1) (natC (left ++ [c])) (by rfl) HOL.out.drew (natC_one _) _ (old.length - (i + 1)) (natC (old.drop (i + 1))) (by rfl) (HSrc.out _ _ (fun _ => rfl)) h63 hby8 ?_; intro ao3 cap3 w10 hn6 hm6 hown6 hg6 hat6 hlt6; obtain ⟨w11, hrun, hs10, hs11, m1⟩ := HPut.out w10 _ hown6 hg6 hat6; clear hown6 hg6 hat6 hlt6 hn6 hm6))
                    all_goals
                      clear hw1 hw2
                      obtain rfl := HRd.out
                      go_wp2_with fail
                      go_ret
                      exact ⟨rfl, HEnd.out _ _ _ (by have h := m1.out.mono hmono; rw [List.append_assoc] at h; exact h)⟩
    · obtain rfl : i = old.length := by omega
      have hrd := HR1.out
      rw [List.drop_length] at hrd
      unfold movesS at hrd
      obtain ⟨w2, hrun, _, hU⟩ := HS1.out.done hx (by have := HS1.out.nb; simp only [maxLen]; omega)
      have hcb := (HS1.out.touch.cell (p := ⟨w.heap.size, 0, none⟩) HLt.out (fun hk => HBoxN.out _ hk rfl)).trans HCp.out
      have k3 := HS1.out.at_.cells.2.2.2.1
      rw [HS1.out.x] at k3
      have HU := Lib.hid (HEnd.out _ _ _ (hU.mono (by omega : old.length + 1 ≤ S.cl.length + 1)))
      subst hrd
      clear hU
      go_wp2_with fail
      go_ret
      exact ⟨rfl, HU.out⟩

end Go.Proofs.Ythinopiobihmaaa

namespace Go.Proofs.Ythinopiobihmaaa
open Go.ChangeShapes Go.WideShapes Go.ChangeAt Go.RowKit Go.Maps
set_option maxRecDepth 100000

section
variable {w : World} {M : WM} {S : WS}
theorem WAt.setDone (h : WAt w M S) (d : Nat) : WAt (w.setCell ⟨M.x, 4, none⟩ (.int .i64 (d : Int))) M (S.wDone d) ∧ Touch (M.all S) w (w.setCell ⟨M.x, 4, none⟩ (.int .i64 (d : Int))) ∧ ∀ k, M.all (S.wDone d) k → M.all S k ∨ w.heap.size ≤ k := by
  have hb : Blk w M.x 81 _ := h.part .self
  refine WAt.upd (M' := M) (S' := S.wDone d) (fun t => t = .self) h ((Touch.refl _ w).setCell (fun _ => ⟨.self, rfl, rfl⟩) _) (fun t ht hp => by cases t <;> first | exact hp | exact absurd rfl ht) (fun t ht => by
    subst ht
    have h2 := hb.set_ 4 (.int .i64 (d : Int))
    exact h2) (fun t ht k hk => by cases t <;> first | exact hk | exact absurd rfl ht) (fun t ht k hk => by subst ht; exact .inl ⟨.self, rfl, hk⟩) (fun t ht k hk => by
    subst ht
    have := h.lt .self k hk
    show k < (w.setCell _ _).heap.size
    simpa [World.setCell] using this) (fun t t' ht ht' _ _ _ => by subst ht ht'; rfl)

theorem WAt.setFresh (h : WAt w M S) {w1 : World} {v' : Value} {fr : List Nat} (ht : Touch (fun k => M.vF.ownBlock = some k) w w1) (ho : Own w1 3 1 v' fr.length (natC fr)) (hat : ∀ k, v'.ownBlock = some k → M.vF.ownBlock = some k ∨ w.heap.size ≤ k) :
    WAt (w1.setCell ⟨M.x, 5, none⟩ v') { M with vF := v' } (S.wFresh fr) ∧ Touch (M.all S) w (w1.setCell ⟨M.x, 5, none⟩ v') ∧ ∀ k, WM.all { M with vF := v' } (S.wFresh fr) k → M.all S k ∨ w.heap.size ≤ k := by
  have hb : Blk w M.x 81 _ := h.part .self
  have hxf : ¬ M.vF.ownBlock = some M.x := fun e => by
    have := h.dis .fresh .self M.x e rfl
    cases this
  have hb1 := hb.touch ht hxf
  have hxv : v'.ownBlock ≠ some M.x := fun e => by
    rcases hat _ e with h1 | h1
    · exact hxf h1
    · have := hb.lt; omega
  have ht2 : Touch (fun k => ∃ t, (t = Tag.self ∨ t = Tag.fresh) ∧ M.own S t k) w (w1.setCell ⟨M.x, 5, none⟩ v') :=
    (ht.mono (G := fun k => ∃ t, (t = Tag.self ∨ t = Tag.fresh) ∧ M.own S t k) fun k _ hk => ⟨.fresh, .inr rfl, hk⟩).setCell (p := ⟨M.x, 5, none⟩) (fun _ => ⟨.self, .inl rfl, rfl⟩) _
  have ho2 : Own (w1.setCell ⟨M.x, 5, none⟩ v') 3 1 v' fr.length (natC fr) := ho.far hxv _
  refine WAt.upd (M' := { M with vF := v' }) (S' := S.wFresh fr) (fun t => t = .self ∨ t = .fresh) h ht2 (fun t ht hp => ?_) (fun t ht => ?_) (fun t ht k hk => ?_) (fun t ht k hk => ?_) (fun t ht k hk => ?_) (fun t t' ht ht' k h1 h2 => ?_)
  · cases t <;> first | exact hp | exact absurd (.inl rfl) ht | exact absurd (.inr rfl) ht
  · rcases ht with rfl | rfl
    · exact hb1.set_ 5 v'
    · exact ho2
  · cases t <;> first | exact hk | exact absurd (.inl rfl) ht | exact absurd (.inr rfl) ht
  · rcases ht with rfl | rfl
    · exact .inl ⟨.self, .inl rfl, hk⟩
    · rcases hat k hk with h1 | h1
      · exact .inl ⟨.fresh, .inr rfl, h1⟩
      · exact .inr h1
  · rcases ht with rfl | rfl
    · have hk' : k = M.x := hk
      subst hk'
      exact (hb1.set_ 5 v').lt
    · exact ho2.lt k hk
  · rcases ht with rfl | rfl <;> rcases ht' with rfl | rfl
    · rfl
    · cases h1; exact absurd h2 hxv
    · cases h2; exact absurd h1 hxv
    · rfl
end

theorem fresh_step {S : WS} (h : WInv S) {c : Nat} {rest : List Nat} (hf : S.fresh = c :: rest) (hk : (lookS S c).2 = false) : WInv ((lookS S c).1.wFresh rest) ∧ (lookS S c).1.n = S.n ∧ (lookS S c).1.cl = S.cl := by
  rcases look_cases h c with ⟨h1, h2⟩ | ⟨h1, h2⟩ | ⟨x, hx, hv, ho, h2⟩ | ⟨h1, h2⟩
  · rw [h2]
    exact ⟨h.drop hf (.inl h1), rfl, rfl⟩
  · rw [h2] at hk
    cases hk
  · obtain ⟨k1, _, k3⟩ := h.unit hx hv ho
    rw [h2]
    exact ⟨k1.drop (c := c) (rest := rest) hf (.inl ⟨x, hx, k3⟩), rfl, rfl⟩
  · rw [h2]
    exact ⟨h.drop hf (.inr h1), rfl, rfl⟩
theorem look_fresh (S : WS) (c : Nat) : (lookS S c).1.fresh = S.fresh ∧ (lookS S c).1.ls = S.ls := by
  unfold lookS
  split
  · exact ⟨rfl, rfl⟩
  · split <;> exact ⟨rfl, rfl⟩

/-- One literal more was looked at. -/
theorem done_step {S : WS} (h : WInv S) (hf : S.fresh = []) (hd : S.done < S.es.length) (h0 : ¬ 0 ≤ (movesS (headS S) (S.by_ (headS S)) S []).2) :
    WInv ((movesS (headS S) (S.by_ (headS S)) S []).1.wDone ((movesS (headS S) (S.by_ (headS S)) S []).1.done + 1)) ∧ (movesS (headS S) (S.by_ (headS S)) S []).1.fresh = [] ∧ (movesS (headS S) (S.by_ (headS S)) S []).1.done = S.done ∧
      (movesS (headS S) (S.by_ (headS S)) S []).1.n = S.n ∧ (movesS (headS S) (S.by_ (headS S)) S []).1.cl = S.cl := by
  obtain ⟨k1, k2⟩ := moves_spec (headS S) (S.by_ (headS S)) S [] (mid_start h hf (head_val h hd))
  obtain ⟨m1, m2, m3⟩ := k2 (by omega)
  obtain ⟨T, c⟩ : ∃ T, T = (movesS (headS S) (S.by_ (headS S)) S []).1 := ⟨_, rfl⟩
  rw [← c] at m1 m2 m3 ⊢
  have hT := k1.inv
  have hn := k1.n
  have hcl := k1.cl
  have hex := k1.ext
  rw [← c] at hT hn hcl hex
  have hlt : T.done < T.es.length := by rw [m2]; have := ext_len hex; omega
  have hx0 : ((T.es.map (·.lit)).reverse).getD T.done 0 = -headS S := by
    obtain ⟨s, hs⟩ := ext_lits hex
    unfold headS
    rw [Int.neg_neg, hs, m2, List.getD_eq_getElem?_getD, List.getD_eq_getElem?_getD, List.getElem?_append_left (by simpa using hd)]
  have hW : WInv (T.wDone (T.done + 1)) := { hT with
    doneLe := hlt
    watch := fun i hi a b r hq => by
      have hq' : T.ls.getD i [] = a :: b :: r := hq
      obtain ⟨w1, w2⟩ := hT.watch i hi a b r hq'
      have hil : i < S.cl.length := by
        rcases Nat.lt_or_ge i S.cl.length with h1 | h1
        · exact h1
        · have h2 := (hT.mem i a).1 (by rw [hq']; exact List.mem_cons_self ..)
          have := (getD_lt h2).1
          rw [hcl] at this
          exact this
      obtain ⟨p1, p2⟩ := m3 i hil a b r hq'
      rw [← hn] at p1 p2
      constructor
      · intro hs
        rcases (seen_succ hlt).1 hs with hs | hs
        · exact w1 hs
        · rw [hx0, Int.neg_neg] at hs
          exact p1 hs
      · intro hs
        rcases (seen_succ hlt).1 hs with hs | hs
        · exact w2 hs
        · rw [hx0, Int.neg_neg] at hs
          exact p2 hs
    watchF := fun i a b r hq hi => by
      have hi' : i ∈ T.fresh := hi
      rw [m1] at hi'
      cases hi' }
  exact ⟨hW, m1, m2, hn, hcl⟩

/-- The state while Propagate goes on. -/
structure PrSt (w wr : World) (M M1 : WM) (S S1 : WS) (d : Nat) : Prop where
  at_ : WAt wr M1 S1
  inv : WInv S1
  x : M1.x = M.x
  n : S1.n = S.n
  cl : S1.cl = S.cl
  nb : M1.nB ≤ M.nB + d
  touch : Touch (M.all S) w wr
  all : ∀ k, M1.all S1 k → M.all S k ∨ w.heap.size ≤ k
theorem PrSt.up {w wr : World} {M M1 : WM} {S S1 : WS} {d d' : Nat} (h : PrSt w wr M M1 S S1 d) (hd : d ≤ d') (h0 : d' ≠ 0) : WUp d' w wr M S S1 := ⟨M1, h.at_, h.x, by have := h.nb; omega, h.touch, h.all, fun e => absurd e h0⟩
theorem PrSt.below {w wr wr' : World} {M M1 : WM} {S S1 : WS} {d : Nat} (h : PrSt w wr M M1 S S1 d) (hb : Below wr.heap.size wr wr') : PrSt w wr' M M1 S S1 d :=
  ⟨h.at_.below hb, h.inv, h.x, h.n, h.cl, h.nb, h.touch.trans (Touch.of_below hb fun _ => False) fun _ _ hf => hf.elim, h.all⟩
theorem PrSt.step {w wr wr' : World} {M M1 M2 : WM} {S S1 S2 : WS} {d d' : Nat} (h : PrSt w wr M M1 S S1 d) (hI : WInv S2) (hn : S2.n = S1.n) (hc : S2.cl = S1.cl) (ha : WAt wr' M2 S2) (hx : M2.x = M1.x) (hb : M2.nB ≤ M1.nB + d') (ht : Touch (M1.all S1) wr wr')
    (hall : ∀ k, M2.all S2 k → M1.all S1 k ∨ wr.heap.size ≤ k) : PrSt w wr' M M2 S S2 (d + d') :=
  ⟨ha, hI, hx.trans h.x, hn.trans h.n, hc.trans h.cl, by have := h.nb; omega, touch_trans h.touch h.all ht, all_trans h.touch.size h.all hall⟩

end Go.Proofs.Ythinopiobihmaaa
