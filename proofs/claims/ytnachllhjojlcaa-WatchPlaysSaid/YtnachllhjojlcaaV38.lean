/- WatchPlays: the walk. -/
import Derived.Test.YtnachllhjojlcaaV37
namespace Go.Proofs.Ytnachllhjojlcaa
open Go.ChangeShapes Go.WideShapes Go.ChangeAt Go.RowKit Go.Maps Go.Deep
set_option maxRecDepth 100000

theorem ptN {E : Ast} (hE : Solid E) {xa n t : Nat} {S : WS} {xr xt : Nat} {es : List En} {cl : List (List Int)} : Ctx fun X => PT (E.and X) xa n t S xr xt es cl := ((triA xr xt n es cl).right (Solid.emp.and (Solid.wat xa n t S))).right hE
theorem num_same (c : List Int) (ao bo : Option Addr) (ca cb : Nat) (w : World) (ha : Ints w ao c) (hb : Ints w bo c) (hl : c.length ≤ 40) :
    Calls Try.prog 28 #[.slice ao c.length ca, .slice bo c.length cb] w fun e w' => e = .returned (.bool true) ∧ Below w.heap.size w w' := by
  have := numbers_any c c ao bo ca cb w ha hb (by omega)
  simpa using this
theorem add_same {S S1 : WS} {c : List Int} {m e : Int} (h : addS S c = (S1, m, e)) : addR S.n S.cl c = (m, e, S1.cl) ∧ S1.es = S.es := by
  unfold addS at h
  unfold addR
  split at h
  · next hk =>
    rw [if_pos hk]
    simp only [Prod.mk.injEq] at h
    obtain ⟨rfl, rfl, rfl⟩ := h
    exact ⟨rfl, rfl⟩
  · next hk =>
    rw [if_neg hk]
    simp only [Prod.mk.injEq] at h
    obtain ⟨rfl, rfl, rfl⟩ := h
    exact ⟨rfl, rfl⟩
theorem dec_same {S S1 : WS} {y r : Int} (h : decS S y = (S1, r)) : S1.es = (decC S.n S.es y).2 ∧ S1.cl = S.cl ∧ r = (decC S.n S.es y).1 := by
  unfold decS at h
  simp only [Prod.mk.injEq] at h
  obtain ⟨rfl, rfl⟩ := h
  exact ⟨rfl, rfl, rfl⟩
theorem back_same {S S1 : WS} {y r : Int} (h : backS S y = (S1, r)) : S1.es = (backC S.es y).2 ∧ S1.cl = S.cl ∧ r = (backC S.es y).1 := by
  unfold backS at h
  split at h
  · next h0 =>
    simp only [Prod.mk.injEq] at h
    obtain ⟨rfl, rfl⟩ := h
    exact ⟨rfl, rfl, h0.symm⟩
  · next h0 =>
    simp only [Prod.mk.injEq] at h
    obtain ⟨rfl, rfl⟩ := h
    refine ⟨?_, rfl, rfl⟩
    unfold backC at h0 ⊢
    split at h0
    · next h1 => rw [if_pos h1]
    · exact absurd rfl h0
theorem pt_new {w wa : World} {n : Nat} (hb : Below w.heap.size w wa) (hn : n ≤ 60) :
    Calls Try.prog 10 #[.int .i64 n] wa fun e w' => ∃ x, e = .returned (.tuple #[.pointer (some ⟨x, 0, none⟩), .int .i64 0]) ∧ On w w' ((Emp.and (wat x n 0 (newS n))).and Emp) := by
  refine (on_new' (n := n) hb hn).mono ?_
  rintro e w' ⟨x, rfl, h⟩
  exact ⟨x, rfl, h.new (Solid.emp.and (Solid.wat ..)) (Below.refl _ _) (B := Emp) (F' := fun _ => False) (fun _ h => h) fun k hk => hk.elim⟩
theorem pt_rnew {W w : World} {n xa : Nat} {S : WS} (h : On W w ((Emp.and (wat xa n 0 S)).and Emp)) (hn : n ≤ 60) :
    Calls Try.prog 17 #[.int .i64 n] w fun e w' => ∃ xr xt, e = .returned (.tuple #[.pointer (some ⟨xr, 0, none⟩), .int .i64 0]) ∧ On W w' (PT Emp xa n 0 S xr xt [] []) := on_rnew (ptA Solid.emp) h hn

set_option maxHeartbeats 4000000 in
theorem plays_main (n : Nat) (hn : n ≤ 60) (ao : Option Addr) (l : List Stp) (cap b off : Nat) (ca : Nat → Option Addr) (cc : Nat → Nat) (w : World) (hl : IsStp w w.heap.size ao b off l ca cc) (hlong : longS n l = false) :
    Calls Try.prog 4 #[.int .i64 n, .slice ao l.length cap] w fun e w' => e = .returned (.bool true) ∧ Below w.heap.size w w' := by
  obtain ⟨_, hl80, hl40⟩ := long_spec hlong
  have HL : Hid (Calls Try.prog 16 #[.int .i64 n, .slice ao l.length cap] w fun e w' => e = .returned (.bool false) ∧ w = w') := Lib.hid (by
    have := long_any n w _ ao l cap b off ca cc hl
    rwa [hlong] at this)
  have HS := Lib.hid hl
  have H40 := Lib.hid hl40
  have HLT0 := Lib.hid (LTwin.new n)
  obtain ⟨i3, hi3, hz0, hz1, hz2⟩ := info_parts (P := Try.prog) (e := 3) (z := .int .i64 0) (size := 1) (bytes := 8) (by kernel_rfl)
  clear hl hlong hl40
  go_enter Try.func4, Try.ntmps4
  go_wp2_with (first
    | (go_at_call 16; (with_reducible refine HL.out.mono ?_); rintro e w1 ⟨rfl, rfl⟩; have hb0 := Below.refl w.heap.size w)
    | (go_at_call 10; (with_reducible refine (pt_new hb0 hn).mono ?_); rintro e w2 ⟨xa, rfl, h2⟩)
    | (go_at_call 17; (with_reducible refine (pt_rnew h2 hn).mono ?_); rintro e w3 ⟨xr, xt, rfl, h3⟩))
  go_loopw [9] (fun s wr => ∃ (k t : Nat) (S : WS) (es : List En), k ≤ l.length ∧ t ≤ k ∧ s = .int .i64 k ∧ On w wr (PT Emp xa n t S xr xt es S.cl) ∧ Hid (LTwin n S.es es)) (fun s _ => l.length - (intOf s).toNat)
  case atStart => exact ⟨0, 0, newS n, [], by omega, by omega, rfl, h3, HLT0⟩
  case round =>
    obtain ⟨k, t, S, es, hk, htk, rfl, hr, HTw⟩ := hrel
    by_cases hlt : k < l.length
    · have hS := HS.out.below hr.bel
      obtain ⟨rfl, hbB⟩ := hS.ptr (by omega)
      have hwf := hS.wf k hlt
      have hck := hS.kind k hlt
      have hcn := hS.n k hlt
      have hcs := hS.clause k hlt
      have hrow := hS.row hr.bel.size k hlt
      have h40 := H40.out _ (List.getElem_mem hlt)
      have hki : (k : Int) < (l.length : Int) := by omega
      have HRow0 : Hid (∀ w2, Below w.heap.size w w2 → Ints w2 (ca k) l[k].c) := Lib.hid fun w2 hb => (HS.out.below hb).row hb.size k hlt
      generalize l[k] = s at *
      obtain ⟨kd, c, y⟩ := s
      simp only at hck hcn hcs hrow h40
      obtain ⟨⟨hk0, hk1⟩, hcI, _, hyI⟩ := hwf
      simp only at hk0 hk1 hcI hyI
      have HRow : Hid (∀ w2, Below w.heap.size w w2 → Ints w2 (ca k) c) := HRow0
      clear hS HRow0
      go_upto_region 13 with fail
      obtain ⟨w4, hw4⟩ : ∃ w4, w4 = wr.alloc (.cells #[.int .u8 kd, .slice (ca k) c.length (cc k), .int .i64 y] 42) := ⟨_, rfl⟩
      rw [← hw4]
      have hb4 : Below wr.heap.size wr w4 := by rw [hw4]; exact (Below.refl _ _).alloc (Nat.le_refl _) _
      have h4 : On w w4 (PT (Emp.and (blk wr.heap.size 42 #[.int .u8 kd, .slice (ca k) c.length (cc k), .int .i64 y])) xa n t S xr xt es S.cl) :=
        pt_more (hr.new (ptSolid Solid.emp) hb4 (B := blk wr.heap.size 42 #[.int .u8 kd, .slice (ca k) c.length (cc k), .int .i64 y]) (F' := fun k => k = wr.heap.size) ⟨by rw [hw4]; exact Blk.new .., fun k => Iff.rfl⟩ fun k hk => by rw [hk]; exact Nat.le_refl _)
      have HBox : Hid (∀ w2 t S es cl, On w w2 (PT (Emp.and (blk wr.heap.size 42 #[.int .u8 kd, .slice (ca k) c.length (cc k), .int .i64 y])) xa n t S xr xt es cl) →
          w2.cell? ⟨wr.heap.size, 0, none⟩ = some (.int .u8 kd) ∧ w2.cell? ⟨wr.heap.size, 1, none⟩ = some (.slice (ca k) c.length (cc k)) ∧ w2.cell? ⟨wr.heap.size, 2, none⟩ = some (.int .i64 y)) := Lib.hid fun w2 t S es cl h2 => by
        obtain ⟨F, ⟨kb, _⟩, _⟩ := (ptN Solid.emp).use h2
        exact ⟨kb.cell 0, kb.cell 1, kb.cell 2⟩
      have hE : Solid (Emp.and (blk wr.heap.size 42 #[.int .u8 kd, .slice (ca k) c.length (cc k), .int .i64 y])) := Solid.emp.and (Solid.blk ..)
      have HLs : Hid (∀ w2 t S es cl, On w w2 (PT (Emp.and (blk wr.heap.size 42 #[.int .u8 kd, .slice (ca k) c.length (cc k), .int .i64 y])) xa n t S xr xt es cl) → On w w2 (PT Emp xa n t S xr xt es cl)) := Lib.hid fun w2 t S es cl h2 => pt_less h2
      have hok := pt_ok hE h4
      have hcl1 : S.cl.length ≤ 1000 := by have := hok.cl; omega
      generalize Emp.and (blk wr.heap.size 42 #[.int .u8 kd, .slice (ca k) c.length (cc k), .int .i64 y]) = E at *
      obtain ⟨bx, hbx⟩ : ∃ bx, bx = wr.heap.size := ⟨_, rfl⟩
      rw [← hbx] at HBox ⊢
      clear hw4 hbx hr hrow hck hcn hcs hb4
      obtain ⟨x0, x1, x2⟩ := HBox.out _ _ _ _ _ h4
      by_cases e0 : kd = 0
      · subst e0
        obtain ⟨⟨S1, m, e1⟩, hAd⟩ : ∃ r, addS S c = r := ⟨_, rfl⟩
        obtain ⟨hsame, hes⟩ := add_same hAd
        rw [hok.n] at hsame
        have HAd := Lib.hid hAd
        have HTw1 : Hid (LTwin n S1.es es) := Lib.hid (by rw [hes]; exact HTw.out)
        have hbE : Below w4.heap.size w4 (w4.alloc (.cells #[] 3)) := (Below.refl _ _).alloc (Nat.le_refl _) _
        have HIx : Hid (Ints (w4.alloc (.cells #[] 3)) (ca k) c) := Lib.hid (HRow.out _ (bel_new h4.bel h4.bel.size hbE))
        have HA1 : Hid (∀ ao2 cap2 w10, Own w10 3 1 (.slice ao2 (0 + c.length) cap2) (0 + c.length) ([] ++ inC c) → (w4.alloc (.cells #[] 3)).grownBy w10 (Value.slice (some ⟨w4.heap.size, 0, none⟩) 0 0).ownBlock →
            ((Value.slice ao2 (0 + c.length) cap2).ownBlock = (Value.slice (some ⟨w4.heap.size, 0, none⟩) 0 0).ownBlock ∨ (Value.slice ao2 (0 + c.length) cap2).ownBlock = some (w4.alloc (.cells #[] 3)).heap.size) →
            On w w10 (PT (E.and (nums (.slice ao2 c.length cap2) c)) xa n t S xr xt es S.cl) ∧ Ints w10 ao2 c) := Lib.hid fun ao2 cap2 w10 ho hg hat => by
          rw [Nat.zero_add, List.nil_append] at ho
          rw [Nat.zero_add] at hat
          have hg0 : ∀ k, (Value.slice (some ⟨w4.heap.size, 0, none⟩) 0 0).ownBlock = some k → w4.heap.size ≤ k := fun k hk => by
            simp [Value.ownBlock] at hk
            omega
          have hb10 : Below w4.heap.size w4 w10 := hbE.grown hg hbE.size hg0
          refine ⟨pt_more (h4.new (ptSolid hE) hb10 (B := nums (.slice ao2 c.length cap2) c) (F' := fun k => (Value.slice ao2 c.length cap2).ownBlock = some k) ⟨ho, fun k => Iff.rfl⟩ fun k hk => ?_), ?_⟩
          · rcases hat with e | e
            · rw [e] at hk; exact hg0 k hk
            · rw [e] at hk
              injection hk with hk
              have := hbE.size
              omega
          · obtain ⟨a3, c3, e3, hI3⟩ := ho.ints
            injection e3 with e4 _ _
            rw [e4]
            exact hI3
        have HRad : Hid (∀ w2 v, On w w2 (PT (E.and (nums v c)) xa n (t + 1) S1 xr xt es S.cl) → Calls Try.prog 18 #[.pointer (some ⟨xr, 0, none⟩), .slice (ca k) c.length (cc k)] w2 fun e w' => e = .returned (.tuple #[.int .i64 m, .int .i64 e1]) ∧ On w w' (PT (E.and (nums v c)) xa n (t + 1) S1 xr xt es S1.cl)) := Lib.hid fun w2 v h2 => by
          have := on_radd (ptA (hE.and (Solid.nums v c))) h2 hn hcl1 (ca k) c (cc k) (HRow.out _ h2.bel) h40 hcI
          rw [hsame] at this
          exact this
        obtain ⟨xE0, xE1, xE2⟩ := HBox.out _ _ _ _ _ (On.below (ptSolid hE) h4 hbE)
        have HcI := Lib.hid hcI
        clear hAd hsame hes h4 hbE hcI hok
        go_wp2_with (first
          | (go_at_call 12; (with_reducible refine (pt_add (hE.and (Solid.nums _ _)) h10 hn (by omega) _ c _ hI10 h40 HcI.out HAd.out).mono ?_); rintro e w11 ⟨rfl, h11⟩; obtain ⟨y0, y1, y2⟩ := HBox.out _ _ _ _ _ (pt_less h11))
          | (go_at_call 18; (with_reducible refine (HRad.out _ _ h11).mono ?_); rintro e w12 ⟨rfl, h12⟩)
          | (at_builtin; refine wpList_append_S _ rfl (.tmp 94) (.tmp 96) _ _ rfl 3 i3 _ 1 8 Try.underlying23 hi3 hz0 hz1 hz2 rfl (by omega) (.slice (some ⟨w4.heap.size, 0, none⟩) 0 0) 0 [] rfl (Own.made w4 3 1 #[] 0 rfl (by simp)) (by simp) _ c.length (inC c) rfl (ints_src (cc k) HIx.out) (by simp only [maxLen]; omega) (by omega) ?_; intro av capv w10 hn2 hm2 hown2 hg2 hat2 hlt2; obtain ⟨h10, hI10⟩ := HA1.out _ _ _ hown2 hg2 hat2; obtain ⟨x0, x1, x2⟩ := HBox.out _ _ _ _ _ (pt_less h10); clear hown2 hg2 hat2 hlt2 hn2 hm2))
        obtain ⟨c0, rfl⟩ : ∃ c0, c0 = c := ⟨_, rfl⟩
        obtain ⟨t1, ht1⟩ : ∃ t1, t1 = t + 1 := ⟨_, rfl⟩
        rw [← ht1] at h12
        obtain ⟨es1, rfl⟩ : ∃ es1, es1 = es := ⟨_, rfl⟩
        have h6 := h12
        clear h12
        go_loopw [16] (fun s wr => ∃ (q : Nat) (lst : List Int), q ≤ c0.length ∧ s = .int .i64 q ∧ lst.length = c0.length ∧ On w wr (PT (E.and (nums (.slice av c0.length capv) lst)) xa n t1 S1 xr xt es1 S1.cl)) (fun s _ => c0.length - (intOf s).toNat)
        case atStart => exact ⟨0, c0, by omega, rfl, rfl, h6⟩
        case round =>
          obtain ⟨q, lst, hq, rfl, hll, hz⟩ := hrel
          by_cases hql : q < c0.length
          · have hqi : (q : Int) < (c0.length : Int) := by omega
            obtain ⟨Fz, hnz, hgz⟩ := (ptN hE (xa := xa) (n := n) (t := t1) (S := S1) (xr := xr) (xt := xt) (es := es1) (cl := S1.cl)).use hz
            have hfz := hnz
            obtain ⟨oz, _⟩ := hfz
            obtain ⟨az, cz, ez, _, _, hfz⟩ := oz.form
            injection ez with ez1 ez2 ez3
            obtain ⟨bz, offz, ez4, _⟩ := hfz (by omega)
            rw [ez4] at ez1
            subst ez1
            obtain ⟨z1, z2', z3⟩ := goes_zero q (by omega) hnz
            obtain ⟨xq, z2⟩ : ∃ xq, wr.cell? ⟨bz, offz + q, none⟩ = some (.int .i64 xq) := ⟨_, z2'⟩
            clear z2'
            have HZ := Lib.hid (hgz _ _ z3)
            have HLL := Lib.hid hll
            clear hz hnz hgz oz hfz z3 ez2 ez3 ez4 hll
            go_wp2_with fail
            go_roundw
            case rel => exact ⟨q + 1, lst.set q 0, by omega, by go_num, by rw [List.length_set]; exact HLL.out, HZ.out⟩
            case measure => simp [intOf]; omega
          · obtain rfl : q = c0.length := by omega
            have h7 := pt_less hz
            clear hz
            obtain ⟨w7, rfl⟩ : ∃ w7 : World, w7 = wr := ⟨_, rfl⟩
            have HT7 : Hid (LTwin n S1.es es1) := HTw1
            have hhe := HT7.out.hi
            obtain ⟨hh, hhd⟩ : ∃ hh, hh = hi es1 := ⟨_, rfl⟩
            obtain ⟨p0, ⟨aL, cL, p1⟩, p2⟩ := pr_cells hE h7
            rw [← hhd] at p2
            have HOn7 : Hid (∀ w', Below w7.heap.size w7 w' → On w w' (PT E xa n t1 S1 xr xt es1 S1.cl)) := Lib.hid fun w' hb => On.below (ptSolid hE) h7 hb
            have HCt : Hid (∀ m, Calls Try.prog 23 #[.pointer (some ⟨xa, 0, none⟩)] (w7.drewN m) fun e w' => e = .returned (.int .i64 S1.cl.length) ∧ w' = w7.drewN m) := Lib.hid fun m =>
              (pt_count hE (HOn7.out _ (bel_drewN (Below.refl _ _) m))).mono fun _ _ h => ⟨h.1, h.2.symm⟩
            have HLv : Hid (∀ m, Calls Try.prog 25 #[.pointer (some ⟨xa, 0, none⟩)] (w7.drewN m) fun e w' => e = .returned (.int .i64 hh) ∧ w' = w7.drewN m) := Lib.hid fun m => by
              rw [hhd, ← hhe]
              exact (pt_level hE (HOn7.out _ (bel_drewN (Below.refl _ _) m))).mono fun _ _ h => ⟨h.1, h.2.symm⟩
            clear hhe hhd
            go_wp2_with fail
            go_quiet (first | (go_at_call 23; exact Calls.quiet_of_same (HCt.out _)) | (go_at_call 25; exact Calls.quiet_of_same (HLv.out _)))
            have h8 := HOn7.out _ (bel_drewN (Below.refl w7.heap.size w7) nq)
            generalize w7.drewN nq = w8 at *
            obtain ⟨x0, x1, x2⟩ := HBox.out _ _ _ _ _ h8
            clear p0 p1 p2 HCt HLv h7 HOn7
            go_wp2_with fail
            go_loopw [22] (fun s wr => ∃ (k4 : Nat) (z : Int), k4 ≤ S1.cl.length + 2 ∧ s = .int .i64 z ∧ z = (k4 : Int) - 1 ∧ On w wr (PT E xa n t1 S1 xr xt es1 S1.cl)) (fun s _ => ((S1.cl.length : Int) + 1 - intOf s).toNat)
            case atStart => exact ⟨0, _, by omega, rfl, by omega, h8⟩
            case round =>
              obtain ⟨k4, z, hk4, rfl, hzz, h9⟩ := hrel
              have hzr : -1 ≤ z := by omega
              have hkr : S1.cl.length < z → k4 = S1.cl.length + 2 := fun h => by omega
              have HZz := Lib.hid hzz
              clear hzz hkr
              obtain ⟨p0, ⟨aL, cL, p1⟩, p2⟩ := pr_cells hE h9
              by_cases hzl : z ≤ (S1.cl.length : Int)
              · have hzd : decide (z ≤ (S1.cl.length : Int)) = true := by simpa using hzl
                have HCa := Lib.hid (pt_clause hE h9 (by omega) z)
                obtain ⟨c0, hc0⟩ : ∃ c0, c0 = clauseS S1 z := ⟨_, rfl⟩
                rw [← hc0] at HCa
                have hcl1 : S1.cl.length ≤ 1000 := by have := (pt_ok hE h9).cl; omega
                have hc40 : c0.length ≤ 40 := by
                  have hok := (pt_ok hE h9).lens
                  rw [hc0]
                  unfold clauseS
                  split
                  · simp
                  · rw [List.getD_eq_getElem?_getD]
                    cases hq : S1.cl[z.toNat]? with
                    | none => simp
                    | some d => exact hok d (List.mem_of_getElem? hq)
                have HCb : Hid (∀ w5 v, On w w5 (PT (E.and (nums v c0)) xa n t1 S1 xr xt es1 S1.cl) → ∃ av capv, v = .slice av c0.length capv ∧ Ints w5 av c0 ∧ Calls Try.prog 29 #[.pointer (some ⟨xr, 0, none⟩), .int .i64 z] w5 fun e w' => ∃ ao cap, e = .returned (.slice ao c0.length cap) ∧ Ints w' ao c0 ∧ w5 = w') := Lib.hid fun w5 v h5 => by
                  obtain ⟨Fz, ⟨hnz, _⟩, _⟩ := (ptN hE (xa := xa) (n := n) (t := t1) (S := S1) (xr := xr) (xt := xt) (es := es1) (cl := S1.cl)).use h5
                  obtain ⟨av, capv, e, hI⟩ := hnz.ints
                  have h6 := on_rclause (ptA (hE.and (Solid.nums v c0))) h5 hcl1 z
                  rw [show (if z < 0 then [] else S1.cl.getD z.toNat []) = c0 from hc0.symm] at h6
                  exact ⟨av, capv, e, hI, h6⟩
                have HC0 := Lib.hid hc0
                clear hc0 h9
                go_wp2_with (first
                  | (go_at_call 27; (with_reducible refine HCa.out.mono ?_); rintro e w5 ⟨v, rfl, h5⟩; obtain ⟨av, capv, rfl, hI5, hq5⟩ := HCb.out _ _ h5; have HQ5 := Lib.hid hq5; clear hq5)
                  | (go_at_call 29; (with_reducible refine HQ5.out.mono ?_); rintro e w6 ⟨ao6, cap6, rfl, hI6, rfl⟩)
                  | (go_at_call 28; (with_reducible refine (num_same c0 _ _ _ _ _ hI5 hI6 hc40).mono ?_); rintro e w7 ⟨rfl, hb7⟩; have h6 := On.below (ptSolid (hE.and (Solid.nums _ _))) h5 hb7; clear hI5 hI6 h5 hb7 HQ5))
                go_loopw [24] (fun s wr => ∃ (q : Nat) (lst : List Int), q ≤ c0.length ∧ s = .int .i64 q ∧ lst.length = c0.length ∧ On w wr (PT (E.and (nums (.slice av c0.length capv) lst)) xa n t1 S1 xr xt es1 S1.cl)) (fun s _ => c0.length - (intOf s).toNat)
                case atStart => exact ⟨0, c0, by omega, rfl, rfl, h6⟩
                case round =>
                  obtain ⟨q, lst, hq, rfl, hll, hz⟩ := hrel
                  by_cases hql : q < c0.length
                  · have hqi : (q : Int) < (c0.length : Int) := by omega
                    obtain ⟨Fz, hnz, hgz⟩ := (ptN hE (xa := xa) (n := n) (t := t1) (S := S1) (xr := xr) (xt := xt) (es := es1) (cl := S1.cl)).use hz
                    have hfz := hnz
                    obtain ⟨oz, _⟩ := hfz
                    obtain ⟨az, cz, ez, _, _, hfz⟩ := oz.form
                    injection ez with ez1 ez2 ez3
                    obtain ⟨bz, offz, ez4, _⟩ := hfz (by omega)
                    rw [ez4] at ez1
                    subst ez1
                    obtain ⟨z1, z2', z3⟩ := goes_zero q (by omega) hnz
                    obtain ⟨xq, z2⟩ : ∃ xq, wr.cell? ⟨bz, offz + q, none⟩ = some (.int .i64 xq) := ⟨_, z2'⟩
                    clear z2'
                    have HZ := Lib.hid (hgz _ _ z3)
                    have HLL := Lib.hid hll
                    clear hz hnz hgz oz hfz z3 ez2 ez3 ez4 hll
                    go_wp2_with fail
                    go_roundw
                    case rel => exact ⟨q + 1, lst.set q 0, by omega, by go_num, by rw [List.length_set]; exact HLL.out, HZ.out⟩
                    case measure => simp [intOf]; omega
                  · obtain rfl : q = c0.length := by omega
                    have h7 := pt_less hz
                    clear hz
                    go_wp2_with fail
                    go_roundw
                    case rel => exact ⟨k4 + 1, z + 1, by have := HZz.out; omega, by go_num, by have := HZz.out; omega, h7⟩
                    case measure => simp [intOf]; omega
              · have hzd : decide (z ≤ (S1.cl.length : Int)) = false := by simpa using hzl
                have h10 := HLs.out _ _ _ _ _ h9
                clear h9
                go_wp2_with fail
                go_roundw
                case rel => exact ⟨k + 1, t1, S1, es1, by omega, by omega, by go_num, h10, HT7⟩
                case measure => simp [intOf]; omega
      · have f0 : (kd == 0) = false := by simpa using e0
        by_cases e1 : kd = 1
        · subst e1
          obtain ⟨⟨S1, r1⟩, hD1⟩ : ∃ r, decS S y = r := ⟨_, rfl⟩
          obtain ⟨⟨r2, es1⟩, hD2⟩ : ∃ r, decC n es y = r := ⟨_, rfl⟩
          obtain ⟨s1, s2, s3⟩ := dec_same hD1
          rw [hok.n] at s1 s3
          obtain ⟨tw1, tw2⟩ := HTw.out.dec y
          rw [hD2, ← s3] at tw1
          rw [hD2, ← s1] at tw2
          simp only at tw1 tw2
          subst tw1
          have HTw1 := Lib.hid tw2
          have HD1 := Lib.hid hD1
          have HD2 := Lib.hid hD2
          have HGb := Lib.hid HTw.out.gb
          have HyI := Lib.hid hyI
          have HScl := Lib.hid s2
          have HC2 : Hid (∀ w2 t S es cl, On w w2 (PT E xa n t S xr xt es cl) → w2.cell? ⟨bx, 2, none⟩ = some (.int .i64 y) ∧ w2.cell? ⟨xr, 0, none⟩ = some (.pointer (some ⟨xt, 0, none⟩))) := Lib.hid fun w2 t S es cl h2 => ⟨(HBox.out _ _ _ _ _ h2).2.2, (pr_cells hE h2).1⟩
          have hdr : On w w4.drew (PT E xa n t S xr xt es S.cl) := On.below (ptSolid hE) h4 (bel_drewN (Below.refl _ _) 1)
          have hcd := HC2.out _ _ _ _ _ hdr
          clear s1 s2 s3 tw2 hD1 hD2 hok h4 hyI
          go_wp2_with fail
          go_region_held3 (fun w' => w'.cell? ⟨bx, 2, none⟩ = some (.int .i64 y) ∧ w'.cell? ⟨xr, 0, none⟩ = some (.pointer (some ⟨xt, 0, none⟩))) (assumption)
            ((first
              | (go_at_call 13; (with_reducible refine (pt_decide hE hdr hn y HyI.out HD1.out).mono ?_); rintro e w5 ⟨rfl, h5⟩; have hc5 := HC2.out _ _ _ _ _ h5)
              | (go_at_call 19; (with_reducible refine (pr_decide hE h5 HGb.out hn y HyI.out HD2.out).mono ?_); rintro e w7 ⟨rfl, h7⟩; have hc7 := HC2.out _ _ _ _ _ h7)))
          rw [← HScl.out] at h7
          obtain ⟨t1, ht1⟩ : ∃ t1, t1 = t + 1 := ⟨_, rfl⟩
          rw [← ht1] at h7
          clear HD1 HD2 HGb HScl hdr hcd h5 hc5 hc7 HC2
          have HT7 : Hid (LTwin n S1.es es1) := HTw1
          have hhe := HT7.out.hi
          obtain ⟨hh, hhd⟩ : ∃ hh, hh = hi es1 := ⟨_, rfl⟩
          obtain ⟨p0, ⟨aL, cL, p1⟩, p2⟩ := pr_cells hE h7
          rw [← hhd] at p2
          have HOn7 : Hid (∀ w', Below w7.heap.size w7 w' → On w w' (PT E xa n t1 S1 xr xt es1 S1.cl)) := Lib.hid fun w' hb => On.below (ptSolid hE) h7 hb
          have HCt : Hid (∀ m, Calls Try.prog 23 #[.pointer (some ⟨xa, 0, none⟩)] (w7.drewN m) fun e w' => e = .returned (.int .i64 S1.cl.length) ∧ w' = w7.drewN m) := Lib.hid fun m =>
            (pt_count hE (HOn7.out _ (bel_drewN (Below.refl _ _) m))).mono fun _ _ h => ⟨h.1, h.2.symm⟩
          have HLv : Hid (∀ m, Calls Try.prog 25 #[.pointer (some ⟨xa, 0, none⟩)] (w7.drewN m) fun e w' => e = .returned (.int .i64 hh) ∧ w' = w7.drewN m) := Lib.hid fun m => by
            rw [hhd, ← hhe]
            exact (pt_level hE (HOn7.out _ (bel_drewN (Below.refl _ _) m))).mono fun _ _ h => ⟨h.1, h.2.symm⟩
          clear hhe hhd
          go_wp2_with fail
          go_quiet (first | (go_at_call 23; exact Calls.quiet_of_same (HCt.out _)) | (go_at_call 25; exact Calls.quiet_of_same (HLv.out _)))
          have h8 := HOn7.out _ (bel_drewN (Below.refl w7.heap.size w7) nq)
          generalize w7.drewN nq = w8 at *
          obtain ⟨x0, x1, x2⟩ := HBox.out _ _ _ _ _ h8
          clear p0 p1 p2 HCt HLv h7 HOn7
          go_wp2_with fail
          go_loopw [22] (fun s wr => ∃ (k4 : Nat) (z : Int), k4 ≤ S1.cl.length + 2 ∧ s = .int .i64 z ∧ z = (k4 : Int) - 1 ∧ On w wr (PT E xa n t1 S1 xr xt es1 S1.cl)) (fun s _ => ((S1.cl.length : Int) + 1 - intOf s).toNat)
          case atStart => exact ⟨0, _, by omega, rfl, by omega, h8⟩
          case round =>
            obtain ⟨k4, z, hk4, rfl, hzz, h9⟩ := hrel
            have hzr : -1 ≤ z := by omega
            have hkr : S1.cl.length < z → k4 = S1.cl.length + 2 := fun h => by omega
            have HZz := Lib.hid hzz
            clear hzz hkr
            obtain ⟨p0, ⟨aL, cL, p1⟩, p2⟩ := pr_cells hE h9
            by_cases hzl : z ≤ (S1.cl.length : Int)
            · have hzd : decide (z ≤ (S1.cl.length : Int)) = true := by simpa using hzl
              have HCa := Lib.hid (pt_clause hE h9 (by omega) z)
              obtain ⟨c0, hc0⟩ : ∃ c0, c0 = clauseS S1 z := ⟨_, rfl⟩
              rw [← hc0] at HCa
              have hcl1 : S1.cl.length ≤ 1000 := by have := (pt_ok hE h9).cl; omega
              have hc40 : c0.length ≤ 40 := by
                have hok := (pt_ok hE h9).lens
                rw [hc0]
                unfold clauseS
                split
                · simp
                · rw [List.getD_eq_getElem?_getD]
                  cases hq : S1.cl[z.toNat]? with
                  | none => simp
                  | some d => exact hok d (List.mem_of_getElem? hq)
              have HCb : Hid (∀ w5 v, On w w5 (PT (E.and (nums v c0)) xa n t1 S1 xr xt es1 S1.cl) → ∃ av capv, v = .slice av c0.length capv ∧ Ints w5 av c0 ∧ Calls Try.prog 29 #[.pointer (some ⟨xr, 0, none⟩), .int .i64 z] w5 fun e w' => ∃ ao cap, e = .returned (.slice ao c0.length cap) ∧ Ints w' ao c0 ∧ w5 = w') := Lib.hid fun w5 v h5 => by
                obtain ⟨Fz, ⟨hnz, _⟩, _⟩ := (ptN hE (xa := xa) (n := n) (t := t1) (S := S1) (xr := xr) (xt := xt) (es := es1) (cl := S1.cl)).use h5
                obtain ⟨av, capv, e, hI⟩ := hnz.ints
                have h6 := on_rclause (ptA (hE.and (Solid.nums v c0))) h5 hcl1 z
                rw [show (if z < 0 then [] else S1.cl.getD z.toNat []) = c0 from hc0.symm] at h6
                exact ⟨av, capv, e, hI, h6⟩
              have HC0 := Lib.hid hc0
              clear hc0 h9
              go_wp2_with (first
                | (go_at_call 27; (with_reducible refine HCa.out.mono ?_); rintro e w5 ⟨v, rfl, h5⟩; obtain ⟨av, capv, rfl, hI5, hq5⟩ := HCb.out _ _ h5; have HQ5 := Lib.hid hq5; clear hq5)
                | (go_at_call 29; (with_reducible refine HQ5.out.mono ?_); rintro e w6 ⟨ao6, cap6, rfl, hI6, rfl⟩)
                | (go_at_call 28; (with_reducible refine (num_same c0 _ _ _ _ _ hI5 hI6 hc40).mono ?_); rintro e w7 ⟨rfl, hb7⟩; have h6 := On.below (ptSolid (hE.and (Solid.nums _ _))) h5 hb7; clear hI5 hI6 h5 hb7 HQ5))
              go_loopw [24] (fun s wr => ∃ (q : Nat) (lst : List Int), q ≤ c0.length ∧ s = .int .i64 q ∧ lst.length = c0.length ∧ On w wr (PT (E.and (nums (.slice av c0.length capv) lst)) xa n t1 S1 xr xt es1 S1.cl)) (fun s _ => c0.length - (intOf s).toNat)
              case atStart => exact ⟨0, c0, by omega, rfl, rfl, h6⟩
              case round =>
                obtain ⟨q, lst, hq, rfl, hll, hz⟩ := hrel
                by_cases hql : q < c0.length
                · have hqi : (q : Int) < (c0.length : Int) := by omega
                  obtain ⟨Fz, hnz, hgz⟩ := (ptN hE (xa := xa) (n := n) (t := t1) (S := S1) (xr := xr) (xt := xt) (es := es1) (cl := S1.cl)).use hz
                  have hfz := hnz
                  obtain ⟨oz, _⟩ := hfz
                  obtain ⟨az, cz, ez, _, _, hfz⟩ := oz.form
                  injection ez with ez1 ez2 ez3
                  obtain ⟨bz, offz, ez4, _⟩ := hfz (by omega)
                  rw [ez4] at ez1
                  subst ez1
                  obtain ⟨z1, z2', z3⟩ := goes_zero q (by omega) hnz
                  obtain ⟨xq, z2⟩ : ∃ xq, wr.cell? ⟨bz, offz + q, none⟩ = some (.int .i64 xq) := ⟨_, z2'⟩
                  clear z2'
                  have HZ := Lib.hid (hgz _ _ z3)
                  have HLL := Lib.hid hll
                  clear hz hnz hgz oz hfz z3 ez2 ez3 ez4 hll
                  go_wp2_with fail
                  go_roundw
                  case rel => exact ⟨q + 1, lst.set q 0, by omega, by go_num, by rw [List.length_set]; exact HLL.out, HZ.out⟩
                  case measure => simp [intOf]; omega
                · obtain rfl : q = c0.length := by omega
                  have h7 := pt_less hz
                  clear hz
                  go_wp2_with fail
                  go_roundw
                  case rel => exact ⟨k4 + 1, z + 1, by have := HZz.out; omega, by go_num, by have := HZz.out; omega, h7⟩
                  case measure => simp [intOf]; omega
            · have hzd : decide (z ≤ (S1.cl.length : Int)) = false := by simpa using hzl
              have h10 := HLs.out _ _ _ _ _ h9
              clear h9
              go_wp2_with fail
              go_roundw
              case rel => exact ⟨k + 1, t1, S1, es1, by omega, by omega, by go_num, h10, HT7⟩
              case measure => simp [intOf]; omega
        · have f1 : (kd == 1) = false := by simpa using e1
          by_cases e2 : kd = 2
          · subst e2
            obtain ⟨⟨S1, r1⟩, hD1⟩ : ∃ r, backS S y = r := ⟨_, rfl⟩
            obtain ⟨⟨r2, es1⟩, hD2⟩ : ∃ r, backC es y = r := ⟨_, rfl⟩
            obtain ⟨s1, s2, s3⟩ := back_same hD1
            obtain ⟨tw1, tw2⟩ := HTw.out.back y
            rw [hD2, ← s3] at tw1
            rw [hD2, ← s1] at tw2
            simp only at tw1 tw2
            subst tw1
            have HTw1 := Lib.hid tw2
            have HD1 := Lib.hid hD1
            have HD2 := Lib.hid hD2
            have HGb := Lib.hid HTw.out.gb
            have HyI := Lib.hid hyI
            have HScl := Lib.hid s2
            have HC2 : Hid (∀ w2 t S es cl, On w w2 (PT E xa n t S xr xt es cl) → w2.cell? ⟨bx, 2, none⟩ = some (.int .i64 y) ∧ w2.cell? ⟨xr, 0, none⟩ = some (.pointer (some ⟨xt, 0, none⟩))) := Lib.hid fun w2 t S es cl h2 => ⟨(HBox.out _ _ _ _ _ h2).2.2, (pr_cells hE h2).1⟩
            have hdr : On w w4.drew (PT E xa n t S xr xt es S.cl) := On.below (ptSolid hE) h4 (bel_drewN (Below.refl _ _) 1)
            have hcd := HC2.out _ _ _ _ _ hdr
            clear s1 s2 s3 tw2 hD1 hD2 hok h4 hyI
            go_wp2_with fail
            go_region_held3 (fun w' => w'.cell? ⟨bx, 2, none⟩ = some (.int .i64 y) ∧ w'.cell? ⟨xr, 0, none⟩ = some (.pointer (some ⟨xt, 0, none⟩))) (assumption)
              ((first
                | (go_at_call 20; (with_reducible refine (pt_back hE hdr hn (by omega) y HyI.out HD1.out).mono ?_); rintro e w5 ⟨rfl, h5⟩; have hc5 := HC2.out _ _ _ _ _ h5)
                | (go_at_call 21; (with_reducible refine (pr_back hE h5 HGb.out hn y HyI.out HD2.out).mono ?_); rintro e w7 ⟨rfl, h7⟩; have hc7 := HC2.out _ _ _ _ _ h7)))
            rw [← HScl.out] at h7
            obtain ⟨t1, ht1⟩ : ∃ t1, t1 = t + 1 := ⟨_, rfl⟩
            rw [← ht1] at h7
            clear HD1 HD2 HGb HScl hdr hcd h5 hc5 hc7 HC2
            have HT7 : Hid (LTwin n S1.es es1) := HTw1
            have hhe := HT7.out.hi
            obtain ⟨hh, hhd⟩ : ∃ hh, hh = hi es1 := ⟨_, rfl⟩
            obtain ⟨p0, ⟨aL, cL, p1⟩, p2⟩ := pr_cells hE h7
            rw [← hhd] at p2
            have HOn7 : Hid (∀ w', Below w7.heap.size w7 w' → On w w' (PT E xa n t1 S1 xr xt es1 S1.cl)) := Lib.hid fun w' hb => On.below (ptSolid hE) h7 hb
            have HCt : Hid (∀ m, Calls Try.prog 23 #[.pointer (some ⟨xa, 0, none⟩)] (w7.drewN m) fun e w' => e = .returned (.int .i64 S1.cl.length) ∧ w' = w7.drewN m) := Lib.hid fun m =>
              (pt_count hE (HOn7.out _ (bel_drewN (Below.refl _ _) m))).mono fun _ _ h => ⟨h.1, h.2.symm⟩
            have HLv : Hid (∀ m, Calls Try.prog 25 #[.pointer (some ⟨xa, 0, none⟩)] (w7.drewN m) fun e w' => e = .returned (.int .i64 hh) ∧ w' = w7.drewN m) := Lib.hid fun m => by
              rw [hhd, ← hhe]
              exact (pt_level hE (HOn7.out _ (bel_drewN (Below.refl _ _) m))).mono fun _ _ h => ⟨h.1, h.2.symm⟩
            clear hhe hhd
            go_wp2_with fail
            go_quiet (first | (go_at_call 23; exact Calls.quiet_of_same (HCt.out _)) | (go_at_call 25; exact Calls.quiet_of_same (HLv.out _)))
            have h8 := HOn7.out _ (bel_drewN (Below.refl w7.heap.size w7) nq)
            generalize w7.drewN nq = w8 at *
            obtain ⟨x0, x1, x2⟩ := HBox.out _ _ _ _ _ h8
            clear p0 p1 p2 HCt HLv h7 HOn7
            go_wp2_with fail
            go_loopw [22] (fun s wr => ∃ (k4 : Nat) (z : Int), k4 ≤ S1.cl.length + 2 ∧ s = .int .i64 z ∧ z = (k4 : Int) - 1 ∧ On w wr (PT E xa n t1 S1 xr xt es1 S1.cl)) (fun s _ => ((S1.cl.length : Int) + 1 - intOf s).toNat)
            case atStart => exact ⟨0, _, by omega, rfl, by omega, h8⟩
            case round =>
              obtain ⟨k4, z, hk4, rfl, hzz, h9⟩ := hrel
              have hzr : -1 ≤ z := by omega
              have hkr : S1.cl.length < z → k4 = S1.cl.length + 2 := fun h => by omega
              have HZz := Lib.hid hzz
              clear hzz hkr
              obtain ⟨p0, ⟨aL, cL, p1⟩, p2⟩ := pr_cells hE h9
              by_cases hzl : z ≤ (S1.cl.length : Int)
              · have hzd : decide (z ≤ (S1.cl.length : Int)) = true := by simpa using hzl
                have HCa := Lib.hid (pt_clause hE h9 (by omega) z)
                obtain ⟨c0, hc0⟩ : ∃ c0, c0 = clauseS S1 z := ⟨_, rfl⟩
                rw [← hc0] at HCa
                have hcl1 : S1.cl.length ≤ 1000 := by have := (pt_ok hE h9).cl; omega
                have hc40 : c0.length ≤ 40 := by
                  have hok := (pt_ok hE h9).lens
                  rw [hc0]
                  unfold clauseS
                  split
                  · simp
                  · rw [List.getD_eq_getElem?_getD]
                    cases hq : S1.cl[z.toNat]? with
                    | none => simp
                    | some d => exact hok d (List.mem_of_getElem? hq)
                have HCb : Hid (∀ w5 v, On w w5 (PT (E.and (nums v c0)) xa n t1 S1 xr xt es1 S1.cl) → ∃ av capv, v = .slice av c0.length capv ∧ Ints w5 av c0 ∧ Calls Try.prog 29 #[.pointer (some ⟨xr, 0, none⟩), .int .i64 z] w5 fun e w' => ∃ ao cap, e = .returned (.slice ao c0.length cap) ∧ Ints w' ao c0 ∧ w5 = w') := Lib.hid fun w5 v h5 => by
                  obtain ⟨Fz, ⟨hnz, _⟩, _⟩ := (ptN hE (xa := xa) (n := n) (t := t1) (S := S1) (xr := xr) (xt := xt) (es := es1) (cl := S1.cl)).use h5
                  obtain ⟨av, capv, e, hI⟩ := hnz.ints
                  have h6 := on_rclause (ptA (hE.and (Solid.nums v c0))) h5 hcl1 z
                  rw [show (if z < 0 then [] else S1.cl.getD z.toNat []) = c0 from hc0.symm] at h6
                  exact ⟨av, capv, e, hI, h6⟩
                have HC0 := Lib.hid hc0
                clear hc0 h9
                go_wp2_with (first
                  | (go_at_call 27; (with_reducible refine HCa.out.mono ?_); rintro e w5 ⟨v, rfl, h5⟩; obtain ⟨av, capv, rfl, hI5, hq5⟩ := HCb.out _ _ h5; have HQ5 := Lib.hid hq5; clear hq5)
                  | (go_at_call 29; (with_reducible refine HQ5.out.mono ?_); rintro e w6 ⟨ao6, cap6, rfl, hI6, rfl⟩)
                  | (go_at_call 28; (with_reducible refine (num_same c0 _ _ _ _ _ hI5 hI6 hc40).mono ?_); rintro e w7 ⟨rfl, hb7⟩; have h6 := On.below (ptSolid (hE.and (Solid.nums _ _))) h5 hb7; clear hI5 hI6 h5 hb7 HQ5))
                go_loopw [24] (fun s wr => ∃ (q : Nat) (lst : List Int), q ≤ c0.length ∧ s = .int .i64 q ∧ lst.length = c0.length ∧ On w wr (PT (E.and (nums (.slice av c0.length capv) lst)) xa n t1 S1 xr xt es1 S1.cl)) (fun s _ => c0.length - (intOf s).toNat)
                case atStart => exact ⟨0, c0, by omega, rfl, rfl, h6⟩
                case round =>
                  obtain ⟨q, lst, hq, rfl, hll, hz⟩ := hrel
                  by_cases hql : q < c0.length
                  · have hqi : (q : Int) < (c0.length : Int) := by omega
                    obtain ⟨Fz, hnz, hgz⟩ := (ptN hE (xa := xa) (n := n) (t := t1) (S := S1) (xr := xr) (xt := xt) (es := es1) (cl := S1.cl)).use hz
                    have hfz := hnz
                    obtain ⟨oz, _⟩ := hfz
                    obtain ⟨az, cz, ez, _, _, hfz⟩ := oz.form
                    injection ez with ez1 ez2 ez3
                    obtain ⟨bz, offz, ez4, _⟩ := hfz (by omega)
                    rw [ez4] at ez1
                    subst ez1
                    obtain ⟨z1, z2', z3⟩ := goes_zero q (by omega) hnz
                    obtain ⟨xq, z2⟩ : ∃ xq, wr.cell? ⟨bz, offz + q, none⟩ = some (.int .i64 xq) := ⟨_, z2'⟩
                    clear z2'
                    have HZ := Lib.hid (hgz _ _ z3)
                    have HLL := Lib.hid hll
                    clear hz hnz hgz oz hfz z3 ez2 ez3 ez4 hll
                    go_wp2_with fail
                    go_roundw
                    case rel => exact ⟨q + 1, lst.set q 0, by omega, by go_num, by rw [List.length_set]; exact HLL.out, HZ.out⟩
                    case measure => simp [intOf]; omega
                  · obtain rfl : q = c0.length := by omega
                    have h7 := pt_less hz
                    clear hz
                    go_wp2_with fail
                    go_roundw
                    case rel => exact ⟨k4 + 1, z + 1, by have := HZz.out; omega, by go_num, by have := HZz.out; omega, h7⟩
                    case measure => simp [intOf]; omega
              · have hzd : decide (z ≤ (S1.cl.length : Int)) = false := by simpa using hzl
                have h10 := HLs.out _ _ _ _ _ h9
                clear h9
                go_wp2_with fail
                go_roundw
                case rel => exact ⟨k + 1, t1, S1, es1, by omega, by omega, by go_num, h10, HT7⟩
                case measure => simp [intOf]; omega
          · have f2 : (kd == 2) = false := by simpa using e2
            obtain ⟨⟨S1, r⟩, hP1⟩ : ∃ r, propS S = r := ⟨_, rfl⟩
            obtain ⟨⟨b2, es1⟩, hP2⟩ : ∃ r, propR n S.cl (n + 1) es = r := ⟨_, rfl⟩
            have hpr := prop_ref hok.inv (b := es) (by rw [hok.n]; exact HTw.out)
            rw [hok.n, hP1, hP2] at hpr
            simp only at hpr
            obtain ⟨pr1, pr2⟩ := hpr
            have hcm := (prop_spec hok.inv).1
            rw [hP1] at hcm
            have hScl : S1.cl = S.cl := hcm.cl
            have hconf : r < S.cl.length := by
              by_cases h0 : 0 ≤ r
              · exact (hcm.conf h0).1
              · have : (0 : Int) ≤ (S.cl.length : Int) := by omega
                omega
            have hge : Good n es1 := by
              have h1 := (propR_spec (n := n) (cl := S.cl) (fun d hd => by have := hok.inv.known d hd; rwa [hok.n] at this) (n + 1) es HTw.out.gb (by omega)).2.1
              rw [hP2] at h1
              exact h1
            have HGe := Lib.hid hge
            have HP1 := Lib.hid hP1
            have HPr : Hid (∀ w2, On w w2 (PT E xa n (t + 1) S1 xr xt es S.cl) → Calls Try.prog 22 #[.pointer (some ⟨xr, 0, none⟩)] w2 fun e w' => e = .returned (.bool b2) ∧ On w w' (PT E xa n (t + 1) S1 xr xt es1 S.cl)) := Lib.hid fun w2 h2 => by
              have := on_rprop (ptA hE) h2 HTw.out.gb hn hcl1 fun d hd => ⟨by have := hok.inv.known d hd; rwa [hok.n] at this, hok.lens d hd⟩
              rw [hP2] at this
              exact this
            have f3 : decide ((S.cl.length : Int) ≤ r) = false := by simp; omega
            have hkd3 : decide (2 < kd) = true := by simp; omega
            have HScl := Lib.hid hScl
            clear hP1 hP2 hcm hScl hconf hok hge
            by_cases hr0 : 0 ≤ r
            · obtain rfl := pr1.2 hr0
              have f4 : decide (0 ≤ r) = true := by simpa using hr0
              have HCt : Hid (∀ w2, On w w2 (PT E xa n (t + 1) S1 xr xt es1 S.cl) → Calls Try.prog 23 #[.pointer (some ⟨xa, 0, none⟩)] w2 fun e w' => e = .returned (.int .i64 S.cl.length) ∧ w2 = w') := Lib.hid fun w2 h2 => by
                have := pt_count hE h2
                rwa [HScl.out] at this
              have hgr : Hid (∀ w2, On w w2 (PT E xa n (t + 1) S1 xr xt es1 S.cl) → Calls Try.prog 24 #[.pointer (some ⟨xt, 0, none⟩), .slice none 0 0] w2 fun e w' => e = .returned (.tuple #[.int .i64 2, .int .i64 0]) ∧ w2 = w') := Lib.hid fun w2 h2 => by
                obtain ⟨F, ⟨a, _⟩, _⟩ := (triT (ptA hE) xr xt S.cl).use h2
                have := rreads_any w2 F xt n es1 a HGe.out hn none [] 0 (fun h => absurd h (by simp)) (by simp) (fun x hx => by simp at hx)
                exact this
              clear pr1 pr2
              go_wp2_with (first
                | (go_at_call 14; (with_reducible refine (pt_prop hE h4 hn (by omega) HP1.out).mono ?_); rintro e w5 ⟨rfl, h5⟩)
                | (go_at_call 22; (with_reducible refine (HPr.out _ h5).mono ?_); rintro e w6 ⟨rfl, h6⟩; obtain ⟨p0, _, _⟩ := pr_cells hE h6)
                | (go_at_call 23; (with_reducible refine (HCt.out _ h6).mono ?_); rintro e w7 ⟨rfl, rfl⟩)
                | (go_at_call 24; (with_reducible refine (hgr.out _ h6).mono ?_); rintro e w7 ⟨rfl, rfl⟩; have hb6 := h6.bel)
                | (go_at_call 9; (with_reducible refine (awake_any _).mono ?_); rintro e w8 ⟨rfl, hb8⟩))
              go_ret
              exact ⟨rfl, bel_new hb6 hb6.size hb8⟩
            · obtain rfl : b2 = false := by
                cases b2
                · rfl
                · exact absurd (pr1.1 rfl) hr0
              have f4 : decide (0 ≤ r) = false := by simpa using hr0
              have HTw1 := Lib.hid (pr2 (by omega))
              have HCt : Hid (∀ w2, On w w2 (PT E xa n (t + 1) S1 xr xt es1 S.cl) → Calls Try.prog 23 #[.pointer (some ⟨xa, 0, none⟩)] w2 fun e w' => e = .returned (.int .i64 S.cl.length) ∧ w2 = w') := Lib.hid fun w2 h2 => by
                have := pt_count hE h2
                rwa [HScl.out] at this
              clear pr1 pr2
              go_wp2_with (first
                | (go_at_call 14; (with_reducible refine (pt_prop hE h4 hn (by omega) HP1.out).mono ?_); rintro e w5 ⟨rfl, h5⟩)
                | (go_at_call 22; (with_reducible refine (HPr.out _ h5).mono ?_); rintro e w7 ⟨rfl, h7⟩)
                | (go_at_call 23; (with_reducible refine (HCt.out _ h7).mono ?_); rintro e w8 ⟨rfl, rfl⟩))
              rw [← HScl.out] at h7
              obtain ⟨t1, ht1⟩ : ∃ t1, t1 = t + 1 := ⟨_, rfl⟩
              rw [← ht1] at h7
              clear HP1 HPr HCt h4 h5 HScl
              have HT7 : Hid (LTwin n S1.es es1) := HTw1
              have hhe := HT7.out.hi
              obtain ⟨hh, hhd⟩ : ∃ hh, hh = hi es1 := ⟨_, rfl⟩
              obtain ⟨p0, ⟨aL, cL, p1⟩, p2⟩ := pr_cells hE h7
              rw [← hhd] at p2
              have HOn7 : Hid (∀ w', Below w7.heap.size w7 w' → On w w' (PT E xa n t1 S1 xr xt es1 S1.cl)) := Lib.hid fun w' hb => On.below (ptSolid hE) h7 hb
              have HCt : Hid (∀ m, Calls Try.prog 23 #[.pointer (some ⟨xa, 0, none⟩)] (w7.drewN m) fun e w' => e = .returned (.int .i64 S1.cl.length) ∧ w' = w7.drewN m) := Lib.hid fun m =>
                (pt_count hE (HOn7.out _ (bel_drewN (Below.refl _ _) m))).mono fun _ _ h => ⟨h.1, h.2.symm⟩
              have HLv : Hid (∀ m, Calls Try.prog 25 #[.pointer (some ⟨xa, 0, none⟩)] (w7.drewN m) fun e w' => e = .returned (.int .i64 hh) ∧ w' = w7.drewN m) := Lib.hid fun m => by
                rw [hhd, ← hhe]
                exact (pt_level hE (HOn7.out _ (bel_drewN (Below.refl _ _) m))).mono fun _ _ h => ⟨h.1, h.2.symm⟩
              clear hhe hhd
              go_wp2_with fail
              go_quiet (first | (go_at_call 23; exact Calls.quiet_of_same (HCt.out _)) | (go_at_call 25; exact Calls.quiet_of_same (HLv.out _)))
              have h8 := HOn7.out _ (bel_drewN (Below.refl w7.heap.size w7) nq)
              generalize w7.drewN nq = w8 at *
              obtain ⟨x0, x1, x2⟩ := HBox.out _ _ _ _ _ h8
              clear p0 p1 p2 HCt HLv h7 HOn7
              go_wp2_with fail
              go_loopw [21] (fun s wr => ∃ j : Nat, 1 ≤ j ∧ j ≤ n + 1 ∧ s = .int .i64 j ∧ On w wr (PT E xa n t1 S1 xr xt es1 S1.cl)) (fun s _ => n + 1 - (intOf s).toNat)
              case atStart => exact ⟨1, by omega, by omega, rfl, h8⟩
              case round =>
                obtain ⟨j, hj1, hj2, rfl, h9⟩ := hrel
                by_cases hjn : j ≤ n
                · have hjni : (j : Int) ≤ (n : Int) := by omega
                  have hwj : IntKind.i64.wrap (-(j : Int)) = -(j : Int) := by rw [IntKind.wrap_i64]; omega
                  obtain ⟨p0, _, _⟩ := pr_cells hE h9
                  have HOn9 : Hid (∀ m, On w (wr.drewN m) (PT E xa n t1 S1 xr xt es1 S1.cl)) := Lib.hid fun m => On.below (ptSolid hE) h9 (bel_drewN (Below.refl _ _) m)
                  obtain ⟨v1, hv1⟩ : ∃ v, v = valE n S1.es (j : Int) := ⟨_, rfl⟩
                  obtain ⟨v2, hv2⟩ : ∃ v, v = valE n S1.es (-(j : Int)) := ⟨_, rfl⟩
                  have HA1 : Hid (∀ m, Calls Try.prog 15 #[.pointer (some ⟨xa, 0, none⟩), .int .i64 (j : Int)] (wr.drewN m) fun e w' => e = .returned (.int .i64 v1) ∧ w' = wr.drewN m) := Lib.hid fun m => by
                    rw [hv1]
                    exact (pt_value hE (HOn9.out m) hn (j : Int) (by unfold I64; omega)).mono fun _ _ h => ⟨h.1, h.2.symm⟩
                  have HA2 : Hid (∀ m, Calls Try.prog 15 #[.pointer (some ⟨xa, 0, none⟩), .int .i64 (-(j : Int))] (wr.drewN m) fun e w' => e = .returned (.int .i64 v2) ∧ w' = wr.drewN m) := Lib.hid fun m => by
                    rw [hv2]
                    exact (pt_value hE (HOn9.out m) hn (-(j : Int)) (by unfold I64; omega)).mono fun _ _ h => ⟨h.1, h.2.symm⟩
                  have HB1 : Hid (∀ m, Calls Try.prog 26 #[.pointer (some ⟨xt, 0, none⟩), .int .i64 (j : Int)] (wr.drewN m) fun e w' => e = .returned (.int .i64 v1) ∧ w' = wr.drewN m) := Lib.hid fun m => by
                    rw [hv1, HT7.out.top]
                    exact (pr_value hE (HOn9.out m) HT7.out.gb hn (j : Int) (by unfold I64; omega)).mono fun _ _ h => ⟨h.1, h.2.symm⟩
                  have HB2 : Hid (∀ m, Calls Try.prog 26 #[.pointer (some ⟨xt, 0, none⟩), .int .i64 (-(j : Int))] (wr.drewN m) fun e w' => e = .returned (.int .i64 v2) ∧ w' = wr.drewN m) := Lib.hid fun m => by
                    rw [hv2, HT7.out.top]
                    exact (pr_value hE (HOn9.out m) HT7.out.gb hn (-(j : Int)) (by unfold I64; omega)).mono fun _ _ h => ⟨h.1, h.2.symm⟩
                  clear hv1 hv2 h9
                  go_wp2_with fail
                  go_quiet (first
                    | (go_at_call 15; (with_reducible exact Calls.quiet_of_same (HA1.out _)))
                    | (go_at_call 15; (with_reducible exact Calls.quiet_of_same (HA2.out _)))
                    | (go_at_call 26; (with_reducible exact Calls.quiet_of_same (HB1.out _)))
                    | (go_at_call 26; (with_reducible exact Calls.quiet_of_same (HB2.out _))))
                  have h10 := HOn9.out nq
                  go_wp2_with fail
                  go_roundw
                  case rel => exact ⟨j + 1, by omega, by omega, by go_num, h10⟩
                  case measure => simp [intOf]; omega
                · have hjd : decide ((j : Int) ≤ (n : Int)) = false := by simp; omega
                  obtain ⟨w8, rfl⟩ : ∃ w8 : World, w8 = wr := ⟨_, rfl⟩
                  have h8 := h9
                  clear h9
                  go_wp2_with fail
                  go_loopw [22] (fun s wr => ∃ (k4 : Nat) (z : Int), k4 ≤ S1.cl.length + 2 ∧ s = .int .i64 z ∧ z = (k4 : Int) - 1 ∧ On w wr (PT E xa n t1 S1 xr xt es1 S1.cl)) (fun s _ => ((S1.cl.length : Int) + 1 - intOf s).toNat)
                  case atStart => exact ⟨0, _, by omega, rfl, by omega, h8⟩
                  case round =>
                    obtain ⟨k4, z, hk4, rfl, hzz, h9⟩ := hrel
                    have hzr : -1 ≤ z := by omega
                    have hkr : S1.cl.length < z → k4 = S1.cl.length + 2 := fun h => by omega
                    have HZz := Lib.hid hzz
                    clear hzz hkr
                    obtain ⟨p0, ⟨aL, cL, p1⟩, p2⟩ := pr_cells hE h9
                    by_cases hzl : z ≤ (S1.cl.length : Int)
                    · have hzd : decide (z ≤ (S1.cl.length : Int)) = true := by simpa using hzl
                      have HCa := Lib.hid (pt_clause hE h9 (by omega) z)
                      obtain ⟨c0, hc0⟩ : ∃ c0, c0 = clauseS S1 z := ⟨_, rfl⟩
                      rw [← hc0] at HCa
                      have hcl1 : S1.cl.length ≤ 1000 := by have := (pt_ok hE h9).cl; omega
                      have hc40 : c0.length ≤ 40 := by
                        have hok := (pt_ok hE h9).lens
                        rw [hc0]
                        unfold clauseS
                        split
                        · simp
                        · rw [List.getD_eq_getElem?_getD]
                          cases hq : S1.cl[z.toNat]? with
                          | none => simp
                          | some d => exact hok d (List.mem_of_getElem? hq)
                      have HCb : Hid (∀ w5 v, On w w5 (PT (E.and (nums v c0)) xa n t1 S1 xr xt es1 S1.cl) → ∃ av capv, v = .slice av c0.length capv ∧ Ints w5 av c0 ∧ Calls Try.prog 29 #[.pointer (some ⟨xr, 0, none⟩), .int .i64 z] w5 fun e w' => ∃ ao cap, e = .returned (.slice ao c0.length cap) ∧ Ints w' ao c0 ∧ w5 = w') := Lib.hid fun w5 v h5 => by
                        obtain ⟨Fz, ⟨hnz, _⟩, _⟩ := (ptN hE (xa := xa) (n := n) (t := t1) (S := S1) (xr := xr) (xt := xt) (es := es1) (cl := S1.cl)).use h5
                        obtain ⟨av, capv, e, hI⟩ := hnz.ints
                        have h6 := on_rclause (ptA (hE.and (Solid.nums v c0))) h5 hcl1 z
                        rw [show (if z < 0 then [] else S1.cl.getD z.toNat []) = c0 from hc0.symm] at h6
                        exact ⟨av, capv, e, hI, h6⟩
                      have HC0 := Lib.hid hc0
                      clear hc0 h9
                      go_wp2_with (first
                        | (go_at_call 27; (with_reducible refine HCa.out.mono ?_); rintro e w5 ⟨v, rfl, h5⟩; obtain ⟨av, capv, rfl, hI5, hq5⟩ := HCb.out _ _ h5; have HQ5 := Lib.hid hq5; clear hq5)
                        | (go_at_call 29; (with_reducible refine HQ5.out.mono ?_); rintro e w6 ⟨ao6, cap6, rfl, hI6, rfl⟩)
                        | (go_at_call 28; (with_reducible refine (num_same c0 _ _ _ _ _ hI5 hI6 hc40).mono ?_); rintro e w7 ⟨rfl, hb7⟩; have h6 := On.below (ptSolid (hE.and (Solid.nums _ _))) h5 hb7; clear hI5 hI6 h5 hb7 HQ5))
                      go_loopw [24] (fun s wr => ∃ (q : Nat) (lst : List Int), q ≤ c0.length ∧ s = .int .i64 q ∧ lst.length = c0.length ∧ On w wr (PT (E.and (nums (.slice av c0.length capv) lst)) xa n t1 S1 xr xt es1 S1.cl)) (fun s _ => c0.length - (intOf s).toNat)
                      case atStart => exact ⟨0, c0, by omega, rfl, rfl, h6⟩
                      case round =>
                        obtain ⟨q, lst, hq, rfl, hll, hz⟩ := hrel
                        by_cases hql : q < c0.length
                        · have hqi : (q : Int) < (c0.length : Int) := by omega
                          obtain ⟨Fz, hnz, hgz⟩ := (ptN hE (xa := xa) (n := n) (t := t1) (S := S1) (xr := xr) (xt := xt) (es := es1) (cl := S1.cl)).use hz
                          have hfz := hnz
                          obtain ⟨oz, _⟩ := hfz
                          obtain ⟨az, cz, ez, _, _, hfz⟩ := oz.form
                          injection ez with ez1 ez2 ez3
                          obtain ⟨bz, offz, ez4, _⟩ := hfz (by omega)
                          rw [ez4] at ez1
                          subst ez1
                          obtain ⟨z1, z2', z3⟩ := goes_zero q (by omega) hnz
                          obtain ⟨xq, z2⟩ : ∃ xq, wr.cell? ⟨bz, offz + q, none⟩ = some (.int .i64 xq) := ⟨_, z2'⟩
                          clear z2'
                          have HZ := Lib.hid (hgz _ _ z3)
                          have HLL := Lib.hid hll
                          clear hz hnz hgz oz hfz z3 ez2 ez3 ez4 hll
                          go_wp2_with fail
                          go_roundw
                          case rel => exact ⟨q + 1, lst.set q 0, by omega, by go_num, by rw [List.length_set]; exact HLL.out, HZ.out⟩
                          case measure => simp [intOf]; omega
                        · obtain rfl : q = c0.length := by omega
                          have h7 := pt_less hz
                          clear hz
                          go_wp2_with fail
                          go_roundw
                          case rel => exact ⟨k4 + 1, z + 1, by have := HZz.out; omega, by go_num, by have := HZz.out; omega, h7⟩
                          case measure => simp [intOf]; omega
                    · have hzd : decide (z ≤ (S1.cl.length : Int)) = false := by simpa using hzl
                      have h10 := HLs.out _ _ _ _ _ h9
                      clear h9
                      go_wp2_with fail
                      go_roundw
                      case rel => exact ⟨k + 1, t1, S1, es1, by omega, by omega, by go_num, h10, HT7⟩
                      case measure => simp [intOf]; omega
    · obtain rfl : k = l.length := by omega
      have hb := hr.bel
      clear hr
      go_wp2_with (go_at_call 9; (with_reducible refine (awake_any _).mono ?_); rintro e w31 ⟨rfl, hb31⟩)
      go_ret
      exact ⟨rfl, bel_new hb hb.size hb31⟩

end Go.Proofs.Ytnachllhjojlcaa
