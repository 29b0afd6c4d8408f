/- LearnTeaches: the walk, joined. -/
import Derived.Test.YthfmlmodpcikcaaU22
namespace Go.Proofs.Ythfmlmodpcikcaa
open Go.ChangeShapes Go.WideShapes Go.ChangeAt Go.RowKit Go.Maps Go.Deep
set_option maxRecDepth 100000

set_option maxHeartbeats 8000000 in
theorem teaches_main (n : Nat) (hn : n ≤ 200) (ao : Option Addr) (l : List Step2D) (cap b off : Nat) (ac : Option Addr) (cls : List (List Int)) (cc : Nat) (conflict : Int) (w : World) (hl : IsSteps2 w w.heap.size ao b off l)
    (hc : IsCls w ac cls) (hlg : largeB cls l.length = false) (hl1 : cls.length ≤ 9223372036854775807) (hl2 : ∀ c ∈ cls, c.length ≤ 140737488351232) (hi64 : ∀ c ∈ cls, ∀ x ∈ c, I64 x) :
    Calls Try.prog 4 #[.int .i64 n, .slice ao l.length cap, .slice ac cls.length cc, .int .i64 conflict] w fun e w' => e = .returned (.bool true) ∧ Below w.heap.size w w' := by
  obtain ⟨i3, hi3, hz0, hz1, hz2⟩ := info_parts (P := Try.prog) (e := 3) (z := .int .i64 0) (size := 1) (bytes := 8) (by kernel_rfl)
  obtain ⟨iS, hiS, hs0, hs1, hs2⟩ := info_parts (P := Try.prog) (e := 30) (z := .slice none 0 0) (size := 1) (bytes := 24) (by kernel_rfl)
  obtain ⟨g1, g2, g3⟩ := large_no hlg
  have HLg : Hid (Calls Try.prog 11 #[.slice ac cls.length cc, .slice ao l.length cap] w fun e w' => e = .returned (.bool false) ∧ w = w') := Lib.hid (by
    have h := large_any cls ac ao cc l.length cap w hc hl1 hl2
    rwa [hlg] at h)
  have h0 : Trails w w (fun _ => False) [] := Trails.none (Below.refl _ _)
  have HN := Lib.hid (new_tr h0 (by omega : n ≤ 5000))
  have hd3 : decide ((200 : Int) < (n : Int)) = false := by simp; omega
  have HL := Lib.hid hl
  have HC := Lib.hid hc
  have HC2 := Lib.hid g2
  have H64 := Lib.hid hi64
  clear h0 hl hc hlg hl1 hl2 hi64 g2
  go_enter Try.func4, Try.ntmps4
  go_wp2_with (first
    | (go_at_call 11; refine HLg.out.mono ?_; rintro e w' ⟨rfl, rfl⟩)
    | (go_at_call 12; refine HN.out.mono ?_; rintro e w1 ⟨g, rfl, h1, hb1⟩)
    | (go_at_call 13; refine (rnew_any n _ (by omega)).mono ?_; rintro e w2 ⟨x, rfl, hR2, hb2, hx1, hx2⟩))
  have h2 : Trails w w2 (fun k => k = x) [(g, trE n [])] := Trails.withX h1 hb2 fun k hk => .inr (by subst hk; exact ⟨hx1, hx2⟩)
  have hxw : w.heap.size ≤ x := Nat.le_trans h1.bel.size hx1
  clear h1 hb1 hb2 hx1 hx2 HN HLg
  go_loopw [13] (fun i wr => ∃ (k : Nat) (X : Nat → Prop), k ≤ l.length ∧ i = .int .i64 k ∧ Trails w wr X [(g, trE n (madeE n [] (l.take k)))] ∧ RefA wr X x n (madeE n [] (l.take k)) ∧ ∀ j, X j → w.heap.size ≤ j) (fun i _ => l.length - (intOf i).toNat)
  case atStart => exact ⟨0, _, by omega, rfl, h2, hR2, fun j hj => by subst hj; exact hxw⟩
  case round =>
    obtain ⟨k, X, hk, rfl, hT, hR, hX⟩ := hrel
    by_cases hlt : k < l.length
    · have hl2 := HL.out.below hT.bel
      obtain ⟨rfl, hbB⟩ := hl2.ptr (by omega)
      have hwf := hl2.wf k hlt
      have hsu := madeE_succ n [] l k hlt
      have hgd := madeE_good (n := n) (l.take k) (es := []) trivial
      generalize madeE n [] (l.take k) = es at *
      have HQ : Hid (∀ w', Below w.heap.size w w' → w'.cell? ⟨b, off + k * 2, none⟩ = some (.int .i64 l[k].lit) ∧ w'.cell? ⟨b, off + k * 2 + 1, none⟩ = some (.int .i64 l[k].reason)) := Lib.hid fun w' h => by
        have h3 := HL.out.below h
        exact ⟨h3.lit k hlt, h3.reason k hlt⟩
      generalize l[k] = s at *
      obtain ⟨y, r⟩ := s
      simp only at HQ hwf
      simp only [step2C] at hsu
      have hki : (k : Int) < (l.length : Int) := by omega
      have HG := Lib.hid hgd
      have HY := Lib.hid hwf.1
      have HX := Lib.hid hX
      by_cases hr : r < 0
      · have hr2 : decide (r < 0) = true := by simpa using hr
        rw [if_pos hr] at hsu
        obtain ⟨cd, es', hcd⟩ : ∃ cd es', decC n es y = (cd, es') := ⟨_, _, rfl⟩
        rw [hcd] at hsu
        have HD := Lib.hid hcd
        have HS := Lib.hid hsu
        obtain ⟨q1, q2⟩ := HQ.out wr hT.bel
        have HT := Lib.hid hT
        have HR := Lib.hid hR
        clear hsu hwf hl2 hT hR hX hr hcd hgd
        go_wp2_with (first
          | (go_at_call 14; (with_reducible refine (decide_eq' (g := g) (n := n) (es := es) HT.out 0 (by kernel_rfl) HG.out (by omega) y HY.out cd es' HD.out).mono ?_); rintro e u2 ⟨rfl, t2, v2⟩; have r2 := HR.out.keep v2; obtain ⟨p1, p2⟩ := HQ.out u2 t2.bel)
          | (go_at_call 15; (with_reducible refine (rdecide_eq r2 HG.out (by omega) y HY.out cd es' HD.out).mono ?_); rintro e u5 ⟨rfl, X', r5, to5, x5⟩; have t5 := t2.ref to5 HX.out x5))
        go_roundw
        case rel =>
          refine ⟨k + 1, X', by omega, by go_num, by rw [HS.out]; exact t5, by rw [HS.out]; exact r5, fun j hj => ?_⟩
          rcases x5 j hj with h | h
          · exact HX.out j h
          · have := t2.bel.size; omega
        case measure => simp [intOf]; omega
      · have hr2 : decide (r < 0) = false := by simpa using hr
        rw [if_neg hr] at hsu
        obtain ⟨cd, es', hcd⟩ : ∃ cd es', asnC n es y r = (cd, es') := ⟨_, _, rfl⟩
        rw [hcd] at hsu
        have HD := Lib.hid hcd
        have HS := Lib.hid hsu
        obtain ⟨W5, hW5⟩ : ∃ W5, W5 = wr.drew := ⟨_, rfl⟩
        have b5 : Below wr.heap.size wr W5 := by rw [hW5]; exact bel_drewN (Below.refl _ _) 1
        obtain ⟨q1, q2⟩ := HQ.out wr hT.bel
        have T5 := Lib.hid (hT.below b5)
        have R5 := Lib.hid (hR.below b5)
        obtain ⟨s1, s2⟩ := HQ.out W5 T5.out.bel
        clear hsu hwf hl2 hT hR hX hr hcd hgd b5
        go_upto_region 13 with fail
        refine wp_region_still_tail 11 (by kernel_rfl) (by kernel_rfl) ?_
        change wpStill _ _ (World.drew wr) (fun a' => wpList _ _ _ _ a' (World.drew wr)) _ _
        rw [← hW5]
        clear hW5
        simp only [List.take_succ_cons, List.take_zero, List.drop_succ_cons, List.drop_zero]
        repeat still_step
        refine wpStill_nil ?_
        go_upto_region 14 with (go_at_call 16; (with_reducible refine (assign_eq' (g := g) (n := n) (es := es) T5.out 0 (by kernel_rfl) HG.out (by omega) y r HY.out cd es' HD.out).mono ?_); rintro e u5 ⟨rfl, t5, v5⟩; have r5 := R5.out.keep v5; clear q1 q2 s1 s2)
        obtain ⟨W6, hW6⟩ : ∃ W6, W6 = u5.drew := ⟨_, rfl⟩
        have b6 : Below u5.heap.size u5 W6 := by rw [hW6]; exact bel_drewN (Below.refl _ _) 1
        have T6 := Lib.hid (t5.below b6)
        have R6 := Lib.hid (r5.below b6)
        obtain ⟨s1, s2⟩ := HQ.out W6 T6.out.bel
        obtain ⟨p1, p2⟩ := HQ.out u5 t5.bel
        clear b6 t5 r5 v5
        refine wp_region_still_tail 11 (by kernel_rfl) (by kernel_rfl) ?_
        change wpStill _ _ (World.drew u5) (fun a' => wpList _ _ _ _ a' (World.drew u5)) _ _
        rw [← hW6]
        clear hW6
        simp only [List.take_succ_cons, List.take_zero, List.drop_succ_cons, List.drop_zero]
        repeat still_step
        refine wpStill_nil ?_
        go_wp2_with (go_at_call 17; (with_reducible refine (rassign_eq R6.out HG.out (by omega) y r HY.out cd es' HD.out).mono ?_); rintro e u7 ⟨rfl, X', r7, to7, x7⟩; have t7 := T6.out.ref to7 HX.out x7)
        go_roundw
        case rel =>
          refine ⟨k + 1, X', by omega, by go_num, by rw [HS.out]; exact t7, by rw [HS.out]; exact r7, fun j hj => ?_⟩
          rcases x7 j hj with h | h
          · exact HX.out j h
          · have := T6.out.bel.size; omega
        case measure => simp [intOf]; omega
    · obtain rfl : k = l.length := by omega
      rw [List.take_length] at hT hR
      have hgd := madeE_good (n := n) l (es := []) trivial
      generalize madeE n [] l = es at *
      obtain ⟨R, hRR⟩ : ∃ R, R = learnE n es cls conflict := ⟨_, rfl⟩
      obtain ⟨u, rfl⟩ : ∃ u : World, u = wr := ⟨_, rfl⟩
      have HG := Lib.hid hgd
      have HT := Lib.hid hT
      have HR := Lib.hid hR
      have HBu := Lib.hid hT.bel
      have HRR := Lib.hid hRR
      clear hT hR hX hgd hRR h2 hR2 hxw HL
      go_wp2_with fail
      go_loopw [14, 15] (fun s i wq => ∃ (vs : List Value) (a : Option Addr) (c : Nat), vs.length ≤ cls.length ∧ i = .int .i64 vs.length ∧ s = .slice a vs.length c ∧ Hid (Own wq 30 1 (.slice a vs.length c) vs.length vs) ∧ Hid (RowsOf u.heap.size wq vs cls) ∧ Hid (∀ k, (Value.slice a vs.length c).ownBlock = some k → u.heap.size ≤ k) ∧ Hid (Below u.heap.size u wq)) (fun _ i _ => cls.length - (intOf i).toNat)
      case atStart => exact ⟨[], none, 0, by simp, rfl, rfl, Lib.hid (Own.nil _ _ _), Lib.hid fun j hj => absurd hj (by simp), Lib.hid fun k hk => by simp [Value.ownBlock] at hk, Lib.hid (Below.refl _ _)⟩
      case round =>
        obtain ⟨vs, a, c, hvl, rfl, rfl, HO, HRo, HK, HB⟩ := hrel
        by_cases hlt : vs.length < cls.length
        · have hki : (vs.length : Int) < (cls.length : Int) := by omega
          have hcq := HC.out.below (bel_new HBu.out HBu.out.size HB.out)
          obtain ⟨bc, oc, rfl, _, hcell⟩ := hcq (by omega)
          obtain ⟨a', c', hck, hck2⟩ := hcell vs.length hlt
          have hcl := HC2.out cls[vs.length] (List.getElem_mem _)
          have hB1 : Below wr.heap.size wr (wr.alloc (.cells #[] 3)) := (Below.refl _ _).alloc (Nat.le_refl _) _
          have eA := Lib.hid (show Own (wr.alloc (.cells #[] 3)) 3 1 (.slice (some ⟨wr.heap.size, 0, none⟩) 0 0) 0 [] from Own.made wr 3 1 #[] 0 rfl (by decide))
          have hic : Ints wr a' cls[vs.length] := hck2
          have sA := Lib.hid (ints_src c' (hic.below hB1))
          have HPush : Hid (∀ w' a2 c2, RowsOf u.heap.size w' vs cls → NewInts u.heap.size w' a2 c2 cls[vs.length] → RowsOf u.heap.size w' (vs ++ [.slice a2 cls[vs.length].length c2]) cls) := Lib.hid fun w' a2 c2 h1 h2 => h1.push hlt h2
          have HB1 := Lib.hid hB1
          generalize cls[vs.length] = cl at *
          clear hcell hck2 hcq hB1 hic
          go_wp2_with (first
            | (at_builtin; refine wpList_append_S _ rfl (.tmp 108) (.tmp 112) _ _ rfl 3 i3 _ 1 8 Try.underlying30 hi3 hz0 hz1 hz2 rfl (by omega) (.slice (some ⟨wr.heap.size, 0, none⟩) 0 0) 0 [] rfl eA.out (by simp) (.slice a' cl.length c') cl.length (inC cl) rfl sA.out (by simp only [maxLen]; omega) (by omega) ?_; intro ao1 cap1 w1 hn1 hm1 hown1 hg1 hat1 hlt1; simp only [Nat.zero_add, List.nil_append] at hown1 hat1 hn1 hlt1
               have hb1 : Below wr.heap.size wr w1 := grow_below HB1.out hg1 (by simp [Value.ownBlock]) HB1.out.size
               have HW1 := Lib.hid hb1
               have HN1 : Hid (NewInts u.heap.size w1 ao1 cap1 cl) := Lib.hid ⟨hown1, fun k hk => by
                 have h5 := HB.out.size
                 rcases hat1 with e | e
                 · rw [e] at hk
                   simp [Value.ownBlock] at hk
                   omega
                 · rw [e] at hk
                   injection hk with hk
                   simp at hk
                   omega⟩
               have HO1 := Lib.hid (HO.out.new hb1)
               have HR1 := Lib.hid (HRo.out.below hb1)
               clear hown1 hg1 hat1 hlt1 hn1 hm1 hb1 sA eA)
            | (at_builtin; refine wpList_append_S _ rfl (.tmp 107) (.tmp 114) _ _ rfl 30 iS _ 1 24 Try.underlying31 hiS hs0 hs1 hs2 rfl (by omega) (.slice a vs.length c) vs.length vs rfl (HO1.out.alloc (.cells #[.slice ao1 cl.length cap1] 30)) HRo.out.one _ 1 [_] rfl (src_new w1 Try.underlying31 30 _ rfl) (by simp only [maxLen]; omega) (by omega) ?_; intro ao2 cap2 w2 hn2 hm2 hown2 hg2 hat2 hlt2
               have H2 := Lib.hid hown2
               have G2 := Lib.hid hg2
               have A2 := Lib.hid hat2
               clear hown2 hg2 hat2 hlt2 hn2 hm2))
          go_roundw
          case rel =>
            have hal : Below w1.heap.size w1 (w1.alloc (.cells #[.slice ao1 cl.length cap1] 30)) := (Below.refl _ _).alloc (Nat.le_refl _) _
            have hN2 := HN1.out.below hal
            have hR2 := HR1.out.below hal
            have hO2 := HO1.out.new hal
            have e1 : (vs ++ [Value.slice ao1 cl.length cap1]).length = vs.length + 1 := by simp
            have hN3 : NewInts u.heap.size w2 ao1 cap1 cl := ⟨hN2.1.grown G2.out (Own.ne_own hN2.1 hO2 (by decide)), hN2.2⟩
            have hR3 := HPush.out _ _ _ (hR2.grown hO2 G2.out) hN3
            have hBB : Below u.heap.size u (w1.alloc (.cells #[.slice ao1 cl.length cap1] 30)) := bel_new HB.out HB.out.size (bel_trans HW1.out hal)
            refine ⟨vs ++ [.slice ao1 cl.length cap1], ao2, cap2, by rw [e1]; omega, by rw [e1]; go_num, by rw [e1], Lib.hid (by rw [e1]; exact H2.out), Lib.hid hR3, Lib.hid fun k hk => ?_, Lib.hid (grow_below hBB G2.out HK.out hBB.size)⟩
            rw [e1] at hk
            rcases A2.out with e | e
            · exact HK.out k (e ▸ hk)
            · rw [e] at hk
              injection hk with hk
              have h5 := hBB.size
              omega
          case measure => simp [intOf]; omega
        · have hvl2 : vs.length = cls.length := by omega
          have hIs := HRo.out.cls hvl2 HO.out
          have HIs := Lib.hid hIs
          rw [hvl2]
          obtain ⟨u2, rfl⟩ : ∃ u2 : World, u2 = wr := ⟨_, rfl⟩
          have HC2' := Lib.hid (HC.out.below (bel_new HBu.out HBu.out.size HB.out))
          have HT2 := Lib.hid (HT.out.below HB.out)
          have HR2 := Lib.hid (HR.out.below HB.out)
          have HLn := Lib.hid (learn_ints2 cls ac cc conflict HT2.out 0 rfl HG.out (by omega) HC2'.out (fun c hc => by have := HC2.out c hc; omega) (by omega) R HRR.out.symm)
          have HRl : Hid (∀ u3, Below u2.heap.size u2 u3 → Calls Try.prog 19 #[.pointer (some ⟨x, 0, none⟩), .slice ac cls.length cc, .int .i64 conflict] u3 fun e w' => LearnRet u3 e w' R) := Lib.hid fun u3 hb => by
            have h := rlearn_any X x n es cls ac cc conflict u3 (HR2.out.below hb) HG.out (by omega) (HC2'.out.below hb) (fun c hc => by have := HC2.out c hc; omega) (by omega) H64.out
            rwa [← HRR.out] at h
          obtain ⟨r1, rb, r2, re⟩ := R
          simp only [LearnRet] at HLn HRl
          have hU2 := Lib.hid (bel_new HBu.out HBu.out.size HB.out)
          clear hIs hvl2 hvl hlt HO HRo HK HRR
          go_upto_region 22 with (first
            | (go_at_call 18; refine HLn.out.mono ?_; rintro e u3 ⟨a1, c1, a2, c2, rfl, i1, i2, hb3, l1, l2⟩)
            | (go_at_call 19; refine (HRl.out _ hb3).mono ?_; rintro e u4 ⟨a3, c3, a4, c4, rfl, i3, i4, hb4⟩))
          have hb24 := bel_trans hb3 hb4
          have J1 := Lib.hid (i1.below hb4)
          have J2 := Lib.hid (i2.below hb4)
          have J3 := Lib.hid i3
          have J4 := Lib.hid i4
          have HT4 := Lib.hid (HT2.out.below hb24)
          obtain ⟨vL, hbk, hO, _, _⟩ := HR2.out.below hb24
          obtain ⟨aoL, capL, rfl, -, -, -⟩ := hO.form
          have k1 := hbk.cell 1
          have k2 := hbk.cell 2
          simp at k1 k2
          have HIs4 := Lib.hid (HIs.out.below hb24)
          have HC4 := Lib.hid (HC2'.out.below hb24)
          have HU4 := Lib.hid (bel_new hU2.out hU2.out.size hb24)
          have HNa : Hid (∀ m, Calls Try.prog 20 #[.slice a1 r1.length c1, .slice a3 r1.length c3] (u4.drewN m) fun e w' => e = .returned (.bool true) ∧ ∃ j, w' = (u4.drewN m).drewN j) := Lib.hid fun m =>
            numbers_quiet r1 r1 a1 a3 c1 c3 (u4.drewN m) (J1.out.below (bel_drewN (Below.refl _ _) m)) (J3.out.below (bel_drewN (Below.refl _ _) m)) rfl l1
          have HNb : Hid (∀ m, Calls Try.prog 20 #[.slice a2 r2.length c2, .slice a4 r2.length c4] (u4.drewN m) fun e w' => e = .returned (.bool true) ∧ ∃ j, w' = (u4.drewN m).drewN j) := Lib.hid fun m =>
            numbers_quiet r2 r2 a2 a4 c2 c4 (u4.drewN m) (J2.out.below (bel_drewN (Below.refl _ _) m)) (J4.out.below (bel_drewN (Below.refl _ _) m)) rfl l2
          have HLe : Hid (∀ m, Calls Try.prog 21 #[.pointer (some ⟨g, 0, none⟩)] (u4.drewN m) fun e w' => e = .returned (.int .i64 es.length) ∧ w' = u4.drewN m) := Lib.hid fun m =>
            (len_tr (HT4.out.below (bel_drewN (Below.refl _ _) m)) 0 rfl).mono fun _ _ h => ⟨h.1, h.2.symm⟩
          have HLv : Hid (∀ m, Calls Try.prog 22 #[.pointer (some ⟨g, 0, none⟩)] (u4.drewN m) fun e w' => e = .returned (.int .i64 (hi es)) ∧ w' = u4.drewN m) := Lib.hid fun m =>
            (level_tr (HT4.out.below (bel_drewN (Below.refl _ _) m)) 0 rfl HG.out).mono fun _ _ h => ⟨h.1, h.2.symm⟩
          generalize hi es = hv at *
          clear hb24 hb3 hb4 i1 i2 i3 i4 hbk hO l1 l2
          go_quiet (first
            | (go_at_call 20; (with_reducible exact Calls.quiet_of (HNa.out _)))
            | (go_at_call 20; (with_reducible exact Calls.quiet_of (HNb.out _)))
            | (go_at_call 21; exact Calls.quiet_of_same (HLe.out _))
            | (go_at_call 22; exact Calls.quiet_of_same (HLv.out _)))
          have HU5 : Hid (Below u4.heap.size u4 (u4.drewN nq)) := Lib.hid (bel_drewN (Below.refl _ _) nq)
          clear k1 k2 HNa HNb HLe HLv
          obtain ⟨u5, hu5⟩ : ∃ u5, u5 = u4.drewN nq := ⟨_, rfl⟩
          rw [← hu5] at HU5 ⊢
          clear hu5
          go_wp2_with fail
          go_loopw [24] (fun i wz => ∃ k m : Nat, k ≤ cls.length ∧ i = .int .i64 k ∧ Hid (wz = u5.drewN m)) (fun i _ => cls.length - (intOf i).toNat)
          case atStart => exact ⟨0, 0, by omega, rfl, Lib.hid rfl⟩
          case round =>
            obtain ⟨k, m, hk, rfl, HW⟩ := hrel
            have hB5 : Below u4.heap.size u4 wr := by rw [HW.out]; exact bel_drewN HU5.out m
            by_cases hkl : k < cls.length
            · have hki : (k : Int) < (cls.length : Int) := by omega
              obtain ⟨bw, ow, rfl, _, hcw⟩ := HIs4.out.below hB5 (by omega)
              obtain ⟨aw, cw, hw1, hw2⟩ := hcw k hkl
              obtain ⟨bc, oc, rfl, _, hcc⟩ := HC4.out.below hB5 (by omega)
              obtain ⟨ax, cx, hx1, hx2⟩ := hcc k hkl
              have hcl := HC2.out cls[k] (List.getElem_mem _)
              have HNn : Hid (∀ m, Calls Try.prog 20 #[.slice aw cls[k].length cw, .slice ax cls[k].length cx] (wr.drewN m) fun e w' => e = .returned (.bool true) ∧ ∃ j, w' = (wr.drewN m).drewN j) := Lib.hid fun m =>
                numbers_quiet cls[k] cls[k] aw ax cw cx (wr.drewN m) (Ints.below hw2 (bel_drewN (Below.refl _ _) m)) (Ints.below hx2 (bel_drewN (Below.refl _ _) m)) rfl (by omega)
              generalize cls[k] = cl at *
              clear hcw hcc hw2 hx2 hB5
              go_wp2_with fail
              go_quiet ((go_at_call 20; exact Calls.quiet_of (HNn.out _)))
              go_wp2_with fail
              go_roundw
              case rel => exact ⟨k + 1, m + nq, by omega, by go_num, Lib.hid (by rw [HW.out, World.drewN_drewN])⟩
              case measure => simp [intOf]; omega
            · obtain rfl : k = cls.length := by omega
              have HB6 := Lib.hid (bel_new HU4.out HU4.out.size hB5)
              clear hB5
              go_wp2_with fail
              go_ret
              exact ⟨rfl, HB6.out⟩

theorem teaches_walk (vars : Int) (hv : (Lit.int .i64 vars).wf = true) (ao : Option Addr) (l : List Step2D) (cap b off : Nat) (ac : Option Addr) (cls : List (List Int)) (cc : Nat) (conflict : Int) (_hcf : (Lit.int .i64 conflict).wf = true) (w : World) (hl : IsSteps2 w w.heap.size ao b off l)
    (hc : IsCls w ac cls) (hl1 : cls.length ≤ 9223372036854775807) (hl2 : ∀ c ∈ cls, c.length ≤ 140737488351232) (hi64 : ∀ c ∈ cls, ∀ x ∈ c, I64 x) :
    Calls Try.prog 4 #[.int .i64 vars, .slice ao l.length cap, .slice ac cls.length cc, .int .i64 conflict] w fun e w' => e = .returned (.bool true) ∧ Below w.heap.size w w' := by
  have hv' := wf_i64b hv
  have HLg : Hid (Calls Try.prog 11 #[.slice ac cls.length cc, .slice ao l.length cap] w fun e w' => e = .returned (.bool (largeB cls l.length)) ∧ w = w') :=
    Lib.hid (large_any cls ac ao cc l.length cap w hc hl1 hl2)
  by_cases hlg : largeB cls l.length = true
  · rw [hlg] at HLg
    clear hc hl hlg hl2 hi64
    go_enter Try.func4, Try.ntmps4
    go_wp2_with (go_at_call 11; refine HLg.out.mono ?_; rintro e w' ⟨rfl, rfl⟩)
    go_ret
    exact ⟨rfl, Below.refl _ _⟩
  · have hlg2 : largeB cls l.length = false := by simpa using hlg
    by_cases h10 : 200 < vars
    · rw [hlg2] at HLg
      clear hc hl hlg hl2 hlg2 hi64
      go_enter Try.func4, Try.ntmps4
      go_wp2_with (go_at_call 11; refine HLg.out.mono ?_; rintro e w' ⟨rfl, rfl⟩)
      go_ret
      exact ⟨rfl, Below.refl _ _⟩
    · by_cases h0 : vars < 0
      · rw [hlg2] at HLg
        have hd1 : decide (200 < vars) = false := by simpa using h10
        have h4 := fun W => Lib.hid (new_bad vars W (.inl h0))
        have h5 := fun W => Lib.hid (rnew_bad vars W h0)
        clear hc hl hlg hl2 hlg2 hi64
        go_enter Try.func4, Try.ntmps4
        go_wp2_with (first
          | (go_at_call 11; refine HLg.out.mono ?_; rintro e w' ⟨rfl, rfl⟩)
          | (go_at_call 12; refine (h4 _).out.mono ?_; rintro r w1 ⟨rfl, rfl⟩)
          | (go_at_call 13; refine (h5 _).out.mono ?_; rintro r w1 ⟨rfl, rfl⟩))
        go_ret
        exact ⟨rfl, Below.refl _ _⟩
      · obtain ⟨n, rfl⟩ := Int.eq_ofNat_of_zero_le (by omega : 0 ≤ vars)
        exact teaches_main n (by omega) ao l cap b off ac cls cc conflict w hl hc hlg2 hl1 hl2 hi64

end Go.Proofs.Ythfmlmodpcikcaa
