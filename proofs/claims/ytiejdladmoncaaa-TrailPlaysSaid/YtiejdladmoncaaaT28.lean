/- TrailPlays: the walk. -/
import Derived.Test.YtiejdladmoncaaaT27
import Derived.StillTailTactics
namespace Go.Proofs.Ytiejdladmoncaaa
open Go.ChangeShapes Go.WideShapes Go.ChangeAt Go.RowKit
set_option maxRecDepth 100000

/-- The other blocks are written, and grow. -/
theorem Trails.ref {w0 w w' : World} {X X' : Nat → Prop} {L : List (Nat × TrD)} (h : Trails w0 w X L) (ht : Touch X w w') (hX : ∀ k, X k → w0.heap.size ≤ k) (hX' : ∀ k, X' k → X k ∨ (w.heap.size ≤ k ∧ k < w'.heap.size)) : Trails w0 w' X' L := by
  have h1 := h.foreign ht hX
  have h2 := h.xlt
  have hb := h1.bel
  obtain ⟨_, _, o, a3, a4, a5, a6, a7⟩ := h
  refine ⟨hb, fun k hk => ?_, o, fun i g T hi => (a3 i g T hi).other ht (a7 i), a4, a5, fun i k hk => Nat.lt_of_lt_of_le (a6 i k hk) ht.size, fun i k hk hx => ?_⟩
  · rcases hX' k hk with h | h
    · exact Nat.lt_of_lt_of_le (h2 k h) ht.size
    · exact h.2
  · rcases hX' k hx with h | h
    · exact a7 i k hk h
    · have := a6 i k hk; omega
theorem Trails.first {w0 w : World} {X : Nat → Prop} {a b : Nat × TrD} (h : Trails w0 w X [a, b]) : Trails w0 w X [a] := by
  obtain ⟨h1, h2, o, a3, a4, a5, a6, a7⟩ := h
  refine ⟨h1, h2, o, fun i g T hi => a3 i g T ?_, a4, a5, a6, a7⟩
  cases i with
  | zero => exact hi
  | succ i => simp at hi

section
variable {w0 w : World} {X : Nat → Prop} {L : List (Nat × TrD)} {g n x : Nat} {es : List En}
theorem do_eq (h : Trails w0 w X L) (i : Nat) (hL : L[i]? = some (g, trE n es)) (hg : Good n es) (hn : n ≤ 5000) (k y r : Int) (hs : (⟨k, y, r⟩ : StepD).wf) (c : Int) (es' : List En) (hc : doC n es ⟨k, y, r⟩ = (c, es')) :
    Calls Try.prog 20 #[.agg #[.int .u8 k, .int .i64 y, .int .i64 r], .pointer (some ⟨g, 0, none⟩)] w fun e w' => e = .returned (.int .i64 c) ∧ Trails w0 w' X (L.set i (g, trE n es')) ∧ Touch (fun k => ¬ X k) w w' := by
  have := do_tr h i hL hg hn k y r hs
  rwa [hc] at this
theorem rdecide_eq (hR : RefA w X x n es) (hg : Good n es) (hn : n ≤ 5000) (y : Int) (hy : I64 y) (c : Int) (es' : List En) (hc : decC n es y = (c, es')) :
    Calls Try.prog 25 #[.pointer (some ⟨x, 0, none⟩), .int .i64 y] w fun e w' => e = .returned (.int .i64 c) ∧ RefUp w w' X x n es' := by
  have := rdecide_any X x n es y w hR hg hn hy
  rwa [hc] at this
theorem rassign_eq (hR : RefA w X x n es) (hg : Good n es) (hn : n ≤ 5000) (y r : Int) (hy : I64 y) (c : Int) (es' : List En) (hc : asnC n es y r = (c, es')) :
    Calls Try.prog 26 #[.pointer (some ⟨x, 0, none⟩), .int .i64 y, .int .i64 r] w fun e w' => e = .returned (.int .i64 c) ∧ RefUp w w' X x n es' := by
  have := rassign_any X x n es y r w hR hg hn hy
  rwa [hc] at this
theorem rback_eq (hR : RefA w X x n es) (hg : Good n es) (hn : n ≤ 5000) (y : Int) (hy : I64 y) (c : Int) (es' : List En) (hc : backC es y = (c, es')) :
    Calls Try.prog 27 #[.pointer (some ⟨x, 0, none⟩), .int .i64 y] w fun e w' => e = .returned (.int .i64 c) ∧ RefUp w w' X x n es' := by
  have := rback_any X x n es y w hR hg hn hy
  rwa [hc] at this
theorem RefA.keep {w' : World} (h : RefA w X x n es) (ht : Touch (fun k => ¬ X k) w w') : RefA w' X x n es := h.touch ht fun _ hk hn => hn hk
end

set_option maxHeartbeats 4000000 in
theorem plays_main (n : Nat) (hn : n ≤ 5000) (ao : Option Addr) (l : List StepD) (cap b off : Nat) (w : World) (hl : IsSteps w w.heap.size ao b off l) (hll : l.length ≤ 200) :
    Calls Try.prog 7 #[.int .i64 n, .slice ao l.length cap] w fun e w' => e = .returned (.bool true) ∧ Below w.heap.size w w' := by
  have h0 : Trails w w (fun _ => False) [] := Trails.none (Below.refl _ _)
  have HN := Lib.hid (new_tr h0 hn)
  have hA1 : ¬ (200 : Int) < (l.length : Int) := by omega
  have hD1 : decide ((200 : Int) < (l.length : Int)) = false := by simpa using hA1
  have hA3 : ¬ (5000 : Int) < (n : Int) := by omega
  have hD3 : decide ((5000 : Int) < (n : Int)) = false := by simpa using hA3
  have HL := Lib.hid hl
  clear h0 hl
  go_enter Try.func7, Try.ntmps7
  go_wp2_with (first
    | (go_at_call 23; refine HN.out.mono ?_; rintro e w1 ⟨g, rfl, h1, hb1⟩)
    | (go_at_call 24; refine (rnew_any n _ hn).mono ?_; rintro e w2 ⟨x, rfl, hR2, hb2, hx1, hx2⟩))
  have h2 : Trails w w2 (fun k => k = x) [(g, trE n [])] := Trails.withX h1 hb2 fun k hk => .inr (by subst hk; exact ⟨hx1, hx2⟩)
  have hxw : w.heap.size ≤ x := Nat.le_trans h1.bel.size hx1
  clear h1 hb1 hb2 hx1 hx2
  go_loopw [9] (fun i wr => ∃ (k : Nat) (X : Nat → Prop), k ≤ l.length ∧ i = .int .i64 k ∧ Trails w wr X [(g, trE n (playE n [] (l.take k)))] ∧ RefA wr X x n (playE n [] (l.take k)) ∧ ∀ j, X j → w.heap.size ≤ j) (fun i _ => l.length - (intOf i).toNat)
  case atStart => exact ⟨0, _, by omega, rfl, h2, hR2, fun j hj => by subst hj; exact hxw⟩
  case round =>
    obtain ⟨k, X, hk, rfl, hT, hR, hX⟩ := hrel
    by_cases hlt : k < l.length
    · have hl2 := HL.out.below hT.bel
      obtain ⟨rfl, hbB⟩ := hl2.ptr (by omega)
      have hwf := hl2.wf k hlt
      have hsu := playE_succ n [] l k hlt
      have hgd := playE_good (n := n) (l.take k) (es := []) trivial
      generalize playE n [] (l.take k) = es at *
      have HC : Hid (∀ w', Below w.heap.size w w' → w'.cell? ⟨b, off + k * 3, none⟩ = some (.int .u8 l[k].kind) ∧ w'.cell? ⟨b, off + k * 3 + 1, none⟩ = some (.int .i64 l[k].lit) ∧ w'.cell? ⟨b, off + k * 3 + 2, none⟩ = some (.int .i64 l[k].reason)) := Lib.hid fun w' h => by
        have h3 := HL.out.below h
        exact ⟨h3.kind k hlt, h3.lit k hlt, h3.reason k hlt⟩
      generalize l[k] = s at *
      obtain ⟨kd, y, r⟩ := s
      simp only at HC
      obtain ⟨cd, hcd⟩ : ∃ cd, (doC n es ⟨kd, y, r⟩).1 = cd := ⟨_, rfl⟩
      obtain ⟨es', hes⟩ : ∃ es', (doC n es ⟨kd, y, r⟩).2 = es' := ⟨_, rfl⟩
      have hdo : doC n es ⟨kd, y, r⟩ = (cd, es') := by rw [← hcd, ← hes]
      rw [hes] at hsu
      have hgd' : Good n es' := by rw [← hes]; exact doC_good _ hgd
      have HG := Lib.hid hgd
      have HG' := Lib.hid hgd'
      have HD := Lib.hid hdo
      have HS := Lib.hid hsu
      have hy := hwf.lit
      have HY := Lib.hid hy
      have HW := Lib.hid hwf
      have hkd := hwf.kind
      simp only at hkd
      have hki : (k : Int) < (l.length : Int) := by omega
      -- the copy, and what is done to it
      obtain ⟨c1, e1, hc1⟩ : ∃ c e, decC n es 1 = (c, e) := ⟨_, _, rfl⟩
      have hg1 : Good n e1 := by have h := decC_good 1 hgd; rw [hc1] at h; exact h
      obtain ⟨c2, e2, hc2⟩ : ∃ c e, asnC n e1 (-2) 5 = (c, e) := ⟨_, _, rfl⟩
      have hg2 : Good n e2 := by have h := asnC_good (-2) 5 hg1; rw [hc2] at h; exact h
      obtain ⟨c3, e3, hc3⟩ : ∃ c e, backC e2 0 = (c, e) := ⟨_, _, rfl⟩
      have H1 := Lib.hid hc1
      have H2 := Lib.hid hc2
      have H3 := Lib.hid hc3
      have G1 := Lib.hid hg1
      have G2 := Lib.hid hg2
      have HT := Lib.hid hT
      have HR := Lib.hid hR
      have HX := Lib.hid hX
      clear hc1 hc2 hc3 hg1 hg2 hT hR hX hwf hy hl2 hsu hgd hgd' hdo hcd hes
      go_upto_region 15 with (first
        | (go_at_call 16; (with_reducible refine (copy_tr (g := g) (n := n) (es := es) HT.out 0 (by kernel_rfl) HG.out hn).mono ?_); rintro e u1 ⟨c, rfl, t1, v1⟩; have r1 := HR.out.below v1)
        | (go_at_call 18; (with_reducible refine (decide_eq' (g := c) (n := n) (es := es) t1 1 (by kernel_rfl) HG.out hn 1 (by unfold I64; omega) c1 e1 H1.out).mono ?_); rintro e u2 ⟨rfl, t2, v2⟩; have r2 := r1.keep v2)
        | (go_at_call 17; (with_reducible refine (assign_eq' (g := c) (n := n) (es := e1) t2 1 (by kernel_rfl) G1.out hn (-2) 5 (by unfold I64; omega) c2 e2 H2.out).mono ?_); rintro e u3 ⟨rfl, t3, v3⟩; have r3 := r2.keep v3)
        | (go_at_call 21; (with_reducible refine (back_eq' (g := c) (n := n) (es := e2) t3 1 (by kernel_rfl) G2.out hn 0 (by unfold I64; omega) c3 e3 H3.out).mono ?_); rintro e u4 ⟨rfl, t4, v4⟩; have r4 := r3.keep v4))
      have t4' : Trails w u4 X [(g, trE n es), (c, trE n e3)] := t4
      obtain ⟨q1, q2, q3⟩ := HC.out u4 t4'.bel
      have h4 := t4'
      clear t1 t2 t3 t4 t4' r1 r2 r3 v1 v2 v3 v4 HT HR
      have HQ : Hid (∀ w', Below w.heap.size w w' → w'.cell? ⟨b, off + k * 3, none⟩ = some (.int .u8 kd) ∧ w'.cell? ⟨b, off + k * 3 + 1, none⟩ = some (.int .i64 y) ∧ w'.cell? ⟨b, off + k * 3 + 2, none⟩ = some (.int .i64 r)) := HC
      have H4 := Lib.hid h4
      have R4 := Lib.hid r4
      clear HC h4 r4
      by_cases hk0 : kd = 0
      · subst hk0
        have hdec : decC n es y = (cd, es') := by
          have h := HD.out
          simpa only [doC, if_true] using h
        have HDC := Lib.hid hdec
        clear hdec
        go_wp2_with (first
          | (go_at_call 25; (with_reducible refine (rdecide_eq R4.out HG.out hn y HY.out cd es' HDC.out).mono ?_); rintro e u5 ⟨rfl, X', r5, to5, x5⟩; have t5 := H4.out.ref to5 HX.out x5; obtain ⟨p1, p2, p3⟩ := HQ.out u5 t5.bel)
          | (go_at_call 20; (with_reducible refine (do_eq t5 0 (by kernel_rfl) HG.out hn 0 y r HW.out cd es' HD.out).mono ?_); rintro e u6 ⟨rfl, t6, v6⟩; have r6 := r5.keep v6)
          | (go_at_call 28; (with_reducible refine (like_any 0 g x n es' _ t6 (by kernel_rfl) r6 HG'.out hn).mono ?_); rintro e u7 ⟨rfl, v7⟩; have t7 := t6.below v7; have r7 := r6.below v7))
        go_roundw
        case rel =>
          refine ⟨k + 1, X', by omega, by go_num, by rw [HS.out]; exact Trails.first t7, by rw [HS.out]; exact r7, fun j hj => ?_⟩
          rcases x5 j hj with h | h
          · exact HX.out j h
          · have := H4.out.bel.size;  omega
        case measure => simp [intOf]; omega
      · have hk0' : (kd == 0) = false := by simpa using hk0
        by_cases hk1 : kd = 1
        · subst hk1
          have hasn : asnC n es y r = (cd, es') := by
            have h := HD.out
            simp only [doC] at h
            rw [if_neg (by decide), if_pos trivial] at h
            exact h
          have HAS := Lib.hid hasn
          clear hasn
          obtain ⟨W5, hW5⟩ : ∃ W5, W5 = u4.drew := ⟨_, rfl⟩
          have b5 : Below u4.heap.size u4 W5 := by rw [hW5]; exact bel_drewN (Below.refl _ _) 1
          have T5 := Lib.hid (H4.out.below b5)
          have R5 := Lib.hid (R4.out.below b5)
          obtain ⟨s1, s2, s3⟩ := HQ.out W5 T5.out.bel
          go_upto_region 20 with fail
          refine wp_region_still_tail 11 (by kernel_rfl) (by kernel_rfl) ?_
          change wpStill _ _ (World.drew u4) (fun a' => wpList _ _ _ _ a' (World.drew u4)) _ _
          rw [← hW5]
          have HB5 := Lib.hid b5
          clear hW5 b5
          simp only [List.take_succ_cons, List.take_zero, List.drop_succ_cons, List.drop_zero]
          repeat still_step
          refine wpStill_nil ?_
          go_wp2_with (first
            | (go_at_call 26; (with_reducible refine (rassign_eq R5.out HG.out hn y r HY.out cd es' HAS.out).mono ?_); rintro e u5 ⟨rfl, X', r5, to5, x5⟩; have t5 := T5.out.ref to5 HX.out x5; obtain ⟨p1, p2, p3⟩ := HQ.out u5 t5.bel)
            | (go_at_call 20; (with_reducible refine (do_eq t5 0 (by kernel_rfl) HG.out hn 1 y r HW.out cd es' HD.out).mono ?_); rintro e u6 ⟨rfl, t6, v6⟩; have r6 := r5.keep v6)
            | (go_at_call 28; (with_reducible refine (like_any 0 g x n es' _ t6 (by kernel_rfl) r6 HG'.out hn).mono ?_); rintro e u7 ⟨rfl, v7⟩; have t7 := t6.below v7; have r7 := r6.below v7))
          go_roundw
          case rel =>
            refine ⟨k + 1, X', by omega, by go_num, by rw [HS.out]; exact Trails.first t7, by rw [HS.out]; exact r7, fun j hj => ?_⟩
            rcases x5 j hj with h | h
            · exact HX.out j h
            · have := H4.out.bel.size; have := HB5.out.size; omega
          case measure => simp [intOf]; omega
        · have hk1' : (kd == 1) = false := by simpa using hk1
          have hbk : backC es y = (cd, es') := by
            have h := HD.out
            simpa only [doC, if_neg hk0, if_neg hk1] using h
          have HBK := Lib.hid hbk
          clear hbk
          go_wp2_with (first
            | (go_at_call 27; (with_reducible refine (rback_eq R4.out HG.out hn y HY.out cd es' HBK.out).mono ?_); rintro e u5 ⟨rfl, X', r5, to5, x5⟩; have t5 := H4.out.ref to5 HX.out x5; obtain ⟨p1, p2, p3⟩ := HQ.out u5 t5.bel)
            | (go_at_call 20; (with_reducible refine (do_eq t5 0 (by kernel_rfl) HG.out hn kd y r HW.out cd es' HD.out).mono ?_); rintro e u6 ⟨rfl, t6, v6⟩; have r6 := r5.keep v6)
            | (go_at_call 28; (with_reducible refine (like_any 0 g x n es' _ t6 (by kernel_rfl) r6 HG'.out hn).mono ?_); rintro e u7 ⟨rfl, v7⟩; have t7 := t6.below v7; have r7 := r6.below v7))
          go_roundw
          case rel =>
            refine ⟨k + 1, X', by omega, by go_num, by rw [HS.out]; exact Trails.first t7, by rw [HS.out]; exact r7, fun j hj => ?_⟩
            rcases x5 j hj with h | h
            · exact HX.out j h
            · have := H4.out.bel.size;  omega
          case measure => simp [intOf]; omega
    · obtain rfl : k = l.length := by omega
      rw [List.take_length] at hT hR
      have hgd := playE_good (n := n) l (es := []) trivial
      generalize playE n [] l = es at *
      have HG := Lib.hid hgd
      have HT := Lib.hid hT
      have HR := Lib.hid hR
      clear hT hR hX hgd
      go_wp2_with (first
        | (go_at_call 16; (with_reducible refine (copy_tr (g := g) (n := n) (es := es) HT.out 0 (by kernel_rfl) HG.out hn).mono ?_); rintro e u1 ⟨c, rfl, t1, v1⟩; have r1 := HR.out.below v1)
        | (go_at_call 28; (with_reducible refine (like_any 1 c x n es _ t1 (by kernel_rfl) r1 HG.out hn).mono ?_); rintro e u2 ⟨rfl, v2⟩))
      go_ret
      exact ⟨rfl, (t1.below v2).bel⟩

theorem plays_walk (vars : Int) (hv : (Lit.int .i64 vars).wf = true) (ao : Option Addr) (l : List StepD) (cap b off : Nat) (w : World) (hl : IsSteps w w.heap.size ao b off l) :
    Calls Try.prog 7 #[.int .i64 vars, .slice ao l.length cap] w fun e w' => e = .returned (.bool true) ∧ Below w.heap.size w w' := by
  have hv' := wf_i64b hv
  by_cases hb1 : 200 < l.length
  · have h1 : (200 : Int) < (l.length : Int) := by omega
    go_enter Try.func7, Try.ntmps7
    go_wp2_with fail
    go_ret
    exact ⟨rfl, Below.refl _ _⟩
  · have h1 : ¬ (200 : Int) < (l.length : Int) := by omega
    have h2 : decide ((200 : Int) < (l.length : Int)) = false := by simpa using h1
    by_cases hb2 : 5000 < vars
    · go_enter Try.func7, Try.ntmps7
      go_wp2_with fail
      go_ret
      exact ⟨rfl, Below.refl _ _⟩
    · have h3 : decide (5000 < vars) = false := by simpa using hb2
      by_cases hb3 : vars < 0
      · have h4 := fun W => Lib.hid (new_bad vars W (.inl hb3))
        have h5 := fun W => Lib.hid (rnew_bad vars W hb3)
        go_enter Try.func7, Try.ntmps7
        go_wp2_with (first
          | (go_at_call 23; refine (h4 _).out.mono ?_; rintro r w1 ⟨rfl, rfl⟩)
          | (go_at_call 24; refine (h5 _).out.mono ?_; rintro r w1 ⟨rfl, rfl⟩))
        go_ret
        exact ⟨rfl, Below.refl _ _⟩
      · obtain ⟨n, rfl⟩ := Int.eq_ofNat_of_zero_le (by omega : 0 ≤ vars)
        exact plays_main n (by omega) ao l cap b off w hl (by omega)

end Go.Proofs.Ytiejdladmoncaaa
