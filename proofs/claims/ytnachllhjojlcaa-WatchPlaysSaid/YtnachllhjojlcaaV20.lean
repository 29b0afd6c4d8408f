/- Numbers; a trail beside whatever else; WatchCopies' walk. -/
import Derived.Test.YtnachllhjojlcaaV19
namespace Go.Proofs.Ytnachllhjojlcaa
open Go.ChangeShapes Go.WideShapes Go.ChangeAt Go.RowKit Go.Maps Go.Deep
set_option maxRecDepth 100000

theorem drop_ne (a b : List Int) (k : Nat) (h : k < a.length) (hab : a.length = b.length) : decide (a.drop k = b.drop k) = (decide (a[k] = b[k]'(by omega)) && decide (a.drop (k + 1) = b.drop (k + 1))) := by
  rw [List.drop_eq_getElem_cons h, List.drop_eq_getElem_cons (by omega : k < b.length), ← Bool.decide_and]
  exact decide_eq_decide.2 List.cons_eq_cons

theorem numbers_any (a b : List Int) (ao bo : Option Addr) (ca cb : Nat) (w : World) (ha : Ints w ao a) (hb : Ints w bo b) (hl : a.length ≤ 1000000) :
    Calls Try.prog 28 #[.slice ao a.length ca, .slice bo b.length cb] w fun e w' => e = .returned (.bool (decide (a = b))) ∧ Below w.heap.size w w' := by
  by_cases hne : a.length = b.length
  · obtain ⟨T, hT⟩ : ∃ T, T = decide (a = b) := ⟨_, rfl⟩
    rw [← hT]
    have HA := Lib.hid ha
    have HB := Lib.hid hb
    have HT := Lib.hid hT
    have HN := Lib.hid hne
    have hn2 : ((a.length : Int) != (b.length : Int)) = false := by simp [hne]
    clear ha hb hT hne
    go_enter Try.func28, Try.ntmps28
    go_wp2_with fail
    go_loopw [5] (fun x wr => ∃ k : Nat, k ≤ a.length ∧ x = .int .i64 k ∧ Hid (T = decide (a.drop k = b.drop k)) ∧ Below w.heap.size w wr) (fun x _ => a.length - (intOf x).toNat)
    case atStart => exact ⟨0, by omega, rfl, HT, Below.refl _ _⟩
    case round =>
      obtain ⟨k, hk, rfl, HTk, hBr⟩ := hrel
      by_cases hlt : k < a.length
      · have hlb : k < b.length := by have := HN.out; omega
        obtain ⟨b1, o1, rfl, hbl1, hc1⟩ := HA.out.below hBr (by omega)
        obtain ⟨b2, o2, rfl, hbl2, hc2⟩ := HB.out.below hBr (by omega)
        have hc1k := hc1 k hlt
        have hc2k := hc2 k hlb
        have hki : (k : Int) < (a.length : Int) := by omega
        have hkb : (k : Int) < (b.length : Int) := by omega
        have hTk := HTk.out
        rw [drop_ne a b k hlt HN.out] at hTk
        generalize a[k] = x at *
        generalize b[k] = y at *
        have HBr := Lib.hid hBr
        by_cases hxy : x = y
        · have hxy2 : (x != y) = false := by simpa using hxy
          have hT2 : T = decide (a.drop (k + 1) = b.drop (k + 1)) := by rw [hTk]; simp [hxy]
          have HT2 := Lib.hid hT2
          clear hT2 hTk hc1 hc2 hxy hBr HTk
          go_wp2_with fail
          go_region
          go_wp2_with fail
          go_roundw
          case rel => exact ⟨k + 1, by omega, by go_num, HT2, bel_drewN HBr.out 1⟩
          case measure => simp [intOf]; omega
        · have hxy2 : (x != y) = true := by simpa using hxy
          have hT2 : T = false := by rw [hTk]; simp [hxy]
          subst hT2
          clear hTk hc1 hc2 hxy hBr HTk
          go_wp2_with fail
          go_region
          go_wp2_with fail
          go_ret
          exact ⟨rfl, bel_drewN HBr.out 1⟩
      · obtain rfl : k = a.length := by omega
        have hT2 : T = true := by
          rw [HTk.out, HN.out]
          simp [List.drop_eq_nil_of_le (Nat.le_of_eq HN.out)]
        subst hT2
        clear HTk
        go_wp2_with fail
        go_ret
        exact ⟨rfl, hBr⟩
  · have hT : decide (a = b) = false := by
      simp
      intro e
      exact hne (by rw [e])
    rw [hT]
    have hn2 : ((a.length : Int) != (b.length : Int)) = true := by simp; omega
    clear hne ha hb hT
    go_enter Try.func28, Try.ntmps28
    go_wp2_with fail
    go_ret
    exact ⟨rfl, Below.refl _ _⟩


theorem numbers_one (n : Int) (w : World) :
    Calls Try.prog 28 #[.slice (some ⟨w.heap.size, 0, none⟩) 1 1, .slice (some ⟨w.heap.size + 1, 0, none⟩) 1 1] ((w.alloc (.cells #[.int .i64 n] 3)).alloc (.cells #[.int .i64 n] 3)) fun e w' => e = .returned (.bool true) ∧ Below w.heap.size w w' := by
  have b1 : Below w.heap.size w (w.alloc (.cells #[.int .i64 n] 3)) := (Below.refl _ _).alloc (Nat.le_refl _) _
  have b2 : Below (w.alloc (.cells #[.int .i64 n] 3)).heap.size (w.alloc (.cells #[.int .i64 n] 3)) ((w.alloc (.cells #[.int .i64 n] 3)).alloc (.cells #[.int .i64 n] 3)) := (Below.refl _ _).alloc (Nat.le_refl _) _
  have k1 := (Blk.new w 3 #[.int .i64 n]).below b2 (by simp)
  have k2 := Blk.new (w.alloc (.cells #[.int .i64 n] 3)) 3 #[.int .i64 n]
  rw [show (w.alloc (.cells #[.int .i64 n] 3)).heap.size = w.heap.size + 1 by simp] at k2
  refine (numbers_any [n] [n] _ _ 1 1 _ (fun _ => ⟨_, 0, rfl, by simp; omega, fun j hj => ?_⟩) (fun _ => ⟨_, 0, rfl, by simp, fun j hj => ?_⟩) (by simp)).mono ?_
  · match j, hj with
    | 0, _ => exact k1.cell 0
  · match j, hj with
    | 0, _ => exact k2.cell 0
  · rintro e w' ⟨rfl, hb⟩
    exact ⟨by simp, bel_trans (bel_trans b1 b2) hb⟩

section
variable {W w : World} {C : Ast → Ast} {g n : Nat} {es : List En}
theorem on_tdecide (hC : Ctx C) (h : On W w (C (trl g n es))) (hg : Good n es) (hn : n ≤ 60) (i : Int) (hi : I64 i) :
    Calls Try.prog 33 #[.pointer (some ⟨g, 0, none⟩), .int .i64 i] w fun e w' => e = .returned (.int .i64 (decC n es i).1) ∧ On W w' (C (trl g n (decC n es i).2)) := by
  obtain ⟨F, a, go⟩ := hC.use h
  refine (decide_any F g n es i w a hg (by omega) hi.1 hi.2).mono ?_
  rintro e w' ⟨rfl, hu⟩
  exact ⟨rfl, go _ _ hu⟩
theorem on_tback (hC : Ctx C) (h : On W w (C (trl g n es))) (hg : Good n es) (hn : n ≤ 60) (i : Int) (hi : I64 i) :
    Calls Try.prog 34 #[.pointer (some ⟨g, 0, none⟩), .int .i64 i] w fun e w' => e = .returned (.int .i64 (backC es i).1) ∧ On W w' (C (trl g n (backC es i).2)) := by
  obtain ⟨F, a, go⟩ := hC.use h
  refine (back_any F g n es i w a hg (by omega) hi.1 hi.2).mono ?_
  rintro e w' ⟨rfl, hu⟩
  exact ⟨rfl, go _ _ hu⟩
theorem on_tlen (hC : Ctx C) (h : On W w (C (trl g n es))) : Calls Try.prog 32 #[.pointer (some ⟨g, 0, none⟩)] w fun e w' => e = .returned (.int .i64 es.length) ∧ w = w' := by
  obtain ⟨F, a, go⟩ := hC.use h
  exact tr_len a
theorem on_tvars (hC : Ctx C) (h : On W w (C (trl g n es))) : Calls Try.prog 35 #[.pointer (some ⟨g, 0, none⟩)] w fun e w' => e = .returned (.int .i64 n) ∧ w = w' := by
  obtain ⟨F, a, go⟩ := hC.use h
  exact tr_vars a
end

theorem on_new' {W w : World} {n : Nat} (hb : Below W.heap.size W w) (hn : n ≤ 60) :
    Calls Try.prog 10 #[.int .i64 n] w fun e w' => ∃ x, e = .returned (.tuple #[.pointer (some ⟨x, 0, none⟩), .int .i64 0]) ∧ On W w' (Emp.and (wat x n 0 (newS n))) := on_new Solid.emp (On.start hb) hn

theorem decC_good' {n : Nat} {es : List En} (x : Int) (h : Good n es) : Good n (decC n es x).2 := decC_good x h

set_option maxHeartbeats 1000000 in
theorem copies_main (n : Nat) (hn : n ≤ 60) (ao : Option Addr) (l : List Stp) (cap b off : Nat) (ca : Nat → Option Addr) (cc : Nat → Nat) (lit : Int) (hlit : I64 lit) (w : World) (hl : IsStp w w.heap.size ao b off l ca cc) (hlong : longS n l = false) :
    Calls Try.prog 5 #[.int .i64 n, .slice ao l.length cap, .int .i64 lit] w fun e w' => e = .returned (.bool true) ∧ Below w.heap.size w w' := by
  obtain ⟨_, hl80, hl40⟩ := long_spec hlong
  have HL : Hid (Calls Try.prog 16 #[.int .i64 n, .slice ao l.length cap] w fun e w' => e = .returned (.bool false) ∧ w = w') := Lib.hid (by
    have := long_any n w _ ao l cap b off ca cc hl
    rwa [hlong] at this)
  have HS := Lib.hid hl
  have H40 := Lib.hid hl40
  have HX := Lib.hid hlit
  have hCw : Ctx fun A => Emp.and A := Ctx.id.right Solid.emp
  clear hl hlong hl40 hlit
  go_enter Try.func5, Try.ntmps5
  go_wp2_with (first
    | (go_at_call 16; (with_reducible refine HL.out.mono ?_); rintro e w1 ⟨rfl, rfl⟩)
    | (go_at_call 9; (with_reducible refine (awake_any _).mono ?_); rintro e w1 ⟨rfl, hb1⟩)
    | (go_at_call 10; (with_reducible refine (on_new' hb1 hn).mono ?_); rintro e w2 ⟨x, rfl, h2⟩))
  go_loopw [9] (fun s wr => ∃ (k : Nat) (S : WS), k ≤ l.length ∧ s = .int .i64 k ∧ On w wr (Emp.and (wat x n k S))) (fun s _ => l.length - (intOf s).toNat)
  case atStart => exact ⟨0, _, by omega, rfl, h2⟩
  case round =>
    obtain ⟨k, S, hk, rfl, hr⟩ := hrel
    by_cases hlt : k < l.length
    · have hS := HS.out.below hr.bel
      obtain ⟨rfl, hbB⟩ := hS.ptr (by omega)
      have hwf := hS.wf k hlt
      have hck := hS.kind k hlt
      have hcn := hS.n k hlt
      have hcs := hS.clause k hlt
      have hrow := hS.row hr.bel.size k hlt
      have h40 := H40.out _ (List.getElem_mem hlt)
      generalize l[k] = s at *
      have HD := Lib.hid (on_do hCw hr hn (by omega) (ca k) (cc k) s hwf hrow h40)
      have hki : (k : Int) < (l.length : Int) := by omega
      generalize doS S s = r at *
      obtain ⟨S', c⟩ := r
      simp only at HD
      clear hwf hrow h40 hS hr
      by_cases hc : 0 ≤ c
      · have hcd : decide (0 ≤ c) = true := by simpa using hc
        obtain ⟨S1, rfl⟩ : ∃ S1 : WS, S1 = S' := ⟨_, rfl⟩
        obtain ⟨t, ht⟩ : ∃ t, t = k + 1 := ⟨_, rfl⟩
        rw [← ht] at HD
        go_wp2_with (go_at_call 30; (with_reducible refine HD.out.mono ?_); rintro e w3 ⟨rfl, h1⟩)
        have hg := (On.ok hCw h1).inv.good
        have hgn := (On.ok hCw h1).n
        rw [hgn] at hg
        clear hgn
        have HG := Lib.hid hg
        obtain ⟨es1, he1⟩ : ∃ es1, es1 = (decC n S1.es lit).2 := ⟨_, rfl⟩
        have HG1 : Hid (Good n es1) := Lib.hid (by rw [he1]; exact decC_good lit hg)
        have HE1 := Lib.hid he1
        clear hg he1
        go_wp2_with (first
          | (go_at_call 31; (with_reducible refine (on_wtrail hCw h1 hn).mono ?_); rintro e w4 ⟨g, rfl, h4⟩)
          | (go_at_call 32; (with_reducible refine (on_tlen (Ctx.id.right (Solid.emp.and (Solid.wat x n t S1))) h4).mono ?_); rintro e w5 ⟨rfl, rfl⟩)
          | (go_at_call 25; (with_reducible refine (on_level ((Ctx.id.left (Solid.trl g n S1.es)).right Solid.emp) h4).mono ?_); rintro e w5 ⟨rfl, rfl⟩)
          | (go_at_call 33; (with_reducible refine (on_tdecide (Ctx.id.right (Solid.emp.and (Solid.wat x n t S1))) h4 HG.out hn lit HX.out).mono ?_); rintro e w5 ⟨rfl, h5⟩; rw [← HE1.out] at h5)
          | (go_at_call 34; (with_reducible refine (on_tback (Ctx.id.right (Solid.emp.and (Solid.wat x n t S1))) h5 HG1.out hn 0 (by decide)).mono ?_); rintro e w6 ⟨rfl, h6⟩)
          | (go_at_call 31; (with_reducible refine (on_wtrail ((Ctx.id.left (Solid.trl g n _)).right Solid.emp) h6 hn).mono ?_); rintro e w7 ⟨g2, rfl, h7⟩)
          | (go_at_call 32; (with_reducible refine (on_tlen (Ctx.id.right ((Solid.emp.and (Solid.wat x n t S1)).and (Solid.trl g n _))) h7).mono ?_); rintro e w8 ⟨rfl, rfl⟩)
          | (go_at_call 25; (with_reducible refine (on_level (((Ctx.id.left (Solid.trl g2 n S1.es)).left (Solid.trl g n _)).right Solid.emp) h7).mono ?_); rintro e w8 ⟨rfl, rfl⟩)
          | (go_at_call 35; (with_reducible refine (on_tvars (Ctx.id.right ((Solid.emp.and (Solid.wat x n t S1)).and (Solid.trl g n _))) h7).mono ?_); rintro e w8 ⟨rfl, rfl⟩)
          | (go_at_call 28; (with_reducible refine (numbers_one _ _).mono ?_); rintro e w9 ⟨rfl, hb9⟩))
        go_ret
        exact ⟨rfl, bel_new h7.bel h7.bel.size hb9⟩
      · have hcd : decide (0 ≤ c) = false := by simpa using hc
        go_wp2_with (go_at_call 30; (with_reducible refine HD.out.mono ?_); rintro e w3 ⟨rfl, h3⟩)
        go_roundw
        case rel => exact ⟨k + 1, S', by omega, by go_num, h3⟩
        case measure => simp [intOf]; omega
    · obtain ⟨S1, rfl⟩ : ∃ S1 : WS, S1 = S := ⟨_, rfl⟩
      obtain ⟨t, rfl⟩ : ∃ t, t = k := ⟨_, rfl⟩
      obtain rfl : t = l.length := by omega
      have h1 := hr
      clear hr
      have hg := (On.ok hCw h1).inv.good
      have hgn := (On.ok hCw h1).n
      rw [hgn] at hg
      clear hgn
      have HG := Lib.hid hg
      obtain ⟨es1, he1⟩ : ∃ es1, es1 = (decC n S1.es lit).2 := ⟨_, rfl⟩
      have HG1 : Hid (Good n es1) := Lib.hid (by rw [he1]; exact decC_good lit hg)
      have HE1 := Lib.hid he1
      clear hg he1
      go_wp2_with (first
        | (go_at_call 31; (with_reducible refine (on_wtrail hCw h1 hn).mono ?_); rintro e w4 ⟨g, rfl, h4⟩)
        | (go_at_call 32; (with_reducible refine (on_tlen (Ctx.id.right (Solid.emp.and (Solid.wat x n l.length S1))) h4).mono ?_); rintro e w5 ⟨rfl, rfl⟩)
        | (go_at_call 25; (with_reducible refine (on_level ((Ctx.id.left (Solid.trl g n S1.es)).right Solid.emp) h4).mono ?_); rintro e w5 ⟨rfl, rfl⟩)
        | (go_at_call 33; (with_reducible refine (on_tdecide (Ctx.id.right (Solid.emp.and (Solid.wat x n l.length S1))) h4 HG.out hn lit HX.out).mono ?_); rintro e w5 ⟨rfl, h5⟩; rw [← HE1.out] at h5)
        | (go_at_call 34; (with_reducible refine (on_tback (Ctx.id.right (Solid.emp.and (Solid.wat x n l.length S1))) h5 HG1.out hn 0 (by decide)).mono ?_); rintro e w6 ⟨rfl, h6⟩)
        | (go_at_call 31; (with_reducible refine (on_wtrail ((Ctx.id.left (Solid.trl g n _)).right Solid.emp) h6 hn).mono ?_); rintro e w7 ⟨g2, rfl, h7⟩)
        | (go_at_call 32; (with_reducible refine (on_tlen (Ctx.id.right ((Solid.emp.and (Solid.wat x n l.length S1)).and (Solid.trl g n _))) h7).mono ?_); rintro e w8 ⟨rfl, rfl⟩)
        | (go_at_call 25; (with_reducible refine (on_level (((Ctx.id.left (Solid.trl g2 n S1.es)).left (Solid.trl g n _)).right Solid.emp) h7).mono ?_); rintro e w8 ⟨rfl, rfl⟩)
        | (go_at_call 35; (with_reducible refine (on_tvars (Ctx.id.right ((Solid.emp.and (Solid.wat x n l.length S1)).and (Solid.trl g n _))) h7).mono ?_); rintro e w8 ⟨rfl, rfl⟩)
        | (go_at_call 28; (with_reducible refine (numbers_one _ _).mono ?_); rintro e w9 ⟨rfl, hb9⟩))
      go_ret
      exact ⟨rfl, bel_new h7.bel h7.bel.size hb9⟩

theorem copies_walk (vars : Int) (hv : (Lit.int .i64 vars).wf = true) (ao : Option Addr) (l : List Stp) (cap b off : Nat) (ca : Nat → Option Addr) (cc : Nat → Nat) (lit : Int) (hx : (Lit.int .i64 lit).wf = true) (w : World) (hl : IsStp w w.heap.size ao b off l ca cc) :
    Calls Try.prog 5 #[.int .i64 vars, .slice ao l.length cap, .int .i64 lit] w fun e w' => e = .returned (.bool true) ∧ Below w.heap.size w w' := by
  have hv' := wf_i64b hv
  have hx' := wf_i64b hx
  have HL := Lib.hid (long_any vars w _ ao l cap b off ca cc hl)
  by_cases hlong : longS vars l = true
  · rw [hlong] at HL
    clear hl hlong
    go_enter Try.func5, Try.ntmps5
    go_wp2_with (first
      | (go_at_call 16; (with_reducible refine HL.out.mono ?_); rintro e w1 ⟨rfl, rfl⟩)
      | (go_at_call 9; (with_reducible refine (awake_any _).mono ?_); rintro e w1 ⟨rfl, hb1⟩))
    go_ret
    exact ⟨rfl, hb1⟩
  · have hlong : longS vars l = false := by simpa using hlong
    by_cases h0 : vars < 0
    · rw [hlong] at HL
      clear hl hlong
      go_enter Try.func5, Try.ntmps5
      go_wp2_with (first
        | (go_at_call 16; (with_reducible refine HL.out.mono ?_); rintro e w1 ⟨rfl, rfl⟩)
        | (go_at_call 9; (with_reducible refine (awake_any _).mono ?_); rintro e w1 ⟨rfl, hb1⟩)
        | (go_at_call 10; (with_reducible refine (wnew_bad vars _ (.inl h0)).mono ?_); rintro e w2 ⟨rfl, rfl⟩))
      go_ret
      exact ⟨rfl, hb1⟩
    · obtain ⟨n, rfl⟩ := Int.eq_ofNat_of_zero_le (by omega : 0 ≤ vars)
      have := (long_spec hlong).1
      exact copies_main n (by omega) ao l cap b off ca cc lit hx' w hl hlong

end Go.Proofs.Ytnachllhjojlcaa
