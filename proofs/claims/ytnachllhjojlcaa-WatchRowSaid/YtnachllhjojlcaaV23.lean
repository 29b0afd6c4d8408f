/- WatchUnit: the walk. -/
import Derived.Test.YtnachllhjojlcaaV22
namespace Go.Proofs.Ytnachllhjojlcaa
open Go.ChangeShapes Go.WideShapes Go.ChangeAt Go.RowKit Go.Maps Go.Deep
set_option maxRecDepth 100000

section
variable {W w : World} {C : Ast → Ast} {x n t : Nat} {S : WS}
theorem On.more (hC : Ctx C) (h : On W w (C (wat x n t S))) {t' : Nat} (ht : t ≤ t') : On W w (C (wat x n t' S)) := by
  obtain ⟨F, ⟨M, a, b, c, d, e⟩, hg⟩ := hC.use h
  exact hg _ _ ⟨F, ⟨M, a, b, Nat.le_trans c (Nat.mul_le_mul_left _ ht), d.more ht, e⟩, Touch.refl _ _, fun k hk => .inl hk⟩

theorem settled_prop (hC : Ctx C) (hI : WInv S) (hS : S.n = n) (h : On W w (C (wat x n t (propS S).1))) (hn : n ≤ 60) (ht : t ≤ 1000) :
    Calls Try.prog 36 #[.pointer (some ⟨x, 0, none⟩), .int .i64 (propS S).2] w fun e w' => e = .returned (.bool true) ∧ Below w.heap.size w w' := by
  obtain ⟨k, ks⟩ := prop_spec hI
  have hcl := k.cl
  have hc := k.conf
  have hl := k.least
  rw [hS] at hc ks
  rw [← hcl] at hc ks
  refine settled_any hC h hn ht _ hl ?_ (fun h0 => (hc h0).2) (fun h0 => (ks h0).2)
  by_cases h0 : 0 ≤ (propS S).2
  · exact (hc h0).1
  · have : (0 : Int) ≤ ((propS S).1.cl.length : Int) := by omega
    omega
end

/-- A conflict stays one. -/
theorem prop_again {S : WS} (hI : WInv S) (h : 0 ≤ (propS S).2) : 0 ≤ (propS (propS S).1).2 := by
  obtain ⟨k, _⟩ := prop_spec hI
  obtain ⟨k2, ks2⟩ := prop_spec k.inv
  obtain ⟨h1, h2⟩ := k.conf h
  by_cases h0 : 0 ≤ (propS (propS S).1).2
  · exact h0
  · exfalso
    have hs := (ks2 (by omega)).2 (propS S).2.toNat (by rw [k.cl]; omega)
    have hex := k2.ext
    have hkeep : ∀ y ∈ (propS S).1.cl.getD (propS S).2.toNat [], valE (propS S).1.n (propS (propS S).1).1.es y = -1 := fun y hy => by
      rw [k.cl] at hy
      have h3 := h2 y hy
      rw [← k.n] at h3
      rw [hex.keeps k.inv.known k.inv.good (by rw [h3]; decide), h3]
    rcases hs with ⟨y, hy, hv⟩ | ⟨y, hy, _, _, _, hv, _⟩
    · rw [hkeep y hy] at hv; cases hv
    · rw [hkeep y hy] at hv; cases hv

theorem back_ok {S : WS} {n : Nat} (hg : Good n S.es) (h : hi S.es ≠ 0) : (backS S (hi S.es - 1)).2 = 0 := by
  have h0 := hi_nonneg hg
  have e : (backC S.es (hi S.es - 1)).1 = 0 := by
    unfold backC
    rw [if_neg (by omega)]
  unfold backS
  rw [if_pos e]

theorem do_wait {S : WS} {s : Stp} (h : s.kind ≤ 2) (h0 : 0 ≤ s.kind) : (doS S s).2 = -1 := by
  unfold doS
  split
  · rfl
  · split
    · rfl
    · split
      · rfl
      · omega
theorem do_prop {S : WS} {s : Stp} (h : ¬ s.kind ≤ 2) : doS S s = propS S := by
  unfold doS
  rw [if_neg (by omega), if_neg (by omega), if_neg (by omega)]

set_option maxHeartbeats 1000000 in
theorem unit_main (n : Nat) (hn : n ≤ 60) (ao : Option Addr) (l : List Stp) (cap b off : Nat) (ca : Nat → Option Addr) (cc : Nat → Nat) (w : World) (hl : IsStp w w.heap.size ao b off l ca cc) (hlong : longS n l = false) :
    Calls Try.prog 7 #[.int .i64 n, .slice ao l.length cap] w fun e w' => e = .returned (.bool true) ∧ Below w.heap.size w w' := by
  obtain ⟨_, hl80, hl40⟩ := long_spec hlong
  have HL : Hid (Calls Try.prog 16 #[.int .i64 n, .slice ao l.length cap] w fun e w' => e = .returned (.bool false) ∧ w = w') := Lib.hid (by
    have := long_any n w _ ao l cap b off ca cc hl
    rwa [hlong] at this)
  have HS := Lib.hid hl
  have H40 := Lib.hid hl40
  have hCw : Ctx fun A => Emp.and A := Ctx.id.right Solid.emp
  have hsol : ∀ t S x, Solid (Emp.and (wat x n t S)) := fun t S x => Solid.emp.and (Solid.wat x n t S)
  clear hl hlong hl40
  go_enter Try.func7, Try.ntmps7
  go_wp2_with (first
    | (go_at_call 16; (with_reducible refine HL.out.mono ?_); rintro e w1 ⟨rfl, rfl⟩)
    | (go_at_call 9; (with_reducible refine (awake_any _).mono ?_); rintro e w1 ⟨rfl, hb1⟩)
    | (go_at_call 10; (with_reducible refine (on_new' hb1 hn).mono ?_); rintro e w2 ⟨x, rfl, h2⟩))
  go_loopw [7] (fun s wr => ∃ (k : Nat) (S : WS), k ≤ l.length ∧ s = .int .i64 k ∧ On w wr (Emp.and (wat x n (2 * k) S))) (fun s _ => l.length - (intOf s).toNat)
  case atStart => exact ⟨0, _, by omega, rfl, h2⟩
  case round =>
    obtain ⟨k, S, hk, rfl, hr⟩ := hrel
    by_cases hlt : k < l.length
    · have hS := HS.out.below hr.bel
      obtain ⟨rfl, hbB⟩ := hS.ptr (by omega)
      have hwf := hS.wf k hlt
      have hck := hS.kind k hlt
      have hcn := hS.n k hlt
      have hcs := hS.clause k hlt
      have hrow := hS.row hr.bel.size k hlt
      have h40 := H40.out _ (List.getElem_mem hlt)
      have HCk : Hid (∀ w3, Below w.heap.size w w3 → w3.cell? ⟨b, off + k * 3, none⟩ = some (.int .u8 l[k].kind)) := Lib.hid fun w3 hb => (HS.out.below hb).kind k hlt
      have ok := On.ok hCw hr
      generalize l[k] = s at *
      have HD := Lib.hid (on_do hCw hr hn (by omega) (ca k) (cc k) s hwf hrow h40)
      have hki : (k : Int) < (l.length : Int) := by omega
      by_cases hkd : s.kind ≤ 2
      · have hkd2 : decide (2 < s.kind) = false := by simpa using hkd
        rw [do_wait hkd hwf.kind.1] at HD
        generalize (doS S s).1 = S' at *
        clear hwf hrow h40 hS hr ok
        go_wp2_with (go_at_call 30; (with_reducible refine HD.out.mono ?_); rintro e w3 ⟨rfl, h3⟩; have hc3 := HCk.out w3 h3.bel)
        go_roundw
        case rel => exact ⟨k + 1, S', by omega, by go_num, h3.more hCw (by omega)⟩
        case measure => simp [intOf]; omega
      · have hkd2 : decide (2 < s.kind) = true := by simp; omega
        rw [do_prop hkd] at HD
        have HSe : Hid (∀ w3, On w w3 (Emp.and (wat x n (2 * k + 1) (propS S).1)) → Calls Try.prog 36 #[.pointer (some ⟨x, 0, none⟩), .int .i64 (propS S).2] w3 fun e w' => e = .returned (.bool true) ∧ Below w3.heap.size w3 w') := Lib.hid fun w3 h3 => settled_prop hCw ok.inv ok.n h3 hn (by omega)
        have HAg := Lib.hid (prop_again ok.inv)
        have hgd : Good n (propS S).1.es := by
          have h1 := (prop_spec ok.inv).1
          have h2 := h1.inv.good
          rwa [h1.n, ok.n] at h2
        have HG := Lib.hid hgd
        have hnn := hi_nonneg hgd
        have HBo : Hid (hi (propS S).1.es ≠ 0 → (backS (propS S).1 (hi (propS S).1.es - 1)).2 = 0) := Lib.hid (back_ok hgd)
        have hhl := hi_le_len hgd
        have hel := hgd.len_le
        generalize (propS S).1 = S' at *
        generalize (propS S).2 = cf at *
        generalize hhi : hi S'.es = hh at *
        have HHi := Lib.hid hhi
        clear hwf hrow h40 hS hr ok hgd hhi
        by_cases hcf : 0 ≤ cf
        · have hcd : decide (0 ≤ cf) = true := by simpa using hcf
          by_cases hh0 : hh = 0
          · subst hh0
            have hag := HAg.out hcf
            have hagd : decide (0 ≤ (propS S').2) = true := by simpa using hag
            clear hag
            go_wp2_with (first
              | (go_at_call 30; (with_reducible refine HD.out.mono ?_); rintro e w3 ⟨rfl, h3⟩; have hc3 := HCk.out w3 h3.bel)
              | (go_at_call 36; (with_reducible refine (HSe.out _ h3).mono ?_); rintro e w4 ⟨rfl, hb4⟩; have h4 := On.below (hsol _ _ _) h3 hb4)
              | (go_at_call 25; (with_reducible refine (on_level' hCw h4 HHi.out).mono ?_); rintro e w5 ⟨rfl, rfl⟩)
              | (go_at_call 14; (with_reducible refine (on_prop hCw h4 hn (by omega)).mono ?_); rintro e w6 ⟨rfl, h6⟩))
            go_ret
            exact ⟨rfl, h6.bel⟩
          · have hh1 : (hh == 0) = false := by simpa using hh0
            have hbo := HBo.out hh0
            have HBk : Hid (∀ w5, On w w5 (Emp.and (wat x n (2 * k + 1) S')) → Calls Try.prog 20 #[.pointer (some ⟨x, 0, none⟩), .int .i64 (hh - 1)] w5 fun e w' => e = .returned (.int .i64 0) ∧ On w w' (Emp.and (wat x n (2 * k + 1 + 1) (backS S' (hh - 1)).1))) := Lib.hid fun w5 h5 => by
              have := on_back hCw h5 hn (by omega) (hh - 1) (by unfold I64; omega)
              rwa [hbo] at this
            have hwh : IntKind.i64.wrap (hh - 1) = hh - 1 := by rw [IntKind.wrap_i64]; omega
            clear hbo
            go_wp2_with (first
              | (go_at_call 30; (with_reducible refine HD.out.mono ?_); rintro e w3 ⟨rfl, h3⟩; have hc3 := HCk.out w3 h3.bel)
              | (go_at_call 36; (with_reducible refine (HSe.out _ h3).mono ?_); rintro e w4 ⟨rfl, hb4⟩; have h4 := On.below (hsol _ _ _) h3 hb4)
              | (go_at_call 25; (with_reducible refine (on_level' hCw h4 HHi.out).mono ?_); rintro e w5 ⟨rfl, rfl⟩)
              | (go_at_call 20; (with_reducible refine (HBk.out _ h4).mono ?_); rintro e w6 ⟨rfl, h6⟩))
            go_roundw
            case rel => exact ⟨k + 1, _, by omega, by go_num, h6⟩
            case measure => simp [intOf]; omega
        · have hcd : decide (0 ≤ cf) = false := by simpa using hcf
          go_wp2_with (first
            | (go_at_call 30; (with_reducible refine HD.out.mono ?_); rintro e w3 ⟨rfl, h3⟩; have hc3 := HCk.out w3 h3.bel)
            | (go_at_call 36; (with_reducible refine (HSe.out _ h3).mono ?_); rintro e w4 ⟨rfl, hb4⟩; have h4 := On.below (hsol _ _ _) h3 hb4))
          go_roundw
          case rel => exact ⟨k + 1, S', by omega, by go_num, h4.more hCw (by omega)⟩
          case measure => simp [intOf]; omega
    · obtain rfl : k = l.length := by omega
      have hb := hr.bel
      clear hr
      go_wp2_with fail
      go_ret
      exact ⟨rfl, hb⟩

theorem unit_walk (vars : Int) (hv : (Lit.int .i64 vars).wf = true) (ao : Option Addr) (l : List Stp) (cap b off : Nat) (ca : Nat → Option Addr) (cc : Nat → Nat) (w : World) (hl : IsStp w w.heap.size ao b off l ca cc) :
    Calls Try.prog 7 #[.int .i64 vars, .slice ao l.length cap] w fun e w' => e = .returned (.bool true) ∧ Below w.heap.size w w' := by
  have hv' := wf_i64b hv
  have HL := Lib.hid (long_any vars w _ ao l cap b off ca cc hl)
  by_cases hlong : longS vars l = true
  · rw [hlong] at HL
    clear hl hlong
    go_enter Try.func7, Try.ntmps7
    go_wp2_with (first
      | (go_at_call 16; (with_reducible refine HL.out.mono ?_); rintro e w1 ⟨rfl, rfl⟩)
      | (go_at_call 9; (with_reducible refine (awake_any _).mono ?_); rintro e w1 ⟨rfl, hb1⟩))
    go_ret
    exact ⟨rfl, hb1⟩
  · have hlong : longS vars l = false := by simpa using hlong
    by_cases h0 : vars < 0
    · rw [hlong] at HL
      clear hl hlong
      go_enter Try.func7, Try.ntmps7
      go_wp2_with (first
        | (go_at_call 16; (with_reducible refine HL.out.mono ?_); rintro e w1 ⟨rfl, rfl⟩)
        | (go_at_call 9; (with_reducible refine (awake_any _).mono ?_); rintro e w1 ⟨rfl, hb1⟩)
        | (go_at_call 10; (with_reducible refine (wnew_bad vars _ (.inl h0)).mono ?_); rintro e w2 ⟨rfl, rfl⟩))
      go_ret
      exact ⟨rfl, hb1⟩
    · obtain ⟨n, rfl⟩ := Int.eq_ofNat_of_zero_le (by omega : 0 ≤ vars)
      have := (long_spec hlong).1
      exact unit_main n (by omega) ao l cap b off ca cc w hl hlong

end Go.Proofs.Ytnachllhjojlcaa
