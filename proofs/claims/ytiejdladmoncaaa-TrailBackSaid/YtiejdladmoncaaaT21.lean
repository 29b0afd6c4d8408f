/- TrailBack: the walk. -/
import Derived.Test.YtiejdladmoncaaaT20
namespace Go.Proofs.Ytiejdladmoncaaa
open Go.ChangeShapes Go.WideShapes Go.ChangeAt Go.RowKit
set_option maxRecDepth 100000

set_option maxHeartbeats 2000000 in
theorem back_main (n : Nat) (hn : n ≤ 5000) (ao : Option Addr) (l : List StepD) (cap b off : Nat) (lit : Int) (hlit : I64 lit) (am : Option Addr) (m : List StepD) (cam bm om : Nat) (w : World)
    (hl : IsSteps w w.heap.size ao b off l) (hm : IsSteps w w.heap.size am bm om m) (hll : l.length ≤ 300) (hml : m.length ≤ 300) :
    Calls Try.prog 5 #[.int .i64 n, .slice ao l.length cap, .int .i64 lit, .slice am m.length cam] w fun e w' => e = .returned (.bool true) ∧ Below w.heap.size w w' := by
  have HP : Hid (∀ w1, Below w.heap.size w w1 → Calls Try.prog 9 #[.int .i64 n, .slice ao l.length cap] w1 fun e w' => ∃ g, e = .returned (.pointer (some ⟨g, 0, none⟩)) ∧ Trails w w' (fun _ => False) [(g, trE n (playE n [] l))]) :=
    Lib.hid fun w1 hb => played_any n ao l cap b off w w1 hb hl hn hll
  have hg := playE_good (n := n) l (es := []) trivial
  generalize playE n [] l = es at *
  have hlen := hg.len_le
  have hA1 : ¬ (300 : Int) < (l.length : Int) := by omega
  have hD1 : decide ((300 : Int) < (l.length : Int)) = false := by simpa using hA1
  have hA2 : ¬ (300 : Int) < (m.length : Int) := by omega
  have hD2 : decide ((300 : Int) < (m.length : Int)) = false := by simpa using hA2
  have hA3 : ¬ (5000 : Int) < (n : Int) := by omega
  have hD3 : decide ((5000 : Int) < (n : Int)) = false := by simpa using hA3
  have hhi : 0 ≤ Go.Proofs.Ytiejdladmoncaaa.hi es ∧ Go.Proofs.Ytiejdladmoncaaa.hi es ≤ 5000 := by
    have h1 := hi_nonneg hg
    have h2 := hi_le_len hg
    omega
  have HG := Lib.hid hg
  have HG0 : Hid (Good n ([] ++ es)) := Lib.hid hg
  by_cases hc : openC n es lit = 0
  · have hdc : decC n es lit = (0, ⟨lit, Go.Proofs.Ytiejdladmoncaaa.hi es + 1, -1⟩ :: es) := by simp only [decC, hc, if_true]
    have hgd : Good n (⟨lit, Go.Proofs.Ytiejdladmoncaaa.hi es + 1, -1⟩ :: es) := by
      have h := decC_good lit hg
      rw [hdc] at h
      exact h
    obtain ⟨d, hd⟩ : ∃ d : En, d = ⟨lit, Go.Proofs.Ytiejdladmoncaaa.hi es + 1, -1⟩ := ⟨_, rfl⟩
    rw [← hd] at hdc hgd
    have hdl : d.level = Go.Proofs.Ytiejdladmoncaaa.hi es + 1 := by rw [hd]
    have HD := Lib.hid hdc
    have HDL := Lib.hid hdl
    have HGD := Lib.hid hgd
    obtain ⟨hv, hhv⟩ : ∃ hv, hv = Go.Proofs.Ytiejdladmoncaaa.hi es := ⟨_, rfl⟩
    have HHV := Lib.hid hhv
    rw [← hhv] at hhi
    clear hl hg hdc hgd hdl hd hc hhv
    go_enter Try.func5, Try.ntmps5
    go_wp2_with (first
      | (go_at_call 8; refine (works_any w).mono ?_; rintro r w1 ⟨rfl, hB1⟩)
      | (go_at_call 9; refine (HP.out _ hB1).mono ?_; rintro r w2 ⟨g, rfl, h2⟩)
      | (go_at_call 16; (with_reducible refine (copy_tr (g := g) (n := n) (es := es) h2 0 (by kernel_rfl) HG.out hn).mono ?_); rintro r w3 ⟨g2, rfl, h3, _⟩)
      | (go_at_call 15; (with_reducible refine (level_eq (g := g) (n := n) (es := es) h3 0 (by kernel_rfl) HG.out hv HHV.out.symm).mono ?_); rintro r w' ⟨rfl, rfl⟩)
      | (go_at_call 18; (with_reducible refine (decide_eq' (g := g) (n := n) (es := es) h3 0 (by kernel_rfl) HG.out hn lit hlit 0 (d :: es) HD.out).mono ?_); rintro r w4 ⟨rfl, h4, _⟩))
    have h4' : Trails w w4 (fun _ => False) [(g, trE n ([] ++ d :: es)), (g2, trE n es)] := h4
    clear HP h2 h3 h4
    go_loopw [12] (fun x wr => ∃ (k : Nat) (xs : List En), k ≤ m.length ∧ x = .int .i64 k ∧ Trails w wr (fun _ => False) [(g, trE n (xs ++ d :: es)), (g2, trE n es)] ∧ Good n (xs ++ d :: es)) (fun x _ => m.length - (intOf x).toNat)
    case atStart => exact ⟨0, [], by omega, rfl, h4', HGD.out⟩
    case round =>
      obtain ⟨k, xs, hk, rfl, hT, hgx⟩ := hrel
      by_cases hlt : k < m.length
      · have hm2 := hm.below hT.bel
        obtain ⟨rfl, hbB⟩ := hm2.ptr (by omega)
        have hwf := hm2.wf k hlt
        have hck := hm2.kind k hlt
        have hcn := hm2.lit k hlt
        have hcs := hm2.reason k hlt
        have hki : (k : Int) < (m.length : Int) := by omega
        generalize m[k] = s at *
        have hkeep := do_keep n xs d es s HDL.out hwf
        have hgx2 := doC_good s hgx
        obtain ⟨kd, x, r⟩ := s
        simp only at hck hcn hcs hkeep
        have hkd := hwf.kind
        simp only at hkd
        by_cases hskip : 1 < kd ∧ x ≤ hv
        · obtain ⟨hs1, hs2⟩ := hskip
          have HT := Lib.hid hT
          have HGX := Lib.hid hgx
          clear hm2 hm hkeep hgx2 hwf hT hgx
          go_wp2_with fail
          go_roundw
          case rel => exact ⟨k + 1, xs, by omega, by go_num, HT.out, HGX.out⟩
          case measure => simp [intOf]; omega
        · obtain ⟨xs', hxs⟩ := hkeep (by rw [← HHV.out]; omega)
          have HD2 := Lib.hid (do_tr hT 0 rfl hgx hn kd x r hwf)
          rw [hxs] at HD2 hgx2
          have HGX := Lib.hid hgx2
          generalize (doC n (xs ++ d :: es) ⟨kd, x, r⟩).1 = cd at *
          clear hm2 hm hgx2 hwf hT hgx hxs hkeep
          by_cases hs1 : 1 < kd
          · have hs2 : ¬ x ≤ hv := by omega
            go_wp2_with (go_at_call 20; refine HD2.out.mono ?_; rintro e w5 ⟨rfl, h5, _⟩)
            go_roundw
            case rel => exact ⟨k + 1, xs', by omega, by go_num, h5, HGX.out⟩
            case measure => simp [intOf]; omega
          · go_wp2_with (go_at_call 20; refine HD2.out.mono ?_; rintro e w5 ⟨rfl, h5, _⟩)
            go_roundw
            case rel => exact ⟨k + 1, xs', by omega, by go_num, h5, HGX.out⟩
            case measure => simp [intOf]; omega
      · obtain rfl : k = m.length := by omega
        have hback := back_all d es xs HDL.out hgx
        rw [← HHV.out] at hback
        have eap : xs ++ d :: es = (xs ++ [d]) ++ es := by simp
        have HBK := Lib.hid hback
        have HGX := Lib.hid hgx
        have hgx' := hgx
        rw [eap] at hgx'
        have HGX' := Lib.hid hgx'
        have HS := Lib.hid (same_any 1 0 g2 g n (xs ++ [d]) es wr hT rfl (by rw [← eap]; rfl) hgx' hn)
        have HT := Lib.hid hT
        clear hback hgx hgx' eap hT
        go_wp2_with (first
          | (go_at_call 12; (with_reducible refine (len_eq (g := g2) (n := n) (es := es) HT.out 1 (by kernel_rfl) es.length rfl).mono ?_); rintro r w' ⟨rfl, rfl⟩)
          | (go_at_call 19; (with_reducible refine HS.out.mono ?_); rintro r w6 ⟨rfl, b6⟩; have h6 := HT.out.below b6)
          | (go_at_call 21; (with_reducible refine (back_eq' (g := g) (n := n) (es := xs ++ d :: es) h6 0 (by kernel_rfl) HGX.out hn hv (by unfold I64; omega) 0 es HBK.out).mono ?_); rintro r w7 ⟨rfl, h7, _⟩)
          | (go_at_call 15; (with_reducible refine (level_eq (g := g) (n := n) (es := es) h7 0 (by kernel_rfl) HG.out hv HHV.out.symm).mono ?_); rintro r w' ⟨rfl, rfl⟩)
          | (go_at_call 12; (with_reducible refine (len_eq (g := g) (n := n) (es := es) h7 0 (by kernel_rfl) es.length rfl).mono ?_); rintro r w' ⟨rfl, rfl⟩)
          | (go_at_call 12; (with_reducible refine (len_eq (g := g2) (n := n) (es := es) h7 1 (by kernel_rfl) es.length rfl).mono ?_); rintro r w' ⟨rfl, rfl⟩)
          | (go_at_call 19; (with_reducible refine (same_any 1 0 g2 g n [] es _ h7 (by kernel_rfl) (by kernel_rfl) HG0.out hn).mono ?_); rintro r w8 ⟨rfl, b8⟩; have h8 := h7.below b8))
        have h8' : Trails w w8 (fun _ => False) [(g, trE n es), (g2, trE n es)] := h8
        clear h6 h7 h8 HS HT
        go_loopw [13] (fun x wr => ∃ (v : Nat), v ≤ n ∧ x = .int .i64 v ∧ wr = w8) (fun x _ => n - (intOf x).toNat)
        case atStart => exact ⟨0, by omega, rfl, rfl⟩
        case round =>
          obtain ⟨v, hv, rfl, rfl⟩ := hrel
          by_cases hlt : v < n
          · have h1 := val_pos (es := es) v hlt
            have HV1 := Lib.hid (value_eq h8' 0 rfl hn ((v : Int) + 1) ⟨by omega, by omega⟩ _ h1)
            have HV2 := Lib.hid (value_eq h8' 1 rfl hn ((v : Int) + 1) ⟨by omega, by omega⟩ _ h1)
            generalize sgn v (look es v) = s at *
            have hvi : (v : Int) < (n : Int) := by omega
            clear h1 h8'
            go_wp2_with (first
              | (go_at_call 10; (with_reducible refine HV1.out.mono ?_); rintro e w' ⟨rfl, rfl⟩)
              | (go_at_call 10; (with_reducible refine HV2.out.mono ?_); rintro e w' ⟨rfl, rfl⟩))
            go_roundw
            case rel => exact ⟨v + 1, by omega, by go_num, by first | rfl | trivial⟩
            case measure => simp [intOf]; omega
          · obtain rfl : v = n := by omega
            have hb := h8'.bel
            go_wp2_with fail
            go_ret
            exact ⟨rfl, hb⟩
  · have hdc : decC n es lit = (openC n es lit, es) := by simp only [decC, if_neg hc]
    obtain ⟨c, hcc⟩ : ∃ c, c = openC n es lit := ⟨_, rfl⟩
    rw [← hcc] at hdc hc
    have hc' : (c == 0) = false := by simpa using hc
    have HD := Lib.hid hdc
    obtain ⟨hv, hhv⟩ : ∃ hv, hv = Go.Proofs.Ytiejdladmoncaaa.hi es := ⟨_, rfl⟩
    have HHV := Lib.hid hhv
    clear hl hg hdc hcc hhv hhi
    go_enter Try.func5, Try.ntmps5
    go_wp2_with (first
      | (go_at_call 8; refine (works_any w).mono ?_; rintro r w1 ⟨rfl, hB1⟩)
      | (go_at_call 9; refine (HP.out _ hB1).mono ?_; rintro r w2 ⟨g, rfl, h2⟩)
      | (go_at_call 16; (with_reducible refine (copy_tr (g := g) (n := n) (es := es) h2 0 (by kernel_rfl) HG.out hn).mono ?_); rintro r w3 ⟨g2, rfl, h3, _⟩)
      | (go_at_call 15; (with_reducible refine (level_eq (g := g) (n := n) (es := es) h3 0 (by kernel_rfl) HG.out hv HHV.out.symm).mono ?_); rintro r w' ⟨rfl, rfl⟩)
      | (go_at_call 18; (with_reducible refine (decide_eq' (g := g) (n := n) (es := es) h3 0 (by kernel_rfl) HG.out hn lit hlit c es HD.out).mono ?_); rintro r w4 ⟨rfl, h4, _⟩)
      | (go_at_call 15; (with_reducible refine (level_eq (g := g) (n := n) (es := es) h4 0 (by kernel_rfl) HG.out hv HHV.out.symm).mono ?_); rintro r w' ⟨rfl, rfl⟩)
      | (go_at_call 12; (with_reducible refine (len_eq (g := g) (n := n) (es := es) h4 0 (by kernel_rfl) es.length rfl).mono ?_); rintro r w' ⟨rfl, rfl⟩)
      | (go_at_call 12; (with_reducible refine (len_eq (g := g2) (n := n) (es := es) h4 1 (by kernel_rfl) es.length rfl).mono ?_); rintro r w' ⟨rfl, rfl⟩)
      | (go_at_call 19; (with_reducible refine (same_any 1 0 g2 g n [] es _ h4 (by kernel_rfl) (by kernel_rfl) HG0.out hn).mono ?_); rintro r w5 ⟨rfl, b5⟩; have h5 := h4.below b5))
    go_ret
    exact ⟨rfl, h5.bel⟩

theorem back_walk (vars lit : Int) (hv : (Lit.int .i64 vars).wf = true) (hlit : (Lit.int .i64 lit).wf = true) (ao : Option Addr) (l : List StepD) (cap b off : Nat) (am : Option Addr) (m : List StepD) (cam bm om : Nat) (w : World)
    (hl : IsSteps w w.heap.size ao b off l) (hm : IsSteps w w.heap.size am bm om m) :
    Calls Try.prog 5 #[.int .i64 vars, .slice ao l.length cap, .int .i64 lit, .slice am m.length cam] w fun e w' => e = .returned (.bool true) ∧ Below w.heap.size w w' := by
  have hv' := wf_i64b hv
  by_cases hb1 : 300 < l.length
  · have h1 : (300 : Int) < (l.length : Int) := by omega
    go_enter Try.func5, Try.ntmps5
    go_wp2_with (first
      | (go_at_call 8; (with_reducible refine (works_any w).mono ?_); rintro r w1 ⟨rfl, hB1⟩)
      | (go_at_call 8; refine (works_any _).mono ?_; rintro r w2 ⟨rfl, hB2⟩))
    go_ret
    exact ⟨rfl, bel_trans hB1 hB2⟩
  · have h1 : ¬ (300 : Int) < (l.length : Int) := by omega
    have h2 : decide ((300 : Int) < (l.length : Int)) = false := by simpa using h1
    by_cases hb4 : 300 < m.length
    · have h5 : (300 : Int) < (m.length : Int) := by omega
      go_enter Try.func5, Try.ntmps5
      go_wp2_with (first
        | (go_at_call 8; (with_reducible refine (works_any w).mono ?_); rintro r w1 ⟨rfl, hB1⟩)
        | (go_at_call 8; refine (works_any _).mono ?_; rintro r w2 ⟨rfl, hB2⟩))
      go_ret
      exact ⟨rfl, bel_trans hB1 hB2⟩
    · have h5 : ¬ (300 : Int) < (m.length : Int) := by omega
      have h6 : decide ((300 : Int) < (m.length : Int)) = false := by simpa using h5
      by_cases hb2 : 5000 < vars
      · go_enter Try.func5, Try.ntmps5
        go_wp2_with (first
          | (go_at_call 8; (with_reducible refine (works_any w).mono ?_); rintro r w1 ⟨rfl, hB1⟩)
          | (go_at_call 8; refine (works_any _).mono ?_; rintro r w2 ⟨rfl, hB2⟩))
        go_ret
        exact ⟨rfl, bel_trans hB1 hB2⟩
      · have h3 : decide (5000 < vars) = false := by simpa using hb2
        by_cases hb3 : vars < 0
        · have h4 := fun W => Lib.hid (played_bad vars (.slice ao l.length cap) W hb3)
          go_enter Try.func5, Try.ntmps5
          go_wp2_with (first
            | (go_at_call 8; refine (works_any w).mono ?_; rintro r w1 ⟨rfl, hB1⟩)
            | (go_at_call 9; refine (h4 _).out.mono ?_; rintro r w2 ⟨rfl, rfl⟩))
          go_ret
          exact ⟨rfl, hB1⟩
        · obtain ⟨n, rfl⟩ := Int.eq_ofNat_of_zero_le (by omega : 0 ≤ vars)
          exact back_main n (by omega) ao l cap b off lit (wf_i64b hlit) am m cam bm om w hl hm (by omega) (by omega)

end Go.Proofs.Ytiejdladmoncaaa
