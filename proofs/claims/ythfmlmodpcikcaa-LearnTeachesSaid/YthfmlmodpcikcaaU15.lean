/- LearnFollows: the walk. -/
import Derived.Test.YthfmlmodpcikcaaU14
namespace Go.Proofs.Ythfmlmodpcikcaa
open Go.ChangeShapes Go.WideShapes Go.ChangeAt Go.RowKit Go.Maps Go.Deep
set_option maxRecDepth 100000

theorem learn_ints2 {w0 w : World} {X : Nat → Prop} {L : List (Nat × TrD)} {g n : Nat} {es : List En} (cls : List (List Int)) (ao : Option Addr) (cap : Nat) (conflict : Int) (hT : Trails w0 w X L) (i : Nat) (hL : L[i]? = some (g, trE n es)) (hg : Good n es) (hn : n ≤ 5000)
    (hc : IsCls w ao cls) (hcl : ∀ c ∈ cls, c.length ≤ 1000) (hln : cls.length ≤ 1000000) (R : Taught) (hR : learnE n es cls conflict = R) :
    Calls Try.prog 18 #[.pointer (some ⟨g, 0, none⟩), .slice ao cls.length cap, .int .i64 conflict] w fun e w' => ∃ a1 c1 a2 c2, e = .returned (.tuple #[.slice a1 R.1.length c1, .int .i64 R.2.1, .slice a2 R.2.2.1.length c2, .int .i64 R.2.2.2]) ∧
      Ints w' a1 R.1 ∧ Ints w' a2 R.2.2.1 ∧ Below w.heap.size w w' ∧ R.1.length ≤ 9223372036854775807 ∧ R.2.2.1.length ≤ 9223372036854775807 := by
  subst hR
  refine (learn_any cls ao cap conflict hT i hL hg hn hc hcl hln).mono ?_
  rintro e w' ⟨hb, vc, vs, rfl, o1, o2, _, _⟩
  obtain ⟨_, k1, _, l1, m1, _⟩ := o1.form
  obtain ⟨_, k2, _, l2, m2, _⟩ := o2.form
  obtain ⟨a1, c1, rfl, i1⟩ := o1.ints
  obtain ⟨a2, c2, rfl, i2⟩ := o2.ints
  unfold maxLen at m1 m2
  exact ⟨a1, c1, a2, c2, rfl, i1, i2, hb, by omega, by omega⟩

theorem cls_getD {cls : List (List Int)} {b : Int} (h1 : 0 ≤ b) (h2 : b < cls.length) : ∃ j, ∃ h : j < cls.length, b = (j : Int) ∧ cls.getD b.toNat [] = cls[j] := by
  refine ⟨b.toNat, by omega, by omega, ?_⟩
  have : b.toNat < cls.length := by omega
  simp [List.getD, this]

set_option maxHeartbeats 2000000 in
theorem follows_main (n : Nat) (hn : n ≤ 10) (ao : Option Addr) (l : List Step2D) (cap b off : Nat) (ac : Option Addr) (cls : List (List Int)) (cc : Nat) (conflict : Int) (_hcf : I64 conflict) (w : World) (hl : IsSteps2 w w.heap.size ao b off l)
    (hc : IsCls w ac cls) (hlg : largeB cls l.length = false) (hl1 : cls.length ≤ 9223372036854775807) (hl2 : ∀ c ∈ cls, c.length ≤ 140737488351232) :
    Calls Try.prog 5 #[.int .i64 n, .slice ao l.length cap, .slice ac cls.length cc, .int .i64 conflict] w fun e w' => e = .returned (.bool true) ∧ Below w.heap.size w w' := by
  obtain ⟨g1, g2, g3⟩ := large_no hlg
  have HLg : Hid (∀ w1, Below w.heap.size w w1 → Calls Try.prog 11 #[.slice ac cls.length cc, .slice ao l.length cap] w1 fun e w' => e = .returned (.bool false) ∧ w1 = w') :=
    Lib.hid fun w1 hb => by
      have h := large_any cls ac ao cc l.length cap w1 (hc.below hb) hl1 hl2
      rwa [hlg] at h
  have HMd : Hid (∀ w1, Below w.heap.size w w1 → Calls Try.prog 9 #[.int .i64 n, .slice ao l.length cap] w1 fun e w' => ∃ g, e = .returned (.pointer (some ⟨g, 0, none⟩)) ∧ Trails w w' (fun _ => False) [(g, trE n (madeE n [] l))]) :=
    Lib.hid fun w1 hb => made_any n ao l cap b off w w1 hb hl (by omega) (by omega)
  have hg := madeE_good (n := n) l (es := []) trivial
  generalize madeE n [] l = es at *
  generalize hR : learnE n es cls conflict = R at *
  have HLn : Hid (∀ w2 g, Trails w w2 (fun _ => False) [(g, trE n es)] → Calls Try.prog 18 #[.pointer (some ⟨g, 0, none⟩), .slice ac cls.length cc, .int .i64 conflict] w2 fun e w' => ∃ a1 c1 a2 c2, e = .returned (.tuple #[.slice a1 R.1.length c1, .int .i64 R.2.1, .slice a2 R.2.2.1.length c2, .int .i64 R.2.2.2]) ∧
      Ints w' a1 R.1 ∧ Ints w' a2 R.2.2.1 ∧ Below w2.heap.size w2 w' ∧ R.1.length ≤ 9223372036854775807 ∧ R.2.2.1.length ≤ 9223372036854775807) :=
    Lib.hid fun w2 g hT => learn_ints2 cls ac cc conflict hT 0 rfl hg (by omega) (hc.below hT.bel) (fun c hc => by have := g2 c hc; omega) (by omega) R hR
  have HFo : Hid (R.2.2.2 = 0 → Follow n es cls conflict R) := Lib.hid fun h => by
    have := learn_follows (cls := cls) (conflict := conflict) hg (by rw [hR]; exact h)
    rwa [hR] at this
  have HEr : Hid (R.2.2.2 ≠ 0 → R.1 = [] ∧ R.2.1 = 0 ∧ R.2.2.1 = []) := Lib.hid fun h => by
    have := learn_err (n := n) (es := es) (cls := cls) (conflict := conflict) (by rw [hR]; exact h)
    rwa [hR] at this
  have HLv : Hid (∀ w3 g, Trails w w3 (fun _ => False) [(g, trE n es)] → Calls Try.prog 22 #[.pointer (some ⟨g, 0, none⟩)] w3 fun e w' => e = .returned (.int .i64 (hi es)) ∧ w3 = w') :=
    Lib.hid fun w3 g hT => level_eq hT 0 rfl hg _ rfl
  have HG2 := Lib.hid g2
  have HC := Lib.hid hc
  have hd1 : decide ((10 : Int) < (n : Int)) = false := by simp; omega
  obtain ⟨c, back, bonds, er⟩ := R
  simp only at HLn HFo HEr
  have hh := hi_nonneg hg
  clear hl hc hlg hl1 hl2 hg hR g2
  by_cases her : er = 0
  · subst her
    have F := HFo.out rfl
    obtain ⟨r, hbs⟩ := F.head
    simp only at hbs
    have HF := Lib.hid F
    have hbl : 0 < bonds.length := by rw [hbs]; simp
    have hb0 : bonds[0]'hbl = conflict := by simp [hbs]
    have HB0 := Lib.hid hb0
    have hbn : ¬ bonds = [] := by rw [hbs]; simp
    have hbn2 : ((bonds.length : Int) == 0) = false := by simp; exact hbn
    have hcase : (back == -1) = true ∧ c = [] ∧ (hi es == 0) = true ∨ (back == -1) = false ∧ (hi es == 0) = false := by
      by_cases h0 : hi es = 0
      · have h1 := F.back.2 h0
        exact .inl ⟨by simpa using h1, F.none h1, by simpa using h0⟩
      · refine .inr ⟨?_, by simpa using h0⟩
        have h1 : ¬ back = -1 := fun h => h0 (F.back.1 h)
        simpa using h1
    generalize hi es = hv at *
    clear F hbs hb0 HFo HEr
    have hin : (n : Int).toNat = n := rfl
    have hN : wrap64 (2 ^ n) ≤ 1024 := by
      have h : ∀ j : Fin 11, wrap64 (2 ^ j.1) ≤ 1024 := by decide +kernel
      exact h ⟨n, by omega⟩
    rcases hcase with ⟨q1, rfl, q3⟩ | ⟨q1, q3⟩
    all_goals
      go_enter Try.func5, Try.ntmps5
      go_wp2_with (first
        | (go_at_call 7; refine (works_any w).mono ?_; rintro e w1 ⟨rfl, hB1⟩)
        | (go_at_call 11; refine (HLg.out _ hB1).mono ?_; rintro e w' ⟨rfl, rfl⟩)
        | (go_at_call 9; refine (HMd.out _ hB1).mono ?_; rintro e w2 ⟨g, rfl, hT⟩)
        | (go_at_call 18; refine (HLn.out _ _ hT).mono ?_; rintro e w3 ⟨a1, c1, a2, c2, rfl, i1, i2, hb3, l1, l2⟩; have hT3 := hT.below hb3; have I1 := Lib.hid i1; have I2 := Lib.hid i2; obtain ⟨b2, o2, e2, _, hcell⟩ := i2 hbl; have hc0 := hcell 0 hbl; rw [HB0.out] at hc0; simp only [Nat.add_zero] at hc0; subst e2; clear hcell i1 i2)
        | (go_at_call 22; refine (HLv.out _ _ hT3).mono ?_; rintro e w' ⟨rfl, rfl⟩))
      have HI : Hid (∀ k (h : k < bonds.length), ∃ j, ∃ hj : j < cls.length, w3.cell? ⟨b2, o2 + k, none⟩ = some (.int .i64 (j : Int)) ∧ cls.getD bonds[k].toNat [] = cls[j] ∧ knownB n cls[j] = true) := Lib.hid fun k hk => by
        obtain ⟨b', o', e', _, hcell⟩ := I2.out (by omega)
        injection e' with e'
        injection e' with e1 e2
        subst e1 e2
        obtain ⟨h1, h2, h3⟩ := HF.out.bonds bonds[k] (List.getElem_mem _)
        obtain ⟨j, hj, h4, h5⟩ := cls_getD h1 h2
        exact ⟨j, hj, by rw [hcell k hk, h4], h5, by rw [← h5]; exact h3⟩
      have HCl : Hid (∀ j (hj : j < cls.length), ∃ bc oc ao' cap', ac = some ⟨bc, oc, none⟩ ∧ w3.cell? ⟨bc, oc + j, none⟩ = some (.slice ao' cls[j].length cap') ∧ Ints w3 ao' cls[j]) := Lib.hid fun j hj => by
        obtain ⟨bc, oc, e, _, h⟩ := HC.out.below hT3.bel (by omega)
        obtain ⟨ao', cap', h1, h2⟩ := h j hj
        exact ⟨bc, oc, ao', cap', e, h1, h2⟩
      have hbel := hT3.bel
      have HBel := Lib.hid hbel
      clear hbel hT3 hT hB1 hb3 HLn HMd HLg HLv
      go_loop [14] (fun i => ∃ m : Nat, m ≤ 1024 ∧ i = .int .i64 m) (fun i => 1024 - (intOf i).toNat)
      case atStart => exact ⟨0, Nat.zero_le _, rfl⟩
      case round =>
        obtain ⟨m, hm, rfl⟩ := hrel
        by_cases hlt : (m : Int) < wrap64 (2 ^ n)
        · go_wp2_with fail
          go_loop [15, 16] (fun a i => ∃ k : Nat, k ≤ bonds.length ∧ i = .int .i64 k ∧ ∃ q : Bool, a = .bool q ∧ Hid (q = (bonds.take k).all fun b => holdsA (bitA m) (cls.getD b.toNat []))) (fun _ i => bonds.length - (intOf i).toNat)
          case atStart => exact ⟨0, Nat.zero_le _, rfl, true, rfl, Lib.hid (by simp)⟩
          case round =>
            obtain ⟨k, hk, rfl, q, rfl, HQ⟩ := hrel
            cases q with
            | false =>
              go_wp2_with fail
              all_goals
                go_round
                case rel => exact ⟨m + 1, by omega, by go_num⟩
                case measure => simp [intOf]; omega
            | true =>
              by_cases hkl : k < bonds.length
              · obtain ⟨j, hj, hcj, hgd, hkn⟩ := HI.out k hkl
                obtain ⟨bc, oc, ao', cap', rfl, hcc, hci⟩ := HCl.out j hj
                have hki : (k : Int) < (bonds.length : Int) := by omega
                have hji : (j : Int) < (cls.length : Int) := by omega
                have hHo := holds_any m cls[j] ao' cap' w3 hm hci (fun x hx => by
                  have := List.all_eq_true.1 hkn x hx
                  simp only [decide_eq_true_eq] at this
                  omega) (by have := HG2.out _ (List.getElem_mem hj); omega)
                have hnx : ((bonds.take (k + 1)).all fun b => holdsA (bitA m) (cls.getD b.toNat [])) = holdsA (bitA m) cls[j] := by
                  rw [List.take_succ_eq_append_getElem hkl, List.all_append, ← HQ.out]
                  simp only [List.all_cons, List.all_nil, Bool.and_true, Bool.true_and, hgd]
                have HN := Lib.hid hnx
                have HHo := Lib.hid hHo
                generalize holdsA (bitA m) cls[j] = qn at *
                generalize cls[j] = cj at *
                clear hgd hkn hci hHo hnx HQ
                go_wp2_with (go_at_call 23; refine HHo.out.mono ?_; rintro e w' ⟨rfl, rfl⟩)
                go_round
                case rel => exact ⟨k + 1, by omega, by go_num, qn, rfl, Lib.hid HN.out.symm⟩
                case measure => simp [intOf]; omega
              · obtain rfl : k = bonds.length := by omega
                have hall := HF.out.follows (bitA m) fun b hb => by
                  have h := HQ.out
                  rw [List.take_length] at h
                  exact List.all_eq_true.1 h.symm b hb
                simp only at hall
                have hHo := holds_any m _ a1 c1 w3 hm I1.out (fun x hx => by
                  have := HF.out.lits x hx
                  omega) l1
                rw [hall] at hHo
                have HHo := Lib.hid hHo
                clear hHo HQ
                first
                  | (have hf : False := by simp [holdsA] at hall
                     exact hf.elim)
                  | (clear hall
                     go_wp2_with (go_at_call 23; (with_reducible refine HHo.out.mono ?_); rintro e w' ⟨rfl, rfl⟩)
                     go_round
                     case rel => exact ⟨m + 1, by omega, by go_num⟩
                     case measure => simp [intOf]; omega)
        · go_wp2_with fail
          go_ret
          exact ⟨rfl, HBel.out⟩
  · obtain ⟨rfl, rfl, rfl⟩ := HEr.out her
    have her2 : (er != 0) = true := by simpa using her
    clear HFo HEr her
    go_enter Try.func5, Try.ntmps5
    go_wp2_with (first
      | (go_at_call 7; refine (works_any w).mono ?_; rintro e w1 ⟨rfl, hB1⟩)
      | (go_at_call 11; refine (HLg.out _ hB1).mono ?_; rintro e w' ⟨rfl, rfl⟩)
      | (go_at_call 9; refine (HMd.out _ hB1).mono ?_; rintro e w2 ⟨g, rfl, hT⟩)
      | (go_at_call 18; refine (HLn.out _ _ hT).mono ?_; rintro e w3 ⟨a1, c1, a2, c2, rfl, i1, i2, hb3, l1, l2⟩; have hT3 := hT.below hb3; simp only [List.length_nil]))
    go_ret
    exact ⟨rfl, hT3.bel⟩

theorem follows_walk (vars : Int) (hv : (Lit.int .i64 vars).wf = true) (ao : Option Addr) (l : List Step2D) (cap b off : Nat) (ac : Option Addr) (cls : List (List Int)) (cc : Nat) (conflict : Int) (hcf : (Lit.int .i64 conflict).wf = true) (w : World) (hl : IsSteps2 w w.heap.size ao b off l)
    (hc : IsCls w ac cls) (hl1 : cls.length ≤ 9223372036854775807) (hl2 : ∀ c ∈ cls, c.length ≤ 140737488351232) :
    Calls Try.prog 5 #[.int .i64 vars, .slice ao l.length cap, .slice ac cls.length cc, .int .i64 conflict] w fun e w' => e = .returned (.bool true) ∧ Below w.heap.size w w' := by
  have hv' := wf_i64b hv
  have HLg : Hid (∀ w1, Below w.heap.size w w1 → Calls Try.prog 11 #[.slice ac cls.length cc, .slice ao l.length cap] w1 fun e w' => e = .returned (.bool (largeB cls l.length)) ∧ w1 = w') :=
    Lib.hid fun w1 hb => large_any cls ac ao cc l.length cap w1 (hc.below hb) hl1 hl2
  by_cases hlg : largeB cls l.length = true
  · rw [hlg] at HLg
    clear hc hl hlg hl2
    go_enter Try.func5, Try.ntmps5
    go_wp2_with (first
      | (go_at_call 7; (with_reducible refine (works_any w).mono ?_); rintro e w1 ⟨rfl, hB1⟩)
      | (go_at_call 11; refine (HLg.out _ hB1).mono ?_; rintro e w' ⟨rfl, rfl⟩)
      | (go_at_call 7; refine (works_any _).mono ?_; rintro e w2 ⟨rfl, hB2⟩))
    go_ret
    exact ⟨rfl, bel_trans hB1 hB2⟩
  · have hlg2 : largeB cls l.length = false := by simpa using hlg
    by_cases h10 : 10 < vars
    · rw [hlg2] at HLg
      clear hc hl hlg hl2 hlg2
      go_enter Try.func5, Try.ntmps5
      go_wp2_with (first
        | (go_at_call 7; (with_reducible refine (works_any w).mono ?_); rintro e w1 ⟨rfl, hB1⟩)
        | (go_at_call 11; refine (HLg.out _ hB1).mono ?_; rintro e w' ⟨rfl, rfl⟩)
        | (go_at_call 7; refine (works_any _).mono ?_; rintro e w2 ⟨rfl, hB2⟩))
      go_ret
      exact ⟨rfl, bel_trans hB1 hB2⟩
    · by_cases h0 : vars < 0
      · rw [hlg2] at HLg
        have hd1 : decide (10 < vars) = false := by simpa using h10
        have HM : Hid (∀ v w1, Calls Try.prog 9 #[.int .i64 vars, v] w1 fun e w' => e = .returned (.pointer none) ∧ w1 = w') := Lib.hid fun v w1 => made_bad vars v w1 (.inl h0)
        clear hc hl hlg hl2 hlg2
        go_enter Try.func5, Try.ntmps5
        go_wp2_with (first
          | (go_at_call 7; (with_reducible refine (works_any w).mono ?_); rintro e w1 ⟨rfl, hB1⟩)
          | (go_at_call 11; refine (HLg.out _ hB1).mono ?_; rintro e w' ⟨rfl, rfl⟩)
          | (go_at_call 9; refine (HM.out _ _).mono ?_; rintro e w' ⟨rfl, rfl⟩))
        go_ret
        exact ⟨rfl, hB1⟩
      · obtain ⟨n, rfl⟩ := Int.eq_ofNat_of_zero_le (by omega : 0 ≤ vars)
        exact follows_main n (by omega) ao l cap b off ac cls cc conflict (wf_i64b hcf) w hl hc hlg2 hl1 hl2

end Go.Proofs.Ythfmlmodpcikcaa
