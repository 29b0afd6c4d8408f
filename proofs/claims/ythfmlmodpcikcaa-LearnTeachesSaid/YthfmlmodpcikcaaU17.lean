/- LearnTurns: the walk. -/
import Derived.Test.YthfmlmodpcikcaaU15
import Derived.Test.YthfmlmodpcikcaaU16
import Derived.Deep.RegionHeld3
namespace Go.Proofs.Ythfmlmodpcikcaa
open Go.ChangeShapes Go.WideShapes Go.ChangeAt Go.RowKit Go.Maps Go.Deep
set_option maxRecDepth 100000

theorem var_any (x : Int) (w : World) (h1 : -5000 ≤ x) (h2 : x ≤ 5000) :
    Calls Try.prog 24 #[.int .i64 x] w fun e w' => e = .returned (.int .i64 ((x.natAbs : Int) - 1)) ∧ w = w' := by
  by_cases hneg : x < 0
  · have e1 : (x.natAbs : Int) - 1 = -x - 1 := by omega
    rw [e1]
    clear e1
    go_enter Try.func24, Try.ntmps24
    go_wp2_with fail
    go_ret
    exact ⟨rfl, rfl⟩
  · have e1 : (x.natAbs : Int) - 1 = x - 1 := by omega
    rw [e1]
    have h3 : 0 ≤ x := by omega
    clear e1 hneg
    go_enter Try.func24, Try.ntmps24
    go_wp2_with fail
    go_ret
    exact ⟨rfl, rfl⟩

theorem learn_ints3 {w0 w : World} {X : Nat → Prop} {L : List (Nat × TrD)} {g n : Nat} {es : List En} (cls : List (List Int)) (ao : Option Addr) (cap : Nat) (conflict : Int) (hT : Trails w0 w X L) (i : Nat) (hL : L[i]? = some (g, trE n es)) (hg : Good n es) (hn : n ≤ 5000)
    (hc : IsCls w ao cls) (hcl : ∀ c ∈ cls, c.length ≤ 1000) (hln : cls.length ≤ 1000000) (R : Taught) (hR : learnE n es cls conflict = R) :
    Calls Try.prog 18 #[.pointer (some ⟨g, 0, none⟩), .slice ao cls.length cap, .int .i64 conflict] w fun e w' => ∃ a1 c1 a2 c2, e = .returned (.tuple #[.slice a1 R.1.length c1, .int .i64 R.2.1, .slice a2 R.2.2.1.length c2, .int .i64 R.2.2.2]) ∧
      (Ints w' a1 R.1 ∧ ∀ p, a1 = some p → w.heap.size ≤ p.block) ∧ Ints w' a2 R.2.2.1 ∧ Below w.heap.size w w' ∧ R.1.length ≤ 9223372036854775807 ∧ R.2.2.1.length ≤ 9223372036854775807 := by
  subst hR
  refine (learn_any cls ao cap conflict hT i hL hg hn hc hcl hln).mono ?_
  rintro e w' ⟨hb, vc, vs, rfl, o1, o2, b1, _⟩
  obtain ⟨_, k1, _, l1, m1, _⟩ := o1.form
  obtain ⟨_, k2, _, l2, m2, _⟩ := o2.form
  obtain ⟨a1, c1, rfl, i1⟩ := o1.ints
  obtain ⟨a2, c2, rfl, i2⟩ := o2.ints
  unfold maxLen at m1 m2
  exact ⟨a1, c1, a2, c2, rfl, ⟨i1, fun p hp => b1 p.block (by rw [hp]; rfl)⟩, i2, hb, by omega, by omega⟩

/-- wpAnyH_take, where the operation's slot is written out. -/
theorem take_at {P : Program} {md : Region.Mode} {ops : Array Oper} {Q : Exit → Act → World → Prop} {S : World → Prop} {i : Nat} {oi : Oper} {d : Option Tmp} {v : Value} {fuel : Nat} {listed : Array Bool} {a : Act} {w : World} (hi : ops[i]? = some oi) (hd : oi.dst = d)
    (hs : Region.noSelect ops = true) (hf : Region.free md ops listed i = true) (hr : (Region.ready md ops listed).contains i = true)
    (hQ : ∀ c a w, Q (.panic c) (a.put oi.dst v) w → Q (.panic c) a w) (hy : YieldsIf P ops S oi v a) (hS : S w)
    (h : wpAnyH P md ops Q S fuel (listed.setIfInBounds i true) (a.put d v) w) : wpAnyH P md ops Q S (fuel + 1) listed a w :=
  wpAnyH_take hi hs hf hr hQ hy hS (hd ▸ h)

theorem backFrom_snoc {n : Nat} {es : List En} (x : Int) : ∀ (l : List Int) (b : Int), backFrom n es b (l ++ [x]) = max (backFrom n es b l) (ofE n es ((x.natAbs : Int) - 1)).level
  | [], _ => rfl
  | y :: l, b => by
    rw [List.cons_append, backFrom, backFrom, backFrom_snoc x l]
theorem deep_succ {n : Nat} {es : List En} {c : List Int} (k : Nat) (h : k < c.length) (h0 : 0 < k) : backFrom n es 0 (c.take (k + 1)).tail = max (backFrom n es 0 (c.take k).tail) (ofE n es ((c[k].natAbs : Int) - 1)).level := by
  rw [← backFrom_snoc, List.take_succ_eq_append_getElem h, List.tail_append_of_ne_nil]
  intro e
  have := congrArg List.length e
  rw [List.length_take] at this
  simp only [List.length_nil] at this
  omega
theorem deep_one {n : Nat} {es : List En} : ∀ c : List Int, backFrom n es 0 (c.take (0 + 1)).tail = backFrom n es 0 (c.take 0).tail
  | [] => rfl
  | _ :: _ => rfl
theorem older_len {es : List En} {k : Nat} (h : k ≤ es.length) : (older es k).length = k := by unfold older; rw [List.length_drop]; omega

set_option maxHeartbeats 4000000 in
theorem turns_main (n : Nat) (hn : n ≤ 200) (ao : Option Addr) (l : List Step2D) (cap b off : Nat) (ac : Option Addr) (cls : List (List Int)) (cc : Nat) (conflict : Int) (w : World) (hl : IsSteps2 w w.heap.size ao b off l)
    (hc : IsCls w ac cls) (hlg : largeB cls l.length = false) (hl1 : cls.length ≤ 9223372036854775807) (hl2 : ∀ c ∈ cls, c.length ≤ 140737488351232) :
    Calls Try.prog 6 #[.int .i64 n, .slice ao l.length cap, .slice ac cls.length cc, .int .i64 conflict] w fun e w' => e = .returned (.bool true) ∧ Below w.heap.size w w' := by
  obtain ⟨i3, hi, hz0, hz1, hz2⟩ := info_parts (P := Try.prog) (e := 3) (z := .int .i64 0) (size := 1) (bytes := 8) (by kernel_rfl)
  obtain ⟨g1, g2, g3⟩ := large_no hlg
  have HLg : Hid (∀ w1, Below w.heap.size w w1 → Calls Try.prog 11 #[.slice ac cls.length cc, .slice ao l.length cap] w1 fun e w' => e = .returned (.bool false) ∧ w1 = w') :=
    Lib.hid fun w1 hb => by
      have h := large_any cls ac ao cc l.length cap w1 (hc.below hb) hl1 hl2
      rwa [hlg] at h
  have HMd : Hid (∀ w1, Below w.heap.size w w1 → Calls Try.prog 9 #[.int .i64 n, .slice ao l.length cap] w1 fun e w' => ∃ g, e = .returned (.pointer (some ⟨g, 0, none⟩)) ∧ Trails w w' (fun _ => False) [(g, trE n (madeE n [] l))]) :=
    Lib.hid fun w1 hb => made_any n ao l cap b off w w1 hb hl (by omega) (by omega)
  have hg := madeE_good (n := n) l (es := []) trivial
  generalize madeE n [] l = es at *
  generalize hR : learnE n es cls conflict = R at *
  have HLn : Hid (∀ w2 g, Trails w w2 (fun _ => False) [(g, trE n es)] → Calls Try.prog 18 #[.pointer (some ⟨g, 0, none⟩), .slice ac cls.length cc, .int .i64 conflict] w2 fun e w' => ∃ a1 c1 a2 c2, e = .returned (.tuple #[.slice a1 R.1.length c1, .int .i64 R.2.1, .slice a2 R.2.2.1.length c2, .int .i64 R.2.2.2]) ∧
      (Ints w' a1 R.1 ∧ ∀ p, a1 = some p → w2.heap.size ≤ p.block) ∧ Ints w' a2 R.2.2.1 ∧ Below w2.heap.size w2 w' ∧ R.1.length ≤ 9223372036854775807 ∧ R.2.2.1.length ≤ 9223372036854775807) :=
    Lib.hid fun w2 g hT => learn_ints3 cls ac cc conflict hT 0 rfl hg (by omega) (hc.below hT.bel) (fun c hc => by have := g2 c hc; omega) (by omega) R hR
  have HFo : Hid (R.2.2.2 = 0 → Follow n es cls conflict R) := Lib.hid fun h => by
    have := learn_follows (cls := cls) (conflict := conflict) hg (by rw [hR]; exact h)
    rwa [hR] at this
  have HTu : Hid (R.2.2.2 = 0 → R.2.1 ≠ -1 → Turn n es R.1 R.2.1) := Lib.hid fun h h' => by
    have := learn_turn (cls := cls) (conflict := conflict) hg (by rw [hR]; exact h) (by rw [hR]; exact h')
    rwa [hR] at this
  have HEr : Hid (R.2.2.2 ≠ 0 → R.1 = [] ∧ R.2.1 = 0 ∧ R.2.2.1 = []) := Lib.hid fun h => by
    have := learn_err (n := n) (es := es) (cls := cls) (conflict := conflict) (by rw [hR]; exact h)
    rwa [hR] at this
  have HG := Lib.hid hg
  have hd1 : decide ((200 : Int) < (n : Int)) = false := by simp; omega
  obtain ⟨c, back, bonds, er⟩ := R
  simp only at HLn HFo HEr HTu
  have hh := hi_nonneg hg
  have hlen := hg.len_le
  clear hl hc hlg hl1 hl2 hg hR g2
  by_cases her : er = 0
  · subst her
    have F := HFo.out rfl
    obtain ⟨r, hbs⟩ := F.head
    simp only at hbs
    by_cases hbk : back = -1
    · have hc0 := F.none hbk
      simp only at hc0
      subst hbk hc0 hbs
      clear F HFo HEr HTu
      go_enter Try.func6, Try.ntmps6
      go_wp2_with (first
        | (go_at_call 7; refine (works_any w).mono ?_; rintro e w1 ⟨rfl, hB1⟩)
        | (go_at_call 11; refine (HLg.out _ hB1).mono ?_; rintro e w' ⟨rfl, rfl⟩)
        | (go_at_call 9; refine (HMd.out _ hB1).mono ?_; rintro e w2 ⟨g, rfl, hT⟩)
        | (go_at_call 18; refine (HLn.out _ _ hT).mono ?_; rintro e w3 ⟨a1, c1, a2, c2, rfl, i1, i2, hb3, l1, l2⟩; have hT3 := hT.below hb3; simp only [List.length_nil, List.length_cons]))
      go_ret
      exact ⟨rfl, hT3.bel⟩
    · have T := HTu.out rfl hbk
      have HT := Lib.hid T
      have hbk2 : (back == -1) = false := by simpa using hbk
      have hcl := T.ne
      have hcn : ((c.length : Int) == 0) = false := by simp; intro e; rw [e] at hcl; simp at hcl
      have hb1 := T.back0
      have hb2 := T.backh
      have hb3' : decide (back < 0) = false := by simpa using hb1
      have hHi := hi_le_len HG.out
      clear F HFo HEr HTu T hbs
      have HTr : Hid (∀ w3 X g, Trails w w3 X [(g, trE n es)] → Calls Try.prog 22 #[.pointer (some ⟨g, 0, none⟩)] w3 fun e w' => e = .returned (.int .i64 (Go.Proofs.Ythfmlmodpcikcaa.hi es)) ∧ w3 = w') :=
        Lib.hid fun w3 X g hT => level_eq hT 0 rfl HG.out _ rfl
      obtain ⟨hv, hhv⟩ : ∃ hv, hv = Go.Proofs.Ythfmlmodpcikcaa.hi es := ⟨_, rfl⟩
      rw [← hhv] at HTr hb2 hHi hh
      have HHv := Lib.hid hhv
      have hb4 : decide (hv ≤ back) = false := by simpa using hb2
      clear hhv
      go_enter Try.func6, Try.ntmps6
      go_wp2_with (first
        | (go_at_call 7; refine (works_any w).mono ?_; rintro e w1 ⟨rfl, hB1⟩)
        | (go_at_call 11; refine (HLg.out _ hB1).mono ?_; rintro e w' ⟨rfl, rfl⟩)
        | (go_at_call 9; refine (HMd.out _ hB1).mono ?_; rintro e w2 ⟨g, rfl, hT⟩)
        | (go_at_call 18; refine (HLn.out _ _ hT).mono ?_; rintro e w3 ⟨a1, c1, a2, c2, rfl, i1, i2, hb3, l1, l2⟩; obtain ⟨cb, co, e1, hcb, _⟩ := i1.1 hcl; subst e1; have hcb2 := i1.2 _ rfl; have hcw : w.heap.size ≤ cb := Nat.le_trans hT.bel.size hcb2; have hT3 : Trails w w3 (fun j => j = cb) [(g, trE n es)] := hT.withX hb3 (fun k hk => .inr ⟨hk ▸ hcb2, hk ▸ hcb⟩); have I1 := Lib.hid i1.1; clear i1 i2 hcb2)
        | (go_at_call 22; refine (HTr.out _ _ _ hT3).mono ?_; rintro e w' ⟨rfl, rfl⟩)
        | (at_make; go_loud (refine wpList_make_full _ rfl (.tmp 79) (.tmp 79) _ rfl 0 3 i3 _ 1 Try.underlying30 hi hz0 hz1 .i64 .i64 _ _ n rfl rfl rfl rfl (by rw [hz2]; omega) (by simp only [maxLen]; omega) (Nat.zero_le _) ?_); intro w4 hown hgr))
      have hB4 : Below w3.heap.size w3 w4 := ⟨hgr.os, hgr.tape, hgr.output, hgr.size, fun k hk => hgr.block k hk (by simp)⟩
      have hO := Own.of_kit hown
      have hgl := hO.lt w3.heap.size rfl
      have hcl3 : (madeCells (Value.int .i64 0).cells (n * 1)).toList = inC (placesE n []) := by
        have e1 : (Value.int .i64 0).cells = #[.int .i64 0] := rfl
        rw [e1, toList_madeCells_one, placesE_nil]
        simp [inC]
      rw [hcl3] at hO
      have hgw : w.heap.size ≤ w3.heap.size := hT3.bel.size
      have hT4 : Trails w w4 (fun j => j = cb ∨ j = w3.heap.size) [(g, trE n es)] := hT3.withX hB4 fun k hk => by
        rcases hk with hk | hk
        · exact .inl hk
        · exact .inr ⟨by omega, by omega⟩
      have I4 := Lib.hid (I1.out.below hB4)
      have HX : Hid (∀ j, (j = cb ∨ j = w3.heap.size) → w.heap.size ≤ j) := Lib.hid fun j hj => by omega
      have hne : cb ≠ w3.heap.size := by omega
      have hB04 := Lib.hid hT4.bel
      clear hown hgr hcl3 hB4 hT3 hgl hgw HLn HMd HLg I1 hcb hb3
      generalize w3.heap.size = gm at *
      go_loopw [16] (fun i wr => ∃ k : Nat, k ≤ es.length ∧ i = .int .i64 k ∧ Own wr 3 1 (.slice (some ⟨gm, 0, none⟩) n n) n (inC (placesE n (older es k))) ∧ Trails w wr (fun j => j = cb ∨ j = gm) [(g, trE n es)] ∧ Hid (Ints wr (some ⟨cb, co, none⟩) c)) (fun i _ => es.length - (intOf i).toNat)
      case atStart => exact ⟨0, by omega, rfl, by rw [older_zero]; exact hO, hT4, I4⟩
      case round =>
        obtain ⟨k, hk, rfl, hO, hT, HI⟩ := hrel
        have HLen := Lib.hid (len_eq hT 0 rfl es.length rfl)
        by_cases hlt : k < es.length
        · obtain ⟨e, he, hold, hat⟩ := older_succ es k hlt
          have hlit := HG.out.lit e he
          have HA := Lib.hid (at_eq hT 0 rfl (k : Int) e.lit hat)
          have hlit' := hlit
          unfold Lit at hlit'
          have hki : (k : Int) < (es.length : Int) := by omega
          obtain ⟨u, hu⟩ : ∃ u, u = e.lit.natAbs - 1 := ⟨_, rfl⟩
          have hui : (u : Int) < (n : Int) := by omega
          have hmc := placesE_get n (older es k) u (by omega)
          have hms := placesE_set n (older es k) e hlit
          rw [← hu, ← hold, older_len hk] at hms
          obtain ⟨_, c', e1, _, _, hf⟩ := hO.form
          obtain ⟨b', o', e', hcm, hfm, _⟩ := hf (by omega)
          subst e'
          injection e1 with e1 e2 e3
          subst e3
          injection e1 with e1
          injection e1 with e1 e4
          subst e1 e4
          have hcu := hcm u (by simp [inC, placesE_len]; omega)
          rw [hmc] at hcu
          simp only [Nat.zero_add] at hcu
          have hTs := hT.foreign (w' := wr.setCell ⟨gm, u, none⟩ (.int .i64 k)) ((Touch.refl (fun j => j = cb ∨ j = gm) wr).setCell (p := ⟨gm, u, none⟩) (fun _ => .inr rfl) _) HX.out
          have HTs := Lib.hid hTs
          have hOs := hO.stored u (.int .i64 k)
          rw [hms, Nat.zero_add] at hOs
          have HOs := Lib.hid hOs
          have hIs : Ints (wr.setCell ⟨gm, u, none⟩ (.int .i64 k)) (some ⟨cb, co, none⟩) c := fun h0 => by
            obtain ⟨b', o', e', h1, h2⟩ := HI.out h0
            injection e' with e'
            injection e' with e1 e2
            subst e1 e2
            exact ⟨cb, co, rfl, by simpa [World.setCell] using h1, fun j hj => (World.cell?_of_block (w := wr) (Below.heap_setCell wr ⟨gm, u, none⟩ _ cb (by simpa using hne))).trans (h2 j hj)⟩
          have HIs := Lib.hid hIs
          generalize hx : e.lit = x at *
          have HV := Lib.hid (var_any x wr (by omega) (by omega))
          have e5 : (x.natAbs : Int) - 1 = (u : Int) := by omega
          rw [e5] at HV
          have hun : ¬ (n : Int) ≤ (u : Int) := by omega
          have hud : decide ((n : Int) ≤ (u : Int)) = false := by simpa using hun
          clear hold hms hOs hIs hTs hO hT hat hlit hlit' hmc hx hu e5 e2 HI hcm
          go_wp2_with (first
            | (go_at_call 21; (with_reducible refine HLen.out.mono ?_); rintro e w' ⟨rfl, rfl⟩)
            | (go_at_call 25; (with_reducible refine HA.out.mono ?_); rintro e w' ⟨rfl, rfl⟩)
            | (go_at_call 24; (with_reducible refine HV.out.mono ?_); rintro e w' ⟨rfl, rfl⟩))
          go_roundw
          case rel => exact ⟨k + 1, by omega, by go_num, HOs.out, HTs.out, HIs⟩
          case measure => simp [intOf]; omega
        · obtain rfl : k = es.length := by omega
          rw [older_all] at hO
          obtain ⟨w5, rfl⟩ : ∃ w5 : World, w5 = wr := ⟨_, rfl⟩
          have HP : Hid (∀ w', Below w5.heap.size w5 w' → ∀ u, u < n → w'.cell? ⟨gm, u, none⟩ = some (.int .i64 (posV es u))) := Lib.hid fun w' hb u hu => by
            obtain ⟨_, c', e1, _, _, hf⟩ := hO.form
            obtain ⟨b', o', e', hcm, _, hbl⟩ := hf (by omega)
            subst e'
            injection e1 with e1 e2 e3
            injection e1 with e1
            injection e1 with e1 e4
            subst e1 e4
            have h := hcm u (by simp [inC, placesE_len]; omega)
            rw [placesE_get n es u hu, Nat.zero_add] at h
            exact (World.cell?_of_block (w := w5) (hb.block gm hbl)).trans h
          have HC : Hid (∀ w', Below w5.heap.size w5 w' → ∀ i (h : i < c.length), w'.cell? ⟨cb, co + i, none⟩ = some (.int .i64 c[i])) := Lib.hid fun w' hb i h => by
            obtain ⟨b', o', e', h1, h2⟩ := HI.out (by omega)
            injection e' with e'
            injection e' with e1 e2
            subst e1 e2
            exact (World.cell?_of_block (w := w5) (hb.block cb h1)).trans (h2 i h)
          have HVa : Hid (∀ w' i (h : i < c.length), Below w5.heap.size w5 w' → Calls Try.prog 26 #[.pointer (some ⟨g, 0, none⟩), .int .i64 c[i]] w' fun e w'' => e = .returned (.int .i64 (-1)) ∧ w' = w'') := Lib.hid fun w' i h hb => by
            have h1 := HT.out.lit i h
            exact value_eq (hT.below hb) 0 rfl (by omega) _ ⟨by omega, by omega⟩ _ (HT.out.val i h)
          have HLv : Hid (∀ w' v x, Below w5.heap.size w5 w' → (ofE n es v).level = x → Calls Try.prog 27 #[.pointer (some ⟨g, 0, none⟩), .int .i64 v] w' fun e w'' => e = .returned (.int .i64 x) ∧ Below w'.heap.size w' w'') :=
            Lib.hid fun w' v x h hv => (levelOf_eq (hT.below h) 0 rfl (by omega) v x hv).mono fun _ _ hh => ⟨hh.1, hh.2.1⟩
          have HLe : Hid (∀ w', Below w5.heap.size w5 w' → Calls Try.prog 22 #[.pointer (some ⟨g, 0, none⟩)] w' fun e w'' => e = .returned (.int .i64 hv) ∧ w' = w'') := Lib.hid fun w' h => HTr.out _ _ _ (hT.below h)
          have HT5 := Lib.hid hT
          clear hT hO HI HTr
          go_wp2_with (go_at_call 21; (with_reducible refine HLen.out.mono ?_); rintro e w' ⟨rfl, rfl⟩)
          clear HLen
          go_loopw [18, 19] (fun d i wr => ∃ (k : Nat) (D : Int), k ≤ c.length ∧ i = .int .i64 k ∧ d = .int .i64 D ∧ Hid (D = backFrom n es 0 (c.take k).tail) ∧ Hid (Below w5.heap.size w5 wr)) (fun _ i _ => c.length - (intOf i).toNat)
          case atStart => exact ⟨0, 0, by omega, rfl, rfl, Lib.hid rfl, Lib.hid (Below.refl _ _)⟩
          case round =>
            obtain ⟨k, D, hk, rfl, rfl, HD, HB⟩ := hrel
            by_cases hlt : k < c.length
            · have hki : (k : Int) < (c.length : Int) := by omega
              have hck := HC.out wr HB.out k hlt
              have hlx := HT.out.lit k hlt
              have hlev := HT.out.lev k hlt
              obtain ⟨u, hu⟩ : ∃ u : Nat, u = c[k].natAbs - 1 := ⟨_, rfl⟩
              have hui : (u : Int) < (n : Int) := by omega
              have hun : ¬ (n : Int) ≤ (u : Int) := by omega
              have hud : decide ((n : Int) ≤ (u : Int)) = false := by simpa using hun
              have hud2 : decide (n ≤ u) = false := by simp; omega
              have hu0 : decide ((u : Int) < 0) = false := by simp
              have hxu : ((c[k].natAbs : Int) - 1) = (u : Int) := by omega
              have HVr : Hid (∀ w', Calls Try.prog 24 #[.int .i64 c[k]] w' fun e w'' => e = .returned (.int .i64 (u : Int)) ∧ w' = w'') := Lib.hid fun w' => by
                have h := var_any c[k] w' (by omega) (by omega)
                rwa [hxu] at h
              have HVl : Hid (∀ w', Below w5.heap.size w5 w' → Calls Try.prog 26 #[.pointer (some ⟨g, 0, none⟩), .int .i64 c[k]] w' fun e w'' => e = .returned (.int .i64 (-1)) ∧ w' = w'') := Lib.hid fun w' h => HVa.out w' k hlt h
              rw [hxu] at hlev
              obtain ⟨lv, hlv⟩ : ∃ lv, lv = (ofE n es (u : Int)).level := ⟨_, rfl⟩
              have HLo : Hid (∀ w', Below w5.heap.size w5 w' → Calls Try.prog 27 #[.pointer (some ⟨g, 0, none⟩), .int .i64 (u : Int)] w' fun e w'' => e = .returned (.int .i64 lv) ∧ Below w'.heap.size w' w'') := Lib.hid fun w' h => HLv.out w' (u : Int) lv h hlv.symm
              have hbd : Below w5.heap.size w5 wr.drew := bel_drewN HB.out 1
              rw [← hlv, ← HHv.out] at hlev
              rcases Nat.eq_zero_or_pos k with hk0 | hk0
              · have hq0 : lv = hv := hlev.2 hk0
                have hq1 : (lv == hv) = true := by simpa using hq0
                have hq2 : ((k : Int) == 0) = true := by simp; omega
                have hq3 : decide (0 < (k : Int)) = false := by simp; omega
                have hq4 : decide (0 < k) = false := by simp; omega
                have HK := Lib.hid hk0
                have HSS : Hid (∀ w', Below w5.heap.size w5 w' → w'.cell? ⟨cb, co + k, none⟩ = some (.int .i64 c[k])) := Lib.hid fun w' h => HC.out w' h k hlt
                generalize c[k] = x at *
                clear hlev hlv hk0 hxu hu hlx hq0
                go_upto_region 25 with (go_at_call 24; (with_reducible refine (HVr.out _).mono ?_); rintro e w' ⟨rfl, rfl⟩)
                refine wp_region_held_drew (S := fun w' => w'.cell? ⟨cb, co + k, none⟩ = some (.int .i64 x)) (by kernel_rfl) (HSS.out _ hbd) (fun hHeld => ?_)
                refine take_at (i := 0) (d := some 116) (v := ?v0) rfl rfl (by kernel_rfl) (by kernel_rfl) (by kernel_rfl) (fun _ _ _ h => h) (Or.inl ⟨by rfl, ?y0⟩) hHeld ?r0
                case y0 => (intro w hSw; (try dsimp only at hSw); go_simp <;> with_reducible rfl)
                (try simp only [Act.put, List.setIfInBounds_toArray, List.set_cons_zero, List.set_cons_succ])
                refine take_at (i := 1) (d := some 117) (v := ?v1) rfl rfl (by kernel_rfl) (by kernel_rfl) (by kernel_rfl) (fun _ _ _ h => h) (Or.inl ⟨by rfl, ?y1⟩) hHeld ?r1
                case y1 => (intro w hSw; (try dsimp only at hSw); go_simp <;> with_reducible rfl)
                (try simp only [Act.put, List.setIfInBounds_toArray, List.set_cons_zero, List.set_cons_succ])
                refine take_at (i := 2) (d := some 118) (v := ?v2) rfl rfl (by kernel_rfl) (by kernel_rfl) (by kernel_rfl) (fun _ _ _ h => h) (Or.inl ⟨by rfl, ?y2⟩) hHeld ?r2
                case y2 => (intro w hSw; (try dsimp only at hSw); go_simp <;> with_reducible rfl)
                (try simp only [Act.put, List.setIfInBounds_toArray, List.set_cons_zero, List.set_cons_succ])
                refine take_at (i := 3) (d := some 119) (v := ?v3) rfl rfl (by kernel_rfl) (by kernel_rfl) (by kernel_rfl) (fun _ _ _ h => h) (Or.inl ⟨by rfl, ?y3⟩) hHeld ?r3
                case y3 => (intro w hSw; (try dsimp only at hSw); go_simp <;> with_reducible rfl)
                (try simp only [Act.put, List.setIfInBounds_toArray, List.set_cons_zero, List.set_cons_succ])
                refine take_at (i := 4) (d := some 120) (v := ?v4) rfl rfl (by kernel_rfl) (by kernel_rfl) (by kernel_rfl) (fun _ _ _ h => h) (Or.inl ⟨by rfl, ?y4⟩) hHeld ?r4
                case y4 => (intro w hSw; (try dsimp only at hSw); go_simp <;> with_reducible rfl)
                (try simp only [Act.put, List.setIfInBounds_toArray, List.set_cons_zero, List.set_cons_succ])
                refine take_at (i := 5) (d := some 121) (v := ?v5) rfl rfl (by kernel_rfl) (by kernel_rfl) (by kernel_rfl) (fun _ _ _ h => h) (Or.inl ⟨by rfl, ?y5⟩) hHeld ?r5
                case y5 => (intro w hSw; (try dsimp only at hSw); go_simp <;> with_reducible rfl)
                (try simp only [Act.put, List.setIfInBounds_toArray, List.set_cons_zero, List.set_cons_succ])
                refine take_at (i := 6) (d := some 122) (v := ?v6) rfl rfl (by kernel_rfl) (by kernel_rfl) (by kernel_rfl) (fun _ _ _ h => h) (Or.inl ⟨by rfl, ?y6⟩) hHeld ?r6
                case y6 => (intro w hSw; (try dsimp only at hSw); go_simp <;> with_reducible rfl)
                (try simp only [Act.put, List.setIfInBounds_toArray, List.set_cons_zero, List.set_cons_succ])
                refine take_at (i := 7) (d := some 123) (v := ?v7) rfl rfl (by kernel_rfl) (by kernel_rfl) (by kernel_rfl) (fun _ _ _ h => h) (Or.inl ⟨by rfl, ?y7⟩) hHeld ?r7
                case y7 => (intro w hSw; (try dsimp only at hSw); go_simp <;> with_reducible rfl)
                (try simp only [Act.put, List.setIfInBounds_toArray, List.set_cons_zero, List.set_cons_succ])
                refine take_at (i := 8) (d := some 124) (v := ?v8) rfl rfl (by kernel_rfl) (by kernel_rfl) (by kernel_rfl) (fun _ _ _ h => h) (Or.inl ⟨by rfl, ?y8⟩) hHeld ?r8
                case y8 => (intro w hSw; (try dsimp only at hSw); go_simp <;> with_reducible rfl)
                (try simp only [Act.put, List.setIfInBounds_toArray, List.set_cons_zero, List.set_cons_succ])
                refine take_at (i := 9) (d := some 125) (v := ?v9) rfl rfl (by kernel_rfl) (by kernel_rfl) (by kernel_rfl) (fun _ _ _ h => h) (Or.inl ⟨by rfl, ?y9⟩) hHeld ?r9
                case y9 => (intro w hSw; (try dsimp only at hSw); go_simp <;> with_reducible rfl)
                (try simp only [Act.put, List.setIfInBounds_toArray, List.set_cons_zero, List.set_cons_succ])
                refine take_at (i := 10) (d := some 126) (v := ?v10) rfl rfl (by kernel_rfl) (by kernel_rfl) (by kernel_rfl) (fun _ _ _ h => h) (Or.inl ⟨by rfl, ?y10⟩) hHeld ?r10
                case y10 => (intro w hSw; (try dsimp only at hSw); go_simp <;> with_reducible rfl)
                (try simp only [Act.put, List.setIfInBounds_toArray, List.set_cons_zero, List.set_cons_succ])
                refine take_at (i := 11) (d := some 127) (v := ?v11) rfl rfl (by kernel_rfl) (by kernel_rfl) (by kernel_rfl) (fun _ _ _ h => h) (Or.inl ⟨by rfl, ?y11⟩) hHeld ?r11
                case y11 => (intro w hSw; (try dsimp only at hSw); go_simp <;> with_reducible rfl)
                (try simp only [Act.put, List.setIfInBounds_toArray, List.set_cons_zero, List.set_cons_succ])
                refine take_at (i := 12) (d := some 128) (v := ?v12) rfl rfl (by kernel_rfl) (by kernel_rfl) (by kernel_rfl) (fun _ _ _ h => h) (Or.inl ⟨by rfl, ?y12⟩) hHeld ?r12
                case y12 => (intro w hSw; (try dsimp only at hSw); go_simp <;> with_reducible rfl)
                (try simp only [Act.put, List.setIfInBounds_toArray, List.set_cons_zero, List.set_cons_succ])
                refine wpAnyH_ready (rs := [13]) (by kernel_rfl) (by simp) ?_
                refine AllReadyH.cons rfl (fun K hK => ?_) AllReadyH.nil
                go_simp
                (go_at_call 26; (with_reducible refine (HVl.out _ hbd).mono ?_); rintro e w' ⟨rfl, rfl⟩)
                refine hK.out _ _ (HSS.out _ hbd) (fun hHeld => ?_)
                clear hK K
                (try simp only [Act.put, List.setIfInBounds_toArray, List.set_cons_zero, List.set_cons_succ])
                refine take_at (i := 14) (d := some 130) (v := ?v14) rfl rfl (by kernel_rfl) (by kernel_rfl) (by kernel_rfl) (fun _ _ _ h => h) (Or.inl ⟨by rfl, ?y14⟩) hHeld ?r14
                case y14 => (intro w hSw; (try dsimp only at hSw); go_simp <;> with_reducible rfl)
                (try simp only [Act.put, List.setIfInBounds_toArray, List.set_cons_zero, List.set_cons_succ])
                refine take_at (i := 15) (d := some 131) (v := ?v15) rfl rfl (by kernel_rfl) (by kernel_rfl) (by kernel_rfl) (fun _ _ _ h => h) (Or.inl ⟨by rfl, ?y15⟩) hHeld ?r15
                case y15 => (intro w hSw; (try dsimp only at hSw); go_simp <;> with_reducible rfl)
                (try simp only [Act.put, List.setIfInBounds_toArray, List.set_cons_zero, List.set_cons_succ])
                refine take_at (i := 16) (d := some 132) (v := ?v16) rfl rfl (by kernel_rfl) (by kernel_rfl) (by kernel_rfl) (fun _ _ _ h => h) (Or.inl ⟨by rfl, ?y16⟩) hHeld ?r16
                case y16 => (intro w hSw; (try dsimp only at hSw); go_simp <;> with_reducible rfl)
                (try simp only [Act.put, List.setIfInBounds_toArray, List.set_cons_zero, List.set_cons_succ])
                refine take_at (i := 17) (d := some 133) (v := ?v17) rfl rfl (by kernel_rfl) (by kernel_rfl) (by kernel_rfl) (fun _ _ _ h => h) (Or.inl ⟨by rfl, ?y17⟩) hHeld ?r17
                case y17 => (intro w hSw; (try dsimp only at hSw); go_simp <;> with_reducible rfl)
                (try simp only [Act.put, List.setIfInBounds_toArray, List.set_cons_zero, List.set_cons_succ])
                refine take_at (i := 18) (d := some 134) (v := ?v18) rfl rfl (by kernel_rfl) (by kernel_rfl) (by kernel_rfl) (fun _ _ _ h => h) (Or.inl ⟨by rfl, ?y18⟩) hHeld ?r18
                case y18 => (intro w hSw; (try dsimp only at hSw); go_simp <;> with_reducible rfl)
                (try simp only [Act.put, List.setIfInBounds_toArray, List.set_cons_zero, List.set_cons_succ])
                refine take_at (i := 20) (d := some 136) (v := ?v20) rfl rfl (by kernel_rfl) (by kernel_rfl) (by kernel_rfl) (fun _ _ _ h => h) (Or.inl ⟨by rfl, ?y20⟩) hHeld ?r20
                case y20 => (intro w hSw; (try dsimp only at hSw); go_simp <;> with_reducible rfl)
                (try simp only [Act.put, List.setIfInBounds_toArray, List.set_cons_zero, List.set_cons_succ])
                refine take_at (i := 23) (d := some 139) (v := ?v23) rfl rfl (by kernel_rfl) (by kernel_rfl) (by kernel_rfl) (fun _ _ _ h => h) (Or.inl ⟨by rfl, ?y23⟩) hHeld ?r23
                case y23 => (intro w hSw; (try dsimp only at hSw); go_simp <;> with_reducible rfl)
                (try simp only [Act.put, List.setIfInBounds_toArray, List.set_cons_zero, List.set_cons_succ])
                refine take_at (i := 24) (d := some 140) (v := ?v24) rfl rfl (by kernel_rfl) (by kernel_rfl) (by kernel_rfl) (fun _ _ _ h => h) (Or.inl ⟨by rfl, ?y24⟩) hHeld ?r24
                case y24 => (intro w hSw; (try dsimp only at hSw); go_simp <;> with_reducible rfl)
                (try simp only [Act.put, List.setIfInBounds_toArray, List.set_cons_zero, List.set_cons_succ])
                refine wpAnyH_ready (rs := [19]) (by kernel_rfl) (by simp) ?_
                refine AllReadyH.cons rfl (fun K hK => ?_) AllReadyH.nil
                go_simp
                (go_at_call 27; (with_reducible refine (HLo.out _ hbd).mono ?_); rintro e w6 ⟨rfl, hb6⟩; have hb6' := bel_new hbd hbd.size hb6)
                refine hK.out _ _ (HSS.out _ hb6') (fun hHeld => ?_)
                clear hK K
                (try simp only [Act.put, List.setIfInBounds_toArray, List.set_cons_zero, List.set_cons_succ])
                refine wpAnyH_ready (rs := [21]) (by kernel_rfl) (by simp) ?_
                refine AllReadyH.cons rfl (fun K hK => ?_) AllReadyH.nil
                go_simp
                (go_at_call 22; (with_reducible refine (HLe.out _ hb6').mono ?_); rintro e w' ⟨rfl, rfl⟩)
                refine hK.out _ _ (HSS.out _ hb6') (fun hHeld => ?_)
                clear hK K
                (try simp only [Act.put, List.setIfInBounds_toArray, List.set_cons_zero, List.set_cons_succ])
                refine take_at (i := 22) (d := some 138) (v := ?v22) rfl rfl (by kernel_rfl) (by kernel_rfl) (by kernel_rfl) (fun _ _ _ h => h) (Or.inl ⟨by rfl, ?y22⟩) hHeld ?r22
                case y22 => (intro w hSw; (try dsimp only at hSw); go_simp <;> with_reducible rfl)
                (try simp only [Act.put, List.setIfInBounds_toArray, List.set_cons_zero, List.set_cons_succ])
                refine take_at (i := 25) (d := some 141) (v := ?v25) rfl rfl (by kernel_rfl) (by kernel_rfl) (by kernel_rfl) (fun _ _ _ h => h) (Or.inl ⟨by rfl, ?y25⟩) hHeld ?r25
                case y25 => (intro w hSw; (try dsimp only at hSw); go_simp <;> with_reducible rfl)
                (try simp only [Act.put, List.setIfInBounds_toArray, List.set_cons_zero, List.set_cons_succ])
                refine take_at (i := 26) (d := some 142) (v := ?v26) rfl rfl (by kernel_rfl) (by kernel_rfl) (by kernel_rfl) (fun _ _ _ h => h) (Or.inl ⟨by rfl, ?y26⟩) hHeld ?r26
                case y26 => (intro w hSw; (try dsimp only at hSw); go_simp <;> with_reducible rfl)
                (try simp only [Act.put, List.setIfInBounds_toArray, List.set_cons_zero, List.set_cons_succ])
                refine take_at (i := 27) (d := some 143) (v := ?v27) rfl rfl (by kernel_rfl) (by kernel_rfl) (by kernel_rfl) (fun _ _ _ h => h) (Or.inl ⟨by rfl, ?y27⟩) hHeld ?r27
                case y27 => (intro w hSw; (try dsimp only at hSw); go_simp <;> with_reducible rfl)
                (try simp only [Act.put, List.setIfInBounds_toArray, List.set_cons_zero, List.set_cons_succ])
                refine take_at (i := 28) (d := some 144) (v := ?v28) rfl rfl (by kernel_rfl) (by kernel_rfl) (by kernel_rfl) (fun _ _ _ h => h) (Or.inl ⟨by rfl, ?y28⟩) hHeld ?r28
                case y28 => (intro w hSw; (try dsimp only at hSw); go_simp <;> with_reducible rfl)
                (try simp only [Act.put, List.setIfInBounds_toArray, List.set_cons_zero, List.set_cons_succ])
                refine take_at (i := 29) (d := some 145) (v := ?v29) rfl rfl (by kernel_rfl) (by kernel_rfl) (by kernel_rfl) (fun _ _ _ h => h) (Or.inl ⟨by rfl, ?y29⟩) hHeld ?r29
                case y29 => (intro w hSw; (try dsimp only at hSw); go_simp <;> with_reducible rfl)
                (try simp only [Act.put, List.setIfInBounds_toArray, List.set_cons_zero, List.set_cons_succ])
                refine take_at (i := 30) (d := some 146) (v := ?v30) rfl rfl (by kernel_rfl) (by kernel_rfl) (by kernel_rfl) (fun _ _ _ h => h) (Or.inl ⟨by rfl, ?y30⟩) hHeld ?r30
                case y30 => (intro w hSw; (try dsimp only at hSw); go_simp <;> with_reducible rfl)
                (try simp only [Act.put, List.setIfInBounds_toArray, List.set_cons_zero, List.set_cons_succ])
                refine take_at (i := 31) (d := some 147) rfl rfl (by kernel_rfl) (by kernel_rfl) (by kernel_rfl) (fun _ _ _ h => h) (Or.inr ⟨by rfl, rfl⟩) hHeld ?_
                (try simp only [Act.put, List.setIfInBounds_toArray, List.set_cons_zero, List.set_cons_succ])
                refine take_at (i := 32) (d := some 148) rfl rfl (by kernel_rfl) (by kernel_rfl) (by kernel_rfl) (fun _ _ _ h => h) (Or.inr ⟨by rfl, rfl⟩) hHeld ?_
                (try simp only [Act.put, List.setIfInBounds_toArray, List.set_cons_zero, List.set_cons_succ])
                refine take_at (i := 33) (d := some 149) rfl rfl (by kernel_rfl) (by kernel_rfl) (by kernel_rfl) (fun _ _ _ h => h) (Or.inr ⟨by rfl, rfl⟩) hHeld ?_
                (try simp only [Act.put, List.setIfInBounds_toArray, List.set_cons_zero, List.set_cons_succ])
                refine take_at (i := 34) (d := some 150) rfl rfl (by kernel_rfl) (by kernel_rfl) (by kernel_rfl) (fun _ _ _ h => h) (Or.inr ⟨by rfl, rfl⟩) hHeld ?_
                (try simp only [Act.put, List.setIfInBounds_toArray, List.set_cons_zero, List.set_cons_succ])
                refine take_at (i := 35) (d := some 151) rfl rfl (by kernel_rfl) (by kernel_rfl) (by kernel_rfl) (fun _ _ _ h => h) (Or.inr ⟨by rfl, rfl⟩) hHeld ?_
                (try simp only [Act.put, List.setIfInBounds_toArray, List.set_cons_zero, List.set_cons_succ])
                refine take_at (i := 36) (d := some 152) rfl rfl (by kernel_rfl) (by kernel_rfl) (by kernel_rfl) (fun _ _ _ h => h) (Or.inr ⟨by rfl, rfl⟩) hHeld ?_
                (try simp only [Act.put, List.setIfInBounds_toArray, List.set_cons_zero, List.set_cons_succ])
                refine take_at (i := 37) (d := some 153) rfl rfl (by kernel_rfl) (by kernel_rfl) (by kernel_rfl) (fun _ _ _ h => h) (Or.inr ⟨by rfl, rfl⟩) hHeld ?_
                (try simp only [Act.put, List.setIfInBounds_toArray, List.set_cons_zero, List.set_cons_succ])
                refine take_at (i := 38) (d := some 154) rfl rfl (by kernel_rfl) (by kernel_rfl) (by kernel_rfl) (fun _ _ _ h => h) (Or.inr ⟨by rfl, rfl⟩) hHeld ?_
                (try simp only [Act.put, List.setIfInBounds_toArray, List.set_cons_zero, List.set_cons_succ])
                refine take_at (i := 39) (d := some 155) rfl rfl (by kernel_rfl) (by kernel_rfl) (by kernel_rfl) (fun _ _ _ h => h) (Or.inr ⟨by rfl, rfl⟩) hHeld ?_
                (try simp only [Act.put, List.setIfInBounds_toArray, List.set_cons_zero, List.set_cons_succ])
                refine take_at (i := 40) (d := some 156) rfl rfl (by kernel_rfl) (by kernel_rfl) (by kernel_rfl) (fun _ _ _ h => h) (Or.inr ⟨by rfl, rfl⟩) hHeld ?_
                (try simp only [Act.put, List.setIfInBounds_toArray, List.set_cons_zero, List.set_cons_succ])
                refine take_at (i := 41) (d := some 157) rfl rfl (by kernel_rfl) (by kernel_rfl) (by kernel_rfl) (fun _ _ _ h => h) (Or.inr ⟨by rfl, rfl⟩) hHeld ?_
                (try simp only [Act.put, List.setIfInBounds_toArray, List.set_cons_zero, List.set_cons_succ])
                refine take_at (i := 42) (d := some 158) rfl rfl (by kernel_rfl) (by kernel_rfl) (by kernel_rfl) (fun _ _ _ h => h) (Or.inr ⟨by rfl, rfl⟩) hHeld ?_
                (try simp only [Act.put, List.setIfInBounds_toArray, List.set_cons_zero, List.set_cons_succ])
                refine take_at (i := 43) (d := some 159) rfl rfl (by kernel_rfl) (by kernel_rfl) (by kernel_rfl) (fun _ _ _ h => h) (Or.inr ⟨by rfl, rfl⟩) hHeld ?_
                (try simp only [Act.put, List.setIfInBounds_toArray, List.set_cons_zero, List.set_cons_succ])
                refine take_at (i := 44) (d := some 160) rfl rfl (by kernel_rfl) (by kernel_rfl) (by kernel_rfl) (fun _ _ _ h => h) (Or.inr ⟨by rfl, rfl⟩) hHeld ?_
                (try simp only [Act.put, List.setIfInBounds_toArray, List.set_cons_zero, List.set_cons_succ])
                refine take_at (i := 45) (d := some 161) rfl rfl (by kernel_rfl) (by kernel_rfl) (by kernel_rfl) (fun _ _ _ h => h) (Or.inr ⟨by rfl, rfl⟩) hHeld ?_
                (try simp only [Act.put, List.setIfInBounds_toArray, List.set_cons_zero, List.set_cons_succ])
                refine take_at (i := 46) (d := some 162) (v := ?v46) rfl rfl (by kernel_rfl) (by kernel_rfl) (by kernel_rfl) (fun _ _ _ h => h) (Or.inl ⟨by rfl, ?y46⟩) hHeld ?r46
                case y46 => (intro w hSw; (try dsimp only at hSw); go_simp <;> with_reducible rfl)
                (try simp only [Act.put, List.setIfInBounds_toArray, List.set_cons_zero, List.set_cons_succ])
                refine take_at (i := 47) (d := some 163) (v := ?v47) rfl rfl (by kernel_rfl) (by kernel_rfl) (by kernel_rfl) (fun _ _ _ h => h) (Or.inl ⟨by rfl, ?y47⟩) hHeld ?r47
                case y47 => (intro w hSw; (try dsimp only at hSw); go_simp <;> with_reducible rfl)
                (try simp only [Act.put, List.setIfInBounds_toArray, List.set_cons_zero, List.set_cons_succ])
                refine wpAnyH_done (by kernel_rfl) ?_ _
                go_wp2_with fail
                go_roundw
                case rel => exact ⟨k + 1, D, by omega, by go_num, rfl, Lib.hid (by rw [HD.out, HK.out]; exact (deep_one c).symm), Lib.hid hb6'⟩
                case measure => simp [intOf]; omega
              · have hq0 : ¬ lv = hv := fun h => by have := hlev.1 h; omega
                have hq1 : (lv == hv) = false := by simpa using hq0
                have hq2 : ((k : Int) == 0) = false := by simp; omega
                have hq3 : 0 < (k : Int) := by omega
                have hq4 : decide (0 < k) = true := by simpa using hk0
                have hj : k - 1 < c.length := by omega
                have hrow := HT.out.row (k - 1) (by omega)
                have hly := HT.out.lit (k - 1) hj
                have e1 : k - 1 + 1 = k := by omega
                simp only [e1] at hrow
                rw [← hu] at hrow
                obtain ⟨u2, hu2⟩ : ∃ u2 : Nat, u2 = c[k - 1].natAbs - 1 := ⟨_, rfl⟩
                rw [← hu2] at hrow
                have hxu2 : ((c[k - 1].natAbs : Int) - 1) = (u2 : Int) := by omega
                have hu2i : (u2 : Int) < (n : Int) := by omega
                have HVr2 : Hid (∀ w', Calls Try.prog 24 #[.int .i64 c[k - 1]] w' fun e w'' => e = .returned (.int .i64 (u2 : Int)) ∧ w' = w'') := Lib.hid fun w' => by
                  have h := var_any c[k - 1] w' (by omega) (by omega)
                  rwa [hxu2] at h
                have hds := deep_succ (n := n) (es := es) k hlt hk0
                rw [hxu, ← hlv, ← HD.out] at hds
                have HDS := Lib.hid hds
                have HSS : Hid (∀ w', Below w5.heap.size w5 w' → w'.cell? ⟨cb, co + k, none⟩ = some (.int .i64 c[k]) ∧ w'.cell? ⟨cb, co + (k - 1), none⟩ = some (.int .i64 c[k - 1]) ∧ w'.cell? ⟨gm, u, none⟩ = some (.int .i64 (posV es u)) ∧ w'.cell? ⟨gm, u2, none⟩ = some (.int .i64 (posV es u2))) :=
                  Lib.hid fun w' h => ⟨HC.out w' h k hlt, HC.out w' h (k - 1) hj, HP.out w' h u (by omega), HP.out w' h u2 (by omega)⟩
                generalize posV es u = q1 at *
                generalize posV es u2 = q2 at *
                generalize c[k] = x at *
                generalize c[k - 1] = y at *
                have hr1 : decide (q2 ≤ q1) = false := by simp; omega
                have hr2 : decide ((q2 : Int) ≤ (q1 : Int)) = false := by simp; omega
                have hwk : IntKind.i64.wrap ((k : Int) - 1) = (k : Int) - 1 := by rw [IntKind.wrap_i64]; omega
                have hwk1 : (0 : Int) ≤ (k : Int) - 1 := by omega
                have hwk2 : (k : Int) - 1 < (c.length : Int) := by omega
                have hwk3 : ((k : Int) - 1).toNat = k - 1 := by omega
                have hwk4 : 1 ≤ (k : Int) := by omega
                have hwk5 : 1 ≤ k := by omega
                have hwk6 : (k : Int) < (c.length : Int) + 1 := by omega
                have hwk7 : k < c.length + 1 := by omega
                clear hlev hlv hxu hu hlx hq0 hu2 hxu2 hly hrow e1 hds hj hk0
                go_upto_region 25 with (go_at_call 24; (with_reducible refine (HVr.out _).mono ?_); rintro e w' ⟨rfl, rfl⟩)
                go_region_held3 (fun w' => w'.cell? ⟨cb, co + k, none⟩ = some (.int .i64 x) ∧ w'.cell? ⟨cb, co + (k - 1), none⟩ = some (.int .i64 y) ∧ w'.cell? ⟨gm, u, none⟩ = some (.int .i64 q1) ∧ w'.cell? ⟨gm, u2, none⟩ = some (.int .i64 q2)) (first | exact HSS.out _ (by assumption)) ((first
                  | (go_at_call 26; (with_reducible refine (HVl.out _ hbd).mono ?_); rintro e w' ⟨rfl, rfl⟩)
                  | (go_at_call 27; (with_reducible refine (HLo.out _ hbd).mono ?_); rintro e w6 ⟨rfl, hb6⟩; have hb6' := bel_new hbd hbd.size hb6)
                  | (go_at_call 22; (with_reducible refine (HLe.out _ hb6').mono ?_); rintro e w' ⟨rfl, rfl⟩)
                  | (go_at_call 24; (with_reducible refine (HVr2.out _).mono ?_); rintro e w' ⟨rfl, rfl⟩)))
                go_wp2_with (go_at_call 27; (with_reducible refine (HLo.out _ hb6').mono ?_); rintro e w7 ⟨rfl, hb7⟩; have hb7' := bel_new hb6' hb6'.size hb7)
                all_goals
                  go_roundw
                  case rel => exact ⟨k + 1, _, by omega, by go_num, rfl, Lib.hid (by rw [HDS.out]; split <;> omega), Lib.hid hb7'⟩
                  case measure => simp [intOf]; omega
            · obtain rfl : k = c.length := by omega
              have hD := HD.out
              rw [List.take_length, HT.out.deep] at hD
              subst hD
              have HTw := Lib.hid (HT5.out.below HB.out)
              have hsz := HB.out.size
              have HCw : Hid (∀ i (h : i < c.length), wr.cell? ⟨cb, co + i, none⟩ = some (.int .i64 c[i])) := Lib.hid (HC.out wr HB.out)
              have HBk := Lib.hid (back_eq' HTw.out 0 rfl HG.out (by omega) D ⟨by omega, by omega⟩ 0 _ HT.out.backC)
              have hcbl : cb < wr.heap.size := HTw.out.xlt cb (.inl rfl)
              have hgp := pop_good D HG.out
              have HGp := Lib.hid hgp
              have h1st := HT.out.first hcl
              have HV0 : Hid (∀ w7, Trails w w7 (fun j => j = cb ∨ j = gm) [(g, trE n (popE D es))] → Calls Try.prog 26 #[.pointer (some ⟨g, 0, none⟩), .int .i64 c[0]] w7 fun e w'' => e = .returned (.int .i64 0) ∧ w7 = w'') := Lib.hid fun w7 h => by
                have h1 := HT.out.lit 0 hcl
                exact value_eq h 0 rfl (by omega) _ ⟨by omega, by omega⟩ _ h1st
              have HVi : Hid (∀ w7 i (h : i < c.length), 0 < i → Trails w w7 (fun j => j = cb ∨ j = gm) [(g, trE n (popE D es))] → Calls Try.prog 26 #[.pointer (some ⟨g, 0, none⟩), .int .i64 c[i]] w7 fun e w'' => e = .returned (.int .i64 (-1)) ∧ w7 = w'') := Lib.hid fun w7 i hi h0 h => by
                have h1 := HT.out.lit i hi
                exact value_eq h 0 rfl (by omega) _ ⟨by omega, by omega⟩ _ (HT.out.rest i hi h0)
              clear hgp h1st HD HB HVa HLv HLe HP HC HT5 HT
              go_wp2_with (first
                | (go_at_call 28; (with_reducible refine HBk.out.mono ?_); rintro e w7 ⟨rfl, hT7, ht7⟩; have HC7 : Hid (∀ i (h : i < c.length), w7.cell? ⟨cb, co + i, none⟩ = some (.int .i64 c[i])) := Lib.hid (fun i h => (ht7.cell (p := ⟨cb, co + i, none⟩) hcbl (fun h => h (.inl rfl))).trans (HCw.out i h)); have hc70 := HC7.out 0 hcl; simp only [Nat.add_zero] at hc70; clear ht7)
                | (go_at_call 26; (with_reducible refine (HV0.out _ hT7).mono ?_); rintro e w' ⟨rfl, rfl⟩))
              have hbl := hT7.bel
              go_loop [21] (fun i => ∃ k : Nat, 1 ≤ k ∧ k ≤ c.length ∧ i = .int .i64 k) (fun i => c.length - (intOf i).toNat)
              case atStart => exact ⟨1, by omega, by omega, rfl⟩
              case round =>
                obtain ⟨k, hk1, hk, rfl⟩ := hrel
                by_cases hlt : k < c.length
                · have hki : (k : Int) < (c.length : Int) := by omega
                  have hck := HC7.out k hlt
                  have HV := Lib.hid (HVi.out w7 k hlt (by omega) hT7)
                  generalize c[k] = x at *
                  go_wp2_with (go_at_call 26; (with_reducible refine HV.out.mono ?_); rintro e w' ⟨rfl, rfl⟩)
                  go_round
                  case rel => exact ⟨k + 1, by omega, by omega, by go_num⟩
                  case measure => simp [intOf]; omega
                · go_wp2_with fail
                  go_ret
                  exact ⟨rfl, hbl⟩
  · obtain ⟨rfl, rfl, rfl⟩ := HEr.out her
    have her2 : (er != 0) = true := by simpa using her
    have her3 : (er == 0) = false := by simpa using her
    clear HFo HEr her HTu
    go_enter Try.func6, Try.ntmps6
    go_wp2_with (first
      | (go_at_call 7; refine (works_any w).mono ?_; rintro e w1 ⟨rfl, hB1⟩)
      | (go_at_call 11; refine (HLg.out _ hB1).mono ?_; rintro e w' ⟨rfl, rfl⟩)
      | (go_at_call 9; refine (HMd.out _ hB1).mono ?_; rintro e w2 ⟨g, rfl, hT⟩)
      | (go_at_call 18; refine (HLn.out _ _ hT).mono ?_; rintro e w3 ⟨a1, c1, a2, c2, rfl, i1, i2, hb3, l1, l2⟩; have hT3 := hT.below hb3; simp only [List.length_nil]))
    go_ret
    exact ⟨rfl, hT3.bel⟩

theorem turns_walk (vars : Int) (hv : (Lit.int .i64 vars).wf = true) (ao : Option Addr) (l : List Step2D) (cap b off : Nat) (ac : Option Addr) (cls : List (List Int)) (cc : Nat) (conflict : Int) (w : World) (hl : IsSteps2 w w.heap.size ao b off l)
    (hc : IsCls w ac cls) (hl1 : cls.length ≤ 9223372036854775807) (hl2 : ∀ c ∈ cls, c.length ≤ 140737488351232) :
    Calls Try.prog 6 #[.int .i64 vars, .slice ao l.length cap, .slice ac cls.length cc, .int .i64 conflict] w fun e w' => e = .returned (.bool true) ∧ Below w.heap.size w w' := by
  have hv' := wf_i64b hv
  have HLg : Hid (∀ w1, Below w.heap.size w w1 → Calls Try.prog 11 #[.slice ac cls.length cc, .slice ao l.length cap] w1 fun e w' => e = .returned (.bool (largeB cls l.length)) ∧ w1 = w') :=
    Lib.hid fun w1 hb => large_any cls ac ao cc l.length cap w1 (hc.below hb) hl1 hl2
  by_cases hlg : largeB cls l.length = true
  · rw [hlg] at HLg
    clear hc hl hlg hl2
    go_enter Try.func6, Try.ntmps6
    go_wp2_with (first
      | (go_at_call 7; (with_reducible refine (works_any w).mono ?_); rintro e w1 ⟨rfl, hB1⟩)
      | (go_at_call 11; refine (HLg.out _ hB1).mono ?_; rintro e w' ⟨rfl, rfl⟩)
      | (go_at_call 7; refine (works_any _).mono ?_; rintro e w2 ⟨rfl, hB2⟩))
    go_ret
    exact ⟨rfl, bel_trans hB1 hB2⟩
  · have hlg2 : largeB cls l.length = false := by simpa using hlg
    by_cases h10 : 200 < vars
    · rw [hlg2] at HLg
      clear hc hl hlg hl2 hlg2
      go_enter Try.func6, Try.ntmps6
      go_wp2_with (first
        | (go_at_call 7; (with_reducible refine (works_any w).mono ?_); rintro e w1 ⟨rfl, hB1⟩)
        | (go_at_call 11; refine (HLg.out _ hB1).mono ?_; rintro e w' ⟨rfl, rfl⟩)
        | (go_at_call 7; refine (works_any _).mono ?_; rintro e w2 ⟨rfl, hB2⟩))
      go_ret
      exact ⟨rfl, bel_trans hB1 hB2⟩
    · by_cases h0 : vars < 0
      · rw [hlg2] at HLg
        have hd1 : decide (200 < vars) = false := by simpa using h10
        have HM : Hid (∀ v w1, Calls Try.prog 9 #[.int .i64 vars, v] w1 fun e w' => e = .returned (.pointer none) ∧ w1 = w') := Lib.hid fun v w1 => made_bad vars v w1 (.inl h0)
        clear hc hl hlg hl2 hlg2
        go_enter Try.func6, Try.ntmps6
        go_wp2_with (first
          | (go_at_call 7; (with_reducible refine (works_any w).mono ?_); rintro e w1 ⟨rfl, hB1⟩)
          | (go_at_call 11; refine (HLg.out _ hB1).mono ?_; rintro e w' ⟨rfl, rfl⟩)
          | (go_at_call 9; refine (HM.out _ _).mono ?_; rintro e w' ⟨rfl, rfl⟩))
        go_ret
        exact ⟨rfl, hB1⟩
      · obtain ⟨n, rfl⟩ := Int.eq_ofNat_of_zero_le (by omega : 0 ≤ vars)
        exact turns_main n (by omega) ao l cap b off ac cls cc conflict w hl hc hlg2 hl1 hl2

end Go.Proofs.Ythfmlmodpcikcaa
