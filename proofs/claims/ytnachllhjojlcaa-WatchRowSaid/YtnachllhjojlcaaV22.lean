/- settled. -/
import Derived.Test.YtnachllhjojlcaaV21
namespace Go.Proofs.Ytnachllhjojlcaa
open Go.ChangeShapes Go.WideShapes Go.ChangeAt Go.RowKit Go.Maps Go.Deep
set_option maxRecDepth 100000

theorem of_var {n : Nat} {es : List En} (v : Nat) (h : v < n) : ofE n es v = knE (look es v) := by
  unfold ofE
  rw [if_neg (by omega)]
  rfl

/-- A literal that lies on the trail. -/
theorem on_trail {n : Nat} {es : List En} (hg : Good n es) {e : En} (he : e ∈ es) : valE n es e.lit = 1 ∧ ofE n es ((e.lit.natAbs - 1 : Nat) : Int) = ⟨if e.lit < 0 then -1 else 1, e.level, e.reason⟩ := by
  have hl := hg.lit e he
  have hm := look_mem hg e he
  unfold Lit at hl
  constructor
  · unfold valE
    rw [if_pos hl, hm]
    simp
  · rw [of_var _ (by omega), hm]
    rfl

/-! ### The trail, from its beginning on -/
def older (es : List En) (k : Nat) : List En := es.drop (es.length - k)
theorem older_zero (es : List En) : older es 0 = [] := by simp [older]
theorem older_all (es : List En) : older es es.length = es := by simp [older]
theorem older_good {n : Nat} {es : List En} (k : Nat) (h : Good n es) : Good n (older es k) := by
  have e := List.take_append_drop (es.length - k) es
  rw [← e] at h
  exact h.tail
theorem older_succ (es : List En) (k : Nat) (h : k < es.length) : ∃ e, e ∈ es ∧ older es (k + 1) = e :: older es k ∧ atE es k = e.lit := by
  have hj : es.length - (k + 1) < es.length := by omega
  refine ⟨es[es.length - (k + 1)], List.getElem_mem _, ?_, ?_⟩
  · unfold older
    rw [List.drop_eq_getElem_cons hj]
    congr 2
    omega
  · unfold atE
    rw [if_neg (by omega)]
    simp only [Int.toNat_natCast]
    rw [List.getD_eq_getElem?_getD, List.getElem?_reverse (by simpa using h)]
    simp only [List.length_map, List.getElem?_map]
    have e1 : es.length - 1 - k = es.length - (k + 1) := by omega
    rw [e1, List.getElem?_eq_getElem hj]
    rfl

theorem reads_false {n : Nat} {es : List En} {c : List Int} (h : FalseC n es c) : readsS n es c = (false, 0) := by
  unfold readsS
  have h1 : (c.any fun x => valE n es x == 1) = false := by
    rw [List.any_eq_false]
    intro x hx
    rw [h x hx]
    decide
  have h2 : openL n es c = [] := by
    unfold openL
    rw [List.filter_eq_nil_iff]
    intro x hx
    rw [h x hx]
    decide
  rw [h1, h2]
  rfl
theorem reads_settled {n : Nat} {es : List En} {c : List Int} (h : Settled n es c) : (readsS n es c).1 = true ∨ 2 ≤ (readsS n es c).2 := by
  unfold readsS
  split
  · exact .inl rfl
  · next h1 =>
    right
    simp only
    rcases h with ⟨x, hx, hv⟩ | ⟨x, hx, y, hy, hne, hvx, hvy⟩
    · exact absurd (List.any_eq_true.2 ⟨x, hx, by simpa using hv⟩) h1
    · have mx : x ∈ dedL (openL n es c) := (ded_mem _ _).2 (List.mem_filter.2 ⟨hx, by simpa using hvx⟩)
      have my : y ∈ dedL (openL n es c) := (ded_mem _ _).2 (List.mem_filter.2 ⟨hy, by simpa using hvy⟩)
      match hl : dedL (openL n es c) with
      | [] => rw [hl] at mx; cases mx
      | [z] =>
        rw [hl] at mx my
        simp at mx my
        exact absurd (mx.trans my.symm) hne
      | _ :: _ :: _ => simp

theorem known_of {n : Nat} {c : List Int} (h : knownS n c = true) {x : Int} (hx : x ∈ c) : 1 ≤ x.natAbs ∧ x.natAbs ≤ n := by
  have := List.all_eq_true.1 h x hx
  simpa using this
theorem older_just {n : Nat} {cl : List (List Int)} {es : List En} (h : Just n cl es) (k : Nat) : Just n cl (older es k) := by
  have e := List.take_append_drop (es.length - k) es
  rw [← e] at h
  exact just_tail h

section
variable {W w : World} {C : Ast → Ast} {x n t : Nat} {S : WS}

theorem on_trail2 (hC : Ctx C) (h : On W w (C (wat x n t S))) (hn : n ≤ 60) :
    Calls Try.prog 31 #[.pointer (some ⟨x, 0, none⟩)] w fun e w' => ∃ g, e = .returned (.pointer (some ⟨g, 0, none⟩)) ∧ Below w.heap.size w w' ∧ Hid (∃ F, TrA w' F g (trE n S.es)) := by
  obtain ⟨F, ⟨M, a, rfl, b, ok, e⟩, hg⟩ := hC.use h
  refine (wtrail a ok.inv.good (by rw [ok.n]; omega)).mono ?_
  rintro e w' ⟨g, rfl, hb, F', hT, hF⟩
  rw [ok.n] at hT
  exact ⟨g, rfl, hb, Lib.hid ⟨F', hT⟩⟩
theorem on_clause2 (hC : Ctx C) (h : On W w (C (wat x n t S))) (ht : t ≤ 1000) (i : Nat) :
    Calls Try.prog 27 #[.pointer (some ⟨x, 0, none⟩), .int .i64 i] w fun e w' => ∃ ao cap, e = .returned (.slice ao (S.cl.getD i []).length cap) ∧ Ints w' ao (S.cl.getD i []) ∧ Below w.heap.size w w' := by
  refine (on_clause hC h ht i).mono ?_
  rintro e w' ⟨v, rfl, o, hb, _⟩
  have e1 : clauseS S (i : Int) = S.cl.getD i [] := by
    unfold clauseS
    rw [if_neg (by omega), Int.toNat_natCast]
  rw [e1] at o
  obtain ⟨ao, cap, rfl, hi⟩ := o.ints
  exact ⟨ao, cap, rfl, hi, hb⟩

set_option maxHeartbeats 4000000 in
theorem settled_any (hC : Ctx C) (h : On W w (C (wat x n t S))) (hn : n ≤ 60) (ht : t ≤ 1000) (cf : Int) (hc1 : -1 ≤ cf) (hc2 : cf < S.cl.length) (hF : 0 ≤ cf → FalseC n S.es (S.cl.getD cf.toNat [])) (hSt : cf < 0 → ∀ i, i < S.cl.length → Settled n S.es (S.cl.getD i [])) :
    Calls Try.prog 36 #[.pointer (some ⟨x, 0, none⟩), .int .i64 cf] w fun e w' => e = .returned (.bool true) ∧ Below w.heap.size w w' := by
  have ok := On.ok hC h
  have hwat := hC.solid (Solid.wat x n t S)
  have HOn : Hid (∀ wr, Below w.heap.size w wr → On W wr (C (wat x n t S))) := Lib.hid fun wr hb => h.below hwat hb
  have HTr := Lib.hid (on_trail2 hC h hn)
  have hgood : Good n S.es := by have := ok.inv.good; rwa [ok.n] at this
  have HRd : Hid (∀ i, i < S.cl.length → ∃ (is : Bool) (op : Nat), readsS n S.es (S.cl.getD i []) = (is, op) ∧ ((i : Int) = cf → is = false ∧ op = 0) ∧ (cf < 0 → is = true ∨ 2 ≤ op)) := Lib.hid fun i hi => by
    refine ⟨(readsS n S.es (S.cl.getD i [])).1, (readsS n S.es (S.cl.getD i [])).2, rfl, fun e => ?_, fun h0 => reads_settled (hSt h0 i hi)⟩
    have := hF (by omega)
    rw [show cf.toNat = i by omega] at this
    have e2 := reads_false this
    rw [e2]
    exact ⟨rfl, rfl⟩
  obtain ⟨cl, hcl⟩ : ∃ cl, cl = S.cl := ⟨_, rfl⟩
  obtain ⟨es, hes⟩ : ∃ es, es = S.es := ⟨_, rfl⟩
  have hkn : ∀ i, i < cl.length → (∀ y ∈ cl.getD i [], 1 ≤ y.natAbs ∧ y.natAbs ≤ n) ∧ (cl.getD i []).length ≤ 40 := fun i hi => by
    have hm : cl.getD i [] ∈ S.cl := by
      rw [hcl, List.getD_eq_getElem?_getD, List.getElem?_eq_getElem (by rw [← hcl]; exact hi)]
      exact List.getElem_mem _
    refine ⟨fun y hy => ?_, ok.lens _ hm⟩
    have := known_of (ok.inv.known _ hm) hy
    rwa [ok.n] at this
  have HKn := Lib.hid hkn
  have hju : Just n cl es := by have := ok.inv.just; rw [ok.n, ← hcl, ← hes] at this; exact this
  have HJu := Lib.hid hju
  have hclen : cl.length ≤ t := by rw [hcl]; exact ok.cl
  have HCl : Hid (∀ wr, Below w.heap.size w wr → ∀ i : Nat, Calls Try.prog 27 #[.pointer (some ⟨x, 0, none⟩), .int .i64 i] wr fun e w' => ∃ ao cap, e = .returned (.slice ao (cl.getD i []).length cap) ∧ Ints w' ao (cl.getD i []) ∧ Below wr.heap.size wr w') := Lib.hid fun wr hb i => by
    rw [hcl]
    exact on_clause2 hC (h.below hwat hb) ht i
  have HCt : Hid (∀ wr, Below w.heap.size w wr → Calls Try.prog 23 #[.pointer (some ⟨x, 0, none⟩)] wr fun e w' => e = .returned (.int .i64 cl.length) ∧ wr = w') := Lib.hid fun wr hb => by
    rw [hcl]
    exact on_count hC (h.below hwat hb)
  rw [← hcl] at HRd hc2
  rw [← hes] at HTr HRd hgood
  have HG := Lib.hid hgood
  have hlen := hgood.len_le
  clear h hwat ok hF hSt hkn hju hcl hes hgood HOn
  have hq1 : decide (cf < -1) = false := by simp; omega
  have hq2 : decide ((cl.length : Int) ≤ cf) = false := by simp; omega
  go_enter Try.func36, Try.ntmps36
  go_wp2_with (first
    | (go_at_call 31; (with_reducible refine HTr.out.mono ?_); rintro e w1 ⟨g, rfl, hb1, hT⟩)
    | (go_at_call 23; (with_reducible refine (HCt.out _ hb1).mono ?_); rintro e w2 ⟨rfl, rfl⟩))
  have HT := hT
  have HRc : Hid (∀ wr, Below w1.heap.size w1 wr → ∀ i, i < cl.length → ∀ ao cap, Ints wr ao (cl.getD i []) → Calls Try.prog 56 #[.pointer (some ⟨g, 0, none⟩), .slice ao (cl.getD i []).length cap] wr fun e w' => e = .returned (.tuple #[.bool (readsS n es (cl.getD i [])).1, .int .i64 (readsS n es (cl.getD i [])).2]) ∧ Below wr.heap.size wr w') := Lib.hid fun wr hb i hi ao cap hI => by
    obtain ⟨F, hT⟩ := HT.out
    obtain ⟨k1, k2⟩ := HKn.out i hi
    exact reads_any wr F g n es (hT.below hb) hn ao _ cap hI k2 fun y hy => by
      have := (k1 y hy).2
      unfold I64
      omega
  have HB1 := Lib.hid hb1
  clear hT hb1
  go_loopw [6] (fun s wr => ∃ i : Nat, i ≤ cl.length ∧ s = .int .i64 i ∧ Hid (Below w1.heap.size w1 wr)) (fun s _ => cl.length - (intOf s).toNat)
  case atStart => exact ⟨0, by omega, rfl, Lib.hid (Below.refl _ _)⟩
  case round =>
    obtain ⟨i, hi, rfl, HB⟩ := hrel
    have HCtr := Lib.hid (HCt.out wr (bel_trans HB1.out HB.out))
    by_cases hlt : i < cl.length
    · have hii : (i : Int) < (cl.length : Int) := by omega
      obtain ⟨is, op, hrd, hcf, hneg⟩ := HRd.out i hlt
      have HClr := Lib.hid (HCl.out wr (bel_trans HB1.out HB.out) i)
      have HRr : Hid (∀ w2, Below wr.heap.size wr w2 → ∀ ao cap, Ints w2 ao (cl.getD i []) → Calls Try.prog 56 #[.pointer (some ⟨g, 0, none⟩), .slice ao (cl.getD i []).length cap] w2 fun e w' => e = .returned (.tuple #[.bool is, .int .i64 op]) ∧ Below w2.heap.size w2 w') := Lib.hid fun w2 hb ao cap hI => by
        have := HRc.out w2 (bel_trans HB.out hb) i hlt ao cap hI
        rwa [hrd] at this
      generalize cl.getD i [] = c at *
      clear hrd
      have key : Hid (((i : Int) == cf) = true → is = false ∧ op = 0 ∧ decide (cf < 0) = false) ∧ Hid (((i : Int) == cf) = false → decide (cf < 0) = false ∨ (decide (cf < 0) = true ∧ (is = true ∨ (is = false ∧ decide ((op : Int) < 2) = false)))) := by
        constructor
        · exact Lib.hid fun e => by
            have e : (i : Int) = cf := by simpa using e
            obtain ⟨h1, h2⟩ := hcf e
            exact ⟨h1, h2, by simp; omega⟩
        · exact Lib.hid fun _ => by
            by_cases h0 : cf < 0
            · rcases hneg h0 with h1 | h1
              · exact .inr ⟨by simpa using h0, .inl h1⟩
              · cases is
                · exact .inr ⟨by simpa using h0, .inr ⟨rfl, by simp; omega⟩⟩
                · exact .inr ⟨by simpa using h0, .inl rfl⟩
            · exact .inl (by simpa using h0)
      clear hcf hneg
      obtain ⟨key1, key2⟩ := key
      cases hic : ((i : Int) == cf) with
      | true =>
        obtain ⟨rfl, rfl, hcf0⟩ := key1.out hic
        clear key1 key2
        go_wp2_with (first
          | (go_at_call 23; (with_reducible refine HCtr.out.mono ?_); rintro e w2 ⟨rfl, rfl⟩)
          | (go_at_call 27; (with_reducible refine HClr.out.mono ?_); rintro e w2 ⟨ao, cap, rfl, hI2, hb2⟩)
          | (go_at_call 56; (with_reducible refine (HRr.out _ hb2 _ _ hI2).mono ?_); rintro e w3 ⟨rfl, hb3⟩))
        go_roundw
        case rel => exact ⟨i + 1, by omega, by go_num, Lib.hid (bel_trans (bel_trans HB.out hb2) hb3)⟩
        case measure => simp [intOf]; omega
      | false =>
        rcases key2.out hic with hcf0 | ⟨hcf0, rfl | ⟨rfl, hop⟩⟩
        all_goals
          clear key1 key2
          go_wp2_with (first
            | (go_at_call 23; (with_reducible refine HCtr.out.mono ?_); rintro e w2 ⟨rfl, rfl⟩)
            | (go_at_call 27; (with_reducible refine HClr.out.mono ?_); rintro e w2 ⟨ao, cap, rfl, hI2, hb2⟩)
            | (go_at_call 56; (with_reducible refine (HRr.out _ hb2 _ _ hI2).mono ?_); rintro e w3 ⟨rfl, hb3⟩))
          go_roundw
          case rel => exact ⟨i + 1, by omega, by go_num, Lib.hid (bel_trans (bel_trans HB.out hb2) hb3)⟩
          case measure => simp [intOf]; omega
    · obtain rfl : i = cl.length := by omega
      have hmm : ∀ W : World, Sem.run Try.prog (Instr.makeMap 85 none) W = .ok (.map (some W.heap.size)) (W.alloc (.map #[] 0)) := fun W => run_makeMap 85 W
      go_wp2_with (first
          | (go_at_call 23; (with_reducible refine HCtr.out.mono ?_); rintro e w2 ⟨rfl, rfl⟩))
      obtain ⟨bm, hbm⟩ : ∃ bm, bm = wr.heap.size := ⟨_, rfl⟩
      have HM0 : Hid (MapI (wr.alloc (.map #[] 0)) bm 0 (fun _ => none) 0) := Lib.hid (by rw [hbm]; exact MapI.made wr)
      have HBm : Hid (Below w1.heap.size w1 (wr.alloc (.map #[] 0))) := Lib.hid (HB.out.alloc HB.out.size _)
      have HBs : Hid (w1.heap.size ≤ bm) := Lib.hid (by rw [hbm]; exact HB.out.size)
      rw [← hbm]
      generalize wr.alloc (.map #[] 0) = wm at *
      clear hbm HB HCtr hmm
      have hHi := HG.out
      go_loopw [10] (fun s wr => ∃ (k : Nat) (f : Int → Option Int) (q : Nat), k ≤ es.length ∧ s = .int .i64 k ∧ Hid (MapI wr bm k f q) ∧ Hid (∀ e ∈ older es k, (f e.lit).getD 0 ≠ 0) ∧ Hid (Below w1.heap.size w1 wr)) (fun s _ => es.length - (intOf s).toNat)
      case atStart => exact ⟨0, _, _, by omega, rfl, HM0, Lib.hid (fun e he => by rw [older_zero] at he; cases he), HBm⟩
      case round =>
        obtain ⟨k, f, q, hk, rfl, HM, HF, HB⟩ := hrel
        have HLn : Hid (Calls Try.prog 32 #[.pointer (some ⟨g, 0, none⟩)] wr fun e w' => e = .returned (.int .i64 es.length) ∧ wr = w') := Lib.hid (HT.out.elim fun _ h => tr_len (h.below HB.out))
        by_cases hlt : k < es.length
        · have hki : (k : Int) < (es.length : Int) := by omega
          obtain ⟨e, he, hol, hat⟩ := older_succ es k hlt
          have hlit := hHi.lit e he
          unfold Lit at hlit
          have hot := (on_trail hHi he).2
          have hju := older_just HJu.out (k + 1)
          rw [hol] at hju
          have HAt : Hid (Calls Try.prog 45 #[.pointer (some ⟨g, 0, none⟩), .int .i64 k] wr fun e' w' => e' = .returned (.int .i64 e.lit) ∧ wr = w') := Lib.hid (HT.out.elim fun _ h => by rw [← hat]; exact tr_at (h.below HB.out) k)
          obtain ⟨r, hr⟩ : ∃ r, r = e.reason := ⟨_, rfl⟩
          have hju1 := hju.1
          have hreas : (ofE n es ((e.lit.natAbs - 1 : Nat) : Int)).reason = r := by rw [hot, hr]
          rw [← hr] at hju1
          obtain ⟨y, hy⟩ : ∃ y, y = e.lit := ⟨_, rfl⟩
          have hFo : ∀ e' ∈ older es (k + 1), (updO f y ((k : Int) + 1) e'.lit).getD 0 ≠ 0 := fun e' he' => by
            unfold updO
            by_cases hee : e'.lit = y
            · rw [if_pos hee]; show (k : Int) + 1 ≠ 0; omega
            · rw [if_neg hee]
              rw [hol] at he'
              rcases List.mem_cons.1 he' with rfl | h
              · exact absurd hy.symm hee
              · exact HF.out e' h
          rw [← hy] at hlit HAt hreas hju1
          have hyI : I64 y := by unfold I64; omega
          obtain ⟨w3, hrun, hM3, hg3⟩ := HM.out.put hyI (by have := (by decide : 5000 < maxLen); omega) ((k : Int) + 1)
          have hb3 : Below w1.heap.size w1 w3 := HB.out.grown hg3 HB.out.size (fun j hj => by cases hj; exact HBs.out)
          have HB3 := Lib.hid hb3
          have HM3 := Lib.hid hM3
          have HFo := Lib.hid hFo
          have HFo2 : Hid (∀ e' ∈ older es k, (updO f y ((k : Int) + 1) e'.lit).getD 0 ≠ 0) := Lib.hid fun e' he' => hFo e' (by rw [hol]; exact List.mem_cons_of_mem _ he')
          have HCt3 := Lib.hid (HCt.out w3 (bel_trans HB1.out hb3))
          have HCl3 := Lib.hid (HCl.out w3 (bel_trans HB1.out hb3))
          have hrs : ∃ p : Nat, 1 ≤ p ∧ p ≤ n ∧ (y = (p : Int) ∨ y = -(p : Int)) ∧ Hid (Calls Try.prog 57 #[.pointer (some ⟨g, 0, none⟩), .int .i64 ((p : Int) - 1)] w3 fun e' w' => e' = .returned (.int .i64 r) ∧ Below w3.heap.size w3 w') := by
            refine ⟨y.natAbs, hlit.1, hlit.2, by omega, Lib.hid ?_⟩
            obtain ⟨F, hT⟩ := HT.out
            obtain ⟨a, b, c, k1, _⟩ := hT.below hb3
            have hl : (trE n es).vars.length = n := varsE_len n es
            have h1 := reason_any g a b c _ ((y.natAbs : Int) - 1) w3 k1 (by omega)
            rw [ofT_trE, show ((y.natAbs : Int) - 1) = ((y.natAbs - 1 : Nat) : Int) by omega, hreas] at h1
            rw [show ((y.natAbs : Int) - 1) = ((y.natAbs - 1 : Nat) : Int) by omega]
            exact h1
          obtain ⟨p, hp1, hpn, hyp, HRs⟩ := hrs
          have HJ := Lib.hid hju1
          have hMr := HM3.out
          clear hol hat hot hju hju1 hreas hr hy hFo hM3 hg3 hb3 hlit hyI he hMr
          have hdone : ∀ w4, Below w3.heap.size w3 w4 → Hid (MapI w4 bm (k + 1) (updO f y ((k : Int) + 1)) (if (f y).isSome then q else q + 1)) ∧ Hid (Below w1.heap.size w1 w4) := fun w4 hb => ⟨Lib.hid (HM3.out.below hb), Lib.hid (bel_trans HB3.out hb)⟩
          have HDone := Lib.hid hdone
          clear hdone
          have hwk : IntKind.i64.wrap ((k : Int) + 1) = (k : Int) + 1 := by rw [IntKind.wrap_i64]; omega
          have hcase : (decide (y < 0) = false ∧ IntKind.i64.wrap (y - 1) = y - 1 ∧ Hid (Calls Try.prog 57 #[.pointer (some ⟨g, 0, none⟩), .int .i64 (y - 1)] w3 fun e' w' => e' = .returned (.int .i64 r) ∧ Below w3.heap.size w3 w')) ∨
              (decide (y < 0) = true ∧ IntKind.i64.wrap (-y) = -y ∧ IntKind.i64.wrap (-y - 1) = -y - 1 ∧ Hid (Calls Try.prog 57 #[.pointer (some ⟨g, 0, none⟩), .int .i64 (-y - 1)] w3 fun e' w' => e' = .returned (.int .i64 r) ∧ Below w3.heap.size w3 w')) := by
            rcases hyp with hyp | hyp
            · rw [← hyp] at HRs
              exact .inl ⟨by simp; omega, by rw [IntKind.wrap_i64]; omega, HRs⟩
            · rw [show (p : Int) = -y by omega] at HRs
              exact .inr ⟨by simp; omega, by rw [IntKind.wrap_i64]; omega, by rw [IntKind.wrap_i64]; omega, HRs⟩
          clear hyp HRs hp1
          by_cases hr0 : r < 0
          · have hrd : decide (r < 0) = true := by simpa using hr0
            rcases hcase with ⟨hy0, hy1, HRs⟩ | ⟨hy0, hy1, hy2, HRs⟩
            all_goals
              go_wp2_with (first
                | (go_at_call 32; (with_reducible refine HLn.out.mono ?_); rintro e w4 ⟨rfl, rfl⟩)
                | (go_at_call 45; (with_reducible refine HAt.out.mono ?_); rintro e w4 ⟨rfl, rfl⟩)
                | (go_at_call 57; (with_reducible refine HRs.out.mono ?_); rintro e w4 ⟨rfl, hb4⟩))
              go_roundw
              case rel => exact ⟨k + 1, _, _, by omega, by go_num, (HDone.out _ hb4).1, HFo, (HDone.out _ hb4).2⟩
              case measure => simp [intOf]; omega
          · obtain ⟨rn, rfl⟩ := Int.eq_ofNat_of_zero_le (by omega : 0 ≤ r)
            obtain ⟨j1, j2, j3⟩ := HJ.out (by omega)
            rw [Int.toNat_natCast] at j2 j3
            have hrl : rn < cl.length := by omega
            have hrd : decide ((rn : Int) < 0) = false := by simp
            have hrd2 : decide ((cl.length : Int) ≤ (rn : Int)) = false := by simp; omega
            have HCr : Hid (∀ w4, Below w3.heap.size w3 w4 → Calls Try.prog 27 #[.pointer (some ⟨x, 0, none⟩), .int .i64 rn] w4 fun e w' => ∃ ao cap, e = .returned (.slice ao (cl.getD rn []).length cap) ∧ Ints w' ao (cl.getD rn []) ∧ Below w4.heap.size w4 w') := Lib.hid fun w4 hb => HCl.out w4 (bel_trans (bel_trans HB1.out HB3.out) hb) rn
            have HCc : Hid (∀ w4, Below w3.heap.size w3 w4 → Calls Try.prog 23 #[.pointer (some ⟨x, 0, none⟩)] w4 fun e w' => e = .returned (.int .i64 cl.length) ∧ w4 = w') := Lib.hid fun w4 hb => HCt.out w4 (bel_trans (bel_trans HB1.out HB3.out) hb)
            obtain ⟨hk1, hk2⟩ := HKn.out rn hrl
            have HZ : Hid (∀ z ∈ cl.getD rn [], z.natAbs ≤ n ∧ (z ≠ y → (updO f y ((k : Int) + 1) (-z)).getD 0 ≠ 0)) := Lib.hid fun z hz => ⟨(hk1 z hz).2, fun hne => by
              obtain ⟨e', he', e2⟩ := val_none (j3 z hz hne)
              rw [← e2]
              exact HFo2.out e' he'⟩
            have HAny : Hid ((cl.getD rn []).any (fun z => z == y) = true) := Lib.hid (List.any_eq_true.2 ⟨y, j2, by simp⟩)
            generalize cl.getD rn [] = c at *
            clear j1 j2 j3 hk1 HCt3 HCl3 HFo2 HJ hr0
            generalize (if (f y).isSome then q else q + 1) = q2 at *
            rcases hcase with ⟨hy0, hy1, HRs⟩ | ⟨hy0, hy1, hy2, HRs⟩
            all_goals
              go_wp2_with (first
                | (go_at_call 32; (with_reducible refine HLn.out.mono ?_); rintro e w4 ⟨rfl, rfl⟩)
                | (go_at_call 45; (with_reducible refine HAt.out.mono ?_); rintro e w4 ⟨rfl, rfl⟩)
                | (go_at_call 57; (with_reducible refine HRs.out.mono ?_); rintro e w4 ⟨rfl, hb4⟩)
                | (go_at_call 23; (with_reducible refine (HCc.out _ hb4).mono ?_); rintro e w5 ⟨rfl, rfl⟩)
                | (go_at_call 27; (with_reducible refine (HCr.out _ hb4).mono ?_); rintro e w5 ⟨ao, cap, rfl, hI5, hb5⟩))
              have HI5 := Lib.hid hI5
              have HB5 := Lib.hid (bel_trans hb4 hb5)
              generalize hf2 : updO f y ((k : Int) + 1) = f2 at *
              clear hI5 hb4 hb5 hrun hf2
              go_loopw [15, 16] (fun s15 s16 wr => ∃ j : Nat, j ≤ c.length ∧ s16 = .int .i64 j ∧ s15 = .bool ((c.take j).any (fun z => z == y)) ∧ Hid (Below w5.heap.size w5 wr)) (fun _ s _ => c.length - (intOf s).toNat)
              case atStart => exact ⟨0, by omega, rfl, rfl, Lib.hid (Below.refl _ _)⟩
              case round =>
                obtain ⟨j, hj, rfl, rfl, HBr⟩ := hrel
                obtain ⟨HMr, HBr1⟩ := HDone.out _ (bel_trans HB5.out HBr.out)
                by_cases hjl : j < c.length
                · have hji : (j : Int) < (c.length : Int) := by omega
                  obtain ⟨b, off, rfl, hbl, hcc⟩ := HI5.out (by omega)
                  have hcj : wr.cell? ⟨b, off + j, none⟩ = some (.int .i64 c[j]) := (World.cell?_of_block (w := w5) (HBr.out.block b hbl)).trans (hcc j hjl)
                  have hap := any_take (fun z => z == y) c j hjl
                  obtain ⟨hz1, hz2⟩ := HZ.out c[j] (List.getElem_mem hjl)
                  generalize c[j] = z at *
                  generalize (c.take j).any (fun z => z == y) = bb at *
                  have HAP := Lib.hid hap
                  have hwz : IntKind.i64.wrap (-z) = -z := by rw [IntKind.wrap_i64]; omega
                  have hlk := HMr.out.look (x := -z) (by unfold I64; omega)
                  generalize (f2 (-z)).getD 0 = G at *
                  clear hap hcc
                  by_cases hzy : z = y
                  · have hz3 : (z == y) = true := by simpa using hzy
                    have hz4 : (z != y) = false := by simpa using hzy
                    clear hz2
                    cases bb
                    all_goals
                      go_wp2_with fail
                      go_roundw
                      case rel => exact ⟨j + 1, by omega, by go_num, by simp [HAP.out, hz3], HBr⟩
                      case measure => simp [intOf]; omega
                  · have hz3 : (z == y) = false := by simpa using hzy
                    have hz4 : (z != y) = true := by simpa using hzy
                    have hG := hz2 hzy
                    have hG2 : (G == 0) = false := by simpa using hG
                    clear hz2
                    cases bb
                    all_goals
                      go_wp2_with fail
                      go_roundw
                      case rel => exact ⟨j + 1, by omega, by go_num, by simp [HAP.out, hz3], HBr⟩
                      case measure => simp [intOf]; omega
                · obtain rfl : j = c.length := by omega
                  rw [List.take_length, HAny.out]
                  go_wp2_with fail
                  go_roundw
                  case rel => exact ⟨k + 1, _, _, by omega, by go_num, HMr, HFo, HBr1⟩
                  case measure => simp [intOf]; omega
        · obtain rfl : k = es.length := by omega
          go_wp2_with (go_at_call 32; (with_reducible refine HLn.out.mono ?_); rintro e w3 ⟨rfl, rfl⟩)
          go_ret
          exact ⟨rfl, bel_trans HB1.out HB.out⟩
end

end Go.Proofs.Ytnachllhjojlcaa
