/- The document's trail: New, Decide, Assign, Back. -/
import Derived.Test.YtnachllhjojlcaaR24
namespace Go.Proofs.Ytnachllhjojlcaa
open Go.ChangeShapes Go.WideShapes Go.ChangeAt Go.RowKit
set_option maxRecDepth 100000

def RefUp (w w' : World) (X : Nat → Prop) (x n : Nat) (es : List En) : Prop :=
  ∃ X', RefA w' X' x n es ∧ Touch X w w' ∧ ∀ k, X' k → X k ∨ (w.heap.size ≤ k ∧ k < w'.heap.size)

theorem RefA.up {w : World} {X : Nat → Prop} {x n : Nat} {es : List En} (h : RefA w X x n es) : RefUp w w X x n es := ⟨X, h, Touch.refl _ _, fun _ hk => .inl hk⟩

theorem rnew_any (n : Nat) (w : World) (hn : n ≤ 5000) :
    Calls Try.prog 47 #[.int .i64 n] w fun e w' => ∃ x, e = .returned (.tuple #[.pointer (some ⟨x, 0, none⟩), .int .i64 0]) ∧ RefA w' (fun k => k = x) x n [] ∧ Below w.heap.size w w' ∧ w.heap.size ≤ x ∧ x < w'.heap.size := by
  have h1 : decide ((n : Int) < 0) = false := by simp
  have h2 : decide ((2097152 : Int) < (n : Int)) = false := by simp; omega
  go_enter Try.func47, Try.ntmps47
  go_wp2_with fail
  go_ret2
  exact ⟨w.heap.size, rfl, ⟨.slice none 0 0, Blk.new w _ _, Own.nil _ _ 3, rfl, fun k hk => by simp [Value.ownBlock] at hk⟩, (Below.refl _ _).alloc (Nat.le_refl _) _, Nat.le_refl _, by simp⟩
theorem rnew_bad (n : Int) (w : World) (hn : n < 0) :
    Calls Try.prog 47 #[.int .i64 n] w fun e w' => e = .returned (.tuple #[.pointer none, .int .i64 1]) ∧ w = w' := by
  go_enter Try.func47, Try.ntmps47
  go_wp2_with fail
  go_ret2
  exact ⟨rfl, rfl⟩

theorem openC_valR {n : Nat} {es : List En} {x : Int} (h : Lit n x) : (valE n es x = 0 ∧ openC n es x = 0) ∨ (valE n es x ≠ 0 ∧ openC n es x = 7) := by
  unfold Lit at h
  unfold valE openC
  rw [if_pos h, if_pos h]
  cases look es (x.natAbs - 1) with
  | none => exact .inl ⟨rfl, rfl⟩
  | some e =>
    refine .inr ⟨?_, rfl⟩
    simp only
    split <;> decide

/-- An entry is put: what is left. -/
theorem put_up {X : Nat → Prop} {x n : Nat} {es : List En} {hv : Int} {w : World} {v : Value} (d : En) (hX : X x) (_hvX : ∀ k, v.ownBlock = some k → X k) (hd : d.level = hv)
    (hb : Blk w x 50 #[.int .i64 n, v, .int .i64 hv]) (hO : Own w 75 3 v es.length (enC es.reverse)) (hl : es.length ≤ 5000) :
    Calls Try.prog 49 #[.pointer (some ⟨x, 0, none⟩), .agg #[.int .i64 d.lit, .int .i64 d.level, .int .i64 d.reason]] w fun e' w' => e' = .returned (.tuple #[]) ∧ RefUp w w' X x n (d :: es) := by
  have hlr : es.reverse.length = es.length := List.length_reverse
  refine (put_any x n hv v es.reverse d w hb (by rw [hlr]; exact hO) (by omega)).mono ?_
  rintro e' w' ⟨he, v', h1, h2, h3, h4⟩
  refine ⟨he, fun k => X k ∨ v'.ownBlock = some k, ⟨v', ?_, ?_, .inl hX, fun k hk => .inr hk⟩, h3.mono fun k _ hk => hk ▸ hX, fun k hk => ?_⟩
  · show Blk w' x 50 #[.int .i64 n, v', .int .i64 d.level]
    rw [hd]
    exact h1
  · rw [List.reverse_cons, List.length_cons, ← hlr]
    exact h2
  · rcases hk with hk | hk
    · exact .inl hk
    · exact .inr ⟨h4 k hk, h2.lt k hk⟩

theorem RefUp.trans {w w1 w2 : World} {X : Nat → Prop} {x n : Nat} {es : List En} (hT : Touch X w w1) (hs : w1.heap.size = w.heap.size) (h : RefUp w1 w2 X x n es) : RefUp w w2 X x n es := by
  obtain ⟨X', h1, h2, h3⟩ := h
  exact ⟨X', h1, hT.trans h2 fun _ _ h => h, fun k hk => by rw [← hs]; exact h3 k hk⟩

set_option maxHeartbeats 1000000 in
theorem rdecide_any (X : Nat → Prop) (x n : Nat) (es : List En) (lit : Int) (w : World) (hR : RefA w X x n es) (hg : Good n es) (hn : n ≤ 5000) (hlit : I64 lit) :
    Calls Try.prog 19 #[.pointer (some ⟨x, 0, none⟩), .int .i64 lit] w fun e w' => e = .returned (.int .i64 (decC n es lit).1) ∧ RefUp w w' X x n (decC n es lit).2 := by
  have hlen := hg.len_le
  have hhi : 0 ≤ hi es ∧ hi es ≤ 5000 := by
    have h1 := hi_nonneg hg
    have h2 := hi_le_len hg
    omega
  have HVal := Lib.hid (rvalue_any X x n es lit w hR hg hn hlit)
  obtain ⟨v, hb, hO, hX, hvX⟩ := hR
  have HI := Lib.hid (is_any x n v _ lit w hb hn hlit)
  have hR : RefA w X x n es := ⟨v, hb, hO, hX, hvX⟩
  have HR := Lib.hid hR.up
  clear hR
  by_cases hx : Lit n lit
  · have hd : decide (1 ≤ lit.natAbs ∧ lit.natAbs ≤ n) = true := by unfold Lit at hx; simpa using hx
    rw [hd] at HI
    rcases openC_valR (es := es) hx with ⟨h1, h2⟩ | ⟨h1, h2⟩
    · have hdc : decC n es lit = (0, ⟨lit, hi es + 1, -1⟩ :: es) := by simp only [decC, h2, if_true]
      rw [h1] at HVal
      have HP := Lib.hid (put_up (X := X) (n := n) (es := es) (w := w.setCell ⟨x, 2, none⟩ (.int .i64 (hi es + 1))) ⟨lit, hi es + 1, -1⟩ hX hvX rfl (hb.set_ 2 _) (hO.far (p := ⟨x, 2, none⟩) (hO.ne_blk hb (by decide)) _) (by omega))
      simp only at HP
      have hT : Touch X w (w.setCell ⟨x, 2, none⟩ (.int .i64 (hi es + 1))) := (Touch.refl X w).setCell (p := ⟨x, 2, none⟩) (fun _ => hX) _
      have HT := Lib.hid hT
      have hs : (w.setCell ⟨x, 2, none⟩ (.int .i64 (hi es + 1))).heap.size = w.heap.size := by simp [World.setCell]
      have HS := Lib.hid hs
      rw [hdc]
      have hc2 := hb.cell 2
      have hf2 := hb.frozen 2
      simp at hc2
      generalize hi es = hh at *
      simp only
      generalize (⟨lit, hh + 1, -1⟩ :: es : List En) = es2 at *
      clear hd hdc h1 h2 hx hT hs hO hb
      go_enter Try.func19, Try.ntmps19
      go_wp2_with (first
        | (go_at_call 48; refine HI.out.mono ?_; rintro e w' ⟨rfl, rfl⟩)
        | (go_at_call 26; refine HVal.out.mono ?_; rintro e w' ⟨rfl, rfl⟩)
        | (go_at_call 49; refine HP.out.mono ?_; rintro e w1 ⟨rfl, hu⟩))
      go_ret
      exact ⟨rfl, RefUp.trans HT.out HS.out hu⟩
    · have hdc : decC n es lit = (7, es) := by simp only [decC, h2]; rfl
      rw [hdc]
      simp only
      generalize valE n es lit = z at *
      have hz : (z != 0) = true := by simpa using h1
      have hz2 : (z == 0) = false := by simpa using h1
      clear hd hdc h1 h2 hx hO hb
      go_enter Try.func19, Try.ntmps19
      go_wp2_with (first
        | (go_at_call 48; refine HI.out.mono ?_; rintro e w' ⟨rfl, rfl⟩)
        | (go_at_call 26; refine HVal.out.mono ?_; rintro e w' ⟨rfl, rfl⟩))
      go_ret
      exact ⟨rfl, HR.out⟩
  · have hd : decide (1 ≤ lit.natAbs ∧ lit.natAbs ≤ n) = false := by unfold Lit at hx; simp; omega
    rw [hd] at HI
    have hop : openC n es lit = 1 := by unfold Lit at hx; unfold openC; rw [if_neg hx]
    have hdc : decC n es lit = (1, es) := by simp only [decC, hop]; rfl
    rw [hdc]
    simp only
    clear hd hdc hop hx hO hb
    go_enter Try.func19, Try.ntmps19
    go_wp2_with (first
      | (go_at_call 48; refine HI.out.mono ?_; rintro e w' ⟨rfl, rfl⟩))
    go_ret
    exact ⟨rfl, HR.out⟩

set_option maxHeartbeats 1000000 in
theorem rassign_any (X : Nat → Prop) (x n : Nat) (es : List En) (lit reason : Int) (w : World) (hR : RefA w X x n es) (hg : Good n es) (hn : n ≤ 5000) (hlit : I64 lit) :
    Calls Try.prog 50 #[.pointer (some ⟨x, 0, none⟩), .int .i64 lit, .int .i64 reason] w fun e w' => e = .returned (.int .i64 (asnC n es lit reason).1) ∧ RefUp w w' X x n (asnC n es lit reason).2 := by
  have hlen := hg.len_le
  have HVal := Lib.hid (rvalue_any X x n es lit w hR hg hn hlit)
  obtain ⟨v, hb, hO, hX, hvX⟩ := hR
  have HI := Lib.hid (is_any x n v _ lit w hb hn hlit)
  have hR : RefA w X x n es := ⟨v, hb, hO, hX, hvX⟩
  have HR := Lib.hid hR.up
  clear hR
  by_cases hr : reason < 0
  · have hdc : asnC n es lit reason = (1, es) := by simp only [asnC, if_pos hr]
    rw [hdc]
    simp only
    clear hdc hO hb
    go_enter Try.func50, Try.ntmps50
    go_wp2_with fail
    go_ret
    exact ⟨rfl, HR.out⟩
  · have hr' : decide (reason < 0) = false := by simpa using hr
    by_cases hx : Lit n lit
    · have hd : decide (1 ≤ lit.natAbs ∧ lit.natAbs ≤ n) = true := by unfold Lit at hx; simpa using hx
      rw [hd] at HI
      rcases openC_valR (es := es) hx with ⟨h1, h2⟩ | ⟨h1, h2⟩
      · have hdc : asnC n es lit reason = (0, ⟨lit, hi es, reason⟩ :: es) := by simp only [asnC, if_neg hr, h2, if_true]
        rw [h1] at HVal
        have HP := Lib.hid (put_up (X := X) (n := n) (es := es) (w := w) ⟨lit, hi es, reason⟩ hX hvX rfl hb hO (by omega))
        simp only at HP
        rw [hdc]
        have hc2 := hb.cell 2
        simp at hc2
        generalize hi es = hh at *
        simp only
        generalize (⟨lit, hh, reason⟩ :: es : List En) = es2 at *
        clear hd hdc h1 h2 hx hO hb
        go_enter Try.func50, Try.ntmps50
        go_wp2_with (first
          | (go_at_call 48; refine HI.out.mono ?_; rintro e w' ⟨rfl, rfl⟩)
          | (go_at_call 26; refine HVal.out.mono ?_; rintro e w' ⟨rfl, rfl⟩)
          | (go_at_call 49; refine HP.out.mono ?_; rintro e w1 ⟨rfl, hu⟩))
        go_ret
        exact ⟨rfl, hu⟩
      · have hdc : asnC n es lit reason = (7, es) := by simp only [asnC, if_neg hr, h2]; rfl
        rw [hdc]
        simp only
        generalize valE n es lit = z at *
        have hz : (z != 0) = true := by simpa using h1
        have hz2 : (z == 0) = false := by simpa using h1
        clear hd hdc h1 h2 hx hO hb
        go_enter Try.func50, Try.ntmps50
        go_wp2_with (first
          | (go_at_call 48; refine HI.out.mono ?_; rintro e w' ⟨rfl, rfl⟩)
          | (go_at_call 26; refine HVal.out.mono ?_; rintro e w' ⟨rfl, rfl⟩))
        go_ret
        exact ⟨rfl, HR.out⟩
    · have hd : decide (1 ≤ lit.natAbs ∧ lit.natAbs ≤ n) = false := by unfold Lit at hx; simp; omega
      rw [hd] at HI
      have hop : openC n es lit = 1 := by unfold Lit at hx; unfold openC; rw [if_neg hx]
      have hdc : asnC n es lit reason = (1, es) := by simp only [asnC, if_neg hr, hop]; rfl
      rw [hdc]
      simp only
      clear hd hdc hop hx hO hb
      go_enter Try.func50, Try.ntmps50
      go_wp2_with (first
        | (go_at_call 48; refine HI.out.mono ?_; rintro e w' ⟨rfl, rfl⟩))
      go_ret
      exact ⟨rfl, HR.out⟩

theorem filter_pop {n : Nat} (lv : Int) : ∀ {es : List En}, Good n es → es.filter (fun e => decide (e.level ≤ lv)) = popE lv es
  | [], _ => rfl
  | e :: es, h => by
    simp only [popE]
    by_cases hl : lv < e.level
    · rw [if_pos hl, List.filter_cons_of_neg (by simp; omega)]
      exact filter_pop lv h.2.2.2
    · rw [if_neg hl, List.filter_eq_self.2 fun a ha => ?_]
      have := (level_le h a ha).2
      simp only [hi] at this
      simp
      omega

def keepE (lv : Int) (l : List En) : List En := l.filter fun e => decide (e.level ≤ lv)

set_option maxHeartbeats 2000000 in
theorem rback_any (X : Nat → Prop) (x n : Nat) (es : List En) (lv : Int) (w : World) (hR : RefA w X x n es) (hg : Good n es) (hn : n ≤ 5000) (_hlv : I64 lv) :
    Calls Try.prog 21 #[.pointer (some ⟨x, 0, none⟩), .int .i64 lv] w fun e w' => e = .returned (.int .i64 (backC es lv).1) ∧ RefUp w w' X x n (backC es lv).2 := by
  obtain ⟨i, hi, hz0, hz1, hz2⟩ := info_parts (P := Try.prog) (e := 75) (z := .agg #[.int .i64 0, .int .i64 0, .int .i64 0]) (size := 3) (bytes := 24) (by kernel_rfl)
  have hlen := hg.len_le
  have HR := Lib.hid hR.up
  obtain ⟨v, hb, hO, hX, hvX⟩ := hR
  have hc2 := hb.cell 2
  simp at hc2
  by_cases hbad : lv < 0 ∨ Go.Proofs.Ytnachllhjojlcaa.hi es < lv
  · have hbc : backC es lv = (1, es) := by simp only [backC, if_pos hbad]
    rw [hbc]
    simp only
    generalize Go.Proofs.Ytnachllhjojlcaa.hi es = hh at *
    clear hbc hO hb
    by_cases hneg : lv < 0
    · go_enter Try.func21, Try.ntmps21
      go_wp2_with fail
      go_ret
      exact ⟨rfl, HR.out⟩
    · have hneg' : decide (lv < 0) = false := by simpa using hneg
      have hb2 : hh < lv := by omega
      go_enter Try.func21, Try.ntmps21
      go_wp2_with fail
      go_ret
      exact ⟨rfl, HR.out⟩
  · have hbc : backC es lv = (0, popE lv es) := by simp only [backC, if_neg hbad]
    have hpop := filter_pop lv hg
    have hhp := hi_pop lv (by omega) hg (by omega)
    rw [hbc]
    simp only
    have hn1 : decide (lv < 0) = false := by simp; omega
    have hn2 : ¬ Go.Proofs.Ytnachllhjojlcaa.hi es < lv := by omega
    have hn3 : decide (Go.Proofs.Ytnachllhjojlcaa.hi es < lv) = false := by simpa using hn2
    generalize hpe : popE lv es = P at *
    have HP := Lib.hid hpop
    have HH := Lib.hid hhp
    have HB := Lib.hid hb
    have HO := Lib.hid hO
    obtain ⟨hh, hhe⟩ : ∃ hh, Go.Proofs.Ytnachllhjojlcaa.hi es = hh := ⟨_, rfl⟩
    rw [hhe] at hc2 hn2 hn3
    have hxl := hb.lt
    clear hbc hpop hhp hbad hhe hpe hb hO hg
    go_enter Try.func21, Try.ntmps21
    go_wp2_with fail
    go_loopw [5, 6] (fun u i wr => ∃ k : Nat, k ≤ es.length ∧ i = .int .i64 k ∧ Own wr 75 3 u (keepE lv (older es k)).length (enC (keepE lv (older es k)).reverse) ∧ (∀ j, u.ownBlock = some j → w.heap.size ≤ j) ∧ Below w.heap.size w wr ∧ (keepE lv (older es k)).length ≤ k) (fun _ i _ => es.length - (intOf i).toNat)
    case atStart =>
      refine ⟨0, by omega, rfl, ?_, fun j hj => by simp [Value.ownBlock] at hj, Below.refl _ _, ?_⟩
      · rw [older_zero]
        exact Own.nil _ _ 3
      · rw [older_zero]
        exact Nat.le_refl _
    case round =>
      obtain ⟨k, hk, rfl, hU, hu, hB, hkl⟩ := hrel
      have hbr := HB.out.below hB hxl
      have hOr := HO.out.new hB
      have hc1 := hbr.cell 1
      by_cases hlt : k < es.length
      · obtain ⟨e, he, hold, hrev, _⟩ := older_rev es k hlt
        obtain ⟨bl, off, cap, ev, hce, hcl, hcr, hbl⟩ := ref_at hOr k e hlt hrev
        subst ev
        simp at hc1
        have hki : (k : Int) < (es.length : Int) := by omega
        have hbne : ¬ bl = wr.heap.size := by omega
        have hbne' : ¬ wr.heap.size = bl := by omega
        by_cases hle : e.level ≤ lv
        · have hkp : keepE lv (older es (k + 1)) = e :: keepE lv (older es k) := by
            rw [hold]
            exact List.filter_cons_of_pos (by simpa using hle)
          generalize hfl : keepE lv (older es k) = fl at *
          have HK := Lib.hid hkp
          obtain ⟨au, cu, rfl, _, _, _⟩ := hU.form
          obtain ⟨el, ll, rs⟩ := e
          simp only at hce hcl hcr hle
          have hoV : ∀ u ∈ [Value.int .i64 el, .int .i64 ll, .int .i64 rs], u.oneCell' = true := by
            intro u hu
            simp only [List.mem_cons, List.not_mem_nil, or_false] at hu
            rcases hu with rfl | rfl | rfl <;> rfl
          have hS := (Own.made wr 75 3 #[.int .i64 el, .int .i64 ll, .int .i64 rs] 1 rfl (by decide)).src (P := Try.prog) (tx := 48) Try.underlying48 hoV
          have HU := Lib.hid hu
          have HBl := Lib.hid hB
          clear hkp hfl hold hrev he hOr hbr hu hB
          go_wp2_with (at_builtin; go_loud (refine wpList_append_S _ rfl (.tmp 36) (.tmp 44) _ _ rfl 75 i _ 3 24 Try.underlying48 hi hz0 hz1 hz2 rfl (by omega) (.slice au fl.length cu) fl.length (enC fl.reverse) rfl (hU.alloc _) (enC_one _) _ 1 _ rfl hS (by simp only [maxLen]; omega) (by omega) ?_); intro ao2 cap2 w1 hn1 hm1 hown1 hg1 hat1 hlt1)
          go_roundw
          case rel =>
            have b1 : Below w.heap.size w (wr.alloc (.cells #[.int .i64 el, .int .i64 ll, .int .i64 rs] 75)) := HBl.out.alloc HBl.out.size _
            refine ⟨k + 1, by omega, by go_num, ?_, ?_, grow_below b1 hg1 HU.out b1.size, ?_⟩
            · rw [HK.out, List.length_cons, List.reverse_cons, enC_app]
              exact hown1
            · intro j hj
              rcases hat1 with h | h
              · exact HU.out j (h ▸ hj)
              · rw [h] at hj
                injection hj with hj
                have := b1.size
                omega
            · rw [HK.out, List.length_cons]
              omega
          case measure => simp [intOf]; omega
        · have hkp : keepE lv (older es (k + 1)) = keepE lv (older es k) := by
            rw [hold]
            exact List.filter_cons_of_neg (by simpa using hle)
          have hle' : decide (e.level ≤ lv) = false := by simpa using hle
          have HK := Lib.hid hkp
          have HU := Lib.hid hu
          have HUU := Lib.hid hU
          have HBl := Lib.hid hB
          obtain ⟨el, ll, rs⟩ := e
          simp only at hce hcl hcr hle hle'
          clear hkp hold hrev he hOr hbr hu hB hU
          go_wp2_with fail
          go_roundw
          case rel => exact ⟨k + 1, by omega, by go_num, by rw [HK.out]; exact HUU.out, HU.out, HBl.out, by rw [HK.out]; omega⟩
          case measure => simp [intOf]; omega
      · obtain rfl : k = es.length := by omega
        rw [older_all] at hU
        have hke : keepE lv es = P := HP.out
        rw [hke] at hU
        obtain ⟨ao, cap, rfl, _, _, _⟩ := HO.out.form
        obtain ⟨au, cu, rfl, _, _, _⟩ := hU.form
        have hf1 := hbr.frozen 1
        have hf2 := hbr.frozen 2
        have hc2r := hbr.cell 2
        simp at hc1 hc2r
        have HBR := Lib.hid hbr
        have HUU := Lib.hid hU
        have HU := Lib.hid hu
        have HBl := Lib.hid hB
        clear hU hu hB hbr hOr hkl hke
        go_wp2_with fail
        go_ret
        have hng : (Value.slice au P.length cu).ownBlock ≠ some x := HUU.out.ne_blk HBR.out (by decide)
        have hT : Touch X w ((wr.setCell ⟨x, 1, none⟩ (.slice au P.length cu)).setCell ⟨x, 2, none⟩ (.int .i64 lv)) := ((Touch.of_below HBl.out X).setCell (p := ⟨x, 1, none⟩) (fun _ => hX) _).setCell (p := ⟨x, 2, none⟩) (fun _ => hX) _
        refine ⟨rfl, fun k => X k ∨ (Value.slice au P.length cu).ownBlock = some k, ⟨_, ?_, (HUU.out.far (p := ⟨x, 1, none⟩) hng _).far (p := ⟨x, 2, none⟩) hng _, .inl hX, fun k hk => .inr hk⟩, hT, fun k hk => ?_⟩
        · rw [HH.out]
          exact (HBR.out.set_ 1 _).set_ 2 _
        · rcases hk with hk | hk
          · exact .inl hk
          · exact .inr ⟨HU.out k hk, by simpa [World.setCell] using HUU.out.lt k hk⟩

end Go.Proofs.Ytnachllhjojlcaa
