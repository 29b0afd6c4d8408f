/- The document's trail: Back. -/
import Derived.Test.YtiejdladmoncaaaT25
namespace Go.Proofs.Ytiejdladmoncaaa
open Go.ChangeShapes Go.WideShapes Go.ChangeAt Go.RowKit
set_option maxRecDepth 100000

def keepE (lv : Int) (l : List En) : List En := l.filter fun e => decide (e.level ≤ lv)

set_option maxHeartbeats 2000000 in
theorem rback_any (X : Nat → Prop) (x n : Nat) (es : List En) (lv : Int) (w : World) (hR : RefA w X x n es) (hg : Good n es) (hn : n ≤ 5000) (_hlv : I64 lv) :
    Calls Try.prog 27 #[.pointer (some ⟨x, 0, none⟩), .int .i64 lv] w fun e w' => e = .returned (.int .i64 (backC es lv).1) ∧ RefUp w w' X x n (backC es lv).2 := by
  obtain ⟨i, hi, hz0, hz1, hz2⟩ := info_parts (P := Try.prog) (e := 62) (z := .agg #[.int .i64 0, .int .i64 0, .int .i64 0]) (size := 3) (bytes := 24) (by kernel_rfl)
  have hlen := hg.len_le
  have HR := Lib.hid hR.up
  obtain ⟨v, hb, hO, hX, hvX⟩ := hR
  have hc2 := hb.cell 2
  simp at hc2
  by_cases hbad : lv < 0 ∨ Go.Proofs.Ytiejdladmoncaaa.hi es < lv
  · have hbc : backC es lv = (1, es) := by simp only [backC, if_pos hbad]
    rw [hbc]
    simp only
    generalize Go.Proofs.Ytiejdladmoncaaa.hi es = hh at *
    clear hbc hO hb
    by_cases hneg : lv < 0
    · go_enter Try.func27, Try.ntmps27
      go_wp2_with fail
      go_ret
      exact ⟨rfl, HR.out⟩
    · have hneg' : decide (lv < 0) = false := by simpa using hneg
      have hb2 : hh < lv := by omega
      go_enter Try.func27, Try.ntmps27
      go_wp2_with fail
      go_ret
      exact ⟨rfl, HR.out⟩
  · have hbc : backC es lv = (0, popE lv es) := by simp only [backC, if_neg hbad]
    have hpop := filter_pop lv hg
    have hhp := hi_pop lv (by omega) hg (by omega)
    rw [hbc]
    simp only
    have hn1 : decide (lv < 0) = false := by simp; omega
    have hn2 : ¬ Go.Proofs.Ytiejdladmoncaaa.hi es < lv := by omega
    have hn3 : decide (Go.Proofs.Ytiejdladmoncaaa.hi es < lv) = false := by simpa using hn2
    generalize hpe : popE lv es = P at *
    have HP := Lib.hid hpop
    have HH := Lib.hid hhp
    have HB := Lib.hid hb
    have HO := Lib.hid hO
    obtain ⟨hh, hhe⟩ : ∃ hh, Go.Proofs.Ytiejdladmoncaaa.hi es = hh := ⟨_, rfl⟩
    rw [hhe] at hc2 hn2 hn3
    have hxl := hb.lt
    clear hbc hpop hhp hbad hhe hpe hb hO hg
    go_enter Try.func27, Try.ntmps27
    go_wp2_with fail
    go_loopw [5, 6] (fun u i wr => ∃ k : Nat, k ≤ es.length ∧ i = .int .i64 k ∧ Own wr 62 3 u (keepE lv (older es k)).length (enC (keepE lv (older es k)).reverse) ∧ (∀ j, u.ownBlock = some j → w.heap.size ≤ j) ∧ Below w.heap.size w wr ∧ (keepE lv (older es k)).length ≤ k) (fun _ i _ => es.length - (intOf i).toNat)
    case atStart =>
      refine ⟨0, by omega, rfl, ?_, fun j hj => by simp [Value.ownBlock] at hj, Below.refl _ _, ?_⟩
      · rw [older_zero]
        exact Own.nil _ _ 3
      · rw [older_zero]
        exact Nat.le_refl _
    case round =>
      obtain ⟨k, hk, rfl, hU, hu, hB, hkl⟩ := hrel
      have hbr := HB.out.below hB hxl
      have hOr := HO.out.new hB
      have hc1 := hbr.cell 1
      by_cases hlt : k < es.length
      · obtain ⟨e, he, hold, hrev, _⟩ := older_rev es k hlt
        obtain ⟨bl, off, cap, ev, hce, hcl, hcr, hbl⟩ := ref_at hOr k e hlt hrev
        subst ev
        simp at hc1
        have hki : (k : Int) < (es.length : Int) := by omega
        have hbne : ¬ bl = wr.heap.size := by omega
        have hbne' : ¬ wr.heap.size = bl := by omega
        by_cases hle : e.level ≤ lv
        · have hkp : keepE lv (older es (k + 1)) = e :: keepE lv (older es k) := by
            rw [hold]
            exact List.filter_cons_of_pos (by simpa using hle)
          generalize hfl : keepE lv (older es k) = fl at *
          have HK := Lib.hid hkp
          obtain ⟨au, cu, rfl, _, _, _⟩ := hU.form
          obtain ⟨el, ll, rs⟩ := e
          simp only at hce hcl hcr hle
          have hoV : ∀ u ∈ [Value.int .i64 el, .int .i64 ll, .int .i64 rs], u.oneCell' = true := by
            intro u hu
            simp only [List.mem_cons, List.not_mem_nil, or_false] at hu
            rcases hu with rfl | rfl | rfl <;> rfl
          have hS := (Own.made wr 62 3 #[.int .i64 el, .int .i64 ll, .int .i64 rs] 1 rfl (by decide)).src (P := Try.prog) (tx := 56) Try.underlying56 hoV
          have HU := Lib.hid hu
          have HBl := Lib.hid hB
          clear hkp hfl hold hrev he hOr hbr hu hB
          go_wp2_with (at_builtin; go_loud (refine wpList_append_S _ rfl (.tmp 36) (.tmp 44) _ _ rfl 62 i _ 3 24 Try.underlying56 hi hz0 hz1 hz2 rfl (by omega) (.slice au fl.length cu) fl.length (enC fl.reverse) rfl (hU.alloc _) (enC_one _) _ 1 _ rfl hS (by simp only [maxLen]; omega) (by omega) ?_); intro ao2 cap2 w1 hn1 hm1 hown1 hg1 hat1 hlt1)
          go_roundw
          case rel =>
            have b1 : Below w.heap.size w (wr.alloc (.cells #[.int .i64 el, .int .i64 ll, .int .i64 rs] 62)) := HBl.out.alloc HBl.out.size _
            refine ⟨k + 1, by omega, by go_num, ?_, ?_, grow_below b1 hg1 HU.out b1.size, ?_⟩
            · rw [HK.out, List.length_cons, List.reverse_cons, enC_app]
              exact hown1
            · intro j hj
              rcases hat1 with h | h
              · exact HU.out j (h ▸ hj)
              · rw [h] at hj
                injection hj with hj
                have := b1.size
                omega
            · rw [HK.out, List.length_cons]
              omega
          case measure => simp [intOf]; omega
        · have hkp : keepE lv (older es (k + 1)) = keepE lv (older es k) := by
            rw [hold]
            exact List.filter_cons_of_neg (by simpa using hle)
          have hle' : decide (e.level ≤ lv) = false := by simpa using hle
          have HK := Lib.hid hkp
          have HU := Lib.hid hu
          have HUU := Lib.hid hU
          have HBl := Lib.hid hB
          obtain ⟨el, ll, rs⟩ := e
          simp only at hce hcl hcr hle hle'
          clear hkp hold hrev he hOr hbr hu hB hU
          go_wp2_with fail
          go_roundw
          case rel => exact ⟨k + 1, by omega, by go_num, by rw [HK.out]; exact HUU.out, HU.out, HBl.out, by rw [HK.out]; omega⟩
          case measure => simp [intOf]; omega
      · obtain rfl : k = es.length := by omega
        rw [older_all] at hU
        have hke : keepE lv es = P := HP.out
        rw [hke] at hU
        obtain ⟨ao, cap, rfl, _, _, _⟩ := HO.out.form
        obtain ⟨au, cu, rfl, _, _, _⟩ := hU.form
        have hf1 := hbr.frozen 1
        have hf2 := hbr.frozen 2
        have hc2r := hbr.cell 2
        simp at hc1 hc2r
        have HBR := Lib.hid hbr
        have HUU := Lib.hid hU
        have HU := Lib.hid hu
        have HBl := Lib.hid hB
        clear hU hu hB hbr hOr hkl hke
        go_wp2_with fail
        go_ret
        have hng : (Value.slice au P.length cu).ownBlock ≠ some x := HUU.out.ne_blk HBR.out (by decide)
        have hT : Touch X w ((wr.setCell ⟨x, 1, none⟩ (.slice au P.length cu)).setCell ⟨x, 2, none⟩ (.int .i64 lv)) := ((Touch.of_below HBl.out X).setCell (p := ⟨x, 1, none⟩) (fun _ => hX) _).setCell (p := ⟨x, 2, none⟩) (fun _ => hX) _
        refine ⟨rfl, fun k => X k ∨ (Value.slice au P.length cu).ownBlock = some k, ⟨_, ?_, (HUU.out.far (p := ⟨x, 1, none⟩) hng _).far (p := ⟨x, 2, none⟩) hng _, .inl hX, fun k hk => .inr hk⟩, hT, fun k hk => ?_⟩
        · rw [HH.out]
          exact (HBR.out.set_ 1 _).set_ 2 _
        · rcases hk with hk | hk
          · exact .inl hk
          · exact .inr ⟨HU.out k hk, by simpa [World.setCell] using HUU.out.lt k hk⟩

end Go.Proofs.Ytiejdladmoncaaa
