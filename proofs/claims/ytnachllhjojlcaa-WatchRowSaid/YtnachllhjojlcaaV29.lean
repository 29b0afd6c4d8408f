/- turned: rows, the other way about. -/
import Derived.Test.YtnachllhjojlcaaV26
namespace Go.Proofs.Ytnachllhjojlcaa
open Go.ChangeShapes Go.WideShapes Go.ChangeAt Go.RowKit Go.Maps Go.Deep
set_option maxRecDepth 100000

def turnS (cls : List (List Int)) : List (List Int) := (cls.map List.reverse).reverse
theorem turn_len (cls : List (List Int)) : (turnS cls).length = cls.length := by simp [turnS]
theorem turn_get (cls : List (List Int)) (p j : Nat) (hp : p < cls.length) (h : j + p + 1 = cls.length) : (turnS cls).getD j [] = cls[p].reverse := by
  have hj : j < (turnS cls).length := by rw [turn_len]; omega
  rw [List.getD_eq_getElem?_getD, List.getElem?_eq_getElem hj]
  simp only [turnS, Option.getD_some, List.getElem_reverse, List.getElem_map, List.length_map]
  congr 2
  omega
theorem rev_take (l : List Int) (q p : Nat) (hp : p < l.length) (h : q + p + 1 = l.length) : l.reverse.take (q + 1) = l.reverse.take q ++ [l[p]] := by
  have hq : q < l.reverse.length := by simp; omega
  rw [List.take_succ_eq_append_getElem hq]
  congr 2
  rw [List.getElem_reverse]
  congr 1
  omega

/-- Rows of numbers in memory made since w. -/
def NewCls (w w' : World) (ao : Option Addr) (cls : List (List Int)) : Prop :=
  0 < cls.length → ∃ b off, ao = some ⟨b, off, none⟩ ∧ w.heap.size ≤ b ∧ b < w'.heap.size ∧ ∀ j (h : j < cls.length), ∃ ao' cap', w'.cell? ⟨b, off + j, none⟩ = some (.slice ao' cls[j].length cap') ∧
    (0 < cls[j].length → ∃ b' off', ao' = some ⟨b', off', none⟩ ∧ w.heap.size ≤ b' ∧ b' < w'.heap.size ∧ ∀ k (h : k < cls[j].length), w'.cell? ⟨b', off' + k, none⟩ = some (.int .i64 cls[j][k]))
theorem NewCls.snap {w w' wr : World} {F : Nat → Prop} {ao : Option Addr} {cls : List (List Int)} (h : NewCls w w' ao cls) (hs : Go.Proofs.Ytnachllhjojlcaa.snap w w' wr F) : IsCls wr ao cls := fun h0 => by
  obtain ⟨b, off, e, h1, h2, hc⟩ := h h0
  have hsz := hs.2.1
  refine ⟨b, off, e, by omega, fun j hj => ?_⟩
  obtain ⟨ao', cap', hc1, hc2⟩ := hc j hj
  refine ⟨ao', cap', (snap_cell hs ⟨b, off + j, none⟩ h1 h2).trans hc1, fun h3 => ?_⟩
  obtain ⟨b', off', e', h1', h2', hcc⟩ := hc2 h3
  exact ⟨b', off', e', by omega, fun k hk => (snap_cell hs ⟨b', off' + k, none⟩ h1' h2').trans (hcc k hk)⟩

set_option maxHeartbeats 4000000 in
theorem turned_any (w : World) (ao : Option Addr) (cls : List (List Int)) (cap : Nat) (hC : IsCls w ao cls) (h80 : cls.length ≤ 80) (h40 : ∀ c ∈ cls, c.length ≤ 40) :
    Calls Try.prog 11 #[.slice ao cls.length cap] w fun e w' => ∃ ao' cap', e = .returned (.slice ao' cls.length cap') ∧ NewCls w w' ao' (turnS cls) ∧ Below w.heap.size w w' := by
  obtain ⟨i3, hi3, hz0, hz1, hz2⟩ := info_parts (P := Try.prog) (e := 3) (z := .int .i64 0) (size := 1) (bytes := 8) (by kernel_rfl)
  obtain ⟨iS, hiS, hs0, hs1, hs2⟩ := info_parts (P := Try.prog) (e := 23) (z := .slice none 0 0) (size := 1) (bytes := 24) (by kernel_rfl)
  obtain ⟨T, hT⟩ : ∃ T, T = turnS cls := ⟨_, rfl⟩
  have hTl : T.length = cls.length := by rw [hT]; exact turn_len cls
  have HC := Lib.hid hC
  have H40 := Lib.hid h40
  have HT := Lib.hid hT
  have hw1 : IntKind.i64.wrap ((cls.length : Int) - 1) = (cls.length : Int) - 1 := by rw [IntKind.wrap_i64]; omega
  rw [← hT]
  clear hC h40 hT
  go_enter Try.func11, Try.ntmps11
  go_wp2_with fail
  go_loopw [3, 4] (fun s3 s4 wr => ∃ (i : Nat) (z : Int) (R : Nat → Value) (a : Option Addr) (cp : Nat), i ≤ cls.length ∧ s3 = .slice a i cp ∧ s4 = .int .i64 z ∧ z = (cls.length : Int) - 1 - i ∧ Hid (Own wr 23 1 (.slice a i cp) i (rowV i R)) ∧
    Hid (∀ j, j < i → Own wr 3 1 (R j) (T.getD j []).length (inC (T.getD j [])) ∧ ∀ k, (R j).ownBlock = some k → w.heap.size ≤ k) ∧ Hid (∀ k, (Value.slice a i cp).ownBlock = some k → w.heap.size ≤ k) ∧ Hid (Below w.heap.size w wr)) (fun _ s _ => (intOf s + 1).toNat)
  case atStart => exact ⟨0, _, fun _ => nilV, none, 0, by omega, rfl, rfl, by omega, Lib.hid (Own.nil _ _ _), Lib.hid fun j hj => absurd hj (by omega), Lib.hid fun k hk => by simp [Value.ownBlock] at hk, Lib.hid (Below.refl _ _)⟩
  case round =>
    obtain ⟨i, z, R, a, cp, hi, rfl, rfl, hz, HO, HR, HN, HB⟩ := hrel
    by_cases hlt : i < cls.length
    · obtain ⟨p, hp⟩ : ∃ p : Nat, p + i + 1 = cls.length := ⟨cls.length - 1 - i, by omega⟩
      obtain rfl : z = (p : Int) := by omega
      have hpl : p < cls.length := by omega
      have hpi : (p : Int) < (cls.length : Int) := by omega
      have hp0 : decide ((0 : Int) ≤ (p : Int)) = true := by simp
      have hTi := turn_get cls p i hpl (by omega)
      rw [← HT.out] at hTi
      have HTi := Lib.hid hTi
      have hm40 := H40.out _ (List.getElem_mem hpl)
      obtain ⟨b, off, ai, ci, rfl, hcc, hII⟩ := HC.out.row p hpl
      have hltb : b < w.heap.size := World.block_lt_of_cell? (a := ⟨b, off + p, none⟩) _ hcc
      have HCell : Hid (∀ w', Below w.heap.size w w' → w'.cell? ⟨b, off + p, none⟩ = some (.slice ai cls[p].length ci) ∧ Ints w' ai cls[p]) := Lib.hid fun w' hb => ⟨(World.cell?_of_block (w := w) (hb.block b hltb)).trans hcc, hII.below hb⟩
      generalize cls[p] = c at *
      have hcr := (HCell.out wr HB.out).1
      have hwm : IntKind.i64.wrap ((c.length : Int) - 1) = (c.length : Int) - 1 := by rw [IntKind.wrap_i64]; omega
      have hwp : IntKind.i64.wrap ((p : Int) - 1) = (p : Int) - 1 := by rw [IntKind.wrap_i64]; omega
      obtain ⟨wi, rfl⟩ : ∃ wi : World, wi = wr := ⟨_, rfl⟩
      clear hTi hcc hII hz hltb
      go_wp2_with fail
      go_loopw [5, 6] (fun s5 s6 wr => ∃ (q : Nat) (z : Int) (a2 : Option Addr) (cp2 : Nat), q ≤ c.length ∧ s5 = .slice a2 q cp2 ∧ s6 = .int .i64 z ∧ z = (c.length : Int) - 1 - q ∧ Hid (Own wr 3 1 (.slice a2 q cp2) q (inC (c.reverse.take q))) ∧
        Hid (∀ k, (Value.slice a2 q cp2).ownBlock = some k → wi.heap.size ≤ k) ∧ Hid (Below wi.heap.size wi wr)) (fun _ s _ => (intOf s + 1).toNat)
      case atStart => exact ⟨0, _, none, 0, by omega, rfl, rfl, by omega, Lib.hid (Own.nil _ _ _), Lib.hid fun k hk => by simp [Value.ownBlock] at hk, Lib.hid (Below.refl _ _)⟩
      case round =>
        obtain ⟨q, z, a2, cp2, hq, rfl, rfl, hz, HO2, HN2, HB2⟩ := hrel
        by_cases hql : q < c.length
        · obtain ⟨m, hm⟩ : ∃ m : Nat, m + q + 1 = c.length := ⟨c.length - 1 - q, by omega⟩
          obtain rfl : z = (m : Int) := by omega
          have hml : m < c.length := by omega
          have hmi : (m : Int) < (c.length : Int) := by omega
          have hm0 : decide ((0 : Int) ≤ (m : Int)) = true := by simp
          have hwq : IntKind.i64.wrap ((m : Int) - 1) = (m : Int) - 1 := by rw [IntKind.wrap_i64]; omega
          obtain ⟨hcr2, hI2⟩ := HCell.out wr (bel_new HB.out HB.out.size HB2.out)
          obtain ⟨b2, o2, rfl, hb2, hcc2⟩ := hI2 (by omega)
          have hcx := hcc2 m hml
          have hrt := rev_take c q m hml (by omega)
          generalize c[m] = x at *
          have hown2 : Own (wr.alloc (.cells #[.int .i64 x] 3)) 3 1 (.slice a2 q cp2) q (inC (c.reverse.take q)) := HO2.out.alloc _
          have HOw := Lib.hid hown2
          have hbB : Below wi.heap.size wi (wr.alloc (.cells #[.int .i64 x] 3)) := HB2.out.alloc HB2.out.size _
          have HBB := Lib.hid hbB
          have HRt := Lib.hid hrt
          clear hcc2 hI2 hown2 hbB hz hrt
          go_wp2_with (at_builtin; refine wpList_append_S _ rfl (.tmp 24) (.tmp 32) _ _ rfl 3 i3 _ 1 8 Try.underlying23 hi3 hz0 hz1 hz2 rfl (by omega) (.slice a2 q cp2) q (inC (c.reverse.take q)) rfl HOw.out (in_one _) _ 1 [_] rfl (src_new wr Try.underlying23 3 _ rfl) (by simp only [maxLen]; omega) (by omega) ?_; intro ao3 cap3 w10 hn1 hm1 hown1 hg1 hat1 hlt1; have H1 := Lib.hid hown1; have H2 := Lib.hid hg1; have H3 := Lib.hid hat1; clear hown1 hg1 hat1 hlt1 hn1 hm1)
          go_roundw
          case rel =>
            have hin : inC (c.reverse.take (q + 1)) = inC (c.reverse.take q) ++ [.int .i64 x] := by rw [HRt.out]; simp [inC]
            refine ⟨q + 1, _, ao3, cap3, by omega, rfl, rfl, by omega, Lib.hid (by rw [hin]; exact H1.out), Lib.hid ?_, Lib.hid (grow_below2 HBB.out H2.out HN2.out HBB.out.size)⟩
            exact own_above HN2.out H3.out HBB.out.size
          case measure => simp [intOf]
        · obtain rfl : q = c.length := by omega
          obtain rfl : z = -1 := by omega
          clear hz
          have hO2 := HO2.out
          rw [List.take_of_length_le (by simp)] at hO2
          have hoW := HO.out.below HB2.out HO.out.lt
          have hbR : Below wi.heap.size wi wr := HB2.out
          have HOw : Hid (Own (wr.alloc (.cells #[.slice a2 c.length cp2] 23)) 23 1 (.slice a i cp) i (rowV i R)) := Lib.hid (hoW.alloc _)
          have hone : ∀ u ∈ rowV i R, u.oneCell' = true := fun u hu => by
            unfold rowV at hu
            obtain ⟨j, hj, rfl⟩ := List.mem_map.1 hu
            obtain ⟨_, _, e, _⟩ := (HR.out j (List.mem_range.1 hj)).1.form
            rw [e]
            rfl
          have HOne := Lib.hid hone
          have hnext : ∀ w10 ao3 cap3, Own w10 23 1 (.slice ao3 (i + 1) cap3) (i + 1) (rowV i R ++ [.slice a2 c.length cp2]) → (wr.alloc (.cells #[.slice a2 c.length cp2] 23)).grownBy w10 (Value.slice a i cp).ownBlock →
              ((Value.slice ao3 (i + 1) cap3).ownBlock = (Value.slice a i cp).ownBlock ∨ (Value.slice ao3 (i + 1) cap3).ownBlock = some (wr.alloc (.cells #[.slice a2 c.length cp2] 23)).heap.size) →
              ∃ R', Own w10 23 1 (.slice ao3 (i + 1) cap3) (i + 1) (rowV (i + 1) R') ∧ (∀ j, j < i + 1 → Own w10 3 1 (R' j) (T.getD j []).length (inC (T.getD j [])) ∧ ∀ k, (R' j).ownBlock = some k → w.heap.size ≤ k) ∧ (∀ k, (Value.slice ao3 (i + 1) cap3).ownBlock = some k → w.heap.size ≤ k) ∧ Below w.heap.size w w10 := fun w10 ao3 cap3 ho hg hat => by
            have hsz := HB.out.size
            have hsz2 := hbR.size
            have hA : Below wr.heap.size wr (wr.alloc (.cells #[.slice a2 c.length cp2] 23)) := (Below.refl _ _).alloc (Nat.le_refl _) _
            have hbw : Below w.heap.size w (wr.alloc (.cells #[.slice a2 c.length cp2] 23)) := bel_new (bel_new HB.out hsz hbR) (by omega) hA
            refine ⟨fun j => if j = i then .slice a2 c.length cp2 else R j, ?_, fun j hj => ?_, own_above HN.out hat hbw.size, grow_below2 hbw hg HN.out hbw.size⟩
            · have e : rowV (i + 1) (fun j => if j = i then Value.slice a2 c.length cp2 else R j) = rowV i R ++ [.slice a2 c.length cp2] := by
                unfold rowV
                rw [List.range_succ, List.map_append]
                congr 1
                · exact List.map_congr_left fun j hj => by rw [if_neg (by have := List.mem_range.1 hj; omega)]
                · simp
              rw [e]
              exact ho
            · by_cases hji : j = i
              · subst hji
                dsimp only
                rw [if_pos rfl, HTi.out, List.length_reverse]
                refine ⟨?_, fun k hk => by have := HN2.out k hk; omega⟩
                refine (hO2.alloc (.cells #[.slice a2 c.length cp2] 23)).grown hg ?_
                rcases Option.eq_none_or_eq_some ((Value.slice a2 c.length cp2).ownBlock) with h | ⟨k, h⟩
                · exact .inl h
                · refine .inr fun e => ?_
                  have h1 := HN2.out k h
                  rw [h] at e
                  have h2 := HO.out.lt k e.symm
                  omega
              · dsimp only
                rw [if_neg hji]
                obtain ⟨r1, r2⟩ := HR.out j (by omega)
                refine ⟨?_, r2⟩
                refine ((r1.below hbR r1.lt).alloc (.cells #[.slice a2 c.length cp2] 23)).grown hg ?_
                have hne := r1.ne_own HO.out (by decide)
                exact hne
          have HNext := Lib.hid hnext
          clear hO2 hoW hone hnext
          go_wp2_with (at_builtin; refine wpList_append_S _ rfl (.tmp 34) (.tmp 36) _ _ rfl 23 iS _ 1 24 Try.underlying22 hiS hs0 hs1 hs2 rfl (by omega) (.slice a i cp) i (rowV i R) rfl HOw.out HOne.out _ 1 [_] rfl (src_new wr Try.underlying22 23 _ rfl) (by simp only [maxLen]; omega) (by omega) ?_; intro ao3 cap3 w10 hn1 hm1 hown1 hg1 hat1 hlt1; have HX := Lib.hid (HNext.out w10 ao3 cap3 hown1 hg1 hat1); clear hown1 hg1 hat1 hlt1 hn1 hm1)
          go_roundw
          case rel =>
            obtain ⟨R', x1, x2, x3, x4⟩ := HX.out
            exact ⟨i + 1, _, R', ao3, cap3, by omega, rfl, rfl, by omega, Lib.hid x1, Lib.hid x2, Lib.hid x3, Lib.hid x4⟩
          case measure => simp [intOf]
    · obtain rfl : i = cls.length := by omega
      obtain rfl : z = -1 := by omega
      have hnew : NewCls w wr a T := fun h0 => by
        obtain ⟨ao1, cap1, e1, _, _, hf⟩ := HO.out.form
        obtain ⟨b, off, e2, hcc, _, hbl⟩ := hf (by omega)
        injection e1 with e3 _ _
        rw [e2] at e3
        refine ⟨b, off, e3, HN.out b (by rw [e3]; rfl), hbl, fun j hj => ?_⟩
        have hj2 : j < cls.length := by omega
        have h1 := hcc j (by rw [rowV_len]; exact hj2)
        rw [rowV_get _ _ _ hj2] at h1
        obtain ⟨r1, r2⟩ := HR.out j hj2
        have e4 : T.getD j [] = T[j] := by rw [List.getD_eq_getElem?_getD, List.getElem?_eq_getElem hj]; rfl
        rw [e4] at r1
        obtain ⟨ao', cap', e5, _, _, hf'⟩ := r1.form
        refine ⟨ao', cap', by rw [h1, e5], fun h2 => ?_⟩
        obtain ⟨b', off', e6, hcc', _, hbl'⟩ := hf' h2
        refine ⟨b', off', e6, r2 b' (by rw [e5, e6]; rfl), hbl', fun k hk => ?_⟩
        rw [hcc' k (by rw [inC_len]; exact hk), inC_getD _ _ hk]
        simp [List.getD, hk]
      have HNew := Lib.hid hnew
      clear hnew hz
      go_wp2_with fail
      go_ret
      exact ⟨a, cp, rfl, HNew.out, HB.out⟩

end Go.Proofs.Ytnachllhjojlcaa
