/- Names: dep.Name, File; the words that are no names lie as the program's text lays them. Conditions: as each theorem names them. -/
import Derived.Test.YtadogjnoklabdaaDoorH3
import Derived.Laws.Rows
import Derived.Lib.OthersKept
import Derived.Laws.RangeAny
import Derived.LoopTactic
namespace Go.Proofs.YtadogjnoklabdaaDoor
open Go.ChangeShapes Go.WideShapes Go.ChangeAt Go.RowKit Go.Deep
set_option maxRecDepth 100000

def wordV (j : Nat) : ByteArray := ⟨(wordsL.getD j []).toArray⟩
/-- The words as start-up lays them. -/
structure Words (w : World) : Prop where
  lt : 0 < w.heap.size
  cell : ∀ j, j < 7 → w.cell? ⟨0, j, none⟩ = some (.string (wordV j))
theorem Words.below {w w' : World} (h : Words w) (hb : Below w.heap.size w w') : Words w' :=
  ⟨Nat.lt_of_lt_of_le h.lt hb.size, fun j hj => (World.cell?_of_block (w := w) (hb.block 0 h.lt)).trans (h.cell j hj)⟩
theorem decode_low {s : ByteArray} {pos : Nat} (h : pos < s.size) (ha : s[pos].toNat < 128) : Utf8.decode s pos = (s[pos].toNat, 1) := decode_ascii s pos h ha
theorem sign_ascii {c : UInt8} (h : signB c = true) : c.toNat ≤ 126 := by
  have h2 : signN c.toNat := of_decide_eq_true h
  unfold signN at h2
  omega
abbrev signsA : ByteArray := { data := #[97, 98, 99, 100, 101, 102, 103, 104, 105, 106, 107, 108, 109, 110, 111, 112, 113, 114, 115, 116, 117, 118, 119, 120, 121, 122, 65, 66, 67, 68, 69, 70, 71, 72, 73, 74, 75, 76, 77, 78, 79, 80, 81, 82, 83, 84, 85, 86, 87, 88, 89, 90, 48, 49, 50, 51, 52, 53, 54, 55, 56, 57, 46, 95, 43, 45, 47, 58, 64, 126, 94] }
theorem ix_signs (c : UInt8) (w : World) : Calls Tryd.prog 41 #[.string signsA, .int .u8 (c.toNat : Int)] w fun e w' => e = .returned (.int .i64 (Lib.indexByte signsL c)) ∧ w = w' := ix_at signsL c w

theorem words_yes {l : List UInt8} {j : Nat} (hj : j < 7) (h : (l == (wordV j).toList) = true) : wordsL.contains l = true := by
  have h2 : l = wordsL.getD j [] := by
    have := eq_of_beq h
    rw [this, ByteArray.toList_eq]
    rfl
  rw [h2, List.contains_iff_mem, List.getD_eq_getElem?_getD, List.getElem?_eq_getElem (show j < wordsL.length from hj)]
  exact List.getElem_mem _
theorem words_none {l : List UInt8} (h : ∀ j, j < 7 → (l == (wordV j).toList) = false) : wordsL.contains l = false := by
  cases hc : wordsL.contains l
  · rfl
  · obtain ⟨j, hj, e⟩ := List.getElem_of_mem (List.contains_iff_mem.1 hc)
    have h2 := h j hj
    rw [show (wordV j).toList = l by
      rw [ByteArray.toList_eq]
      show wordsL.getD j [] = l
      rw [List.getD_eq_getElem?_getD, List.getElem?_eq_getElem hj, ← e]
      rfl] at h2
    simp at h2
theorem words_step {l : List UInt8} {k : Nat} (h : ∀ j, j < k → (l == (wordV j).toList) = false) (h2 : (l == (wordV k).toList) = false) : ∀ j, j < k + 1 → (l == (wordV j).toList) = false := fun j hj => by
  by_cases e : j = k
  · rw [e]; exact h2
  · exact h j (by omega)

set_option maxHeartbeats 2000000 in
theorem name_any (s : ByteArray) (w : World) (hs : s.size ≤ 9223372036854775807) (hW : Words w) : Calls Tryd.prog 36 #[.string s] w fun e w' => e = .returned (.bool (nameE s)) ∧ Below w.heap.size w w' := by
  obtain ⟨T, hT⟩ : ∃ T, T = nameE s := ⟨_, rfl⟩
  rw [← hT]
  unfold nameE at hT
  by_cases h1 : (s.size : Int) < 1
  · obtain rfl : T = false := by rw [hT, decide_eq_false (show ¬ 1 ≤ s.size by omega)]; rfl
    have hd : decide ((s.size : Int) < 1) = true := by simpa using h1
    clear hT hW
    go_enter Tryd.func36, Tryd.ntmps36
    go_wp2_with fail
    go_ret
    exact ⟨rfl, Below.refl _ _⟩
  · rw [decide_eq_true (show 1 ≤ s.size by omega)] at hT
    have hd1 : decide ((s.size : Int) < 1) = false := by simpa using h1
    by_cases h2 : (64 : Int) < (s.size : Int)
    · obtain rfl : T = false := by rw [hT, decide_eq_false (show ¬ s.size ≤ 64 by omega)]; rfl
      have hd2 : decide ((64 : Int) < (s.size : Int)) = true := by simpa using h2
      clear hT hW
      go_enter Tryd.func36, Tryd.ntmps36
      go_wp2_with fail
      go_ret
      exact ⟨rfl, Below.refl _ _⟩
    · rw [decide_eq_true (show s.size ≤ 64 by omega)] at hT
      have hd2 : decide ((64 : Int) < (s.size : Int)) = false := by simpa using h2
      have HT := Lib.hid (show T = (!(wordsL.contains s.toList) && (s.data.toList.drop 0).all signB) from hT)
      have HW := Lib.hid hW
      clear hT hW
      go_enter Tryd.func36, Tryd.ntmps36
      go_wp2_with fail
      go_loopw [4] (fun _ wr => ∃ pos : Nat, pos ≤ s.size ∧ Hid (wr.heap[w.heap.size]? = some (.stringIter s pos)) ∧ Hid (Below w.heap.size w wr) ∧ Hid (T = (!(wordsL.contains s.toList) && (s.data.toList.drop pos).all signB))) (fun _ wr => s.size - wr.iterPos w.heap.size)
      case atStart => exact ⟨0, by omega, Lib.hid (World.iter_heap w s 0), Lib.hid ((Below.refl _ w).alloc (Nat.le_refl _) _), HT⟩
      case round =>
        obtain ⟨pos, hp, HIt, HB, HK⟩ := hrel
        by_cases hlt : pos < s.size
        · have hTk := HK.out
          rw [all_drop hlt] at hTk
          by_cases hasc : s[pos].toNat ≤ 126
          · have hnx := fun ty => Lib.run_next_ascii_at (P := Tryd.prog) wr w.heap.size s pos ty HIt.out hlt (by omega)
            have hsz : w.heap.size < wr.heap.size := (Array.getElem?_eq_some_iff.1 HIt.out).1
            have HI := Lib.hid (fun w => ix_signs s[pos] w)
            have HJy := Lib.hid (show decide (0 ≤ Lib.indexByte signsL s[pos]) = signB s[pos] by rw [ix_yes, sign_list])
            obtain ⟨J, hJ⟩ : ∃ J, J = Lib.indexByte signsL s[pos] := ⟨_, rfl⟩
            rw [← hJ] at HI HJy
            have hwr : IntKind.u8.wrap (s[pos].toNat : Int) = (s[pos].toNat : Int) := by rw [IntKind.wrap_u8]; omega
            have hgt : decide ((126 : Int) < (s[pos].toNat : Int)) = false := by simp; omega
            cases hb : signB s[pos] with
            | true =>
              rw [hb] at HJy hTk
              have hJ0 : decide (J < 0) = false := by have h := of_decide_eq_true HJy.out; exact decide_eq_false (by omega)
              have HTk := Lib.hid (show T = (!(wordsL.contains s.toList) && (s.data.toList.drop (pos + 1)).all signB) from hTk)
              have HIt2 := Lib.hid (Lib.iterAt_heap wr w.heap.size s pos (pos + 1) HIt.out)
              have HB2 := Lib.hid (Lib.below_iterAt HB.out (k := w.heap.size) (Nat.le_refl _) s (pos + 1))
              clear HK hTk hb hJ
              go_wp2_with (first
                | (go_at_call 41; (with_reducible refine (HI.out _).mono ?_); rintro e w1 ⟨rfl, rfl⟩)
                | fail)
              go_roundw
              case rel => exact ⟨pos + 1, by omega, HIt2, HB2, HTk⟩
              case measure =>
                simp only [World.iterPos, HIt2.out, HIt.out]
                omega
            | false =>
              rw [hb] at HJy hTk
              have hJ0 : decide (J < 0) = true := by have h := of_decide_eq_false HJy.out; exact decide_eq_true (by omega)
              obtain rfl : T = false := by rw [hTk, Bool.false_and, Bool.and_false]
              clear hTk
              have HB2 := Lib.hid (Lib.below_iterAt HB.out (k := w.heap.size) (Nat.le_refl _) s (pos + 1))
              clear HK HT hb hJ
              go_wp2_with (first
                | (go_at_call 41; (with_reducible refine (HI.out _).mono ?_); rintro e w1 ⟨rfl, rfl⟩)
                | fail)
              go_ret
              exact ⟨rfl, HB2.out⟩
          · have hnx := fun ty => Lib.run_next_any_at (P := Tryd.prog) wr w.heap.size s pos ty HIt.out hlt
            have hdec : 126 < (Utf8.decode s pos).1 := by
              by_cases h128 : s[pos].toNat < 128
              · rw [decode_low hlt h128]
                show 126 < s[pos].toNat
                omega
              · have := (decode_high s pos hlt (by omega)).1
                omega
            have hb : signB s[pos] = false := by
              cases h : signB s[pos]
              · rfl
              · exact absurd (sign_ascii h) hasc
            obtain rfl : T = false := by rw [hTk, hb, Bool.false_and, Bool.and_false]
            have HB2 := Lib.hid (Lib.below_iterAt HB.out (k := w.heap.size) (Nat.le_refl _) s (pos + (Utf8.decode s pos).2))
            obtain ⟨D, hD⟩ : ∃ D, D = Utf8.decode s pos := ⟨_, rfl⟩
            rw [← hD] at hnx hdec HB2
            have hgt : decide ((126 : Int) < (D.1 : Int)) = true := by simp; omega
            clear HK HT hTk hD hb
            go_wp2_with fail
            go_ret
            exact ⟨rfl, HB2.out⟩
        · obtain rfl : pos = s.size := by omega
          have hTk := HK.out
          rw [all_end, Bool.and_true] at hTk
          have HTk := Lib.hid hTk
          have hnx := fun ty => Lib.run_next_end_at (P := Tryd.prog) wr w.heap.size s s.size ty HIt.out hlt
          have hw := HW.out.below HB.out
          have c0 := hw.cell 0 (by omega)
          have c1 := hw.cell 1 (by omega)
          have c2 := hw.cell 2 (by omega)
          have c3 := hw.cell 3 (by omega)
          have c4 := hw.cell 4 (by omega)
          have c5 := hw.cell 5 (by omega)
          have c6 := hw.cell 6 (by omega)
          have HB3 := Lib.hid HB.out
          clear HK hTk HT hw HIt HB
          have HV := Lib.hid (show ∀ j, j < 7 → ((s.toList == (wordV j).toList) = true → wordsL.contains s.toList = true) from fun j hj h => words_yes hj h)
          have HVn := Lib.hid (show (∀ j, j < 7 → (s.toList == (wordV j).toList) = false) → wordsL.contains s.toList = false from words_none)
          obtain ⟨v0, hv0⟩ : ∃ v, v = wordV 0 := ⟨_, rfl⟩
          obtain ⟨v1, hv1⟩ : ∃ v, v = wordV 1 := ⟨_, rfl⟩
          obtain ⟨v2, hv2⟩ : ∃ v, v = wordV 2 := ⟨_, rfl⟩
          obtain ⟨v3, hv3⟩ : ∃ v, v = wordV 3 := ⟨_, rfl⟩
          obtain ⟨v4, hv4⟩ : ∃ v, v = wordV 4 := ⟨_, rfl⟩
          obtain ⟨v5, hv5⟩ : ∃ v, v = wordV 5 := ⟨_, rfl⟩
          obtain ⟨v6, hv6⟩ : ∃ v, v = wordV 6 := ⟨_, rfl⟩
          rw [← hv0] at c0
          rw [← hv1] at c1
          rw [← hv2] at c2
          rw [← hv3] at c3
          rw [← hv4] at c4
          rw [← hv5] at c5
          rw [← hv6] at c6
          have HVv := Lib.hid (show (v0 = wordV 0 ∧ v1 = wordV 1 ∧ v2 = wordV 2) ∧ v3 = wordV 3 ∧ v4 = wordV 4 ∧ v5 = wordV 5 ∧ v6 = wordV 6 from ⟨⟨hv0, hv1, hv2⟩, hv3, hv4, hv5, hv6⟩)
          have i0 : ∀ w, (Instr.index 64 (.agg #[.string v0, .string v1, .string v2, .string v3, .string v4, .string v5, .string v6]) (.int .i64 0)).run Tryd.prog w = .ok (.string v0) w := fun _ => by kernel_rfl
          have i1 : ∀ w, (Instr.index 64 (.agg #[.string v0, .string v1, .string v2, .string v3, .string v4, .string v5, .string v6]) (.int .i64 1)).run Tryd.prog w = .ok (.string v1) w := fun _ => by kernel_rfl
          have i2 : ∀ w, (Instr.index 64 (.agg #[.string v0, .string v1, .string v2, .string v3, .string v4, .string v5, .string v6]) (.int .i64 2)).run Tryd.prog w = .ok (.string v2) w := fun _ => by kernel_rfl
          have i3 : ∀ w, (Instr.index 64 (.agg #[.string v0, .string v1, .string v2, .string v3, .string v4, .string v5, .string v6]) (.int .i64 3)).run Tryd.prog w = .ok (.string v3) w := fun _ => by kernel_rfl
          have i4 : ∀ w, (Instr.index 64 (.agg #[.string v0, .string v1, .string v2, .string v3, .string v4, .string v5, .string v6]) (.int .i64 4)).run Tryd.prog w = .ok (.string v4) w := fun _ => by kernel_rfl
          have i5 : ∀ w, (Instr.index 64 (.agg #[.string v0, .string v1, .string v2, .string v3, .string v4, .string v5, .string v6]) (.int .i64 5)).run Tryd.prog w = .ok (.string v5) w := fun _ => by kernel_rfl
          have i6 : ∀ w, (Instr.index 64 (.agg #[.string v0, .string v1, .string v2, .string v3, .string v4, .string v5, .string v6]) (.int .i64 6)).run Tryd.prog w = .ok (.string v6) w := fun _ => by kernel_rfl
          clear hv0 hv1 hv2 hv3 hv4 hv5 hv6
          go_wp2_with fail
          go_loop [29] (fun i => ∃ k : Nat, k ≤ 7 ∧ i = .int .i64 k ∧ Hid (∀ j, j < k → (s.toList == (wordV j).toList) = false)) (fun i => 7 - (intOf i).toNat)
          case atStart => exact ⟨0, by omega, rfl, Lib.hid (fun j hj => absurd hj (Nat.not_lt_zero _))⟩
          case round =>
            obtain ⟨k, hk, rfl, HJ⟩ := hrel
            match k, hk with
            | 0, _ =>
              cases he : (s.toList == v0.toList) with
              | true =>
                obtain rfl : T = false := by rw [HTk.out, HV.out 0 (by omega) (by rw [← HVv.out.1.1]; exact he)]; rfl
                clear HTk HV HVn
                go_wp2_with fail
                go_ret
                exact ⟨rfl, HB3.out⟩
              | false =>
                have HJ2 := Lib.hid (words_step HJ.out (by rw [← HVv.out.1.1]; exact he))
                clear HJ
                go_wp2_with fail
                go_round
                case rel => exact ⟨1, by omega, rfl, HJ2⟩
                case measure => simp [intOf]
            | 1, _ =>
              cases he : (s.toList == v1.toList) with
              | true =>
                obtain rfl : T = false := by rw [HTk.out, HV.out 1 (by omega) (by rw [← HVv.out.1.2.1]; exact he)]; rfl
                clear HTk HV HVn
                go_wp2_with fail
                go_ret
                exact ⟨rfl, HB3.out⟩
              | false =>
                have HJ2 := Lib.hid (words_step HJ.out (by rw [← HVv.out.1.2.1]; exact he))
                clear HJ
                go_wp2_with fail
                go_round
                case rel => exact ⟨2, by omega, rfl, HJ2⟩
                case measure => simp [intOf]
            | 2, _ =>
              cases he : (s.toList == v2.toList) with
              | true =>
                obtain rfl : T = false := by rw [HTk.out, HV.out 2 (by omega) (by rw [← HVv.out.1.2.2]; exact he)]; rfl
                clear HTk HV HVn
                go_wp2_with fail
                go_ret
                exact ⟨rfl, HB3.out⟩
              | false =>
                have HJ2 := Lib.hid (words_step HJ.out (by rw [← HVv.out.1.2.2]; exact he))
                clear HJ
                go_wp2_with fail
                go_round
                case rel => exact ⟨3, by omega, rfl, HJ2⟩
                case measure => simp [intOf]
            | 3, _ =>
              cases he : (s.toList == v3.toList) with
              | true =>
                obtain rfl : T = false := by rw [HTk.out, HV.out 3 (by omega) (by rw [← HVv.out.2.1]; exact he)]; rfl
                clear HTk HV HVn
                go_wp2_with fail
                go_ret
                exact ⟨rfl, HB3.out⟩
              | false =>
                have HJ2 := Lib.hid (words_step HJ.out (by rw [← HVv.out.2.1]; exact he))
                clear HJ
                go_wp2_with fail
                go_round
                case rel => exact ⟨4, by omega, rfl, HJ2⟩
                case measure => simp [intOf]
            | 4, _ =>
              cases he : (s.toList == v4.toList) with
              | true =>
                obtain rfl : T = false := by rw [HTk.out, HV.out 4 (by omega) (by rw [← HVv.out.2.2.1]; exact he)]; rfl
                clear HTk HV HVn
                go_wp2_with fail
                go_ret
                exact ⟨rfl, HB3.out⟩
              | false =>
                have HJ2 := Lib.hid (words_step HJ.out (by rw [← HVv.out.2.2.1]; exact he))
                clear HJ
                go_wp2_with fail
                go_round
                case rel => exact ⟨5, by omega, rfl, HJ2⟩
                case measure => simp [intOf]
            | 5, _ =>
              cases he : (s.toList == v5.toList) with
              | true =>
                obtain rfl : T = false := by rw [HTk.out, HV.out 5 (by omega) (by rw [← HVv.out.2.2.2.1]; exact he)]; rfl
                clear HTk HV HVn
                go_wp2_with fail
                go_ret
                exact ⟨rfl, HB3.out⟩
              | false =>
                have HJ2 := Lib.hid (words_step HJ.out (by rw [← HVv.out.2.2.2.1]; exact he))
                clear HJ
                go_wp2_with fail
                go_round
                case rel => exact ⟨6, by omega, rfl, HJ2⟩
                case measure => simp [intOf]
            | 6, _ =>
              cases he : (s.toList == v6.toList) with
              | true =>
                obtain rfl : T = false := by rw [HTk.out, HV.out 6 (by omega) (by rw [← HVv.out.2.2.2.2]; exact he)]; rfl
                clear HTk HV HVn
                go_wp2_with fail
                go_ret
                exact ⟨rfl, HB3.out⟩
              | false =>
                have HJ2 := Lib.hid (words_step HJ.out (by rw [← HVv.out.2.2.2.2]; exact he))
                clear HJ
                go_wp2_with fail
                go_round
                case rel => exact ⟨7, by omega, rfl, HJ2⟩
                case measure => simp [intOf]
            | 7, _ =>
              obtain rfl : T = true := by rw [HTk.out, HVn.out HJ.out]; rfl
              clear HTk HV HVn HJ
              go_wp2_with fail
              go_ret
              exact ⟨rfl, HB3.out⟩

end Go.Proofs.YtadogjnoklabdaaDoor
