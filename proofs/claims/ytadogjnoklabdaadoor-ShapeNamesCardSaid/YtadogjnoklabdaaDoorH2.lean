/- Versions and releases: the document's word; May of an EVR. Conditions: as each theorem names them. -/
import Derived.Test.YtadogjnoklabdaaDoorH1
namespace Go.Proofs.YtadogjnoklabdaaDoor
open Go.ChangeShapes Go.WideShapes Go.ChangeAt Go.RowKit Go.Deep
set_option maxRecDepth 100000

theorem word_in2 {c : UInt8} (h : (97 ≤ c.toNat ∧ c.toNat ≤ 122) ∨ (65 ≤ c.toNat ∧ c.toNat ≤ 90) ∨ (48 ≤ c.toNat ∧ c.toNat ≤ 57) ∨ c.toNat = 46 ∨ c.toNat = 95 ∨ c.toNat = 43 ∨ c.toNat = 126 ∨ c.toNat = 94) : wordB c = true := by
  unfold wordB
  simp only [Bool.or_eq_true, Bool.and_eq_true, decide_eq_true_eq, List.contains_iff_mem, List.mem_cons, List.not_mem_nil, or_false, ← UInt8.toNat_inj, UInt8.reduceToNat]
  omega
theorem word_out2 {c : UInt8} (h : ¬ (97 ≤ c.toNat ∧ c.toNat ≤ 122) ∧ ¬ (65 ≤ c.toNat ∧ c.toNat ≤ 90) ∧ ¬ (48 ≤ c.toNat ∧ c.toNat ≤ 57) ∧ c.toNat ≠ 46 ∧ c.toNat ≠ 95 ∧ c.toNat ≠ 43 ∧ c.toNat ≠ 126 ∧ c.toNat ≠ 94) : wordB c = false := by
  rw [← Bool.not_eq_true]
  unfold wordB
  simp only [Bool.or_eq_true, Bool.and_eq_true, decide_eq_true_eq, List.contains_iff_mem, List.mem_cons, List.not_mem_nil, or_false, ← UInt8.toNat_inj, UInt8.reduceToNat]
  omega

set_option maxHeartbeats 2000000 in
theorem rword_any (s : ByteArray) (w : World) (hs : s.size ≤ 9223372036854775807) : Calls Tryd.prog 52 #[.string s] w fun e w' => e = .returned (.bool (wordE s)) ∧ w = w' := by
  obtain ⟨T, hT⟩ : ∃ T, T = wordE s := ⟨_, rfl⟩
  rw [← hT]
  unfold wordE at hT
  have HT := Lib.hid (show T = ((decide (1 ≤ s.size) && decide (s.size ≤ 64)) && (s.data.toList.drop 0).all wordB) from hT)
  clear hT
  go_enter Tryd.func52, Tryd.ntmps52
  go_wp2_with fail
  go_loop [3] (fun i => ∃ k : Nat, k ≤ s.size ∧ i = .int .i64 k ∧ Hid (T = ((decide (1 ≤ s.size) && decide (s.size ≤ 64)) && (s.data.toList.drop k).all wordB))) (fun i => s.size - (intOf i).toNat)
  case atStart => exact ⟨0, by omega, rfl, HT⟩
  case round =>
    obtain ⟨k, hk, rfl, HK⟩ := hrel
    by_cases hlt : k < s.size
    · have hki : (k : Int) < (s.size : Int) := by omega
      have hTk := HK.out
      rw [all_drop hlt] at hTk
      have HTk := Lib.hid hTk
      clear HK hTk
      go_wp2_with fail
      all_goals
        first
          | (go_round
             case rel => exact ⟨k + 1, by omega, by go_num, Lib.hid (by rw [HTk.out, word_in2 (by first | omega | (clear HT HTk; simp at *; omega))]; rfl)⟩
             case measure => simp [intOf]; omega)
          | (go_ret
             rw [HTk.out, word_out2 (by first | omega | (clear HT HTk; simp at *; omega)), Bool.false_and, Bool.and_false]
             exact ⟨rfl, rfl⟩)
          | fail
    · obtain rfl : k = s.size := by omega
      have hTk := HK.out
      rw [all_end, Bool.and_true] at hTk
      have HTk := Lib.hid hTk
      clear HK HT hTk
      by_cases h1 : (1 : Int) ≤ (s.size : Int)
      · by_cases h2 : (s.size : Int) ≤ 64
        · have hd1 : decide ((1 : Int) ≤ (s.size : Int)) = true := by simpa using h1
          have hd2 : decide ((s.size : Int) ≤ 64) = true := by simpa using h2
          go_wp2_with fail
          go_ret
          rw [HTk.out, decide_eq_true (show 1 ≤ s.size by omega), decide_eq_true (show s.size ≤ 64 by omega)]
          exact ⟨rfl, rfl⟩
        · have hd1 : decide ((1 : Int) ≤ (s.size : Int)) = true := by simpa using h1
          have hd2 : decide ((s.size : Int) ≤ 64) = false := by simpa using h2
          go_wp2_with fail
          go_ret
          rw [HTk.out, decide_eq_false (show ¬ s.size ≤ 64 by omega), Bool.and_false]
          exact ⟨rfl, rfl⟩
      · have hd1 : decide ((1 : Int) ≤ (s.size : Int)) = false := by simpa using h1
        go_wp2_with fail
        go_ret
        rw [HTk.out, decide_eq_false (show ¬ 1 ≤ s.size by omega), Bool.false_and]
        exact ⟨rfl, rfl⟩

/-! ### May -/
def evrE (ep : Int) (ver rel : ByteArray) (dep : Bool) : Bool := decide (0 ≤ ep) && decide (ep ≤ 2147483647) && wordE ver && (wordE rel || (dep && decide (rel.size = 0)))
theorem word_nil {s : ByteArray} (h : s.size = 0) : wordE s = false := by
  unfold wordE
  rw [h]
  rfl

set_option maxHeartbeats 2000000 in
theorem evr_any (ep : Int) (ver rel : ByteArray) (dep : Bool) (w : World) (h1 : ver.size ≤ 9223372036854775807) (h2 : rel.size ≤ 9223372036854775807) :
    Calls Tryd.prog 39 #[.agg #[.int .i64 ep, .string ver, .string rel], .bool dep] w fun e w' => e = .returned (.bool (evrE ep ver rel dep)) ∧ Below w.heap.size w w' := by
  obtain ⟨T, hT⟩ : ∃ T, T = evrE ep ver rel dep := ⟨_, rfl⟩
  rw [← hT]
  have HV := Lib.hid (fun w => word_any ver w h1)
  have HR := Lib.hid (fun w => word_any rel w h2)
  unfold evrE at hT
  have hB : Below w.heap.size w (w.alloc (.cells #[.int .i64 ep, .string ver, .string rel] 23)) := (Below.refl _ _).alloc (Nat.le_refl _) _
  by_cases ha : 0 ≤ ep
  · rw [decide_eq_true ha] at hT
    by_cases hb : ep ≤ 2147483647
    · rw [decide_eq_true hb] at hT
      cases hv : wordE ver with
      | true =>
        rw [hv] at HV hT
        cases hr : wordE rel with
        | true =>
          rw [hr] at HR hT
          obtain rfl : T = true := by rw [hT]; rfl
          clear hT hv hr h1 h2
          go_enter Tryd.func39, Tryd.ntmps39
          go_wp2_with (first
            | (go_at_call 44; (with_reducible refine (HV.out _).mono ?_); rintro e w1 ⟨rfl, rfl⟩)
            | (go_at_call 44; (with_reducible refine (HR.out _).mono ?_); rintro e w1 ⟨rfl, rfl⟩)
            | fail)
          go_ret
          exact ⟨rfl, hB⟩
        | false =>
          rw [hr] at HR hT
          cases dep with
          | false =>
            obtain rfl : T = false := by rw [hT]; rfl
            clear hT hv hr h1 h2
            go_enter Tryd.func39, Tryd.ntmps39
            go_wp2_with (first
              | (go_at_call 44; (with_reducible refine (HV.out _).mono ?_); rintro e w1 ⟨rfl, rfl⟩)
              | (go_at_call 44; (with_reducible refine (HR.out _).mono ?_); rintro e w1 ⟨rfl, rfl⟩)
              | fail)
            go_ret
            exact ⟨rfl, hB⟩
          | true =>
            by_cases h0 : rel.size = 0
            · have k1 := list_nil h0
              have k2 : rel.toList.isEmpty = true := by rw [k1]; rfl
              obtain rfl : T = true := by rw [hT, h0]; rfl
              clear hT hv hr h1 h2 h0
              go_enter Tryd.func39, Tryd.ntmps39
              go_wp2_with (first
                | (go_at_call 44; (with_reducible refine (HV.out _).mono ?_); rintro e w1 ⟨rfl, rfl⟩)
                | (go_at_call 44; (with_reducible refine (HR.out _).mono ?_); rintro e w1 ⟨rfl, rfl⟩)
                | fail)
              go_ret
              exact ⟨rfl, hB⟩
            · obtain ⟨k1, k2⟩ := list_some (show 0 < rel.size by omega)
              obtain rfl : T = false := by rw [hT, decide_eq_false h0]; rfl
              clear hT hv hr h1 h2 h0
              go_enter Tryd.func39, Tryd.ntmps39
              go_wp2_with (first
                | (go_at_call 44; (with_reducible refine (HV.out _).mono ?_); rintro e w1 ⟨rfl, rfl⟩)
                | (go_at_call 44; (with_reducible refine (HR.out _).mono ?_); rintro e w1 ⟨rfl, rfl⟩)
                | fail)
              go_ret
              exact ⟨rfl, hB⟩
      | false =>
        rw [hv] at HV hT
        obtain rfl : T = false := by rw [hT]; rfl
        clear hT hv h1 h2
        go_enter Tryd.func39, Tryd.ntmps39
        go_wp2_with (first
          | (go_at_call 44; (with_reducible refine (HV.out _).mono ?_); rintro e w1 ⟨rfl, rfl⟩)
          | fail)
        go_ret
        exact ⟨rfl, hB⟩
    · obtain rfl : T = false := by rw [hT, decide_eq_false hb]; rfl
      have hd : decide (ep ≤ 2147483647) = false := by simpa using hb
      clear hT h1 h2
      go_enter Tryd.func39, Tryd.ntmps39
      go_wp2_with fail
      go_ret
      exact ⟨rfl, hB⟩
  · obtain rfl : T = false := by rw [hT, decide_eq_false ha]; rfl
    have hd : decide (0 ≤ ep) = false := by simpa using ha
    clear hT h1 h2
    go_enter Tryd.func39, Tryd.ntmps39
    go_wp2_with fail
    go_ret
    exact ⟨rfl, hB⟩

set_option maxHeartbeats 2000000 in
theorem revr_any (ep : Int) (ver rel : ByteArray) (dep : Bool) (w : World) (h1 : ver.size ≤ 9223372036854775807) (h2 : rel.size ≤ 9223372036854775807) :
    Calls Tryd.prog 48 #[.agg #[.int .i64 ep, .string ver, .string rel], .bool dep] w fun e w' => e = .returned (.bool (evrE ep ver rel dep)) ∧ Below w.heap.size w w' := by
  obtain ⟨T, hT⟩ : ∃ T, T = evrE ep ver rel dep := ⟨_, rfl⟩
  rw [← hT]
  have HV := Lib.hid (fun w => rword_any ver w h1)
  have HR := Lib.hid (fun w => rword_any rel w h2)
  unfold evrE at hT
  have hB : Below w.heap.size w (w.alloc (.cells #[.int .i64 ep, .string ver, .string rel] 23)) := (Below.refl _ _).alloc (Nat.le_refl _) _
  by_cases ha : ep < 0
  · obtain rfl : T = false := by rw [hT, decide_eq_false (by omega)]; rfl
    clear hT h1 h2
    go_enter Tryd.func48, Tryd.ntmps48
    go_wp2_with fail
    go_ret
    exact ⟨rfl, hB⟩
  · rw [decide_eq_true (show 0 ≤ ep by omega)] at hT
    have hda : decide (ep < 0) = false := by simpa using ha
    by_cases hb : 2147483647 < ep
    · obtain rfl : T = false := by rw [hT, decide_eq_false (by omega)]; rfl
      have hd : decide (2147483647 < ep) = true := by simpa using hb
      clear hT h1 h2
      go_enter Tryd.func48, Tryd.ntmps48
      go_wp2_with fail
      go_ret
      exact ⟨rfl, hB⟩
    · rw [decide_eq_true (show ep ≤ 2147483647 by omega)] at hT
      have hd : decide (2147483647 < ep) = false := by simpa using hb
      cases hv : wordE ver with
      | false =>
        rw [hv] at HV hT
        obtain rfl : T = false := by rw [hT]; rfl
        clear hT hv h1 h2
        go_enter Tryd.func48, Tryd.ntmps48
        go_wp2_with (first
          | (go_at_call 52; (with_reducible refine (HV.out _).mono ?_); rintro e w1 ⟨rfl, rfl⟩)
          | fail)
        go_ret
        exact ⟨rfl, hB⟩
      | true =>
        rw [hv] at HV hT
        by_cases h0 : rel.size = 0
        · have k1 := list_nil h0
          have k2 : rel.toList.isEmpty = true := by rw [k1]; rfl
          obtain rfl : T = dep := by rw [hT, word_nil h0, h0]; simp
          clear hT hv h1 h2 h0
          go_enter Tryd.func48, Tryd.ntmps48
          go_wp2_with (first
            | (go_at_call 52; (with_reducible refine (HV.out _).mono ?_); rintro e w1 ⟨rfl, rfl⟩)
            | fail)
          go_ret
          exact ⟨rfl, hB⟩
        · obtain ⟨k1, k2⟩ := list_some (show 0 < rel.size by omega)
          obtain rfl : T = wordE rel := by rw [hT, decide_eq_false h0]; simp
          clear hT hv h1 h2 h0
          go_enter Tryd.func48, Tryd.ntmps48
          go_wp2_with (first
            | (go_at_call 52; (with_reducible refine (HV.out _).mono ?_); rintro e w1 ⟨rfl, rfl⟩)
            | (go_at_call 52; (with_reducible refine (HR.out _).mono ?_); rintro e w1 ⟨rfl, rfl⟩)
            | fail)
          go_ret
          exact ⟨rfl, hB⟩

end Go.Proofs.YtadogjnoklabdaaDoor
