/- Names: the document's sign and Name. Conditions: as each theorem names them. -/
import Derived.Test.YtadogjnoklabdaaDoorH2
namespace Go.Proofs.YtadogjnoklabdaaDoor
open Go.ChangeShapes Go.WideShapes Go.ChangeAt Go.RowKit Go.Deep
set_option maxRecDepth 100000

def signN (n : Nat) : Prop := (97 ≤ n ∧ n ≤ 122) ∨ (65 ≤ n ∧ n ≤ 90) ∨ (48 ≤ n ∧ n ≤ 57) ∨ n = 46 ∨ n = 95 ∨ n = 43 ∨ n = 45 ∨ n = 47 ∨ n = 58 ∨ n = 64 ∨ n = 126 ∨ n = 94
instance (n : Nat) : Decidable (signN n) := by unfold signN; infer_instance
def signB (c : UInt8) : Bool := decide (signN c.toNat)
def signsL : List UInt8 := [97, 98, 99, 100, 101, 102, 103, 104, 105, 106, 107, 108, 109, 110, 111, 112, 113, 114, 115, 116, 117, 118, 119, 120, 121, 122, 65, 66, 67, 68, 69, 70, 71, 72, 73, 74, 75, 76, 77, 78, 79, 80, 81, 82, 83, 84, 85, 86, 87, 88, 89, 90, 48, 49, 50, 51, 52, 53, 54, 55, 56, 57, 46, 95, 43, 45, 47, 58, 64, 126, 94]
theorem sign_all : ∀ n : Fin 256, signsL.contains (UInt8.ofNat n.val) = decide (signN n.val) := by decide +kernel
theorem sign_list (c : UInt8) : signsL.contains c = signB c := by
  have h := sign_all ⟨c.toNat, c.toNat_lt⟩
  simp only at h
  rw [UInt8.ofNat_toNat] at h
  exact h
theorem sign_in {c : UInt8} (h : signN c.toNat) : signB c = true := decide_eq_true h
theorem sign_out {c : UInt8} (h : ¬ signN c.toNat) : signB c = false := decide_eq_false h

theorem ret_bool {a b : Bool} (h : a = b) : Ending.returned (.bool a) = .returned (.bool b) := by rw [h]

set_option maxHeartbeats 2000000 in
theorem rsign_any (c : UInt8) (w : World) : Calls Tryd.prog 51 #[.int .u8 (c.toNat : Int)] w fun e w' => e = .returned (.bool (signB c)) ∧ w = w' := by
  obtain ⟨T, hT⟩ : ∃ T, T = signB c := ⟨_, rfl⟩
  rw [← hT]
  have HT := Lib.hid hT
  have h256 : (c.toNat : Int) < 256 := by have := c.toNat_lt; omega
  clear hT
  go_enter Tryd.func51, Tryd.ntmps51
  go_wp2_with fail
  all_goals
    go_ret
    refine ⟨ret_bool ?_, rfl⟩
    rw [HT.out]
    by_cases h94 : c.toNat = 94
    · rw [sign_in (by unfold signN; omega)]
      try simp [h94]
    · first
        | (rw [sign_out (by unfold signN; omega)]
           simp
           omega)
        | (rw [sign_in (by unfold signN; omega)])
        | fail

/-! ### Name -/
def wordsL : List (List UInt8) := [[97, 110, 100], [111, 114], [105, 102], [101, 108, 115, 101], [117, 110, 108, 101, 115, 115], [119, 105, 116, 104], [119, 105, 116, 104, 111, 117, 116]]
def nameE (s : ByteArray) : Bool := (decide (1 ≤ s.size) && decide (s.size ≤ 64)) && (!(wordsL.contains s.toList) && s.data.toList.all signB)
theorem words_no {l : List UInt8} (h1 : (l == [97, 110, 100]) = false) (h2 : (l == [111, 114]) = false) (h3 : (l == [105, 102]) = false) (h4 : (l == [101, 108, 115, 101]) = false) (h5 : (l == [117, 110, 108, 101, 115, 115]) = false) (h6 : (l == [119, 105, 116, 104]) = false) (h7 : (l == [119, 105, 116, 104, 111, 117, 116]) = false) : wordsL.contains l = false := by
  unfold wordsL
  simp only [List.contains_cons, h1, h2, h3, h4, h5, h6, h7]
  rfl

set_option maxHeartbeats 2000000 in
theorem rname_any (s : ByteArray) (w : World) (hs : s.size ≤ 9223372036854775807) : Calls Tryd.prog 45 #[.string s] w fun e w' => e = .returned (.bool (nameE s)) ∧ w = w' := by
  obtain ⟨T, hT⟩ : ∃ T, T = nameE s := ⟨_, rfl⟩
  rw [← hT]
  unfold nameE at hT
  by_cases h1 : (s.size : Int) < 1
  · obtain rfl : T = false := by rw [hT, decide_eq_false (show ¬ 1 ≤ s.size by omega)]; rfl
    have hd : decide ((s.size : Int) < 1) = true := by simpa using h1
    clear hT
    go_enter Tryd.func45, Tryd.ntmps45
    go_wp2_with fail
    go_ret
    exact ⟨rfl, rfl⟩
  · rw [decide_eq_true (show 1 ≤ s.size by omega)] at hT
    have hd1 : decide ((s.size : Int) < 1) = false := by simpa using h1
    by_cases h2 : (64 : Int) < (s.size : Int)
    · obtain rfl : T = false := by rw [hT, decide_eq_false (show ¬ s.size ≤ 64 by omega)]; rfl
      have hd2 : decide ((64 : Int) < (s.size : Int)) = true := by simpa using h2
      clear hT
      go_enter Tryd.func45, Tryd.ntmps45
      go_wp2_with fail
      go_ret
      exact ⟨rfl, rfl⟩
    · rw [decide_eq_true (show s.size ≤ 64 by omega)] at hT
      have hd2 : decide ((64 : Int) < (s.size : Int)) = false := by simpa using h2
      cases hw : wordsL.contains s.toList with
      | true =>
        obtain rfl : T = false := by rw [hT, hw]; rfl
        have hw2 := hw
        unfold wordsL at hw2
        simp only [List.contains_iff_mem, List.mem_cons, List.not_mem_nil, or_false] at hw2
        clear hT hw
        go_enter Tryd.func45, Tryd.ntmps45
        rcases hw2 with h | h | h | h | h | h | h
        all_goals
          go_wp2_with fail
          go_ret
          exact ⟨rfl, rfl⟩
      | false =>
        have HT := Lib.hid (show T = (s.data.toList.drop 0).all signB by rw [hT, hw]; rfl)
        unfold wordsL at hw
        simp only [List.contains_cons, List.contains_nil, Bool.or_false, Bool.or_eq_false_iff] at hw
        obtain ⟨x1, x2, x3, x4, x5, x6, x7⟩ := hw
        clear hT
        go_enter Tryd.func45, Tryd.ntmps45
        go_wp2_with fail
        go_loop [3] (fun i => ∃ k : Nat, k ≤ s.size ∧ i = .int .i64 k ∧ Hid (T = (s.data.toList.drop k).all signB)) (fun i => s.size - (intOf i).toNat)
        case atStart => exact ⟨0, by omega, rfl, HT⟩
        case round =>
          obtain ⟨k, hk, rfl, HK⟩ := hrel
          by_cases hlt : k < s.size
          · have hki : (k : Int) < (s.size : Int) := by omega
            have hTk := HK.out
            rw [all_drop hlt] at hTk
            have HSg := Lib.hid (fun w => rsign_any s[k] w)
            cases hb : signB s[k] with
            | true =>
              rw [hb] at HSg hTk
              have HTk := Lib.hid (show T = (s.data.toList.drop (k + 1)).all signB from hTk)
              clear HK hTk hb
              go_wp2_with (first
                | (go_at_call 51; (with_reducible refine (HSg.out _).mono ?_); rintro e w1 ⟨rfl, rfl⟩)
                | fail)
              go_round
              case rel => exact ⟨k + 1, by omega, by go_num, HTk⟩
              case measure => simp [intOf]; omega
            | false =>
              rw [hb] at HSg hTk
              obtain rfl : T = false := hTk
              clear HK HT hb
              go_wp2_with (first
                | (go_at_call 51; (with_reducible refine (HSg.out _).mono ?_); rintro e w1 ⟨rfl, rfl⟩)
                | fail)
              go_ret
              exact ⟨rfl, rfl⟩
          · obtain rfl : k = s.size := by omega
            have hTk := HK.out
            rw [all_end] at hTk
            subst hTk
            clear HK HT
            go_wp2_with fail
            go_ret
            exact ⟨rfl, rfl⟩

end Go.Proofs.YtadogjnoklabdaaDoor
