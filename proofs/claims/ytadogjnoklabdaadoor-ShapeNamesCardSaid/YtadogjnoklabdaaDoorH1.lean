/- Versions and releases: word, May of an EVR; the document's. Conditions: as each theorem names them. -/
import Derived.Test.YtadogjnoklabdaaDoorHS
import Derived.Test.YtadogjnoklabdaaDoorMem
import Derived.Lib.Hide
import Derived.Lib.IndexAny
import Derived.Deep.Slices
import Derived.WalkMore
namespace Go.Proofs.YtadogjnoklabdaaDoor
open Go.ChangeShapes Go.WideShapes Go.ChangeAt Go.RowKit Go.Deep
set_option maxRecDepth 100000

/-- May a byte stand in a version? -/
def wordB (c : UInt8) : Bool := (decide (97 ≤ c.toNat) && decide (c.toNat ≤ 122)) || (decide (65 ≤ c.toNat) && decide (c.toNat ≤ 90)) || (decide (48 ≤ c.toNat) && decide (c.toNat ≤ 57)) || ([46, 95, 43, 126, 94] : List UInt8).contains c
def wordE (s : ByteArray) : Bool := decide (1 ≤ s.size) && decide (s.size ≤ 64) && s.data.toList.all wordB
theorem u8_back (c : UInt8) : ((c.toNat : Int)).toNat.toUInt8 = c := by
  rw [Int.toNat_natCast]
  exact UInt8.ofNat_toNat
/-- Where a byte is met, by strings.IndexByte. -/
theorem ix_at (l : List UInt8) (c : UInt8) (w : World) : Calls Tryd.prog 41 #[.string ⟨l.toArray⟩, .int .u8 (c.toNat : Int)] w fun e w' => e = .returned (.int .i64 (Lib.indexByte l c)) ∧ w = w' := by
  refine (strings_IndexByte ⟨l.toArray⟩ (c.toNat : Int) w).mono ?_
  rintro e w' ⟨rfl, rfl⟩
  rw [u8_back]
  exact ⟨rfl, rfl⟩
theorem ix_yes (l : List UInt8) (c : UInt8) : decide (0 ≤ Lib.indexByte l c) = l.contains c := (Lib.contains_iff_indexByte l c).symm
theorem all_drop {s : ByteArray} {p : UInt8 → Bool} {k : Nat} (h : k < s.size) : (s.data.toList.drop k).all p = (p s[k] && (s.data.toList.drop (k + 1)).all p) := by
  rw [List.drop_eq_getElem_cons (by simpa using h)]
  rfl
theorem all_end {s : ByteArray} {p : UInt8 → Bool} : (s.data.toList.drop s.size).all p = true := by
  rw [List.drop_of_length_le (by simp)]
  rfl

theorem list_nil {s : ByteArray} (h : s.size = 0) : s.toList = [] := by
  rw [ByteArray.toList_eq]
  exact List.eq_nil_of_length_eq_zero (by simpa using h)
theorem list_some {s : ByteArray} (h : 0 < s.size) : s.toList.isEmpty = false ∧ ¬ s.toList = [] := by
  rw [ByteArray.toList_eq]
  have h1 : s.data.toList ≠ [] := fun e => by
    have h2 : s.data.toList.length = 0 := by rw [e]; rfl
    have h3 : s.data.toList.length = s.size := by simp
    omega
  exact ⟨by simpa using h1, h1⟩

theorem word_in {c : UInt8} {J : Int} (hJ : decide (0 ≤ J) = ([46, 95, 43, 126, 94] : List UInt8).contains c) (h : (97 ≤ c.toNat ∧ c.toNat ≤ 122) ∨ (65 ≤ c.toNat ∧ c.toNat ≤ 90) ∨ (48 ≤ c.toNat ∧ c.toNat ≤ 57) ∨ 0 ≤ J) : wordB c = true := by
  unfold wordB
  rw [← hJ]
  simp only [Bool.or_eq_true, Bool.and_eq_true, decide_eq_true_eq]
  omega
theorem word_out {c : UInt8} {J : Int} (hJ : decide (0 ≤ J) = ([46, 95, 43, 126, 94] : List UInt8).contains c) (h : ¬ (97 ≤ c.toNat ∧ c.toNat ≤ 122) ∧ ¬ (65 ≤ c.toNat ∧ c.toNat ≤ 90) ∧ ¬ (48 ≤ c.toNat ∧ c.toNat ≤ 57) ∧ J < 0) : wordB c = false := by
  rw [← Bool.not_eq_true]
  unfold wordB
  rw [← hJ]
  simp only [Bool.or_eq_true, Bool.and_eq_true, decide_eq_true_eq]
  omega

set_option maxHeartbeats 1000000 in
theorem word_any (s : ByteArray) (w : World) (hs : s.size ≤ 9223372036854775807) : Calls Tryd.prog 44 #[.string s] w fun e w' => e = .returned (.bool (wordE s)) ∧ w = w' := by
  obtain ⟨T, hT⟩ : ∃ T, T = wordE s := ⟨_, rfl⟩
  rw [← hT]
  unfold wordE at hT
  by_cases h0 : s.size = 0
  · have h1 := list_nil h0
    have h2 : s.toList.isEmpty = true := by rw [h1]; rfl
    obtain rfl : T = false := by rw [hT, h0]; rfl
    clear hT
    go_enter Tryd.func44, Tryd.ntmps44
    go_wp2_with fail
    go_ret
    exact ⟨rfl, rfl⟩
  · obtain ⟨hne, hne2⟩ := list_some (show 0 < s.size by omega)
    by_cases h64 : (64 : Int) < (s.size : Int)
    · obtain rfl : T = false := by rw [hT, decide_eq_false (show ¬ s.size ≤ 64 by omega)]; simp
      have hd : decide ((64 : Int) < (s.size : Int)) = true := by simpa using h64
      clear hT
      go_enter Tryd.func44, Tryd.ntmps44
      go_wp2_with fail
      go_ret
      exact ⟨rfl, rfl⟩
    · have hd : decide ((64 : Int) < (s.size : Int)) = false := by simpa using h64
      have HT := Lib.hid (show T = (s.data.toList.drop 0).all wordB by rw [hT, decide_eq_true (show s.size ≤ 64 by omega), decide_eq_true (show 1 ≤ s.size by omega)]; rfl)
      clear hT h0
      go_enter Tryd.func44, Tryd.ntmps44
      go_wp2_with fail
      go_loop [14] (fun i => ∃ k : Nat, k ≤ s.size ∧ i = .int .i64 k ∧ Hid (T = (s.data.toList.drop k).all wordB)) (fun i => s.size - (intOf i).toNat)
      case atStart => exact ⟨0, by omega, rfl, HT⟩
      case round =>
        obtain ⟨k, hk, rfl, HK⟩ := hrel
        by_cases hlt : k < s.size
        · have hki : (k : Int) < (s.size : Int) := by omega
          have hTk := HK.out
          rw [all_drop hlt] at hTk
          have HI := Lib.hid (fun w => ix_at [46, 95, 43, 126, 94] s[k] w)
          have HIy := Lib.hid (ix_yes [46, 95, 43, 126, 94] s[k])
          obtain ⟨J, hJ⟩ : ∃ J, J = Lib.indexByte [46, 95, 43, 126, 94] s[k] := ⟨_, rfl⟩
          rw [← hJ] at HI HIy
          have HTk := Lib.hid hTk
          clear hJ HK hTk
          go_wp2_with (first
            | (go_at_call 41; (with_reducible refine (HI.out _).mono ?_); rintro e w1 ⟨rfl, rfl⟩)
            | fail)
          all_goals
            first
              | (go_round
                 case rel => exact ⟨k + 1, by omega, by go_num, Lib.hid (by rw [HTk.out, word_in HIy.out (by omega)]; rfl)⟩
                 case measure => simp [intOf]; omega)
              | (go_ret
                 rw [HTk.out, word_out HIy.out (by omega)]
                 exact ⟨rfl, rfl⟩)
              | fail
        · obtain rfl : k = s.size := by omega
          have hTk := HK.out
          rw [all_end] at hTk
          subst hTk
          clear HK HT
          go_wp2_with fail
          go_ret
          exact ⟨rfl, rfl⟩

end Go.Proofs.YtadogjnoklabdaaDoor
