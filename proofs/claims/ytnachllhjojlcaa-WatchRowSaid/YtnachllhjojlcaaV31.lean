/- WatchRow: every input. -/
import Derived.Test.YtnachllhjojlcaaV30
namespace Go.Proofs.Ytnachllhjojlcaa
open Go.ChangeShapes Go.WideShapes Go.ChangeAt Go.RowKit Go.Maps Go.Deep
set_option maxRecDepth 100000

theorem row_rest (vars : Int) (aoC : Option Addr) (cls : List (List Int)) (capC : Nat) (aoD : Option Addr) (ld : Nat) (capD : Nat) (w : World)
    (hbad : vars < 0 ∨ ∃ c ∈ cls, 40 < c.length) (h60 : vars ≤ 60) (hC : IsCls w aoC cls) (hc80 : cls.length ≤ 80) (hd60 : ld ≤ 60) :
    Calls Try.prog 3 #[.int .i64 vars, .slice aoC cls.length capC, .slice aoD ld capD] w fun e w' => e = .returned (.bool true) ∧ Below w.heap.size w w' := by
  have d1 : decide ((60 : Int) < vars) = false := by simp; omega
  have d2 : decide ((80 : Int) < (cls.length : Int)) = false := by simp; omega
  have d3 : decide ((60 : Int) < (ld : Int)) = false := by simp; omega
  have HC := Lib.hid hC
  have HBad := Lib.hid hbad
  clear hC hbad
  go_enter Try.func3, Try.ntmps3
  go_wp2_with (go_at_call 9; (with_reducible refine (awake_any _).mono ?_); rintro e w1 ⟨rfl, hb1⟩)
  go_loopw [7] (fun s wr => ∃ k : Nat, k ≤ cls.length ∧ s = .int .i64 k ∧ Hid (∀ c ∈ cls.take k, c.length ≤ 40) ∧ w1 = wr) (fun s _ => cls.length - (intOf s).toNat)
  case atStart => exact ⟨0, by omega, rfl, Lib.hid (fun c hc => by simp at hc), rfl⟩
  case round =>
    obtain ⟨k, hk, rfl, HK, rfl⟩ := hrel
    by_cases hlt : k < cls.length
    · have hki : (k : Int) < (cls.length : Int) := by omega
      obtain ⟨b, off, ai, ci, rfl, hcc, _⟩ := (HC.out.below hb1).row k hlt
      have hnext : cls[k].length ≤ 40 → ∀ c ∈ cls.take (k + 1), c.length ≤ 40 := fun h c hc => by
        rw [List.take_succ_eq_append_getElem hlt, List.mem_append] at hc
        rcases hc with hc | hc
        · exact HK.out c hc
        · simp at hc; subst hc; exact h
      have HNx := Lib.hid hnext
      clear hnext
      generalize cls[k] = c at *
      by_cases h40 : c.length ≤ 40
      · have hm2 : decide ((40 : Int) < (c.length : Int)) = false := by simp; omega
        have HK2 := Lib.hid (HNx.out h40)
        go_wp2_with fail
        go_roundw
        case rel => exact ⟨k + 1, by omega, by go_num, HK2, by first | rfl | trivial⟩
        case measure => simp [intOf]; omega
      · have hm2 : decide ((40 : Int) < (c.length : Int)) = true := by simp; omega
        go_wp2_with fail
        go_ret
        exact ⟨rfl, hb1⟩
    · obtain rfl : k = cls.length := by omega
      have hv : vars < 0 := by
        rcases HBad.out with h | ⟨c, hc, h⟩
        · exact h
        · have := HK.out c (by rw [List.take_length]; exact hc)
          omega
      go_wp2_with (go_at_call 10; (with_reducible refine (wnew_bad vars _ (.inl hv)).mono ?_); rintro e w2 ⟨rfl, rfl⟩)
      go_ret
      exact ⟨rfl, hb1⟩

theorem row_large (vars : Int) (aoC : Option Addr) (lc : Nat) (capC : Nat) (aoD : Option Addr) (ld : Nat) (capD : Nat) (w : World)
    (h : 60 < vars ∨ 80 < lc ∨ 60 < ld) :
    Calls Try.prog 3 #[.int .i64 vars, .slice aoC lc capC, .slice aoD ld capD] w fun e w' => e = .returned (.bool true) ∧ Below w.heap.size w w' := by
  by_cases h1 : 60 < vars
  · have d1 : decide ((60 : Int) < vars) = true := by simpa using h1
    clear h
    go_enter Try.func3, Try.ntmps3
    go_wp2_with (go_at_call 9; (with_reducible refine (awake_any _).mono ?_); rintro e w1 ⟨rfl, hb1⟩)
    go_ret
    exact ⟨rfl, hb1⟩
  · have d1 : decide ((60 : Int) < vars) = false := by simpa using h1
    by_cases h2 : 80 < lc
    · have d2 : decide ((80 : Int) < (lc : Int)) = true := by simp; omega
      clear h
      go_enter Try.func3, Try.ntmps3
      go_wp2_with (go_at_call 9; (with_reducible refine (awake_any _).mono ?_); rintro e w1 ⟨rfl, hb1⟩)
      go_ret
      exact ⟨rfl, hb1⟩
    · have d2 : decide ((80 : Int) < (lc : Int)) = false := by simp; omega
      have d3 : decide ((60 : Int) < (ld : Int)) = true := by simp; omega
      clear h
      go_enter Try.func3, Try.ntmps3
      go_wp2_with (go_at_call 9; (with_reducible refine (awake_any _).mono ?_); rintro e w1 ⟨rfl, hb1⟩)
      go_ret
      exact ⟨rfl, hb1⟩

theorem row_walk (vars : Int) (hv : (Lit.int .i64 vars).wf = true) (aoC : Option Addr) (cls : List (List Int)) (capC : Nat) (aoD : Option Addr) (dec : List Int) (capD : Nat) (w : World)
    (hC : IsCls w aoC cls) (hD : Ints w aoD dec) (hCI : ∀ c ∈ cls, ∀ x ∈ c, I64 x) (hDI : ∀ x ∈ dec, I64 x) :
    Calls Try.prog 3 #[.int .i64 vars, .slice aoC cls.length capC, .slice aoD dec.length capD] w fun e w' => e = .returned (.bool true) ∧ Below w.heap.size w w' := by
  by_cases h : 60 < vars ∨ 80 < cls.length ∨ 60 < dec.length
  · exact row_large vars aoC _ capC aoD _ capD w h
  · simp only [not_or, Int.not_lt, Nat.not_lt] at h
    obtain ⟨h1, h2, h3⟩ := h
    by_cases hb : vars < 0 ∨ ∃ c ∈ cls, 40 < c.length
    · exact row_rest vars aoC cls capC aoD _ capD w hb h1 hC h2 h3
    · have hv0 : ¬ vars < 0 := fun h => hb (.inl h)
      obtain ⟨n, rfl⟩ := Int.eq_ofNat_of_zero_le (by omega : 0 ≤ vars)
      exact row_main n (by omega) aoC cls capC aoD dec capD w hC hD h2 h3 (fun c hc => by
        rcases Nat.lt_or_ge 40 c.length with h | h
        · exact absurd (.inr ⟨c, hc, h⟩) hb
        · exact h) hCI hDI

end Go.Proofs.Ytnachllhjojlcaa
