/- Dependencies: dep.File, dep.May. Conditions: as each theorem names them. -/
import Derived.Test.YtadogjnoklabdaaDoorH5
namespace Go.Proofs.YtadogjnoklabdaaDoor
open Go.ChangeShapes Go.WideShapes Go.ChangeAt Go.RowKit Go.Deep
set_option maxRecDepth 100000

theorem spanmay_any (op : Int) (w : World) (hO : Ops w) : Calls Tryd.prog 37 #[.int .u8 op] w fun e w' => e = .returned (.bool (mayOp op)) ∧ Below w.heap.size w w' := by
  obtain ⟨T, hT⟩ : ∃ T, T = mayOp op := ⟨_, rfl⟩
  rw [← hT]
  have HB0 := Below.refl w.heap.size w
  by_cases h0 : op = 0
  · subst h0
    obtain rfl : T = true := hT
    clear hO
    go_enter Tryd.func37, Tryd.ntmps37
    go_wp2_with fail
    go_ret
    exact ⟨rfl, HB0⟩
  · have hd : decide (op = 0) = false := by simpa using h0
    have hd2 : (op == 0) = false := by simpa using h0
    have HC := Lib.hid (text_any op w hO)
    rw [text_may op h0] at hT
    obtain ⟨S, hS⟩ : ∃ S : ByteArray, S = ⟨(textL op).toArray⟩ := ⟨_, rfl⟩
    have hS2 : S.toList = textL op := by rw [hS, ByteArray.toList_eq]
    rw [← hS] at HC
    rw [← hS2] at hT
    cases hl : S.toList with
    | nil =>
      rw [hl] at hT
      obtain rfl : T = false := hT
      have he : S.toList.isEmpty = true := by rw [hl]; rfl
      clear hO hS hS2 HB0
      go_enter Tryd.func37, Tryd.ntmps37
      go_wp2_with (first
        | (go_at_call 42; (with_reducible refine (HC.out).mono ?_); rintro e w1 ⟨rfl, HB⟩)
        | fail)
      go_ret
      exact ⟨rfl, HB⟩
    | cons x xs =>
      rw [hl] at hT
      obtain rfl : T = true := hT
      have he : S.toList.isEmpty = false := by rw [hl]; rfl
      have he2 : ¬ S.toList = [] := by rw [hl]; simp
      clear hO hS hS2 HB0 hl
      go_enter Tryd.func37, Tryd.ntmps37
      go_wp2_with (first
        | (go_at_call 42; (with_reducible refine (HC.out).mono ?_); rintro e w1 ⟨rfl, HB⟩)
        | fail)
      go_ret
      exact ⟨rfl, HB⟩
theorem rspanmay_any (op : Int) (w : World) : Calls Tryd.prog 46 #[.int .u8 op] w fun e w' => e = .returned (.bool (mayOp op)) ∧ Below w.heap.size w w' := by
  obtain ⟨T, hT⟩ : ∃ T, T = mayOp op := ⟨_, rfl⟩
  rw [← hT]
  have HB0 := Below.refl w.heap.size w
  by_cases hop : op = 0 ∨ op = 1 ∨ op = 2 ∨ op = 3 ∨ op = 4 ∨ op = 6
  · obtain rfl : T = true := by rcases hop with rfl | rfl | rfl | rfl | rfl | rfl <;> exact hT
    clear hT
    rcases hop with rfl | rfl | rfl | rfl | rfl | rfl
    all_goals
      go_enter Tryd.func46, Tryd.ntmps46
      go_wp2_with fail
      go_ret
      exact ⟨rfl, HB0⟩
  · simp only [not_or] at hop
    obtain ⟨x0, x1, x2, x3, x4, x6⟩ := hop
    have HT := Lib.hid hT
    obtain ⟨y0, y1, y2, y3, y4, y6⟩ : (op == 0) = false ∧ (op == 1) = false ∧ (op == 2) = false ∧ (op == 3) = false ∧ (op == 4) = false ∧ (op == 6) = false := by simp [x0, x1, x2, x3, x4, x6]
    clear hT
    go_enter Tryd.func46, Tryd.ntmps46
    go_wp2_with fail
    go_ret
    exact ⟨by rw [HT.out]; simp [mayOp, y0, y1, y2, y3, y4, y6], HB0⟩

def fileE (s : ByteArray) : Bool := nameE s && Lib.hasPrefix s.data.toList [47]
theorem file_any (s : ByteArray) (w : World) (hs : s.size ≤ 9223372036854775807) (hW : Words w) : Calls Tryd.prog 38 #[.string s] w fun e w' => e = .returned (.bool (fileE s)) ∧ Below w.heap.size w w' := by
  obtain ⟨T, hT⟩ : ∃ T, T = fileE s := ⟨_, rfl⟩
  rw [← hT]
  have HN := Lib.hid (name_any s w hs hW)
  unfold fileE at hT
  cases hn : nameE s with
  | false =>
    rw [hn] at hT HN
    obtain rfl : T = false := hT
    clear hn hW hs
    go_enter Tryd.func38, Tryd.ntmps38
    go_wp2_with (first
      | (go_at_call 36; (with_reducible refine (HN.out).mono ?_); rintro e w1 ⟨rfl, HB⟩)
      | fail)
    go_ret
    exact ⟨rfl, HB⟩
  | true =>
    rw [hn] at hT HN
    have HP := Lib.hid (fun w => strings_HasPrefix s ⟨#[47]⟩ w)
    obtain rfl : T = Lib.hasPrefix s.data.toList [47] := hT
    clear hn hW hs
    go_enter Tryd.func38, Tryd.ntmps38
    go_wp2_with (first
      | (go_at_call 36; (with_reducible refine (HN.out).mono ?_); rintro e w1 ⟨rfl, HB⟩)
      | (go_at_call 43; (with_reducible refine (HP.out _).mono ?_); rintro e w2 ⟨rfl, rfl⟩)
      | fail)
    go_ret
    exact ⟨rfl, HB⟩
theorem prefix_head {s : ByteArray} (h : 0 < s.size) : Lib.hasPrefix s.data.toList [47] = decide (s[0] = 47) := by
  rcases s with ⟨⟨l⟩⟩
  cases l with
  | nil => simp [ByteArray.size] at h
  | cons c r =>
    show Lib.hasPrefix (c :: r) [47] = decide (c = 47)
    by_cases hc : c = 47
    · subst hc; rfl
    · rw [decide_eq_false hc]
      have hc2 : ((47 : UInt8) == c) = false := by simpa using fun e => hc e.symm
      simp [Lib.hasPrefix, List.isPrefixOf, hc2]
theorem rfile_any (s : ByteArray) (w : World) (hs : s.size ≤ 9223372036854775807) : Calls Tryd.prog 47 #[.string s] w fun e w' => e = .returned (.bool (fileE s)) ∧ w = w' := by
  obtain ⟨T, hT⟩ : ∃ T, T = fileE s := ⟨_, rfl⟩
  rw [← hT]
  have HN := Lib.hid (fun w => rname_any s w hs)
  unfold fileE at hT
  cases hn : nameE s with
  | false =>
    rw [hn] at hT HN
    obtain rfl : T = false := hT
    clear hn hs
    go_enter Tryd.func47, Tryd.ntmps47
    go_wp2_with (first
      | (go_at_call 45; (with_reducible refine (HN.out _).mono ?_); rintro e w1 ⟨rfl, rfl⟩)
      | fail)
    go_ret
    exact ⟨rfl, rfl⟩
  | true =>
    have h0 : 0 < s.size := by
      unfold nameE at hn
      simp only [Bool.and_eq_true, decide_eq_true_eq] at hn
      omega
    rw [hn, prefix_head h0] at hT
    rw [hn] at HN
    have h0' : (0 : Int) < (s.size : Int) := by omega
    by_cases hc : s[0] = 47
    · rw [decide_eq_true hc] at hT
      obtain rfl : T = true := hT
      have hn47 : s[0].toNat = 47 := by rw [hc]; rfl
      clear hn hs hc
      go_enter Tryd.func47, Tryd.ntmps47
      go_wp2_with (first
        | (go_at_call 45; (with_reducible refine (HN.out _).mono ?_); rintro e w1 ⟨rfl, rfl⟩)
        | fail)
      go_ret
      exact ⟨by simp, rfl⟩
    · rw [decide_eq_false hc] at hT
      obtain rfl : T = false := hT
      have hn47 : s[0].toNat ≠ 47 := fun e => hc (UInt8.toNat_inj.1 (by rw [e]; rfl))
      clear hn hs hc
      go_enter Tryd.func47, Tryd.ntmps47
      go_wp2_with (first
        | (go_at_call 45; (with_reducible refine (HN.out _).mono ?_); rintro e w1 ⟨rfl, rfl⟩)
        | fail)
      go_ret
      exact ⟨by first | rfl | (simp; omega), rfl⟩
end Go.Proofs.YtadogjnoklabdaaDoor
