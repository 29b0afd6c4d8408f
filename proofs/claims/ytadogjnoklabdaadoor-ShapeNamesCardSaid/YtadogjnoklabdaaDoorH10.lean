/- shape.Depth, size. Conditions: as each theorem names them. -/
import Derived.Test.YtadogjnoklabdaaDoorH9
namespace Go.Proofs.YtadogjnoklabdaaDoor
open Go.ChangeShapes Go.WideShapes Go.ChangeAt Go.RowKit Go.Deep
set_option maxRecDepth 100000

theorem IsArgs.form {w : World} {r : RichD} {s : Value} (h : IsArgs w r s) : ∃ a c, s = .slice a r.n c := by
  cases h
  exact ⟨_, _, rfl⟩
abbrev richObj (r : RichD) (s : Value) : Obj := .cells #[.int .u8 r.kind, .string r.dep.name, .int .u8 r.dep.op, .int .i64 r.dep.ep, .string r.dep.ver, .string r.dep.rel, s] 28
theorem below_new (w : World) (o : Obj) : Below w.heap.size w (w.alloc o) := (Below.refl _ _).alloc (Nat.le_refl _) _

set_option maxHeartbeats 4000000 in
theorem depth_any (W : World) (r : RichD) (s : Value) (hs : IsArgs W r s) (w : World) (hB : Below W.heap.size W w) (hc : r.count ≤ 4611686018427387904) : Calls Tryd.prog 13 #[r.val s] w fun e w' => e = .returned (.int .i64 r.depth) ∧ Below w.heap.size w w' := by
  induction hs generalizing w with
  | mk r a c S hd hn hA hS ih =>
    obtain ⟨T, hT⟩ : ∃ T : Int, T = r.depth := ⟨_, rfl⟩
    rw [← hT]
    have HR0 := Lib.hid (rich_new w r (.slice a r.n c))
    have HB0 := Lib.hid (show Below w.heap.size w (w.alloc (.cells #[.int .u8 r.kind, .string r.dep.name, .int .u8 r.dep.op, .int .i64 r.dep.ep, .string r.dep.ver, .string r.dep.rel, .slice a r.n c] 28)) from (Below.refl _ _).alloc (Nat.le_refl _) _)
    have HA := Lib.hid (show ∀ w', Below W.heap.size W w' → ∀ j, j < r.n → ∃ b o, a = some ⟨b, o, none⟩ ∧ RichAt w' b (o + j * 7) (r.args j) (S j) from fun w' h j hj => by
      obtain ⟨b, o, h1, h2⟩ := hA j hj
      exact ⟨b, o, h1, h2.below h⟩)
    have HI := Lib.hid ih
    have HSf := Lib.hid (show ∀ j, j < r.n → ∃ a' c', S j = .slice a' (r.args j).n c' from fun j hj => (hS j hj).form)
    have HBW := Lib.hid hB
    have HC := Lib.hid (show ∀ j, j < r.n → (r.args j).depth ≤ 4611686018427387904 ∧ (r.args j).count ≤ 4611686018427387904 from fun j hj => by
      have h1 := sumN_mono (f := fun j => (r.args j).count) (show j + 1 ≤ r.n by omega)
      simp only [sumN] at h1
      have h2 := count_eq r
      have h3 := depth_le (r.args j)
      omega)
    have HD := Lib.hid (show maxN (fun j => (r.args j).depth) r.n ≤ 4611686018427387904 from by
      have h1 := maxN_le (f := fun j => (r.args j).depth) (g := fun j => (r.args j).count) r.n (fun j _ => depth_le _)
      have h2 := count_eq r
      omega)
    rw [depth_eq] at hT
    by_cases hk1 : r.kind = 1
    · rw [if_pos hk1] at hT
      obtain rfl : T = 0 := hT
      have hkd : (r.kind == 1) = true := by simpa using hk1
      clear hA hS ih hd hc hB hk1
      unfold RichD.val richV
      go_enter Tryd.func13, Tryd.ntmps13
      go_wp2_with fail
      go_ret
      exact ⟨rfl, HB0.out⟩
    · rw [if_neg hk1] at hT
      have HT := Lib.hid hT
      have hkd : (r.kind == 1) = false := by simpa using hk1
      clear hT hA hS ih hd hc hB
      unfold RichD.val richV
      go_enter Tryd.func13, Tryd.ntmps13
      go_wp2_with fail
      go_loopw [3, 12] (fun x i wr => ∃ k q : Nat, k ≤ r.n ∧ Hid (q = maxN (fun j => (r.args j).depth) k) ∧ x = .int .i64 (q : Int) ∧ i = .int .i64 k ∧ Hid (RichAt wr w.heap.size 0 r (.slice a r.n c)) ∧ Hid (Below w.heap.size w wr)) (fun x i wr => r.n - (intOf i).toNat)
      case atStart => exact ⟨0, 0, by omega, Lib.hid rfl, rfl, rfl, HR0, HB0⟩
      case round =>
        obtain ⟨k, q, hk, HQ, rfl, rfl, HRk, HBk⟩ := hrel
        obtain ⟨d0, d1, d2, d3, d4, d5, d6, d7⟩ := HRk.out
        by_cases hlt : k < r.n
        · have hki : (k : Int) < (r.n : Int) := by omega
          have HB2 := Lib.hid (HBW.out.trans (HBk.out.mono HBW.out.size))
          obtain ⟨b, o, ha, ⟨e0, e1, e2, e3, e4, e5, e6, e7⟩⟩ := HA.out _ HB2.out k hlt
          subst ha
          obtain ⟨m, hm⟩ : ∃ m, m = (r.args k).depth := ⟨_, rfl⟩
          obtain ⟨a', c', hS'⟩ := HSf.out k hlt
          have HB3 := Lib.hid (HBk.out.trans ((below_new wr (richObj (r.args k) (S k))).mono HBk.out.size))
          have HR3 := Lib.hid (HRk.out.below (below_new wr (richObj (r.args k) (S k))))
          have HM := Lib.hid (HI.out k hlt (wr.alloc (richObj (r.args k) (S k))) (HB2.out.trans ((below_new _ _).mono HB2.out.size)) (HC.out k hlt).2)
          rw [← hm] at HM
          simp only [hS'] at HM HB3 HR3 e6
          have HMm := Lib.hid hm
          clear hm
          by_cases hmq : q < m
          · have hmq' : decide ((q : Int) < (m : Int)) = true := by rw [decide_eq_true]; omega
            go_wp2_with (first
              | (go_at_call 13; (with_reducible refine (HM.out).mono ?_); rintro e w1 ⟨rfl, HBc⟩; have HB1 := Lib.hid (HB3.out.trans (HBc.mono HB3.out.size)); have HR1 := Lib.hid (HR3.out.below HBc); clear HBc)
              | fail)
            go_roundw
            case rel => exact ⟨k + 1, m, by omega, Lib.hid (by have := HQ.out; have := HMm.out; simp only [maxN]; omega), by go_num, by go_num, HR1, HB1⟩
            case measure => simp [intOf]; omega
          · have hmq' : decide ((q : Int) < (m : Int)) = false := by rw [decide_eq_false]; omega
            go_wp2_with (first
              | (go_at_call 13; (with_reducible refine (HM.out).mono ?_); rintro e w1 ⟨rfl, HBc⟩; have HB1 := Lib.hid (HB3.out.trans (HBc.mono HB3.out.size)); have HR1 := Lib.hid (HR3.out.below HBc); clear HBc)
              | fail)
            go_roundw
            case rel => exact ⟨k + 1, q, by omega, Lib.hid (by have := HQ.out; have := HMm.out; simp only [maxN]; omega), by go_num, by go_num, HR1, HB1⟩
            case measure => simp [intOf]; omega
        · obtain rfl : k = r.n := by omega
          have hq2 : q ≤ 4611686018427387904 := by have := HD.out; have := HQ.out; omega
          go_wp2_with fail
          go_ret
          exact ⟨ret_int (by rw [HT.out, ← HQ.out]; rfl), HBk.out⟩

theorem sub_small {a b : Nat} (h : a ≤ b) : ((b - a : Nat) : Int) = (b : Int) - (a : Int) := by omega
set_option maxHeartbeats 4000000 in
theorem size_any (W : World) (r : RichD) (s : Value) (hs : IsArgs W r s) (w : World) (hB : Below W.heap.size W w) (N : Nat) (h1 : 1 ≤ N) (hN : N ≤ 4611686018427387904) : Calls Tryd.prog 28 #[r.val s, .int .i64 N] w fun e w' => e = .returned (.int .i64 ((min r.count N : Nat) : Int)) ∧ Below w.heap.size w w' := by
  induction hs generalizing w N with
  | mk r a c S hd hn hA hS ih =>
    obtain ⟨T, hT⟩ : ∃ T : Int, T = ((min r.count N : Nat) : Int) := ⟨_, rfl⟩
    rw [← hT]
    have HT := Lib.hid hT
    have HR0 := Lib.hid (rich_new w r (.slice a r.n c))
    have HB0 := Lib.hid (below_new w (richObj r (.slice a r.n c)))
    have HA := Lib.hid (show ∀ w', Below W.heap.size W w' → ∀ j, j < r.n → ∃ b o, a = some ⟨b, o, none⟩ ∧ RichAt w' b (o + j * 7) (r.args j) (S j) from fun w' h j hj => by
      obtain ⟨b, o, h1, h2⟩ := hA j hj
      exact ⟨b, o, h1, h2.below h⟩)
    have HI := Lib.hid ih
    have HBW := Lib.hid hB
    have HC := Lib.hid (show ∀ j, j ≤ r.n → 1 + sumN (fun j => (r.args j).count) j ≤ r.count from fun j hj => by
      have h1 := sumN_mono (f := fun j => (r.args j).count) hj
      have h2 := count_eq r
      omega)
    clear hT hA hS ih hd hB
    unfold RichD.val richV
    go_enter Tryd.func28, Tryd.ntmps28
    go_wp2_with fail
    go_loopw [5, 6] (fun x i wr => ∃ k q : Nat, k ≤ r.n ∧ 1 ≤ q ∧ q ≤ N ∧ Hid (q = min (1 + sumN (fun j => (r.args j).count) k) N) ∧ x = .int .i64 (q : Int) ∧ i = .int .i64 k ∧ Hid (RichAt wr w.heap.size 0 r (.slice a r.n c)) ∧ Hid (Below w.heap.size w wr)) (fun x i wr => r.n - (intOf i).toNat)
    case atStart => exact ⟨0, 1, by omega, by omega, h1, Lib.hid (by simp only [sumN]; omega), rfl, rfl, HR0, HB0⟩
    case round =>
      obtain ⟨k, q, hk, hq1, hq2, HQ, rfl, rfl, HRk, HBk⟩ := hrel
      obtain ⟨d0, d1, d2, d3, d4, d5, d6, d7⟩ := HRk.out
      by_cases hlt : k < r.n
      · have hki : (k : Int) < (r.n : Int) := by omega
        by_cases hqn : q < N
        · have hqi : (q : Int) < (N : Int) := by omega
          have HB2 := Lib.hid (HBW.out.trans (HBk.out.mono HBW.out.size))
          obtain ⟨b, o, ha, ⟨e0, e1, e2, e3, e4, e5, e6, e7⟩⟩ := HA.out _ HB2.out k hlt
          subst ha
          obtain ⟨m, hm⟩ : ∃ m, m = min (r.args k).count (N - q) := ⟨_, rfl⟩
          have HM := Lib.hid (HI.out k hlt _ HB2.out (N - q) (by omega) (by omega))
          rw [← hm, sub_small hq2] at HM
          have hmn : q + m ≤ N := by omega
          have HMm := Lib.hid hm
          clear hm
          go_wp2_with (first
            | (go_at_call 28; (with_reducible refine (HM.out).mono ?_); rintro e w1 ⟨rfl, HBc⟩; have HB1 := Lib.hid (HBk.out.trans (HBc.mono HBk.out.size)); have HR1 := Lib.hid (HRk.out.below HBc); clear HBc)
            | fail)
          go_roundw
          case rel => exact ⟨k + 1, q + m, by omega, by omega, by omega, Lib.hid (by have := HQ.out; have := HMm.out; simp only [sumN]; omega), by go_num, by go_num, HR1, HB1⟩
          case measure => simp [intOf]; omega
        · obtain rfl : q = N := by omega
          have HQ2 := Lib.hid (show T = (q : Int) by
            have h2 := HC.out k hk
            have h3 := HQ.out
            rw [HT.out]
            omega)
          clear HQ
          go_wp2_with fail
          go_ret
          exact ⟨ret_int HQ2.out.symm, HBk.out⟩
      · obtain rfl : k = r.n := by omega
        have HQ2 := Lib.hid (show T = (q : Int) by
          have h2 := count_eq r
          have h3 := HQ.out
          rw [HT.out]
          omega)
        clear HQ
        go_wp2_with fail
        go_ret
        exact ⟨ret_int HQ2.out.symm, HBk.out⟩
theorem large_any (r : RichD) (s : Value) (w : World) (hs : IsArgs w r s) : Calls Tryd.prog 10 #[r.val s] w fun e w' => e = .returned (.bool (decide (600 ≤ r.count))) ∧ Below w.heap.size w w' := by
  obtain ⟨T, hT⟩ : ∃ T, T = decide (600 ≤ r.count) := ⟨_, rfl⟩
  rw [← hT]
  have HB0 := Lib.hid (below_new w (richObj r s))
  have HS := Lib.hid (show Calls Tryd.prog 28 #[r.val s, .int .i64 600] (w.alloc (richObj r s)) fun e w' => e = .returned (.int .i64 ((min r.count 600 : Nat) : Int)) ∧ Below (w.alloc (richObj r s)).heap.size (w.alloc (richObj r s)) w' from size_any w r s hs (w.alloc (richObj r s)) HB0.out 600 (by omega) (by omega))
  obtain ⟨m, hm⟩ : ∃ m, m = min r.count 600 := ⟨_, rfl⟩
  rw [← hm] at HS
  by_cases hl : 600 ≤ r.count
  · obtain rfl : T = true := by rw [hT, decide_eq_true hl]
    have hm2 : decide ((600 : Int) ≤ (m : Int)) = true := by rw [decide_eq_true]; omega
    have hm3 : (600 : Int) ≤ (m : Int) := by omega
    clear hT hl hm hs
    unfold RichD.val richV
    go_enter Tryd.func10, Tryd.ntmps10
    go_wp2_with (first
      | (go_at_call 28; (with_reducible refine (HS.out).mono ?_); rintro e w1 ⟨rfl, HBc⟩; have HB1 := Lib.hid (HB0.out.trans (HBc.mono HB0.out.size)); clear HBc)
      | fail)
    go_ret
    exact ⟨rfl, HB1.out⟩
  · obtain rfl : T = false := by rw [hT, decide_eq_false hl]
    have hm2 : decide ((600 : Int) ≤ (m : Int)) = false := by rw [decide_eq_false]; omega
    have hm3 : (m : Int) < 600 := by omega
    clear hT hl hm hs
    unfold RichD.val richV
    go_enter Tryd.func10, Tryd.ntmps10
    go_wp2_with (first
      | (go_at_call 28; (with_reducible refine (HS.out).mono ?_); rintro e w1 ⟨rfl, HBc⟩; have HB1 := Lib.hid (HB0.out.trans (HBc.mono HB0.out.size)); clear HBc)
      | fail)
    go_ret
    exact ⟨rfl, HB1.out⟩
end Go.Proofs.YtadogjnoklabdaaDoor
