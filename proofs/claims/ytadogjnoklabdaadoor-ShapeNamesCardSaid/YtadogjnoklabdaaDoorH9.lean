/- The document's Depth, shape.Depth, size. Conditions: as each theorem names them. -/
import Derived.Test.YtadogjnoklabdaaDoorH8
namespace Go.Proofs.YtadogjnoklabdaaDoor
open Go.ChangeShapes Go.WideShapes Go.ChangeAt Go.RowKit Go.Deep
set_option maxRecDepth 100000

theorem maxN_le {f : Nat → Nat} {g : Nat → Nat} : ∀ n, (∀ j, j < n → f j ≤ g j) → maxN f n ≤ sumN g n
  | 0, _ => Nat.le_refl _
  | n + 1, h => by
    have h1 := maxN_le n (fun j hj => h j (by omega))
    have h2 := h n (by omega)
    simp only [maxN, sumN]
    omega
theorem depth_le : (r : RichD) → r.depth ≤ r.count
  | .nil => Nat.le_refl _
  | .node k d n f => by
    have h := maxN_le (f := fun j => (f j).depth) (g := fun j => (f j).count) n (fun j _ => depth_le (f j))
    simp only [RichD.depth, RichD.count]
    split <;> omega
theorem maxN_mono {f : Nat → Nat} {k n : Nat} (h : k ≤ n) : maxN f k ≤ maxN f n := by
  induction h with
  | refl => exact Nat.le_refl _
  | step _ ih => exact Nat.le_trans ih (Nat.le_max_left _ _)

set_option maxHeartbeats 4000000 in
theorem rdepth_any (W : World) (r : RichD) (s : Value) (hs : IsArgs W r s) (w : World) (hB : Below W.heap.size W w) (hc : r.count ≤ 4611686018427387904) : Calls Tryd.prog 26 #[r.val s] w fun e w' => e = .returned (.int .i64 r.depth) ∧ Below w.heap.size w w' := by
  induction hs generalizing w with
  | mk r a c S hd hn hA hS ih =>
    obtain ⟨T, hT⟩ : ∃ T : Int, T = r.depth := ⟨_, rfl⟩
    rw [← hT]
    have HR0 := Lib.hid (rich_new w r (.slice a r.n c))
    have HB0 := Lib.hid (show Below w.heap.size w (w.alloc (.cells #[.int .u8 r.kind, .string r.dep.name, .int .u8 r.dep.op, .int .i64 r.dep.ep, .string r.dep.ver, .string r.dep.rel, .slice a r.n c] 28)) from (Below.refl _ _).alloc (Nat.le_refl _) _)
    have HA := Lib.hid (show ∀ w', Below W.heap.size W w' → ∀ j, j < r.n → ∃ b o, a = some ⟨b, o, none⟩ ∧ RichAt w' b (o + j * 7) (r.args j) (S j) from fun w' h j hj => by
      obtain ⟨b, o, h1, h2⟩ := hA j hj
      exact ⟨b, o, h1, h2.below h⟩)
    have HI := Lib.hid ih
    have HBW := Lib.hid hB
    have HC := Lib.hid (show ∀ j, j < r.n → (r.args j).depth ≤ 4611686018427387904 ∧ (r.args j).count ≤ 4611686018427387904 from fun j hj => by
      have h1 := sumN_mono (f := fun j => (r.args j).count) (show j + 1 ≤ r.n by omega)
      simp only [sumN] at h1
      have h2 := count_eq r
      have h3 := depth_le (r.args j)
      omega)
    have HD := Lib.hid (show maxN (fun j => (r.args j).depth) r.n ≤ 4611686018427387904 from by
      have h1 := maxN_le (f := fun j => (r.args j).depth) (g := fun j => (r.args j).count) r.n (fun j _ => depth_le _)
      have h2 := count_eq r
      omega)
    rw [depth_eq] at hT
    by_cases hk1 : r.kind = 1
    · rw [if_pos hk1] at hT
      obtain rfl : T = 0 := hT
      have hkd : (r.kind == 1) = true := by simpa using hk1
      clear hA hS ih hd hc hB hk1
      unfold RichD.val richV
      go_enter Tryd.func26, Tryd.ntmps26
      go_wp2_with fail
      go_ret
      exact ⟨rfl, HB0.out⟩
    · rw [if_neg hk1] at hT
      have HT := Lib.hid hT
      have hkd : (r.kind == 1) = false := by simpa using hk1
      clear hT hA hS ih hd hc hB
      unfold RichD.val richV
      go_enter Tryd.func26, Tryd.ntmps26
      go_wp2_with fail
      go_loopw [3, 4] (fun x i wr => ∃ k q : Nat, k ≤ r.n ∧ Hid (q = maxN (fun j => (r.args j).depth) k) ∧ x = .int .i64 (q : Int) ∧ i = .int .i64 k ∧ Hid (RichAt wr w.heap.size 0 r (.slice a r.n c)) ∧ Hid (Below w.heap.size w wr)) (fun x i wr => r.n - (intOf i).toNat)
      case atStart => exact ⟨0, 0, by omega, Lib.hid rfl, rfl, rfl, HR0, HB0⟩
      case round =>
        obtain ⟨k, q, hk, HQ, rfl, rfl, HRk, HBk⟩ := hrel
        obtain ⟨d0, d1, d2, d3, d4, d5, d6, d7⟩ := HRk.out
        by_cases hlt : k < r.n
        · have hki : (k : Int) < (r.n : Int) := by omega
          have HB2 := Lib.hid (HBW.out.trans (HBk.out.mono HBW.out.size))
          obtain ⟨b, o, ha, ⟨e0, e1, e2, e3, e4, e5, e6, e7⟩⟩ := HA.out _ HB2.out k hlt
          subst ha
          obtain ⟨m, hm⟩ : ∃ m, m = (r.args k).depth := ⟨_, rfl⟩
          have HM := Lib.hid (HI.out k hlt _ HB2.out (HC.out k hlt).2)
          rw [← hm] at HM
          have HMm := Lib.hid hm
          clear hm
          by_cases hmq : q < m
          · have hmq' : decide ((q : Int) < (m : Int)) = true := by rw [decide_eq_true]; omega
            go_wp2_with (first
              | (go_at_call 26; (with_reducible refine (HM.out).mono ?_); rintro e w1 ⟨rfl, HBc⟩; have HB1 := Lib.hid (HBk.out.trans (HBc.mono HBk.out.size)); have HR1 := Lib.hid (HRk.out.below HBc); clear HBc)
              | fail)
            go_roundw
            case rel => exact ⟨k + 1, m, by omega, Lib.hid (by have := HQ.out; have := HMm.out; simp only [maxN]; omega), by go_num, by go_num, HR1, HB1⟩
            case measure => simp [intOf]; omega
          · have hmq' : decide ((q : Int) < (m : Int)) = false := by rw [decide_eq_false]; omega
            go_wp2_with (first
              | (go_at_call 26; (with_reducible refine (HM.out).mono ?_); rintro e w1 ⟨rfl, HBc⟩; have HB1 := Lib.hid (HBk.out.trans (HBc.mono HBk.out.size)); have HR1 := Lib.hid (HRk.out.below HBc); clear HBc)
              | fail)
            go_roundw
            case rel => exact ⟨k + 1, q, by omega, Lib.hid (by have := HQ.out; have := HMm.out; simp only [maxN]; omega), by go_num, by go_num, HR1, HB1⟩
            case measure => simp [intOf]; omega
        · obtain rfl : k = r.n := by omega
          have hq2 : q ≤ 4611686018427387904 := by have := HD.out; have := HQ.out; omega
          go_wp2_with fail
          go_ret
          exact ⟨ret_int (by rw [HT.out, ← HQ.out]; rfl), HBk.out⟩
end Go.Proofs.YtadogjnoklabdaaDoor
