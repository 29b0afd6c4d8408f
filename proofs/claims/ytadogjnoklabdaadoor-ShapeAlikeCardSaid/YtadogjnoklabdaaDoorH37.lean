/- The document's fits. Conditions: as each theorem names them. -/
import Derived.Test.YtadogjnoklabdaaDoorH36
import Derived.Deep.Cut
namespace Go.Proofs.YtadogjnoklabdaaDoor
open Go.ChangeShapes Go.WideShapes Go.ChangeAt Go.RowKit Go.Deep
set_option maxRecDepth 100000

set_option maxHeartbeats 4000000 in
theorem rfits_any (W : World) (wh : Int) (hwh : 0 ≤ wh ∧ wh < 256) (r : RichD) : ∀ (s : Value) (al : Bool) (w : World), IsArgs W r s → Below W.heap.size W w →
    Calls Tryd.prog 33 #[r.val s, .int .u8 wh, .bool al] w fun e w' => e = .returned (.bool (fitsE wh r al)) ∧ Below w.heap.size w w' := by
  have step : ∀ (r : RichD) (s : Value) (al : Bool) (w : World), IsArgs W r s → Below W.heap.size W w →
      (∀ j, j < r.n → ∀ (s : Value) (al : Bool) (w : World), IsArgs W (r.args j) s → Below W.heap.size W w → Calls Tryd.prog 33 #[(r.args j).val s, .int .u8 wh, .bool al] w fun e w' => e = .returned (.bool (fitsE wh (r.args j) al)) ∧ Below w.heap.size w w') →
      Calls Tryd.prog 33 #[r.val s, .int .u8 wh, .bool al] w fun e w' => e = .returned (.bool (fitsE wh r al)) ∧ Below w.heap.size w w' := by
    intro r s al w hs hB ih
    obtain ⟨a, c, rfl⟩ := hs.form
    obtain ⟨S, hA, hS⟩ := hs.elems2
    have hn9 := hs.bound
    have hfit := IsArgs.node_n hs
    obtain ⟨T, hT⟩ : ∃ T, T = fitsE wh r al := ⟨_, rfl⟩
    rw [← hT]
    rw [fits_eq] at hT
    obtain ⟨g, hg⟩ : ∃ g, g = w.heap.size := ⟨_, rfl⟩
    obtain ⟨w1, hw1⟩ : ∃ w1, w1 = w.alloc (richObj r (.slice a r.n c)) := ⟨_, rfl⟩
    have HR1 := Lib.hid (show RichAt w1 g 0 r (.slice a r.n c) ∧ Below w.heap.size w w1 from ⟨by rw [hw1, hg]; exact rich_new _ _ _, by rw [hw1]; exact new_b _ _⟩)
    have HE := Lib.hid (show ∀ w', Below W.heap.size W w' → ∀ j, j < r.n → ∃ b o, a = some ⟨b, o, none⟩ ∧ RichAt w' b (o + j * 7) (r.args j) (S j) from fun w' h j hj => by
      obtain ⟨b, o, h1, h2⟩ := hA j hj
      exact ⟨b, o, h1, h2.below h⟩)
    have HI := Lib.hid (show ∀ j, j < r.n → ∀ al' w', Below W.heap.size W w' → Calls Tryd.prog 33 #[(r.args j).val (S j), .int .u8 wh, .bool al'] w' fun e w'' => e = .returned (.bool (fitsE wh (r.args j) al')) ∧ Below w'.heap.size w' w'' from fun j hj al' w' h => ih j hj _ al' w' (hS j hj) h)
    have HSf := Lib.hid (show ∀ j, j < r.n → ∃ a' c', S j = .slice a' (r.args j).n c' from fun j hj => (hS j hj).form)
    have HBW := Lib.hid hB
    have HDM := Lib.hid (fun (w' : World) => rdepmay_any r.dep w' hfit.1)
    obtain ⟨d0, d1, d2, d3, d4, d5, d6, d7⟩ := HR1.out.1
    simp only [Nat.zero_add] at d1 d2 d3 d4 d5 d6
    clear hA hS hs ih hB hfit
    by_cases hk1 : r.kind = 1
    · rw [if_pos hk1] at hT
      have hkd : (r.kind == 1) = true := by simpa using hk1
      obtain ⟨dv, hdv⟩ : ∃ dv, dv = depE r.dep := ⟨_, rfl⟩
      rw [← hdv] at HDM hT
      clear hdv hk1
      by_cases h0 : r.n = 0
      · have hz : ((r.n : Int) == 0) = true := by simp [h0]
        have HT := Lib.hid (show T = dv by rw [hT, decide_eq_true h0]; rfl)
        clear hT h0
        unfold RichD.val richV
        go_enter Tryd.func33, Tryd.ntmps33
        go_upto_region 1 with fail
        rw [← hw1, ← hg]
        clear hw1 hg
        go_wp2_with (first
          | (go_at_call 40; (with_reducible refine (HDM.out _).mono ?_); rintro e wx ⟨rfl, HBc⟩; have HBx := Lib.hid (below_t' HR1.out.2 HBc); clear HBc)
          | fail)
        go_ret
        exact ⟨ret_bool HT.out.symm, HBx.out⟩
      · have hz : ((r.n : Int) == 0) = false := by simp; omega
        have hz2 : ¬ (r.n : Int) = 0 := by omega
        have HT := Lib.hid (show T = false by rw [hT, decide_eq_false h0]; rfl)
        clear hT h0
        unfold RichD.val richV
        go_enter Tryd.func33, Tryd.ntmps33
        go_upto_region 1 with fail
        rw [← hw1, ← hg]
        clear hw1 hg
        go_wp2_with fail
        go_ret
        exact ⟨ret_bool HT.out.symm, HR1.out.2⟩
    · rw [if_neg hk1] at hT
      have HT := Lib.hid hT
      obtain ⟨ok, hok⟩ : ∃ ok, ok = okE wh r.kind r.n al := ⟨_, rfl⟩
      obtain ⟨al', hal⟩ : ∃ al', al' = aloneE r.kind al := ⟨_, rfl⟩
      have hkd : (r.kind == 1) = false := by simpa using hk1
      have HT2 := Lib.hid (show T = ((ok && r.dep.none) && allN (fun j => fitsE wh (r.args j) al') r.n) by rw [hT, hok, hal])
      clear hT HDM
      unfold RichD.val richV
      go_enter Tryd.func33, Tryd.ntmps33
      go_upto_region 1 with fail
      rw [← hw1, ← hg]
      clear hw1 hg
      go_upto_region 2 with fail
      go_cut [8] from 10 (fun x wy => x = .bool false ∧ wy = w1)
      case first =>
        go_wp2_with fail
        go_meet
        case rel => exact ⟨rfl, rfl⟩
      case rest =>
        obtain ⟨rfl, rfl⟩ := hcut
        go_step
        go_step
        go_cut [2, 8] from 10 (fun x y wy => x = .bool al' ∧ y = .bool ok ∧ wy = wc)
        case first =>
          by_cases hk2 : r.kind = 2
          · by_cases hn2 : 2 ≤ r.n
            · have kf2 : (r.kind == 2) = true := by simpa using hk2
              obtain rfl : ok = true := by rw [hok]; simp [okE, hk2, hn2]
              obtain rfl : al' = al := by rw [hal]; simp [aloneE, hk2]
              have n1 : decide ((2 : Int) ≤ (r.n : Int)) = true := by rw [decide_eq_true]; omega
              have n2 : (2 : Int) ≤ (r.n : Int) := by omega
              clear hok hal hk2 hk1
              go_wp2_with fail
              go_meet
              case rel => exact ⟨rfl, rfl, rfl⟩
            · have kf2 : (r.kind == 2) = true := by simpa using hk2
              obtain rfl : ok = false := by rw [hok]; simp [okE, hk2, hn2]
              obtain rfl : al' = al := by rw [hal]; simp [aloneE, hk2]
              have n1 : decide ((2 : Int) ≤ (r.n : Int)) = false := by rw [decide_eq_false]; omega
              have n2 : (r.n : Int) < 2 := by omega
              clear hok hal hk2 hk1
              go_wp2_with fail
              go_meet
              case rel => exact ⟨rfl, rfl, rfl⟩
          by_cases hk3 : r.kind = 3
          · by_cases hn2 : 2 ≤ r.n
            · have kf2 : (r.kind == 2) = false := by simp [hk3]
              have kf3 : (r.kind == 3) = true := by simpa using hk3
              obtain rfl : ok = true := by rw [hok]; simp [okE, hk3, hn2]
              obtain rfl : al' = al := by rw [hal]; simp [aloneE, hk3]
              have n1 : decide ((2 : Int) ≤ (r.n : Int)) = true := by rw [decide_eq_true]; omega
              have n2 : (2 : Int) ≤ (r.n : Int) := by omega
              clear hok hal hk3 hk1
              go_wp2_with fail
              go_meet
              case rel => exact ⟨rfl, rfl, rfl⟩
            · have kf2 : (r.kind == 2) = false := by simp [hk3]
              have kf3 : (r.kind == 3) = true := by simpa using hk3
              obtain rfl : ok = false := by rw [hok]; simp [okE, hk3, hn2]
              obtain rfl : al' = al := by rw [hal]; simp [aloneE, hk3]
              have n1 : decide ((2 : Int) ≤ (r.n : Int)) = false := by rw [decide_eq_false]; omega
              have n2 : (r.n : Int) < 2 := by omega
              clear hok hal hk3 hk1
              go_wp2_with fail
              go_meet
              case rel => exact ⟨rfl, rfl, rfl⟩
          by_cases hk6 : r.kind = 6
          · by_cases hn2 : 2 ≤ r.n
            · have kf2 : (r.kind == 2) = false := by simp [hk6]
              have kf3 : (r.kind == 3) = false := by simp [hk6]
              have kf6 : (r.kind == 6) = true := by simpa using hk6
              obtain rfl : ok = true := by rw [hok]; simp [okE, hk6, hn2]
              obtain rfl : al' = true := by rw [hal]; simp [aloneE, hk6]
              have n1 : decide ((2 : Int) ≤ (r.n : Int)) = true := by rw [decide_eq_true]; omega
              have n2 : (2 : Int) ≤ (r.n : Int) := by omega
              clear hok hal hk6 hk1
              go_wp2_with fail
              go_meet
              case rel => exact ⟨rfl, rfl, rfl⟩
            · have kf2 : (r.kind == 2) = false := by simp [hk6]
              have kf3 : (r.kind == 3) = false := by simp [hk6]
              have kf6 : (r.kind == 6) = true := by simpa using hk6
              obtain rfl : ok = false := by rw [hok]; simp [okE, hk6, hn2]
              obtain rfl : al' = true := by rw [hal]; simp [aloneE, hk6]
              have n1 : decide ((2 : Int) ≤ (r.n : Int)) = false := by rw [decide_eq_false]; omega
              have n2 : (r.n : Int) < 2 := by omega
              clear hok hal hk6 hk1
              go_wp2_with fail
              go_meet
              case rel => exact ⟨rfl, rfl, rfl⟩
          by_cases hk7 : r.kind = 7
          · by_cases hn2 : r.n = 2
            · have kf2 : (r.kind == 2) = false := by simp [hk7]
              have kf3 : (r.kind == 3) = false := by simp [hk7]
              have kf6 : (r.kind == 6) = false := by simp [hk7]
              have kf7 : (r.kind == 7) = true := by simpa using hk7
              obtain rfl : ok = true := by rw [hok]; simp [okE, hk7, hn2]
              obtain rfl : al' = true := by rw [hal]; simp [aloneE, hk7]
              have n1 : ((r.n : Int) == 2) = true := by simp; omega
              clear hn2
              clear hok hal hk7 hk1
              go_wp2_with fail
              go_meet
              case rel => exact ⟨rfl, rfl, rfl⟩
            · have kf2 : (r.kind == 2) = false := by simp [hk7]
              have kf3 : (r.kind == 3) = false := by simp [hk7]
              have kf6 : (r.kind == 6) = false := by simp [hk7]
              have kf7 : (r.kind == 7) = true := by simpa using hk7
              obtain rfl : ok = false := by rw [hok]; simp [okE, hk7, hn2]
              obtain rfl : al' = true := by rw [hal]; simp [aloneE, hk7]
              have n1 : ((r.n : Int) == 2) = false := by simp; omega
              have n2 : ¬ (r.n : Int) = 2 := by omega
              clear hn2
              clear hok hal hk7 hk1
              go_wp2_with fail
              go_meet
              case rel => exact ⟨rfl, rfl, rfl⟩
          by_cases hk4 : r.kind = 4
          · by_cases hn2 : r.n = 2
            · cases al with
              | true =>
                have kf2 : (r.kind == 2) = false := by simp [hk4]
                have kf3 : (r.kind == 3) = false := by simp [hk4]
                have kf6 : (r.kind == 6) = false := by simp [hk4]
                have kf7 : (r.kind == 7) = false := by simp [hk4]
                have kf4 : (r.kind == 4) = true := by simpa using hk4
                obtain rfl : ok = false := by rw [hok]; simp [okE, hk4]
                obtain rfl : al' = true := by rw [hal]; simp [aloneE, hk4]
                have n1 : ((r.n : Int) == 2) = true := by simp; omega
                clear hn2
                clear hok hal hk4 hk1
                go_wp2_with fail
                go_meet
                case rel => exact ⟨rfl, rfl, rfl⟩
              | false =>
                by_cases hw : wh = 1
                · have kf2 : (r.kind == 2) = false := by simp [hk4]
                  have kf3 : (r.kind == 3) = false := by simp [hk4]
                  have kf6 : (r.kind == 6) = false := by simp [hk4]
                  have kf7 : (r.kind == 7) = false := by simp [hk4]
                  have kf4 : (r.kind == 4) = true := by simpa using hk4
                  obtain rfl : ok = true := by rw [hok]; simp [okE, hk4, hn2, hw]
                  obtain rfl : al' = false := by rw [hal]; simp [aloneE, hk4]
                  have n1 : ((r.n : Int) == 2) = true := by simp; omega
                  have v1 : (wh == 1) = true := by simpa using hw
                  clear hn2 hw
                  clear hok hal hk4 hk1
                  go_wp2_with fail
                  go_meet
                  case rel => exact ⟨rfl, rfl, rfl⟩
                · have kf2 : (r.kind == 2) = false := by simp [hk4]
                  have kf3 : (r.kind == 3) = false := by simp [hk4]
                  have kf6 : (r.kind == 6) = false := by simp [hk4]
                  have kf7 : (r.kind == 7) = false := by simp [hk4]
                  have kf4 : (r.kind == 4) = true := by simpa using hk4
                  obtain rfl : ok = false := by rw [hok]; simp [okE, hk4, hn2, hw]
                  obtain rfl : al' = false := by rw [hal]; simp [aloneE, hk4]
                  have n1 : ((r.n : Int) == 2) = true := by simp; omega
                  have v1 : (wh == 1) = false := by simpa using hw
                  clear hn2 hw
                  clear hok hal hk4 hk1
                  go_wp2_with fail
                  go_meet
                  case rel => exact ⟨rfl, rfl, rfl⟩
            · by_cases hn3 : r.n = 3
              · cases al with
                | true =>
                  have kf2 : (r.kind == 2) = false := by simp [hk4]
                  have kf3 : (r.kind == 3) = false := by simp [hk4]
                  have kf6 : (r.kind == 6) = false := by simp [hk4]
                  have kf7 : (r.kind == 7) = false := by simp [hk4]
                  have kf4 : (r.kind == 4) = true := by simpa using hk4
                  obtain rfl : ok = false := by rw [hok]; simp [okE, hk4]
                  obtain rfl : al' = true := by rw [hal]; simp [aloneE, hk4]
                  have n1 : ((r.n : Int) == 2) = false := by simp; omega
                  have n2 : ((r.n : Int) == 3) = true := by simp; omega
                  have n3 : ¬ (r.n : Int) = 2 := by omega
                  clear hn2 hn3
                  clear hok hal hk4 hk1
                  go_wp2_with fail
                  go_meet
                  case rel => exact ⟨rfl, rfl, rfl⟩
                | false =>
                  by_cases hw : wh = 1
                  · have kf2 : (r.kind == 2) = false := by simp [hk4]
                    have kf3 : (r.kind == 3) = false := by simp [hk4]
                    have kf6 : (r.kind == 6) = false := by simp [hk4]
                    have kf7 : (r.kind == 7) = false := by simp [hk4]
                    have kf4 : (r.kind == 4) = true := by simpa using hk4
                    obtain rfl : ok = true := by rw [hok]; simp [okE, hk4, hn3, hw]
                    obtain rfl : al' = false := by rw [hal]; simp [aloneE, hk4]
                    have n1 : ((r.n : Int) == 2) = false := by simp; omega
                    have n2 : ((r.n : Int) == 3) = true := by simp; omega
                    have n3 : ¬ (r.n : Int) = 2 := by omega
                    have v1 : (wh == 1) = true := by simpa using hw
                    clear hn2 hn3 hw
                    clear hok hal hk4 hk1
                    go_wp2_with fail
                    go_meet
                    case rel => exact ⟨rfl, rfl, rfl⟩
                  · have kf2 : (r.kind == 2) = false := by simp [hk4]
                    have kf3 : (r.kind == 3) = false := by simp [hk4]
                    have kf6 : (r.kind == 6) = false := by simp [hk4]
                    have kf7 : (r.kind == 7) = false := by simp [hk4]
                    have kf4 : (r.kind == 4) = true := by simpa using hk4
                    obtain rfl : ok = false := by rw [hok]; simp [okE, hk4, hn3, hw]
                    obtain rfl : al' = false := by rw [hal]; simp [aloneE, hk4]
                    have n1 : ((r.n : Int) == 2) = false := by simp; omega
                    have n2 : ((r.n : Int) == 3) = true := by simp; omega
                    have n3 : ¬ (r.n : Int) = 2 := by omega
                    have v1 : (wh == 1) = false := by simpa using hw
                    clear hn2 hn3 hw
                    clear hok hal hk4 hk1
                    go_wp2_with fail
                    go_meet
                    case rel => exact ⟨rfl, rfl, rfl⟩
              · have kf2 : (r.kind == 2) = false := by simp [hk4]
                have kf3 : (r.kind == 3) = false := by simp [hk4]
                have kf6 : (r.kind == 6) = false := by simp [hk4]
                have kf7 : (r.kind == 7) = false := by simp [hk4]
                have kf4 : (r.kind == 4) = true := by simpa using hk4
                obtain rfl : ok = false := by rw [hok]; simp [okE, hk4, hn2, hn3]
                obtain rfl : al' = al := by rw [hal]; simp [aloneE, hk4]
                have n1 : ((r.n : Int) == 2) = false := by simp; omega
                have n2 : ((r.n : Int) == 3) = false := by simp; omega
                have n3 : ¬ (r.n : Int) = 2 := by omega
                have n4 : ¬ (r.n : Int) = 3 := by omega
                clear hn2 hn3
                clear hok hal hk4 hk1
                go_wp2_with fail
                go_meet
                case rel => exact ⟨rfl, rfl, rfl⟩
          by_cases hk5 : r.kind = 5
          · by_cases hn2 : r.n = 2
            · cases al with
              | true =>
                have kf2 : (r.kind == 2) = false := by simp [hk5]
                have kf3 : (r.kind == 3) = false := by simp [hk5]
                have kf6 : (r.kind == 6) = false := by simp [hk5]
                have kf7 : (r.kind == 7) = false := by simp [hk5]
                have kf4 : (r.kind == 4) = false := by simp [hk5]
                have kf5 : (r.kind == 5) = true := by simpa using hk5
                obtain rfl : ok = false := by rw [hok]; simp [okE, hk5]
                obtain rfl : al' = true := by rw [hal]; simp [aloneE, hk5]
                have n1 : ((r.n : Int) == 2) = true := by simp; omega
                clear hn2
                clear hok hal hk5 hk1
                go_wp2_with fail
                go_meet
                case rel => exact ⟨rfl, rfl, rfl⟩
              | false =>
                by_cases hw : wh ≤ 2
                · have kf2 : (r.kind == 2) = false := by simp [hk5]
                  have kf3 : (r.kind == 3) = false := by simp [hk5]
                  have kf6 : (r.kind == 6) = false := by simp [hk5]
                  have kf7 : (r.kind == 7) = false := by simp [hk5]
                  have kf4 : (r.kind == 4) = false := by simp [hk5]
                  have kf5 : (r.kind == 5) = true := by simpa using hk5
                  obtain rfl : ok = true := by rw [hok]; simp [okE, hk5, hn2, hw]
                  obtain rfl : al' = false := by rw [hal]; simp [aloneE, hk5]
                  have n1 : ((r.n : Int) == 2) = true := by simp; omega
                  have v1 : decide (wh ≤ 2) = true := by simpa using hw
                  have v2 : wh ≤ 2 := hw
                  clear hn2 hw
                  clear hok hal hk5 hk1
                  go_wp2_with fail
                  go_meet
                  case rel => exact ⟨rfl, rfl, rfl⟩
                · have kf2 : (r.kind == 2) = false := by simp [hk5]
                  have kf3 : (r.kind == 3) = false := by simp [hk5]
                  have kf6 : (r.kind == 6) = false := by simp [hk5]
                  have kf7 : (r.kind == 7) = false := by simp [hk5]
                  have kf4 : (r.kind == 4) = false := by simp [hk5]
                  have kf5 : (r.kind == 5) = true := by simpa using hk5
                  obtain rfl : ok = false := by rw [hok]; simp [okE, hk5, hn2, hw]
                  obtain rfl : al' = false := by rw [hal]; simp [aloneE, hk5]
                  have n1 : ((r.n : Int) == 2) = true := by simp; omega
                  have v1 : decide (wh ≤ 2) = false := by simpa using hw
                  have v2 : 2 < wh := by omega
                  clear hn2 hw
                  clear hok hal hk5 hk1
                  go_wp2_with fail
                  go_meet
                  case rel => exact ⟨rfl, rfl, rfl⟩
            · by_cases hn3 : r.n = 3
              · cases al with
                | true =>
                  have kf2 : (r.kind == 2) = false := by simp [hk5]
                  have kf3 : (r.kind == 3) = false := by simp [hk5]
                  have kf6 : (r.kind == 6) = false := by simp [hk5]
                  have kf7 : (r.kind == 7) = false := by simp [hk5]
                  have kf4 : (r.kind == 4) = false := by simp [hk5]
                  have kf5 : (r.kind == 5) = true := by simpa using hk5
                  obtain rfl : ok = false := by rw [hok]; simp [okE, hk5]
                  obtain rfl : al' = true := by rw [hal]; simp [aloneE, hk5]
                  have n1 : ((r.n : Int) == 2) = false := by simp; omega
                  have n2 : ((r.n : Int) == 3) = true := by simp; omega
                  have n3 : ¬ (r.n : Int) = 2 := by omega
                  clear hn2 hn3
                  clear hok hal hk5 hk1
                  go_wp2_with fail
                  go_meet
                  case rel => exact ⟨rfl, rfl, rfl⟩
                | false =>
                  by_cases hw : wh ≤ 2
                  · have kf2 : (r.kind == 2) = false := by simp [hk5]
                    have kf3 : (r.kind == 3) = false := by simp [hk5]
                    have kf6 : (r.kind == 6) = false := by simp [hk5]
                    have kf7 : (r.kind == 7) = false := by simp [hk5]
                    have kf4 : (r.kind == 4) = false := by simp [hk5]
                    have kf5 : (r.kind == 5) = true := by simpa using hk5
                    obtain rfl : ok = true := by rw [hok]; simp [okE, hk5, hn3, hw]
                    obtain rfl : al' = false := by rw [hal]; simp [aloneE, hk5]
                    have n1 : ((r.n : Int) == 2) = false := by simp; omega
                    have n2 : ((r.n : Int) == 3) = true := by simp; omega
                    have n3 : ¬ (r.n : Int) = 2 := by omega
                    have v1 : decide (wh ≤ 2) = true := by simpa using hw
                    have v2 : wh ≤ 2 := hw
                    clear hn2 hn3 hw
                    clear hok hal hk5 hk1
                    go_wp2_with fail
                    go_meet
                    case rel => exact ⟨rfl, rfl, rfl⟩
                  · have kf2 : (r.kind == 2) = false := by simp [hk5]
                    have kf3 : (r.kind == 3) = false := by simp [hk5]
                    have kf6 : (r.kind == 6) = false := by simp [hk5]
                    have kf7 : (r.kind == 7) = false := by simp [hk5]
                    have kf4 : (r.kind == 4) = false := by simp [hk5]
                    have kf5 : (r.kind == 5) = true := by simpa using hk5
                    obtain rfl : ok = false := by rw [hok]; simp [okE, hk5, hn3, hw]
                    obtain rfl : al' = false := by rw [hal]; simp [aloneE, hk5]
                    have n1 : ((r.n : Int) == 2) = false := by simp; omega
                    have n2 : ((r.n : Int) == 3) = true := by simp; omega
                    have n3 : ¬ (r.n : Int) = 2 := by omega
                    have v1 : decide (wh ≤ 2) = false := by simpa using hw
                    have v2 : 2 < wh := by omega
                    clear hn2 hn3 hw
                    clear hok hal hk5 hk1
                    go_wp2_with fail
                    go_meet
                    case rel => exact ⟨rfl, rfl, rfl⟩
              · have kf2 : (r.kind == 2) = false := by simp [hk5]
                have kf3 : (r.kind == 3) = false := by simp [hk5]
                have kf6 : (r.kind == 6) = false := by simp [hk5]
                have kf7 : (r.kind == 7) = false := by simp [hk5]
                have kf4 : (r.kind == 4) = false := by simp [hk5]
                have kf5 : (r.kind == 5) = true := by simpa using hk5
                obtain rfl : ok = false := by rw [hok]; simp [okE, hk5, hn2, hn3]
                obtain rfl : al' = al := by rw [hal]; simp [aloneE, hk5]
                have n1 : ((r.n : Int) == 2) = false := by simp; omega
                have n2 : ((r.n : Int) == 3) = false := by simp; omega
                have n3 : ¬ (r.n : Int) = 2 := by omega
                have n4 : ¬ (r.n : Int) = 3 := by omega
                clear hn2 hn3
                clear hok hal hk5 hk1
                go_wp2_with fail
                go_meet
                case rel => exact ⟨rfl, rfl, rfl⟩
          have kf2 : (r.kind == 2) = false := by simpa using hk2
          have kf3 : (r.kind == 3) = false := by simpa using hk3
          have kf6 : (r.kind == 6) = false := by simpa using hk6
          have kf7 : (r.kind == 7) = false := by simpa using hk7
          have kf4 : (r.kind == 4) = false := by simpa using hk4
          have kf5 : (r.kind == 5) = false := by simpa using hk5
          obtain rfl : ok = false := by rw [hok]; simp [okE, hk2, hk3, hk6, hk7, hk4, hk5]
          obtain rfl : al' = al := by rw [hal]; unfold aloneE; rw [kf6, kf7]; simp
          clear hok hal hk2 hk3 hk6 hk7 hk4 hk5 hk1
          go_wp2_with fail
          go_meet
          case rel => exact ⟨rfl, rfl, rfl⟩
        case rest =>
          obtain ⟨rfl, rfl, rfl⟩ := hcut
          clear hal hok
          cases ok with
          | false =>
            have HF := Lib.hid (show T = false by rw [HT2.out]; rfl)
            go_wp2_with fail
            go_ret
            exact ⟨ret_bool HF.out.symm, HR1.out.2⟩
          | true =>
            have HN := Lib.hid (show r.dep.none = false → T = false from fun h => by rw [HT2.out, h]; rfl)
            have HY := Lib.hid (show r.dep.none = true → T = allN (fun j => fitsE wh (r.args j) al') r.n from fun h => by rw [HT2.out, h]; rfl)
            go_wp2_with fail
            rotate_left
            all_goals first
              | (go_ret
                 first
                   | exact ⟨ret_bool ((HN.out (none_name (by assumption))).symm), HR1.out.2⟩
                   | exact ⟨ret_bool ((HN.out (none_op (by assumption))).symm), HR1.out.2⟩
                   | exact ⟨ret_bool ((HN.out (none_ep (by assumption))).symm), HR1.out.2⟩
                   | exact ⟨ret_bool ((HN.out (none_ver (by assumption))).symm), HR1.out.2⟩
                   | exact ⟨ret_bool ((HN.out (none_rel (by assumption))).symm), HR1.out.2⟩)
              | skip
            have HTT := Lib.hid (HY.out (none_yes (by assumption) (by assumption) (by assumption) (by assumption) (by assumption)))
            clear HN HY HT2 HT d0 d1 d2 d3 d4 d5
            go_loopw [9] (fun i wr => ∃ k : Nat, k ≤ r.n ∧ i = .int .i64 k ∧ Hid (allN (fun j => fitsE wh (r.args j) al') k = true) ∧ Hid (RichAt wr g 0 r (.slice a r.n c) ∧ Below w.heap.size w wr)) (fun i wr => r.n - (intOf i).toNat)
            case atStart => exact ⟨0, by omega, rfl, Lib.hid rfl, HR1⟩
            case round =>
              obtain ⟨k, hk, rfl, HQ, HRk⟩ := hrel
              have d6 := HRk.out.1.c6
              simp only [Nat.zero_add] at d6
              have d7 := HRk.out.1.lt
              by_cases hlt : k < r.n
              · have hki : (k : Int) < (r.n : Int) := by omega
                have HB2 := Lib.hid (HBW.out.trans (HRk.out.2.mono HBW.out.size))
                obtain ⟨b, o, ha, y0, y1, y2, y3, y4, y5, y6, y7⟩ := HE.out wr HB2.out k hlt
                subst ha
                obtain ⟨xa, xc, hx⟩ := HSf.out k hlt
                have HM := Lib.hid (HI.out k hlt al' wr HB2.out)
                simp only [hx] at HM y6
                obtain ⟨bb, hbb⟩ : ∃ bb, bb = fitsE wh (r.args k) al' := ⟨_, rfl⟩
                rw [← hbb] at HM
                have HBb := Lib.hid hbb
                clear hbb
                cases bb with
                | true =>
                  go_wp2_with (first
                    | (go_at_call 33; (with_reducible refine (HM.out).mono ?_); rintro e wx ⟨rfl, HBc⟩; have HRx := Lib.hid (show RichAt wx g 0 r (.slice (some ⟨b, o, none⟩) r.n c) ∧ Below w.heap.size w wx from ⟨HRk.out.1.below HBc, below_t' HRk.out.2 HBc⟩); clear HBc)
                    | fail)
                  go_roundw
                  case rel => exact ⟨k + 1, by omega, by go_num, Lib.hid (by simp only [allN]; rw [HQ.out, ← HBb.out]; rfl), HRx⟩
                  case measure => simp [intOf]; omega
                | false =>
                  have HT3 := Lib.hid (show T = false by rw [HTT.out]; exact allN_no r.n hlt HBb.out.symm)
                  go_wp2_with (first
                    | (go_at_call 33; (with_reducible refine (HM.out).mono ?_); rintro e wx ⟨rfl, HBc⟩; have HBx := Lib.hid (below_t' HRk.out.2 HBc); clear HBc)
                    | fail)
                  go_ret
                  exact ⟨ret_bool HT3.out.symm, HBx.out⟩
              · obtain rfl : k = r.n := by omega
                have HT3 := Lib.hid (show T = true by rw [HTT.out]; exact HQ.out)
                go_wp2_with fail
                go_ret
                exact ⟨ret_bool HT3.out.symm, HRk.out.2⟩
  induction r with
  | nil => exact fun s al w h1 h2 => step .nil s al w h1 h2 (fun j hj => absurd hj (Nat.not_lt_zero j))
  | node k d n f ih => exact fun s al w h1 h2 => step (.node k d n f) s al w h1 h2 (fun j _ => ih j)
end Go.Proofs.YtadogjnoklabdaaDoor
