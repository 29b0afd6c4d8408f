/- The laws' only. Conditions: as each theorem names them. -/
import Derived.Test.YtadogjnoklabdaaDoorH17
namespace Go.Proofs.YtadogjnoklabdaaDoor
open Go.ChangeShapes Go.WideShapes Go.ChangeAt Go.RowKit Go.Deep
set_option maxRecDepth 100000

def wantE (most : Int) (k : Nat) : Int := if most < (k : Int) then 4 else 0
def onlyE (r : RichD) (most : Int) : Bool := decide (mayE r 1 = wantE most 1) && (decide (mayE r 2 = wantE most 2) && decide (mayE r 3 = wantE most 3))
theorem only_no {r : RichD} {most : Int} {k : Nat} (h1 : 1 ≤ k) (h3 : k ≤ 3) (h : ¬ mayE r k = wantE most k) : onlyE r most = false := by
  unfold onlyE
  have : k = 1 ∨ k = 2 ∨ k = 3 := by omega
  rcases this with rfl | rfl | rfl
  · rw [decide_eq_false (show ¬ mayE r 1 = wantE most 1 from h)]; rfl
  · rw [decide_eq_false (show ¬ mayE r 2 = wantE most 2 from h)]; simp
  · rw [decide_eq_false (show ¬ mayE r 3 = wantE most 3 from h)]; simp
theorem only_yes {r : RichD} {most : Int} (h : ∀ j : Nat, 1 ≤ j → j < 4 → mayE r j = wantE most j) : onlyE r most = true := by
  unfold onlyE
  rw [decide_eq_true (show mayE r 1 = wantE most 1 from h 1 (by omega) (by omega)), decide_eq_true (show mayE r 2 = wantE most 2 from h 2 (by omega) (by omega)), decide_eq_true (show mayE r 3 = wantE most 3 from h 3 (by omega) (by omega))]
  rfl

set_option maxHeartbeats 4000000 in
theorem only_any (W0 : World) (r : RichD) (s : Value) (hs : IsArgs W0 r s) (w : World) (hB : Below W0.heap.size W0 w) (hc : r.count ≤ 4611686018427387904) (most : Int) (hW : Words w) (hO : Ops w) :
    Calls Tryd.prog 22 #[r.val s, .int .u8 most] w fun e w' => e = .returned (.bool (onlyE r most)) ∧ Below w.heap.size w w' := by
  obtain ⟨T, hT⟩ : ∃ T, T = onlyE r most := ⟨_, rfl⟩
  rw [← hT]
  have HT := Lib.hid hT
  have HR0 := Lib.hid (rich_new w r s)
  have HB0 := Lib.hid (below_new w (richObj r s))
  have HM := Lib.hid (fun (W : World) (hb : Below w.heap.size w W) (k : Nat) (hk : k ≤ 3) => may_any W0 r s hs W (hB.trans (hb.mono hB.size)) hc (k : Int) (by omega) (hW.below hb) (hO.below hb))
  clear hT hs hB hc hW hO
  unfold RichD.val richV
  go_enter Tryd.func22, Tryd.ntmps22
  go_wp2_with fail
  go_loopw [5, 6] (fun i y wr => ∃ k : Nat, 1 ≤ k ∧ k ≤ 4 ∧ i = .int .u8 k ∧ Hid (∀ j : Nat, 1 ≤ j → j < k → mayE r j = wantE most j) ∧ Hid (RichAt wr w.heap.size 0 r s) ∧ Hid (Below w.heap.size w wr)) (fun i y wr => 4 - (intOf i).toNat)
  case atStart => exact ⟨1, by omega, by omega, rfl, Lib.hid (fun j h1 h2 => by omega), HR0, HB0⟩
  case round =>
    obtain ⟨k, hk1, hk4, rfl, HQ, HRk, HBk⟩ := hrel
    obtain ⟨d0, d1, d2, d3, d4, d5, d6, d7⟩ := HRk.out
    by_cases hlt : k ≤ 3
    · have hki : (k : Int) ≤ 3 := by omega
      obtain ⟨m, hm⟩ : ∃ m, m = mayE r k := ⟨_, rfl⟩
      have HMk := Lib.hid (HM.out wr HBk.out k hlt)
      rw [← hm] at HMk
      have HMm := Lib.hid hm
      clear hm
      obtain ⟨v, hv⟩ : ∃ v, v = wantE most k := ⟨_, rfl⟩
      have HV := Lib.hid hv
      unfold wantE at hv
      by_cases hmk : most < (k : Int)
      · rw [if_pos hmk] at hv
        subst hv
        by_cases he : m = 4
        · subst he
          go_wp2_with (first
            | (go_at_call 11; (with_reducible refine (HMk.out).mono ?_); rintro e w1 ⟨rfl, HBc⟩; have HB1 := Lib.hid (HBk.out.trans (HBc.mono HBk.out.size)); have HR1 := Lib.hid (HRk.out.below HBc); clear HBc)
            | fail)
          go_roundw
          case rel => exact ⟨k + 1, by omega, by omega, by go_num, Lib.hid (fun j h1 h2 => by
            by_cases hj : j < k
            · exact HQ.out j h1 hj
            · obtain rfl : j = k := by omega
              rw [← HMm.out, ← HV.out]), HR1, HB1⟩
          case measure => simp [intOf]; omega
        · have hne : (m == 4) = false := by simpa using he
          have HT2 := Lib.hid (show T = false by rw [HT.out]; exact only_no hk1 hlt (by rw [← HMm.out, ← HV.out]; exact he))
          go_wp2_with (first
            | (go_at_call 11; (with_reducible refine (HMk.out).mono ?_); rintro e w1 ⟨rfl, HBc⟩; have HB1 := Lib.hid (HBk.out.trans (HBc.mono HBk.out.size)); clear HBc)
            | fail)
          go_ret
          exact ⟨ret_bool HT2.out.symm, HB1.out⟩
      · rw [if_neg hmk] at hv
        subst hv
        by_cases he : m = 0
        · subst he
          go_wp2_with (first
            | (go_at_call 11; (with_reducible refine (HMk.out).mono ?_); rintro e w1 ⟨rfl, HBc⟩; have HB1 := Lib.hid (HBk.out.trans (HBc.mono HBk.out.size)); have HR1 := Lib.hid (HRk.out.below HBc); clear HBc)
            | fail)
          go_roundw
          case rel => exact ⟨k + 1, by omega, by omega, by go_num, Lib.hid (fun j h1 h2 => by
            by_cases hj : j < k
            · exact HQ.out j h1 hj
            · obtain rfl : j = k := by omega
              rw [← HMm.out, ← HV.out]), HR1, HB1⟩
          case measure => simp [intOf]; omega
        · have hne : (m == 0) = false := by simpa using he
          have HT2 := Lib.hid (show T = false by rw [HT.out]; exact only_no hk1 hlt (by rw [← HMm.out, ← HV.out]; exact he))
          go_wp2_with (first
            | (go_at_call 11; (with_reducible refine (HMk.out).mono ?_); rintro e w1 ⟨rfl, HBc⟩; have HB1 := Lib.hid (HBk.out.trans (HBc.mono HBk.out.size)); clear HBc)
            | fail)
          go_ret
          exact ⟨ret_bool HT2.out.symm, HB1.out⟩
    · obtain rfl : k = 4 := by omega
      have HT2 := Lib.hid (show T = true by rw [HT.out]; exact only_yes HQ.out)
      clear HQ
      go_wp2_with fail
      go_ret
      exact ⟨ret_bool HT2.out.symm, HBk.out⟩
end Go.Proofs.YtadogjnoklabdaaDoor
