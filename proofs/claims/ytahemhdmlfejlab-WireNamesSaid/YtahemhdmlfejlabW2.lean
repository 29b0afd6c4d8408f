/- Contracts of package wire: put. -/
import Derived.Test.YtahemhdmlfejlabW1
namespace Go.Proofs.Ytahemhdmlfejlab
open Go.ChangeShapes Go.WideShapes Go.ChangeAt Go.RowKit

abbrev Part := Value × List UInt8
def catB (ps : List Part) (k : Nat) : List UInt8 := (ps.take k).flatMap (·.2)
theorem catB_succ (ps : List Part) (k : Nat) (h : k < ps.length) : catB ps (k + 1) = catB ps k ++ ps[k].2 := by
  unfold catB
  rw [List.take_succ_eq_append_getElem h, List.flatMap_append]
  simp
theorem catB_mono (ps : List Part) (k m : Nat) (h : k ≤ m) : (catB ps k).length ≤ (catB ps m).length := by
  unfold catB
  have : ps.take k = (ps.take m).take k := by rw [List.take_take, Nat.min_eq_left h]
  rw [this]
  conv => rhs; rw [← List.take_append_drop k (ps.take m), List.flatMap_append]
  simp

theorem part_cell {w : World} {bL : Nat} {ps : List Part} {Pb : Nat → Prop} (hbL : Blk w bL 49 (ps.map Prod.fst).toArray) (hps : ∀ p ∈ ps, Rd w Pb p.1 p.2.length (bc p.2)) (k : Nat) (h : k < ps.length) :
    ∃ ao cap, ps[k].1 = .slice ao ps[k].2.length cap ∧ w.cell? ⟨bL, k, none⟩ = some (.slice ao ps[k].2.length cap) := by
  obtain ⟨_, ao, cap, hv, _⟩ := hps ps[k] (List.getElem_mem _)
  refine ⟨ao, cap, hv, ?_⟩
  rw [hbL.cell, ← hv]
  simp [h]

theorem put_no (w : World) (g bL : Nat) (ps : List Part) (bs : List UInt8) (v : Value) (hW : Blk w g 51 #[v]) (hO : Own w 5 1 v bs.length (bc bs)) (hbL : Blk w bL 49 (ps.map Prod.fst).toArray)
    (Pb : Nat → Prop) (hps : ∀ p ∈ ps, Rd w Pb p.1 p.2.length (bc p.2)) (hlen : bs.length ≤ 4194304) (hn : ps.length ≤ 2) (hsm : ∀ p ∈ ps, p.2.length ≤ 140737488351232) (hno : 4194304 < bs.length + (catB ps ps.length).length) :
    Calls Try.prog 24 #[.pointer (some ⟨g, 0, none⟩), .slice (some ⟨bL, 0, none⟩) ps.length ps.length] w fun e w' => e = .returned (.int .i64 40) ∧ w = w' := by
  obtain ⟨ao, cap, rfl, hnc, hcm, hform⟩ := hO.form
  have hc := hW.cell 0
  simp at hc
  go_enter Try.func24, Try.ntmps24
  go_wp2_with fail
  go_loop [5, 17] (fun x i => ∃ k : Nat, k ≤ ps.length ∧ i = .int .i64 k ∧ x = .int .i64 ((bs.length + (catB ps k).length : Nat) : Int) ∧ bs.length + (catB ps k).length ≤ 4194304) (fun _ i => ps.length - (intOf i).toNat)
  case atStart => exact ⟨0, by omega, rfl, by simp [catB], by simpa [catB] using hlen⟩
  case round =>
    obtain ⟨k, hk, rfl, rfl, hs⟩ := hrel
    by_cases hlt : k < ps.length
    · obtain ⟨ao1, cap1, hv1, hc1⟩ := part_cell hbL hps k hlt
      have hsm1 := hsm ps[k] (List.getElem_mem _)
      have hsucc := catB_succ ps k hlt
      have hl1 : (catB ps (k + 1)).length = (catB ps k).length + ps[k].2.length := by rw [hsucc, List.length_append]
      have HL := Lib.hid hl1
      clear hsucc hl1 hv1
      generalize ps[k].2.length = m at *
      generalize (catB ps k).length = q at *
      by_cases hfit : m ≤ 4194304 - (bs.length + q)
      · go_wp2
        go_round
        case rel => exact ⟨k + 1, by omega, by go_num, by rw [HL.out]; go_num, by rw [HL.out]; omega⟩
        case measure => simp [intOf]; omega
      · go_wp2
        go_ret
        exact ⟨rfl, rfl⟩
    · obtain rfl : k = ps.length := by omega
      omega

end Go.Proofs.Ytahemhdmlfejlab
