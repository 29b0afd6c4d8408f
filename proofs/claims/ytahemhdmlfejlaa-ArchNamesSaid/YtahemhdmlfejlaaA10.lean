/- The walk of ArchNames. No conditions. -/
import Derived.Test.YtahemhdmlfejlaaA9
namespace Go.Proofs.Ytahemhdmlfejlaa
open Go.ChangeShapes Go.WideShapes Go.ChangeAt Go.RowKit

def good4 (k : Nat) : ByteArray := if k = 0 then ⟨#[110, 111, 97, 114, 99, 104]⟩ else if k = 1 then ⟨#[120, 56, 54, 95, 54, 52]⟩ else if k = 2 then ⟨#[105, 54, 56, 54]⟩ else ⟨#[97, 97, 114, 99, 104, 54, 52]⟩
def bad4 (k : Nat) : ByteArray := if k = 0 then ⟨#[]⟩ else if k = 1 then ⟨#[120, 56, 54, 45, 54, 52]⟩ else if k = 2 then ⟨#[110, 111, 97, 114, 99]⟩ else ⟨#[73, 54, 56, 54]⟩

theorem good_facts (k : Nat) (h : k < 4) : parseL (good4 k).toList = k + 1 ∧ parseE (good4 k).toList = 0 ∧ nameOf (k + 1) = good4 k ∧ machB (k + 1) = decide (0 < k) ∧ followsB (k + 1) (k + 1) = true ∧ apartB (k + 1) (k + 1) = false ∧ fitsB (k + 1) (k + 1) = decide (0 < k) := by
  have h4 : k = 0 ∨ k = 1 ∨ k = 2 ∨ k = 3 := by omega
  rcases h4 with rfl | rfl | rfl | rfl <;> decide +kernel
theorem bad_facts (k : Nat) (h : k < 4) : parseL (bad4 k).toList = 0 ∧ parseE (bad4 k).toList = 5 := by
  have h4 : k = 0 ∨ k = 1 ∨ k = 2 ∨ k = 3 := by omega
  rcases h4 with rfl | rfl | rfl | rfl <;> decide +kernel

theorem good_cell (w1 wr : World) (c : Array Value) (hc : c = #[.string (good4 0), .string (good4 1), .string (good4 2), .string (good4 3)]) (hb : Below (w1.heap.size + 1) (w1.alloc (.cells c 9)) wr) (k : Nat) (h : k < 4) : wr.cell? ⟨w1.heap.size, k, none⟩ = some (.string (good4 k)) := by
  rw [hb.cell (p := ⟨w1.heap.size, k, none⟩) (by simp), cell_of_row _ _ k _ _ _ (heap_alloc_new w1 _), hc]
  have h4 : k = 0 ∨ k = 1 ∨ k = 2 ∨ k = 3 := by omega
  rcases h4 with rfl | rfl | rfl | rfl <;> rfl
theorem bad_cell (w1 wr : World) (c : Array Value) (hc : c = #[.string (bad4 0), .string (bad4 1), .string (bad4 2), .string (bad4 3)]) (hb : Below (w1.heap.size + 1) (w1.alloc (.cells c 9)) wr) (k : Nat) (h : k < 4) : wr.cell? ⟨w1.heap.size, k, none⟩ = some (.string (bad4 k)) := by
  rw [hb.cell (p := ⟨w1.heap.size, k, none⟩) (by simp), cell_of_row _ _ k _ _ _ (heap_alloc_new w1 _), hc]
  have h4 : k = 0 ∨ k = 1 ∨ k = 2 ∨ k = 3 := by omega
  rcases h4 with rfl | rfl | rfl | rfl <;> rfl

theorem bel_new {B : Nat} {a b c : World} (h : Below B a b) (hB : B ≤ b.heap.size) (k : Below b.heap.size b c) : Below B a c := h.trans (k.mono hB)

set_option maxRecDepth 100000 in
set_option maxHeartbeats 1000000 in
theorem names_walk (w : World) : Calls Try.prog 4 #[] w fun e w' => e = .returned (.bool true) ∧ Below w.heap.size w w' := by
  go_enter Try.func4, Try.ntmps4
  go_wp2_with (go_at_call 7; refine (works_any _).mono ?_; rintro e w1 ⟨rfl, hg1⟩)
  go_loopw [19] (fun i wr => ∃ k : Nat, k ≤ 4 ∧ i = .int .i64 k ∧ Below (w1.heap.size + 1) (w1.alloc (.cells #[.string ⟨#[110, 111, 97, 114, 99, 104]⟩, .string ⟨#[120, 56, 54, 95, 54, 52]⟩, .string ⟨#[105, 54, 56, 54]⟩, .string ⟨#[97, 97, 114, 99, 104, 54, 52]⟩] 9)) wr) (fun i _ => 4 - (intOf i).toNat)
  case atStart => exact ⟨0, by omega, rfl, Below.refl _ _⟩
  case round =>
    obtain ⟨k, hk, rfl, hb⟩ := hrel
    by_cases hlt : k < 4
    · have hcell := good_cell w1 wr _ rfl hb k hlt
      obtain ⟨f1, f2, f3, f4, f5, f6, f7⟩ := good_facts k hlt
      have HB := Lib.hid hb
      have hsz := hb.size
      simp at hsz
      clear hb
      go_wp2_with (first | (go_at_call 10; refine (parse_any _ _).mono ?_; rintro e w2 ⟨rfl, hg2⟩) | (go_at_call 11; refine (name_any _ _).mono ?_; rintro e w2 ⟨rfl, hg2⟩) | (go_at_call 12; refine (machine_any _ _).mono ?_; rintro e w' ⟨rfl, rfl⟩) | (go_at_call 13; refine (fits_any _ _ _).mono ?_; rintro e w2 ⟨rfl, hg2⟩) | (go_at_call 8; refine (apart_any _ _ _).mono ?_; rintro e w' ⟨rfl, rfl⟩) | (go_at_call 9; refine (follows_any _ _ _).mono ?_; rintro e w' ⟨rfl, rfl⟩))
      go_roundw
      case rel => exact ⟨k + 1, by omega, by go_num, bel_new HB.out (by omega) (by repeat (first | assumption | refine bel_trans ?_ (by assumption)))⟩
      case measure => simp [intOf]; omega
    · obtain rfl : k = 4 := by omega
      have hsz := hb.size
      simp at hsz
      have HB := Lib.hid hb
      clear hb
      go_wp2
      obtain ⟨wo, rfl⟩ : ∃ wo : World, wo = wr := ⟨_, rfl⟩
      go_loopw [73] (fun i wr => ∃ k : Nat, k ≤ 4 ∧ i = .int .i64 k ∧ Below (wo.heap.size + 1) (wo.alloc (.cells #[.string ⟨#[]⟩, .string ⟨#[120, 56, 54, 45, 54, 52]⟩, .string ⟨#[110, 111, 97, 114, 99]⟩, .string ⟨#[73, 54, 56, 54]⟩] 9)) wr) (fun i _ => 4 - (intOf i).toNat)
      case atStart => exact ⟨0, by omega, rfl, Below.refl _ _⟩
      case round =>
        obtain ⟨k, hk, rfl, hb⟩ := hrel
        have hsz2 := hb.size
        simp at hsz2
        by_cases hlt : k < 4
        · have hcell := bad_cell wo wr _ rfl hb k hlt
          obtain ⟨f1, f2⟩ := bad_facts k hlt
          have HB2 := Lib.hid hb
          clear hb
          go_wp2_with (go_at_call 10; refine (parse_any _ _).mono ?_; rintro e w2 ⟨rfl, hg2⟩)
          go_roundw
          case rel => first | exact ⟨k + 1, by omega, by go_num, bel_new HB2.out (by omega) hg2⟩ | ((repeat apply Exists.intro); exact ⟨⟨k + 1, by omega, by go_num, bel_new HB2.out (by omega) hg2⟩, rfl⟩)
          case measure => simp [intOf]; omega
        · obtain rfl : k = 4 := by omega
          have HB2 := Lib.hid hb
          clear hb
          have k1 := nameOf_not 0 (by omega)
          have k2 := nameOf_not 5 (by omega)
          have k3 := nameOf_not 255 (by omega)
          have k4 : machB 0 = false := by decide
          have k5 : machB 5 = false := by decide
          have k6 : fitsB 0 0 = false := by decide
          have k7 : fitsB 5 5 = false := by decide
          have k8 : fitsB 1 1 = false := by decide
          have k9 : apartB 0 2 = false := by decide
          have k10 : followsB 0 0 = false := by decide
          have k11 : followsB 1 5 = false := by decide
          have k12 : fitsB 4 2 = false := by decide
          have k13 : scoreOf 2 255 = 0 := by decide
          go_wp2_with (first | (go_at_call 11; refine (name_any _ _).mono ?_; rintro e w2 ⟨rfl, hg2⟩) | (go_at_call 12; refine (machine_any _ _).mono ?_; rintro e w' ⟨rfl, rfl⟩) | (go_at_call 13; refine (fits_any _ _ _).mono ?_; rintro e w2 ⟨rfl, hg2⟩) | (go_at_call 8; refine (apart_any _ _ _).mono ?_; rintro e w' ⟨rfl, rfl⟩) | (go_at_call 9; refine (follows_any _ _ _).mono ?_; rintro e w' ⟨rfl, rfl⟩) | (go_at_call 14; refine (score_any _ _ _).mono ?_; rintro e w2 ⟨rfl, hg2⟩))
          go_ret
          refine ⟨rfl, ?_⟩
          have b1 : Below w.heap.size w wo := (hg1.alloc hg1.size _).trans (HB.out.mono (by have := hg1.size; omega))
          have b2 : Below w.heap.size w wr := (b1.alloc b1.size _).trans (HB2.out.mono (by have := b1.size; omega))
          exact bel_new b2 b2.size (by repeat (first | assumption | refine bel_trans ?_ (by assumption)))

end Go.Proofs.Ytahemhdmlfejlaa
