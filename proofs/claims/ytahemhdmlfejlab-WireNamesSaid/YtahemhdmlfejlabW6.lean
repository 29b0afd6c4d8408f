/- Contracts of the reference's writer. -/
import Derived.Test.YtahemhdmlfejlabW5
import Derived.Deep.RegionHeld3
import Derived.BigQuiet
import Derived.Deep.RegionWith
import Derived.Laws.Concat
namespace Go.Proofs.Ytahemhdmlfejlab
open Go.ChangeShapes Go.WideShapes Go.ChangeAt Go.RowKit

theorem conv_one (w : World) (u : Int) (h0 : 0 ≤ u) (h1 : u < 256) : (convert 49 9 (.slice (some ⟨w.heap.size, 0, none⟩) 1 1)).run Try.prog (w.alloc (.cells #[.int .u8 u] 5)) = .ok (.string ⟨#[UInt8.ofNat u.toNat]⟩) (w.alloc (.cells #[.int .u8 u] 5)) := by
  have h := run_convert_bytes_back (P := Try.prog) (w.alloc (.cells #[.int .u8 u] 5)) 49 9 5 ⟨w.heap.size, 0, none⟩ 1 [UInt8.ofNat u.toNat] Try.underlying49 Try.underlying5 Try.underlying9 (fun j hj => by
    have hj0 : j = 0 := by simpa using hj
    subst hj0
    have hb := Blk.new w 5 #[.int .u8 u]
    have ha : (⟨w.heap.size, 0, none⟩ : Addr).add 0 = ⟨w.heap.size, 0, none⟩ := rfl
    rw [ha, hb.cell]
    simp
    omega)
  exact h

theorem conv_at (W : World) (g : Nat) (u : Int) (h0 : 0 ≤ u) (h1 : u < 256) (hc : W.cell? ⟨g, 0, none⟩ = some (.int .u8 u)) : (convert 49 9 (.slice (some ⟨g, 0, none⟩) 1 1)).run Try.prog W = .ok (.string ⟨#[UInt8.ofNat u.toNat]⟩) W := by
  refine run_convert_bytes_back (P := Try.prog) W 49 9 5 ⟨g, 0, none⟩ 1 [UInt8.ofNat u.toNat] Try.underlying49 Try.underlying5 Try.underlying9 (fun j hj => ?_)
  have hj0 : j = 0 := by simpa using hj
  subst hj0
  have ha : (⟨g, 0, none⟩ : Addr).add 0 = ⟨g, 0, none⟩ := rfl
  rw [ha, hc]
  simp
  omega
theorem num_rem (n : Nat) (h : n ≤ 9223372036854775807) : IntKind.u8.wrap (IntKind.i64.wrap ((n : Int).tmod 128 + 128)) = ((n % 128 + 128 : Nat) : Int) := by
  have h1 : (n : Int).tmod 128 = ((n % 128 : Nat) : Int) := by
    rw [Int.tmod_eq_emod_of_nonneg (by omega)]
    omega
  rw [h1, IntKind.wrap_i64, IntKind.wrap_u8']
  omega

theorem num_str (n : Nat) (h : ¬ n < 128) : ((⟨#[UInt8.ofNat (n % 128) + 128]⟩ : ByteArray) ++ ⟨(numL (n / 128)).toArray⟩) = ⟨(numL n).toArray⟩ := by
  rw [numL_big n (by omega)]
  have : UInt8.ofNat (n % 128) + 128 = UInt8.ofNat (n % 128 + 128) := by simp
  rw [this]
  exact ByteArray.mk_append_mk [UInt8.ofNat (n % 128 + 128)] (numL (n / 128))

set_option maxRecDepth 100000 in
theorem refNum_any (k : Nat) : ∀ (n : Nat) (w : World), n ≤ k → n ≤ 9223372036854775807 → Calls Try.prog 27 #[.int .i64 n] w fun e w' => e = .returned (.string ⟨(numL n).toArray⟩) ∧ Below w.heap.size w w' := by
  induction k with
  | zero =>
    intro n w hk _
    obtain rfl : n = 0 := by omega
    have hc := conv_one w 0 (by omega) (by omega)
    go_enter Try.func27, Try.ntmps27
    go_wp2_with fail
    go_ret
    refine ⟨by rw [numL_small 0 (by omega)]; rfl, (Below.refl _ _).alloc (Nat.le_refl _) _⟩
  | succ k ih =>
    intro n w hk hb
    by_cases hn : n < 128
    · have hc := conv_one w (n : Int) (by omega) (by omega)
      go_enter Try.func27, Try.ntmps27
      go_wp2_with fail
      go_ret
      refine ⟨by rw [numL_small n hn]; rfl, (Below.refl _ _).alloc (Nat.le_refl _) _⟩
    · have hi := fun w => ih (n / 128) w (by omega) (by omega)
      have HI := Lib.hid hi
      clear hi ih
      have hr := num_rem n hb
      have hc : ∀ (W : World) (g : Nat), W.cell? ⟨g, 0, none⟩ = some (.int .u8 (IntKind.u8.wrap (IntKind.i64.wrap ((n : Int).tmod 128 + 128)))) → (convert 49 9 (.slice (some ⟨g, 0, none⟩) 1 1)).run Try.prog W = .ok (.string ⟨#[UInt8.ofNat (n % 128 + 128)]⟩) W := by
        intro W g h
        have := conv_at W g _ (by rw [hr]; omega) (by rw [hr]; omega) h
        rw [hr] at this
        exact this
      have hq : IntKind.i64.wrap ((n : Int) / 128) = ((n / 128 : Nat) : Int) := by rw [IntKind.wrap_i64]; omega
      have hsz := numL_9 (n / 128) (by omega)
      clear hr
      go_enter Try.func27, Try.ntmps27
      go_wp2_with fail
      go_region_with ((go_at_call 27; refine (HI.out _).mono ?_; rintro e w1 ⟨rfl, hb1⟩; have hk := fun g (h : g < _) => hb1.cell (p := ⟨g, 0, none⟩) h))
      all_goals
        go_wp2_with fail
        go_ret
      all_goals
        refine ⟨congrArg (fun s => Ending.returned (.string s)) (num_str n hn), ?_⟩
      · exact bel_trans ((Below.refl _ _).alloc (Nat.le_refl _) _).drew hb1
      · exact bel_trans ((Below.refl _ _).alloc (Nat.le_refl _) _).drew hb1
      · exact bel_trans (Below.refl _ _).drew (bel_trans hb1 ((Below.refl _ _).alloc (Nat.le_refl _) _))

end Go.Proofs.Ytahemhdmlfejlab
