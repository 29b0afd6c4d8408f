/- Contracts of package wire: number. No conditions but the number's range. -/
import Derived.Test.YtahemhdmlfejlabRows
import Derived.Test.YtahemhdmlfejlabMem
namespace Go.Proofs.Ytahemhdmlfejlab
open Go.ChangeShapes Go.WideShapes Go.ChangeAt Go.RowKit

def numL (n : Nat) : List UInt8 := if n < 128 then [UInt8.ofNat n] else UInt8.ofNat (n % 128 + 128) :: numL (n / 128)
termination_by n
decreasing_by omega

def bc (l : List UInt8) : List Value := l.map fun b => Value.int .u8 (b.toNat : Int)
theorem bc_len (l : List UInt8) : (bc l).length = l.length := by simp [bc]
theorem bc_app (a b : List UInt8) : bc (a ++ b) = bc a ++ bc b := by simp [bc]
theorem bc_one (l : List UInt8) : ∀ u ∈ bc l, u.oneCell' = true := by
  intro u hu
  obtain ⟨b, _, rfl⟩ := List.mem_map.1 hu
  rfl
theorem bc_get (l : List UInt8) (j : Nat) (h : j < l.length) : (bc l)[j]? = some (.int .u8 (l[j].toNat : Int)) := by simp [bc, h]

theorem numL_small (n : Nat) (h : n < 128) : numL n = [UInt8.ofNat n] := by rw [numL, if_pos h]
theorem numL_big (n : Nat) (h : 128 ≤ n) : numL n = UInt8.ofNat (n % 128 + 128) :: numL (n / 128) := by rw [numL, if_neg (by omega)]
theorem numL_pos (n : Nat) : 1 ≤ (numL n).length := by rw [numL]; split <;> simp
theorem numL_le (k : Nat) : ∀ n : Nat, n < 128 ^ (k + 1) → (numL n).length ≤ k + 1 := by
  induction k with
  | zero => intro n h; rw [numL_small n (by simpa using h)]; simp
  | succ k ih =>
    intro n h
    by_cases hs : n < 128
    · rw [numL_small n hs]; simp
    · rw [numL_big n (by omega)]
      have := ih (n / 128) (by rw [Nat.div_lt_iff_lt_mul (by omega)]; rw [Nat.pow_succ] at h; exact h)
      simp only [List.length_cons]
      omega
theorem numL_9 (n : Nat) (h : n < 9223372036854775808) : (numL n).length ≤ 9 := numL_le 8 n (by omega)

theorem Tryinfo5 : (Try.prog.info? 5).map (fun i => (i.zero, i.size, i.bytes)) = some (some (.int .u8 0), 1, 1) := by kernel_rfl

theorem or128 : ∀ k : Nat, k < 256 → k ||| 128 = k % 128 + 128 := by decide +kernel
theorem byte_or (m : Nat) : bits BinOp.or IntKind.u8 ((m : Int) % 256) 128 = ((UInt8.ofNat (m % 128 + 128)).toNat : Int) := by
  have h : ((m : Int) % 256) = ((m % 256 : Nat) : Int) := by omega
  rw [h, show (128 : Int) = ((128 : Nat) : Int) from rfl, u8_or_nat (m % 256) 128 (by omega) (by omega), or128 _ (by omega)]
  simp
  omega
theorem byte_small (m : Nat) (h : m < 128) : (m : Int) = ((UInt8.ofNat m).toNat : Int) := by
  simp
  omega

set_option maxRecDepth 100000 in
theorem number_any (n : Nat) (w : World) (hn : n ≤ 9223372036854775807) : Calls Try.prog 25 #[.int .i64 n] w fun e w' => ∃ v, e = .returned v ∧ Own w' 5 1 v (numL n).length (bc (numL n)) ∧ Below w.heap.size w w' ∧ (∀ k, v.ownBlock = some k → w.heap.size ≤ k ∧ k < w'.heap.size) := by
  obtain ⟨i5, hi, hz0, hz1, hz2⟩ := info_parts Tryinfo5
  go_enter Try.func25, Try.ntmps25
  go_wp2
  go_loopw [0, 3] (fun x v wr => ∃ (m : Nat) (acc : List UInt8), x = .int .i64 m ∧ m ≤ n ∧ Own wr 5 1 v acc.length (bc acc) ∧ acc ++ numL m = numL n ∧ Below w.heap.size w wr ∧ (∀ k, v.ownBlock = some k → w.heap.size ≤ k ∧ k < wr.heap.size)) (fun x _ _ => (intOf x).toNat)
  case atStart => exact ⟨n, [], rfl, Nat.le_refl _, Own.nil _ _ _, rfl, Below.refl _ _, fun k hk => by simp [Value.ownBlock] at hk⟩
  case round =>
    obtain ⟨m, acc, rfl, hm, hown, hacc, hb, hv⟩ := hrel
    have hlen : acc.length + 1 ≤ 9 := by
      have h9 := numL_9 n (by omega)
      rw [← hacc, List.length_append] at h9
      have := numL_pos m
      omega
    have HA := Lib.hid hacc
    clear hacc
    by_cases hlt : 128 ≤ m
    · go_wp2_with (at_builtin; refine wpList_append_O _ rfl (.tmp 6) (.tmp 10) _ _ rfl 5 i5 _ 1 1 Try.underlying49 hi hz0 hz1 hz2 rfl (by omega) u3 _ _ rfl (hown.alloc _) (bc_one _) _ 1 [_] rfl (src_new wr Try.underlying49 5 _ rfl) (by simp only [maxLen]; omega) (by omega) ?_; intro v1 w1 hown1 hg1 hat1 hlt1)
      go_roundw
      case rel =>
        refine ⟨m / 128, acc ++ [UInt8.ofNat (m % 128 + 128)], by go_num, by omega, ?_, ?_, ?_, ?_⟩
        · rw [byte_or] at hown1
          rw [bc_app, List.length_append]
          exact hown1
        · rw [← HA.out, numL_big m hlt]
          simp
        · exact (hb.alloc hb.size _).grown hg1 (by have := hb.size; simp; omega) (fun k hk => (hv k hk).1)
        · exact at_append hv hat1 (by have := hb.size; simp; omega) hlt1
      case measure => simp [intOf]; omega
    · go_wp2_with (at_builtin; refine wpList_append_O _ rfl (.tmp 14) (.tmp 17) _ _ rfl 5 i5 _ 1 1 Try.underlying49 hi hz0 hz1 hz2 rfl (by omega) u3 _ _ rfl (hown.alloc _) (bc_one _) _ 1 [_] rfl (src_new wr Try.underlying49 5 _ rfl) (by simp only [maxLen]; omega) (by omega) ?_; intro v1 w1 hown1 hg1 hat1 hlt1)
      go_ret
      rw [byte_small m (by omega)] at hown1
      refine ⟨v1, rfl, ?_, ?_, ?_⟩
      · rw [← HA.out, numL_small m (by omega), bc_app, List.length_append]
        exact hown1
      · exact (hb.alloc hb.size _).grown hg1 (by have := hb.size; simp; omega) (fun k hk => (hv k hk).1)
      · exact at_append hv hat1 (by have := hb.size; simp; omega) hlt1

end Go.Proofs.Ytahemhdmlfejlab
