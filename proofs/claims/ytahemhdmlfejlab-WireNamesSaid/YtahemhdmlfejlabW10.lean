/- Contracts of package wire: the reader's number. -/
import Derived.Test.YtahemhdmlfejlabW8
import Derived.Deep.QuietTactic
namespace Go.Proofs.Ytahemhdmlfejlab
open Go.ChangeShapes Go.WideShapes Go.ChangeAt Go.RowKit
set_option maxRecDepth 100000

def byteAt (s : ByteArray) (i : Nat) : Nat := (s.data.toList.getD i 0).toNat
theorem byteAt_lt (s : ByteArray) (i : Nat) : byteAt s i < 256 := (s.data.toList.getD i 0).toNat_lt

/-- A number read at 'at', i bytes of which were gone over: the number and how many bytes, or what is wrong. -/
def rdN (s : ByteArray) (at_ : Nat) (lo hi : Int) : Nat → Nat → Nat → Sum (Nat × Nat) Int
  | 0, _, _ => .inr 20
  | f + 1, i, n =>
    if s.size ≤ at_ + i then .inr 8
    else if 128 ≤ byteAt s (at_ + i) then rdN s at_ lo hi f (i + 1) (n + byteAt s (at_ + i) % 128 * 128 ^ i)
    else if 0 < i ∧ byteAt s (at_ + i) = 0 then .inr 11
    else if ((n + byteAt s (at_ + i) % 128 * 128 ^ i : Nat) : Int) < lo ∨ hi < ((n + byteAt s (at_ + i) % 128 * 128 ^ i : Nat) : Int) then .inr 20
    else .inl (n + byteAt s (at_ + i) % 128 * 128 ^ i, i + 1)

theorem index_at (s : ByteArray) (i : Nat) (h : i < s.size) (W : World) : (Instr.index 9 (.string s) (.int .i64 (i : Int))).run Try.prog W = .ok (.int .u8 (byteAt s i : Nat)) W := by
  have hg : s[i]? = some (s.data.toList.getD i 0) := by
    rw [getElem?_pos s i h]
    congr 1
    have h2 : i < s.data.size := h
    simp only [List.getD, Array.getElem?_toList, Array.getElem?_eq_getElem h2]
    rfl
  simp [Instr.index, asIntOf, run_underlying Try.underlying9, byteAt, hg]

theorem int_of_bits (a : Nat) (ha : a < 9223372036854775808) : (BitVec.ofInt 64 (a : Int)).toNat = a := by
  rw [BitVec.ofInt_natCast, BitVec.toNat_ofNat]; exact Nat.mod_eq_of_lt (by omega)
theorem or_nat (a b : Nat) (ha : a < 9223372036854775808) (hb : b < 9223372036854775808) : bits .or .i64 (a : Int) (b : Int) = ((a ||| b : Nat) : Int) := by
  have hx : a ||| b < 2 ^ 63 := Nat.or_lt_two_pow (by omega) (by omega)
  show IntKind.i64.wrap ((BitVec.ofInt 64 (a : Int) ||| BitVec.ofInt 64 (b : Int)).toNat : Int) = _
  rw [BitVec.toNat_or, int_of_bits a ha, int_of_bits b hb, IntKind.wrap_i64]
  omega

theorem pow_le9 (i : Nat) (h : i < 9) : 128 ^ i ≤ 72057594037927936 := by
  have : 128 ^ i ≤ 128 ^ 8 := Nat.pow_le_pow_right (by omega) (by omega)
  simpa using this

theorem acc_val (n b i : Nat) (hb : b < 256) (hi : i < 9) (hn : n < 128 ^ i) : bits BinOp.or IntKind.i64 (n : Int) (wrap64 (wrap64 (bits BinOp.and IntKind.u8 (b : Int) 127) * 2 ^ (7 * i))) = ((n + b % 128 * 128 ^ i : Nat) : Int) ∧ n + b % 128 * 128 ^ i < 128 ^ (i + 1) := by
  have h1 : bits BinOp.and IntKind.u8 (b : Int) 127 = ((b % 128 : Nat) : Int) := by
    rw [show (127 : Int) = ((127 : Nat) : Int) from rfl, u8_and_nat b 127 hb (by omega)]
    congr 1
    exact Nat.and_two_pow_sub_one_eq_mod b 7
  have hp := pow_le9 i hi
  have e2 : (2 : Int) ^ (7 * i) = ((128 ^ i : Nat) : Int) := by
    rw [Int.pow_mul]
    simp
  have hm : b % 128 * 128 ^ i ≤ 127 * 72057594037927936 := Nat.mul_le_mul (by omega) hp
  have hx : n + b % 128 * 128 ^ i < 128 ^ (i + 1) := by
    have : b % 128 * 128 ^ i ≤ 127 * 128 ^ i := Nat.mul_le_mul_right _ (by omega)
    rw [Nat.pow_succ]
    omega
  refine ⟨?_, hx⟩
  have e1 : wrap64 ((b % 128 : Nat) : Int) = ((b % 128 : Nat) : Int) := by unfold wrap64; omega
  have e3 : wrap64 ((b % 128 * 128 ^ i : Nat) : Int) = ((b % 128 * 128 ^ i : Nat) : Int) := by unfold wrap64; omega
  rw [h1, e1, e2, ← Int.natCast_mul, e3, or_nat _ _ (by omega) (by omega)]
  congr 1
  rw [Nat.or_comm, nat_join (7 * i) _ n ?_ ?_, Nat.add_comm]
  · rw [Nat.pow_mul]
    exact Nat.mul_mod_left _ _
  · rw [Nat.pow_mul]
    exact hn

/-- How number ends. -/
def NumEnd (g : Nat) (s : ByteArray) (at_ : Nat) (w : World) : Sum (Nat × Nat) Int → Ending → World → Prop
  | .inl (n, k), e, w' => e = .returned (.int .i64 n) ∧ Blk w' g 56 #[.string s, .int .i64 ((at_ + k : Nat) : Int), .int .i64 0] ∧ Touch (· = g) w w'
  | .inr x, e, w' => e = .panicked [{ v := .iface 58 (.agg #[.int .i64 at_, .int .i64 x]), recovered := false }] ∧ Blk w' g 56 #[.string s, .int .i64 at_, .int .i64 0] ∧ Touch (· = g) w w'

set_option maxHeartbeats 1000000 in
theorem number_walk (g : Nat) (s : ByteArray) (at_ : Nat) (lo hi : Int) (w : World) (hb : Blk w g 56 #[.string s, .int .i64 at_, .int .i64 0]) (hat : at_ ≤ s.size) (hs : s.size ≤ 140737488351232) :
    Calls Try.prog 30 #[.pointer (some ⟨g, 0, none⟩), .int .i64 lo, .int .i64 hi] w (NumEnd g s at_ w (rdN s at_ lo hi 9 0 0)) := by
  have hc0 := hb.cell 0
  have hc1 := hb.cell 1
  have hf1 := hb.frozen 1
  simp at hc0 hc1
  go_enter Try.func30, Try.ntmps30
  go_wp2_with fail
  go_loopw [7, 10] (fun x y wr => ∃ (i n : Nat), i ≤ 9 ∧ y = .int .i64 i ∧ x = .int .i64 n ∧ n < 128 ^ i ∧ rdN s at_ lo hi (9 - i) i n = rdN s at_ lo hi 9 0 0 ∧ ∃ q, wr = w.drewN q) (fun _ y _ => 9 - (intOf y).toNat)
  case atStart => exact ⟨0, 0, by omega, rfl, rfl, by simp, rfl, 0, rfl⟩
  case round =>
    obtain ⟨i, n, hi9, rfl, rfl, hn, hres, q, rfl⟩ := hrel
    have HR := Lib.hid hres
    clear hres
    by_cases hlt : i < 9
    · have HS : Hid (rdN s at_ lo hi (9 - i) i n = _) := Lib.hid (by rw [show 9 - i = (8 - i) + 1 from by omega, rdN])
      by_cases h8 : s.size ≤ at_ + i
      · go_wp2_with fail
        go_quiet (fail)
        go_wp2_with fail
        refine ⟨rfl, ?_⟩
        rw [← HR.out, HS.out, if_pos h8]
        exact ⟨rfl, hb.drewN _, (Touch.refl _ _).drewN _⟩
      · have hwr : IntKind.i64.wrap ((at_ : Int) + (i : Int)) = (at_ : Int) + (i : Int) := by rw [IntKind.wrap_i64]; omega
        have hix := index_at s (at_ + i) (by omega)
        rw [Int.natCast_add] at hix
        have hb256 := byteAt_lt s (at_ + i)
        obtain ⟨hv, hn2⟩ := acc_val n (byteAt s (at_ + i)) i hb256 hlt hn
        have HS2 : Hid (rdN s at_ lo hi (9 - i) i n = _) := Lib.hid (HS.out.trans (if_neg h8))
        clear HS
        generalize byteAt s (at_ + i) = b at *
        generalize n + b % 128 * 128 ^ i = m at *
        by_cases hb128 : 128 ≤ b
        · have hbi : (128 : Int) ≤ (b : Int) := by omega
          go_wp2_with fail
          go_quiet (fail)
          go_wp2_with fail
          go_quiet (fail)
          go_wp2_with fail
          go_roundw
          case rel =>
            refine ⟨i + 1, m, by omega, by go_num, rfl, hn2, ?_, _, rfl⟩
            rw [← HR.out, HS2.out, if_pos hb128, show 9 - (i + 1) = 8 - i from by omega]
          case measure => simp [intOf]; omega
        · have hbi : (b : Int) < 128 := by omega
          have HS3 : Hid (rdN s at_ lo hi (9 - i) i n = _) := Lib.hid (HS2.out.trans (if_neg hb128))
          clear HS2
          by_cases hw0 : 0 < i ∧ b = 0
          · obtain ⟨hi0, hb0⟩ := hw0
            have hi0' : (0 : Int) < (i : Int) := by omega
            have hbb : ((b : Int) == 0) = true := by simpa using hb0
            go_wp2_with fail
            go_quiet (fail)
            go_wp2_with fail
            go_quiet (fail)
            go_wp2_with fail
            refine ⟨rfl, ?_⟩
            rw [← HR.out, HS3.out, if_pos ⟨hi0, hb0⟩]
            exact ⟨rfl, hb.drewN _, (Touch.refl _ _).drewN _⟩
          · have HS4 : Hid (rdN s at_ lo hi (9 - i) i n = _) := Lib.hid (HS3.out.trans (if_neg hw0))
            clear HS3
            have hcase : (decide (0 < i) = false) ∨ ((0 : Int) < (i : Int) ∧ ((b : Int) == 0) = false) := by
              by_cases h : 0 < i
              · exact .inr ⟨by omega, by simp; omega⟩
              · exact .inl (by simp; omega)
            clear hw0
            rcases hcase with hz | ⟨hz, hz2⟩
            all_goals
              by_cases hlo : (m : Int) < lo
              · go_wp2_with fail
                go_quiet (fail)
                go_wp2_with fail
                go_quiet (fail)
                go_wp2_with fail
                refine ⟨rfl, ?_⟩
                rw [← HR.out, HS4.out, if_pos (.inl hlo)]
                exact ⟨rfl, hb.drewN _, (Touch.refl _ _).drewN _⟩
              · by_cases hhi : hi < (m : Int)
                · have hlo' : decide ((m : Int) < lo) = false := by simpa using hlo
                  go_wp2_with fail
                  go_quiet (fail)
                  go_wp2_with fail
                  go_quiet (fail)
                  go_wp2_with fail
                  refine ⟨rfl, ?_⟩
                  rw [← HR.out, HS4.out, if_pos (.inr hhi)]
                  exact ⟨rfl, hb.drewN _, (Touch.refl _ _).drewN _⟩
                · have hlo' : decide ((m : Int) < lo) = false := by simpa using hlo
                  have hhi' : decide (hi < (m : Int)) = false := by simpa using hhi
                  go_wp2_with fail
                  go_quiet (fail)
                  go_wp2_with fail
                  go_quiet (fail)
                  go_wp2_with fail
                  go_ret
                  rw [← HR.out, HS4.out, if_neg (by omega)]
                  refine ⟨rfl, ?_, Touch.setCell (F := fun x => x = g) ((Touch.refl _ _).drewN _) (p := ⟨g, 1, none⟩) (fun _ => rfl) _⟩
                  have h := (hb.drewN (q + 0)).set_ 1 (.int .i64 ((at_ + (i + 1) : Nat) : Int))
                  rw [Int.natCast_add] at h ⊢
                  exact h
    · obtain rfl : i = 9 := by omega
      go_wp2_with fail
      refine ⟨rfl, ?_⟩
      rw [← HR.out]
      exact ⟨rfl, hb.drewN _, (Touch.refl _ _).drewN _⟩

end Go.Proofs.Ytahemhdmlfejlab
