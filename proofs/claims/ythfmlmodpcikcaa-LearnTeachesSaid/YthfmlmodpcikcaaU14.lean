/- Contracts of the law's own functions: holds. -/
import Derived.Test.YthfmlmodpcikcaaU13
import Derived.Test.YthfmlmodpcikcaaU9
import Derived.Laws.BitsLemmas
namespace Go.Proofs.Ythfmlmodpcikcaa
open Go.ChangeShapes Go.WideShapes Go.ChangeAt Go.RowKit Go.Maps Go.Deep
set_option maxRecDepth 100000

theorem i64_and1 (n : Int) : bits .and .i64 n 1 = n % 2 := by
  have h1 : (BitVec.ofInt 64 1).toNat = 2 ^ 1 - 1 := by decide
  have key : (BitVec.ofInt 64 n &&& BitVec.ofInt 64 1).toNat = (n % ((2 ^ 64 : Nat) : Int)).toNat % 2 ^ 1 := by
    rw [BitVec.toNat_and, BitVec.toNat_ofInt, h1, Nat.and_two_pow_sub_one_eq_mod]
  show IntKind.i64.wrap ((BitVec.ofInt 64 n &&& BitVec.ofInt 64 1).toNat : Nat) = n % 2
  rw [key, IntKind.wrap_i64]
  omega

/-- The bits of a number, as values of variables. -/
def bitA (m : Nat) (v : Nat) : Bool := bits .and .i64 ((m : Int) / 2 ^ v) 1 == 1

set_option maxHeartbeats 1000000 in
theorem holds_any (m : Nat) (c : List Int) (ao : Option Addr) (cap : Nat) (w : World) (_hm : m ≤ 1024) (hc : Ints w ao c) (hk : ∀ x ∈ c, 1 ≤ x.natAbs ∧ x.natAbs ≤ 10) (hl : c.length ≤ 9223372036854775807) :
    Calls Try.prog 23 #[.slice ao c.length cap, .int .i64 m] w fun e w' => e = .returned (.bool (holdsA (bitA m) c)) ∧ w = w' := by
  obtain ⟨T, hT⟩ : ∃ T, T = holdsA (bitA m) c := ⟨_, rfl⟩
  rw [← hT]
  have HT := Lib.hid hT
  have HC := Lib.hid hc
  have HK := Lib.hid hk
  clear hT hc hk
  go_enter Try.func23, Try.ntmps23
  go_wp2_with fail
  go_loop [5] (fun i => ∃ k : Nat, k ≤ c.length ∧ i = .int .i64 k ∧ Hid (T = holdsA (bitA m) (c.drop k))) (fun i => c.length - (intOf i).toNat)
  case atStart => exact ⟨0, by omega, rfl, HT⟩
  case round =>
    obtain ⟨k, hkl, rfl, HR⟩ := hrel
    by_cases hlt : k < c.length
    · obtain ⟨b, off, rfl, _, hcell⟩ := HC.out (by omega)
      have hck := hcell k hlt
      have hki : (k : Int) < (c.length : Int) := by omega
      have hxk := HK.out c[k] (List.getElem_mem _)
      have hrest := HR.out
      rw [List.drop_eq_getElem_cons hlt] at hrest
      have hr2 : T = (satA (bitA m) c[k] || holdsA (bitA m) (c.drop (k + 1))) := hrest
      generalize c[k] = x at *
      clear hcell hrest HR
      by_cases hp : 0 < x
      · have hs : satA (bitA m) x = bitA m (x.toNat - 1) := by
          unfold satA
          rw [if_pos hp]
          congr 1
          omega
        rw [hs] at hr2
        have hn2 : decide (x < 0) = false := by simp; omega
        by_cases hb : bits BinOp.and .i64 ((m : Int) / 2 ^ (x.toNat - 1)) 1 = 1
        · have hb2 : bitA m (x.toNat - 1) = true := by unfold bitA; rw [hb]; rfl
          rw [hb2] at hr2
          obtain rfl : T = true := hr2
          clear hs hb2
          go_wp2_with fail
          go_ret
          exact ⟨rfl, rfl⟩
        · have hb2 : bitA m (x.toNat - 1) = false := by unfold bitA; simpa using hb
          rw [hb2, Bool.false_or] at hr2
          have hb3 : (bits BinOp.and .i64 ((m : Int) / 2 ^ (x.toNat - 1)) 1 == 1) = false := hb2
          have HN := Lib.hid hr2
          clear hs hb2 hr2
          go_wp2_with fail
          go_round
          case rel => exact ⟨k + 1, by omega, by go_num, HN⟩
          case measure => simp [intOf]; omega
      · have hp2 : decide (0 < x) = false := by simpa using hp
        have hn : x < 0 := by omega
        have hs : satA (bitA m) x = !bitA m ((-x).toNat - 1) := by
          unfold satA
          rw [if_neg hp, if_pos hn]
          congr 2
          omega
        rw [hs] at hr2
        have h01 := i64_and1 ((m : Int) / 2 ^ ((-x).toNat - 1))
        by_cases hb : bits BinOp.and .i64 ((m : Int) / 2 ^ ((-x).toNat - 1)) 1 = 0
        · have hb2 : bitA m ((-x).toNat - 1) = false := by unfold bitA; rw [hb]; rfl
          rw [hb2] at hr2
          obtain rfl : T = true := hr2
          have hb3 : (bits BinOp.and .i64 ((m : Int) / 2 ^ ((-x).toNat - 1)) 1 == 0) = true := by rw [hb]; rfl
          clear hs hb2 h01 hb
          go_wp2_with fail
          go_ret
          exact ⟨rfl, rfl⟩
        · have hb4 : bits BinOp.and .i64 ((m : Int) / 2 ^ ((-x).toNat - 1)) 1 = 1 := by omega
          have hb2 : bitA m ((-x).toNat - 1) = true := by unfold bitA; rw [hb4]; rfl
          rw [hb2] at hr2
          have hr3 : T = holdsA (bitA m) (c.drop (k + 1)) := hr2
          have hb3 : (bits BinOp.and .i64 ((m : Int) / 2 ^ ((-x).toNat - 1)) 1 == 0) = false := by rw [hb4]; rfl
          have HN := Lib.hid hr3
          clear hs hb2 hr2 hr3 h01 hb4 hb
          go_wp2_with fail
          go_round
          case rel => exact ⟨k + 1, by omega, by go_num, HN⟩
          case measure => simp [intOf]; omega
    · obtain rfl : k = c.length := by omega
      have hr := HR.out
      rw [List.drop_length] at hr
      obtain rfl : T = false := hr
      clear HR
      go_wp2_with fail
      go_ret
      exact ⟨rfl, rfl⟩

end Go.Proofs.Ythfmlmodpcikcaa
