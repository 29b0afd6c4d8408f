/- Contracts of package chandlerylaw01's helpers: no, many. -/
import Derived.Test.YtahemhdmlfejlabW13
namespace Go.Proofs.Ytahemhdmlfejlab
open Go.ChangeShapes Go.WideShapes Go.ChangeAt Go.RowKit
set_option maxRecDepth 100000

theorem wrong_bad (g : Nat) (s : ByteArray) (at_ : Nat) (e : Int) (w : World) (hb : Blk w g 56 (RB s at_ e)) (he : e ≠ 0) :
    Calls Try.prog 20 #[.pointer (some ⟨g, 0, none⟩)] w fun r w' => r = .returned (.tuple #[.int .i64 at_, .int .i64 e]) ∧ ∃ n, w' = w.drewN n := by
  have h := wrong_any g s at_ e w hb
  rwa [if_neg he] at h
theorem wrong_ok (g : Nat) (s : ByteArray) (at_ : Nat) (w : World) (hb : Blk w g 56 (RB s at_ 0)) :
    Calls Try.prog 20 #[.pointer (some ⟨g, 0, none⟩)] w fun r w' => r = .returned (.tuple #[.int .i64 0, .int .i64 0]) ∧ ∃ n, w' = w.drewN n := wrong_any g s at_ 0 w hb

theorem touch_bel {w w1 w2 : World} (h : Below w.heap.size w w1) (ht : Touch (· = w.heap.size) w1 w2) : Below w.heap.size w w2 :=
  h.trans (ht.below h.size (fun x hx e => by omega))

theorem no_num (s : ByteArray) (most place e : Int) (w : World) (hs : s.size ≤ 4194304) (hn : (rNum s 0 0 0 most).1 = 0) (h1 : (rNum s 0 0 0 most).2.2 = e) (he : e ≠ 0) (h2 : ((rNum s 0 0 0 most).2.1 : Int) = place) :
    Calls Try.prog 22 #[.string s, .bool false, .int .i64 most, .int .i64 place, .int .i64 e] w fun r w' => r = .returned (.bool true) ∧ Below w.heap.size w w' := by
  have hR := fun g w' hb => rnum_any g s 0 0 0 most w' hb (by omega) (by omega)
  rw [hn, h1] at hR
  generalize (rNum s 0 0 0 most).2.1 = at2 at *
  subst h2
  clear hn h1
  have he0 : (e == 0) = false := by simpa using he
  go_enter Try.func22, Try.ntmps22
  go_wp2_with (first
    | (go_at_call 15; refine (newreader_any _ _ hs).mono ?_; rintro r w1 ⟨rfl, hb1, hB1⟩)
    | (go_at_call 16; with_reducible refine (hR _ _ hb1).mono ?_; rintro r w2 ⟨rfl, hb2, hT2⟩)
    | (go_at_call 20; with_reducible refine (wrong_bad _ _ _ _ _ hb2 he).mono ?_; rintro r w3 ⟨rfl, n, rfl⟩)
    | (go_at_call 19; refine (at_any _ _ _ _ _ (hb2.drewN n)).mono ?_; rintro r w4 ⟨rfl, rfl⟩))
  go_ret
  exact ⟨rfl, bel_drewN (touch_bel hB1 hT2) _⟩

theorem no_text (s : ByteArray) (most place e : Int) (w : World) (hs : s.size ≤ 4194304) (hn : (rText s 0 0 most).1 = ⟨#[]⟩) (h1 : (rText s 0 0 most).2.2 = e) (he : e ≠ 0) (h2 : ((rText s 0 0 most).2.1 : Int) = place) :
    Calls Try.prog 22 #[.string s, .bool true, .int .i64 most, .int .i64 place, .int .i64 e] w fun r w' => r = .returned (.bool true) ∧ Below w.heap.size w w' := by
  have hR := fun g w' hb => rtext_any g s 0 0 most w' hb (by omega) (by omega)
  rw [hn, h1] at hR
  generalize (rText s 0 0 most).2.1 = at2 at *
  subst h2
  clear hn h1
  have he0 : (e == 0) = false := by simpa using he
  go_enter Try.func22, Try.ntmps22
  go_wp2_with (first
    | (go_at_call 15; refine (newreader_any _ _ hs).mono ?_; rintro r w1 ⟨rfl, hb1, hB1⟩)
    | (go_at_call 17; with_reducible refine (hR _ _ hb1).mono ?_; rintro r w2 ⟨rfl, hb2, hT2⟩)
    | (go_at_call 20; with_reducible refine (wrong_bad _ _ _ _ _ hb2 he).mono ?_; rintro r w3 ⟨rfl, n, rfl⟩)
    | (go_at_call 19; refine (at_any _ _ _ _ _ (hb2.drewN n)).mono ?_; rintro r w4 ⟨rfl, rfl⟩))
  go_ret
  exact ⟨rfl, bel_drewN (touch_bel hB1 hT2) _⟩

def manyB (s : ByteArray) : Nat → ByteArray
  | 0 => ⟨#[]⟩
  | n + 1 => manyB s n ++ s

theorem manyB_size (s : ByteArray) (n : Nat) : (manyB s n).size = n * s.size := by
  induction n with
  | zero => simp [manyB]; rfl
  | succ n ih => simp [manyB, ih, Nat.succ_mul]

theorem many_any (n : Nat) (s : ByteArray) (w : World) (hn : n ≤ 100) (hs : s.size ≤ 100) :
    Calls Try.prog 23 #[.int .i64 n, .string s] w fun r w' => r = .returned (.string (manyB s n)) ∧ w = w' := by
  go_enter Try.func23, Try.ntmps23
  go_wp2_with fail
  go_loop [5, 6] (fun o i => ∃ k : Nat, k ≤ n ∧ i = .int .i64 k ∧ o = .string (manyB s k)) (fun _ i => n - (intOf i).toNat)
  case atStart => exact ⟨0, by omega, rfl, rfl⟩
  case round =>
    obtain ⟨k, hk, rfl, rfl⟩ := hrel
    by_cases hlt : k < n
    · have hz := manyB_size s k
      have hm : k * s.size ≤ 100 * 100 := Nat.mul_le_mul (by omega) hs
      have hsz : (manyB s k).size + s.size ≤ 140737488351232 := by omega
      go_wp2_with fail
      go_round
      case rel => exact ⟨k + 1, by omega, by go_num, rfl⟩
      case measure => simp [intOf]; omega
    · obtain rfl : k = n := by omega
      go_wp2_with fail
      go_ret
      exact ⟨rfl, rfl⟩

end Go.Proofs.Ytahemhdmlfejlab
