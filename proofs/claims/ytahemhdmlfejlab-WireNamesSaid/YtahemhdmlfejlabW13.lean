/- Contracts of package wire: the reader's other methods. -/
import Derived.Test.YtahemhdmlfejlabW12
namespace Go.Proofs.Ytahemhdmlfejlab
open Go.ChangeShapes Go.WideShapes Go.ChangeAt Go.RowKit
set_option maxRecDepth 100000

theorem at_any (g : Nat) (s : ByteArray) (at_ : Nat) (e : Int) (w : World) (hb : Blk w g 56 (RB s at_ e)) :
    Calls Try.prog 19 #[.pointer (some ⟨g, 0, none⟩)] w fun r w' => r = .returned (.int .i64 at_) ∧ w = w' := by
  have hc1 := hb.cell 1
  simp [RB] at hc1
  go_enter Try.func19, Try.ntmps19
  go_wp2_with fail
  go_ret
  exact ⟨rfl, rfl⟩

theorem wrong_any (g : Nat) (s : ByteArray) (at_ : Nat) (e : Int) (w : World) (hb : Blk w g 56 (RB s at_ e)) :
    Calls Try.prog 20 #[.pointer (some ⟨g, 0, none⟩)] w fun r w' => r = .returned (.tuple #[.int .i64 (if e = 0 then 0 else at_), .int .i64 e]) ∧ ∃ n, w' = w.drewN n := by
  have hc1 := hb.cell 1
  have hc2 := hb.cell 2
  simp [RB] at hc1 hc2
  go_enter Try.func20, Try.ntmps20
  by_cases he : e = 0
  · subst he
    go_wp2_with fail
    simp [bodyPost, results, Try.results20, go_sem]
    exact ⟨0, rfl⟩
  · have hne : (e == 0) = false := by simpa using he
    rw [if_neg he]
    go_wp2_with fail
    go_quiet (fail)
    go_wp2_with fail
    simp [bodyPost, results, Try.results20, go_sem]
    exact ⟨_, rfl⟩

def eEnd (s : ByteArray) (at_ : Nat) (e : Int) : Int := if e = 0 ∧ at_ < s.size then 10 else e

theorem end_any (g : Nat) (s : ByteArray) (at_ : Nat) (e : Int) (w : World) (hb : Blk w g 56 (RB s at_ e)) (hat : at_ ≤ s.size) (hs : s.size ≤ 140737488351232) :
    Calls Try.prog 18 #[.pointer (some ⟨g, 0, none⟩)] w fun r w' => r = .returned (.int .i64 (eEnd s at_ e)) ∧ Blk w' g 56 (RB s at_ (eEnd s at_ e)) ∧ Touch (· = g) w w' := by
  have hc0 := hb.cell 0
  have hc1 := hb.cell 1
  have hc2 := hb.cell 2
  have hf2 := hb.frozen 2
  simp [RB] at hc0 hc1 hc2
  generalize hT : eEnd s at_ e = T
  unfold eEnd at hT
  go_enter Try.func18, Try.ntmps18
  by_cases he : e = 0
  · subst he
    by_cases hl : at_ < s.size
    · rw [if_pos ⟨rfl, hl⟩] at hT
      subst hT
      have hl' : (at_ : Int) < (s.size : Int) := by omega
      go_wp2_with fail
      go_quiet (fail)
      go_wp2_with fail
      go_ret
      exact ⟨rfl, (hb.drewN _).set_ 2 _, Touch.setCell (F := fun x => x = g) ((Touch.refl _ _).drewN _) (p := ⟨g, 2, none⟩) (fun _ => rfl) _⟩
    · rw [if_neg (by omega)] at hT
      subst hT
      have hl' : decide ((at_ : Int) < (s.size : Int)) = false := by simp; omega
      go_wp2_with fail
      go_quiet (fail)
      go_wp2_with fail
      go_ret
      exact ⟨rfl, hb.drewN _, (Touch.refl _ _).drewN _⟩
  · have hne : (e == 0) = false := by simpa using he
    rw [if_neg (by omega)] at hT
    subst hT
    go_wp2_with fail
    go_quiet (fail)
    go_wp2_with fail
    go_ret
    exact ⟨rfl, hb.drewN _, (Touch.refl _ _).drewN _⟩

def eFail (at_ : Nat) (e p x : Int) : Int × Nat × Int := if e ≠ 0 then (e, at_, e) else if p < 0 ∨ (at_ : Int) < p ∨ x = 0 then (1, at_, e) else (x, p.toNat, x)

theorem fail_any (g : Nat) (s : ByteArray) (at_ : Nat) (e p x : Int) (w : World) (hb : Blk w g 56 (RB s at_ e)) (hat : at_ ≤ s.size) (hs : s.size ≤ 140737488351232) :
    Calls Try.prog 21 #[.pointer (some ⟨g, 0, none⟩), .int .i64 p, .int .i64 x] w fun r w' => r = .returned (.int .i64 (eFail at_ e p x).1) ∧ Blk w' g 56 (RB s (eFail at_ e p x).2.1 (eFail at_ e p x).2.2) ∧ Touch (· = g) w w' := by
  have hc1 := hb.cell 1
  have hc2 := hb.cell 2
  have hf1 := hb.frozen 1
  have hf2 := hb.frozen 2
  simp [RB] at hc1 hc2
  generalize hT : eFail at_ e p x = T
  unfold eFail at hT
  go_enter Try.func21, Try.ntmps21
  by_cases he : e ≠ 0
  · have hne : (e == 0) = false := by simpa using he
    have hne' : (e != 0) = true := by simp [bne, he]
    rw [if_pos he] at hT
    subst hT
    go_wp2_with fail
    go_ret
    exact ⟨rfl, hb, .refl _ _⟩
  · rw [if_neg he] at hT
    obtain rfl : e = 0 := by omega
    by_cases hp : p < 0
    · rw [if_pos (by omega)] at hT
      subst hT
      go_wp2_with fail
      go_ret
      exact ⟨rfl, hb, .refl _ _⟩
    · have hp' : decide (p < 0) = false := by simpa using hp
      by_cases hp2 : (at_ : Int) < p
      · rw [if_pos (by omega)] at hT
        subst hT
        go_wp2_with fail
        go_ret
        exact ⟨rfl, hb, .refl _ _⟩
      · have hp2' : decide ((at_ : Int) < p) = false := by simpa using hp2
        by_cases hx : x = 0
        · subst hx
          rw [if_pos (by omega)] at hT
          subst hT
          go_wp2_with fail
          go_ret
          exact ⟨rfl, hb, .refl _ _⟩
        · have hx' : (x == 0) = false := by simpa using hx
          rw [if_neg (by omega)] at hT
          subst hT
          go_wp2_with fail
          go_ret
          have hpn : ((p.toNat : Nat) : Int) = p := by omega
          refine ⟨rfl, ?_, Touch.setCell (F := fun x => x = g) (Touch.setCell (F := fun x => x = g) (Touch.refl _ _) (p := ⟨g, 1, none⟩) (fun _ => rfl) _) (p := ⟨g, 2, none⟩) (fun _ => rfl) _⟩
          have h := (hb.set_ 1 (.int .i64 p)).set_ 2 (.int .i64 x)
          simp [RB] at h
          show Blk _ g 56 #[.string s, .int .i64 ((p.toNat : Nat) : Int), .int .i64 x]
          rw [hpn]
          exact h

theorem newreader_any (s : ByteArray) (w : World) (hs : s.size ≤ 4194304) : Calls Try.prog 15 #[.string s] w fun r w' => r = .returned (.tuple #[.pointer (some ⟨w.heap.size, 0, none⟩), .int .i64 0]) ∧ Blk w' w.heap.size 56 (RB s 0 0) ∧ Below w.heap.size w w' := by
  go_enter Try.func15, Try.ntmps15
  have hd : decide ((4194304 : Int) < (s.size : Int)) = false := by simp; omega
  go_wp2_with fail
  simp [bodyPost, results, Try.results15, go_sem]
  exact ⟨Blk.new _ _ _, (Below.refl _ _).alloc (Nat.le_refl _) _⟩

theorem newreader_long (s : ByteArray) (w : World) (hs : 4194304 < s.size) : Calls Try.prog 15 #[.string s] w fun r w' => r = .returned (.tuple #[.pointer none, .int .i64 40]) ∧ w = w' := by
  go_enter Try.func15, Try.ntmps15
  have hd : decide ((4194304 : Int) < (s.size : Int)) = true := by simp; omega
  go_wp2_with fail
  simp [bodyPost, results, Try.results15, go_sem]

theorem rnum_nil (a b : Int) (w : World) : Calls Try.prog 16 #[.pointer none, .int .i64 a, .int .i64 b] w fun r w' => r = .returned (.int .i64 0) ∧ w = w' := by
  go_enter_defers Try.func16, Try.ntmps16
  go_wp2_with fail
  simp [bodyPostD, Leaves, settle, results, Try.results16, go_sem]
theorem rtext_nil (a : Int) (w : World) : Calls Try.prog 17 #[.pointer none, .int .i64 a] w fun r w' => r = .returned (.string ⟨#[]⟩) ∧ w = w' := by
  go_enter_defers Try.func17, Try.ntmps17
  go_wp2_with fail
  simp [bodyPostD, Leaves, settle, results, Try.results17, go_sem]
theorem end_nil (w : World) : Calls Try.prog 18 #[.pointer none] w fun r w' => r = .returned (.int .i64 2) ∧ w = w' := by
  go_enter Try.func18, Try.ntmps18
  go_wp2_with fail
  go_ret
  exact ⟨rfl, rfl⟩
theorem at_nil (w : World) : Calls Try.prog 19 #[.pointer none] w fun r w' => r = .returned (.int .i64 0) ∧ w = w' := by
  go_enter Try.func19, Try.ntmps19
  go_wp2_with fail
  go_ret
  exact ⟨rfl, rfl⟩
theorem wrong_nil (w : World) : Calls Try.prog 20 #[.pointer none] w fun r w' => r = .returned (.tuple #[.int .i64 0, .int .i64 2]) ∧ w = w' := by
  go_enter Try.func20, Try.ntmps20
  go_wp2_with fail
  simp [bodyPost, results, Try.results20, go_sem]
theorem fail_nil (a b : Int) (w : World) : Calls Try.prog 21 #[.pointer none, .int .i64 a, .int .i64 b] w fun r w' => r = .returned (.int .i64 2) ∧ w = w' := by
  go_enter Try.func21, Try.ntmps21
  go_wp2_with fail
  go_ret
  exact ⟨rfl, rfl⟩

end Go.Proofs.Ytahemhdmlfejlab
