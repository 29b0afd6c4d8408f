/- Contracts of package chandlerylaw01's helpers: works. -/
import Derived.Test.YtahemhdmlfejlabW14
namespace Go.Proofs.Ytahemhdmlfejlab
open Go.ChangeShapes Go.WideShapes Go.ChangeAt Go.RowKit
set_option maxRecDepth 100000

theorem num300 (g : Nat) (w : World) (hW : IsW w g (.slice none 0 0) []) :
    Calls Try.prog 9 #[.pointer (some ⟨g, 0, none⟩), .int .i64 300] w fun e w' => e = .returned (.int .i64 0) ∧ ∃ v', IsW w' g v' [172, 2] ∧ WStep g w (.slice none 0 0) w' v' := by
  have h := num_any g (.slice none 0 0) [] 300 w (by decide) hW
  rw [show numL 300 = [172, 2] from by decide +kernel] at h
  exact h
theorem textab (g : Nat) (v : Value) (w : World) (hW : IsW w g v [172, 2]) :
    Calls Try.prog 11 #[.pointer (some ⟨g, 0, none⟩), .string ⟨#[97, 98]⟩] w fun e w' => e = .returned (.int .i64 0) ∧ ∃ v', IsW w' g v' [172, 2, 2, 97, 98] ∧ WStep g w v w' v' := by
  have h := text_any g v [172, 2] ⟨#[97, 98]⟩ w (by decide) hW
  rw [show numL (ByteArray.size ⟨#[97, 98]⟩) ++ (ByteArray.mk #[97, 98]).data.toList = [2, 97, 98] from by decide +kernel] at h
  exact h

theorem wstep_bel {B g : Nat} {w w1 w2 : World} {v v' : Value} (h : Below B w w1) (hs : WStep g w1 v w2 v') (hB : B ≤ w1.heap.size) (hg : B ≤ g) (hv : ∀ k, v.ownBlock = some k → B ≤ k) : Below B w w2 ∧ ∀ k, v'.ownBlock = some k → B ≤ k := by
  refine ⟨h.trans (hs.touch.below hB (fun x hx hf => ?_)), fun k hk => ?_⟩
  · rcases hf with e | e
    · omega
    · have := hv x e; omega
  · rcases hs.at_ k hk with e | e
    · exact hv k e
    · omega


theorem rd300 (g : Nat) (w : World) (hb : Blk w g 56 (RB ⟨#[172, 2, 2, 97, 98]⟩ 0 0)) : Calls Try.prog 16 #[.pointer (some ⟨g, 0, none⟩), .int .i64 0, .int .i64 300] w fun r w' => r = .returned (.int .i64 300) ∧ Blk w' g 56 (RB ⟨#[172, 2, 2, 97, 98]⟩ 2 0) ∧ Touch (· = g) w w' := by
  have h := rnum_any g ⟨#[172, 2, 2, 97, 98]⟩ 0 0 0 300 w hb (by decide) (by decide)
  rw [show rNum ⟨#[172, 2, 2, 97, 98]⟩ 0 0 0 300 = (300, 2, 0) from by decide +kernel] at h
  exact h
theorem rdab (g : Nat) (w : World) (hb : Blk w g 56 (RB ⟨#[172, 2, 2, 97, 98]⟩ 2 0)) : Calls Try.prog 17 #[.pointer (some ⟨g, 0, none⟩), .int .i64 2] w fun r w' => r = .returned (.string ⟨#[97, 98]⟩) ∧ Blk w' g 56 (RB ⟨#[172, 2, 2, 97, 98]⟩ 5 0) ∧ Touch (· = g) w w' := by
  have h := rtext_any g ⟨#[172, 2, 2, 97, 98]⟩ 2 0 2 w hb (by decide) (by decide)
  rw [show rText ⟨#[172, 2, 2, 97, 98]⟩ 2 0 2 = (⟨#[97, 98]⟩, 5, 0) from by decide +kernel] at h
  exact h
theorem end5 (g : Nat) (w : World) (hb : Blk w g 56 (RB ⟨#[172, 2, 2, 97, 98]⟩ 5 0)) : Calls Try.prog 18 #[.pointer (some ⟨g, 0, none⟩)] w fun r w' => r = .returned (.int .i64 0) ∧ Touch (· = g) w w' := by
  have h := end_any g ⟨#[172, 2, 2, 97, 98]⟩ 5 0 w hb (by decide) (by decide)
  rw [show eEnd ⟨#[172, 2, 2, 97, 98]⟩ 5 0 = 0 from by decide +kernel] at h
  exact h.mono (by rintro r w' ⟨h1, _, h2⟩; exact ⟨h1, h2⟩)
theorem at5 (g : Nat) (w : World) (hb : Blk w g 56 (RB ⟨#[172, 2, 2, 97, 98]⟩ 5 0)) : Calls Try.prog 19 #[.pointer (some ⟨g, 0, none⟩)] w fun r w' => r = .returned (.int .i64 5) ∧ w = w' := at_any g _ 5 0 w hb

set_option maxHeartbeats 1000000 in
theorem works_any (w : World) : Calls Try.prog 14 #[] w fun r w' => r = .returned (.bool true) ∧ Below w.heap.size w w' := by
  have n1 := fun w => no_num ⟨#[128, 0]⟩ 9 0 11 w (by decide) (by decide +kernel) (by decide +kernel) (by decide) (by decide +kernel)
  have n2 := fun w => no_num ⟨#[128]⟩ 9 0 8 w (by decide) (by decide +kernel) (by decide +kernel) (by decide) (by decide +kernel)
  have n3 := fun w => no_num ⟨#[5]⟩ 4 0 20 w (by decide) (by decide +kernel) (by decide +kernel) (by decide) (by decide +kernel)
  have n4 := fun w => no_text ⟨#[3, 97]⟩ 9 1 8 w (by decide) (by decide +kernel) (by decide +kernel) (by decide) (by decide +kernel)
  go_enter Try.func14, Try.ntmps14
  go_wp2_with (first
    | (go_at_call 8; refine (new_any _).mono ?_; rintro r w1 ⟨rfl, hw1, hB1⟩)
    | (go_at_call 9; refine (num300 _ _ hw1).mono ?_; rintro r w2 ⟨rfl, v2, hw2, hs2⟩; obtain ⟨hB2, hv2⟩ := wstep_bel hB1 hs2 hB1.size (Nat.le_refl _) (fun k hk => by simp [Value.ownBlock] at hk))
    | (go_at_call 11; refine (textab _ _ _ hw2).mono ?_; rintro r w3 ⟨rfl, v3, hw3, hs3⟩; obtain ⟨hB3, hv3⟩ := wstep_bel hB2 hs3 hB2.size (Nat.le_refl _) hv2)
    | (go_at_call 13; with_reducible refine (bytes_any _ _ _ _ hw3).mono ?_; rintro r w' ⟨rfl, rfl⟩)
    | (go_at_call 15; refine (newreader_any _ _ (by decide)).mono ?_; rintro r w4 ⟨rfl, hb4, hB4⟩)
    | (go_at_call 16; with_reducible refine (rd300 _ _ hb4).mono ?_; rintro r w5 ⟨rfl, hb5, hT5⟩)
    | (go_at_call 17; with_reducible refine (rdab _ _ hb5).mono ?_; rintro r w6 ⟨rfl, hb6, hT6⟩)
    | (go_at_call 19; with_reducible refine (at5 _ _ hb6).mono ?_; rintro r w' ⟨rfl, rfl⟩)
    | (go_at_call 18; with_reducible refine (end5 _ _ hb6).mono ?_; rintro r w7 ⟨rfl, hT7⟩)
    | (go_at_call 22; with_reducible refine (n1 _).mono ?_; rintro r w8 ⟨rfl, hB8⟩)
    | (go_at_call 22; with_reducible refine (n2 _).mono ?_; rintro r w9 ⟨rfl, hB9⟩)
    | (go_at_call 22; with_reducible refine (n3 _).mono ?_; rintro r w10 ⟨rfl, hB10⟩)
    | (go_at_call 22; with_reducible refine (n4 _).mono ?_; rintro r w11 ⟨rfl, hB11⟩))
  go_ret
  exact ⟨rfl, bel_trans (bel_trans (bel_trans (bel_trans (bel_trans hB3 (touch_bel (touch_bel (touch_bel hB4 hT5) hT6) hT7)) hB8) hB9) hB10) hB11⟩

end Go.Proofs.Ytahemhdmlfejlab
