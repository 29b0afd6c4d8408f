/- Contracts of package wire: the reader's text. -/
import Derived.Test.YtahemhdmlfejlabW11
namespace Go.Proofs.Ytahemhdmlfejlab
open Go.ChangeShapes Go.WideShapes Go.ChangeAt Go.RowKit
set_option maxRecDepth 100000

theorem rdN_in (s : ByteArray) (at_ : Nat) (lo hi : Int) : ∀ f i n (m k : Nat), i + f = 9 → n < 128 ^ i → rdN s at_ lo hi f i n = .inl (m, k) → at_ + k ≤ s.size ∧ i < k ∧ k ≤ 9 ∧ m < 9223372036854775808 ∧ lo ≤ m ∧ (m : Int) ≤ hi := by
  intro f
  induction f with
  | zero => intro i n m k _ _ h; simp [rdN] at h
  | succ f ih =>
    intro i n m k hi9 hn h
    rw [rdN] at h
    obtain ⟨_, hv⟩ := acc_val n (byteAt s (at_ + i)) i (byteAt_lt _ _) (by omega) hn
    split at h
    · simp at h
    · split at h
      · obtain ⟨a, b, c⟩ := ih _ _ _ _ (by omega) hv h
        exact ⟨a, by omega, c⟩
      · split at h
        · simp at h
        · split at h
          · simp at h
          · simp at h
            obtain ⟨rfl, rfl⟩ := h
            have hp : 128 ^ (i + 1) ≤ 128 ^ 9 := Nat.pow_le_pow_right (by omega) (by omega)
            refine ⟨by omega, by omega, by omega, ?_, by omega, by omega⟩
            exact Nat.lt_of_lt_of_le hv (by simpa using hp)

def rText (s : ByteArray) (at_ : Nat) (e most : Int) : ByteArray × Nat × Int :=
  if e = 0 then match rdN s at_ 0 most 9 0 0 with
    | .inl (n, k) => if s.size < at_ + k + n then (⟨#[]⟩, at_ + k, 8) else (s.extract (at_ + k) (at_ + k + n), at_ + k + n, 0)
    | .inr x => (⟨#[]⟩, at_, x)
  else (⟨#[]⟩, at_, e)

theorem rtext_any (g : Nat) (s : ByteArray) (at_ : Nat) (e most : Int) (w : World) (hb : Blk w g 56 (RB s at_ e)) (hat : at_ ≤ s.size) (hs : s.size ≤ 140737488351232) :
    Calls Try.prog 17 #[.pointer (some ⟨g, 0, none⟩), .int .i64 most] w fun r w' => r = .returned (.string (rText s at_ e most).1) ∧ Blk w' g 56 (RB s (rText s at_ e most).2.1 (rText s at_ e most).2.2) ∧ Touch (· = g) w w' := by
  have hc2 := hb.cell 2
  simp [RB] at hc2
  generalize hT : rText s at_ e most = T
  unfold rText at hT
  by_cases he : e = 0
  · subst he
    rw [if_pos rfl] at hT
    have HN := Lib.hid (number_walk g s at_ 0 most w hb hat hs)
    have HI := rdN_in s at_ 0 most 9 0 0
    generalize rdN s at_ 0 most 9 0 0 = res at *
    go_enter_defers Try.func17, Try.ntmps17
    go_wp2_with fail
    refine HN.out.mono ?_
    cases res with
    | inl p =>
      obtain ⟨n, k⟩ := p
      obtain ⟨i1, _, i2, i3, _, i4⟩ := HI n k (by simp) (by simp) rfl
      clear HI
      rintro r w1 ⟨rfl, hb1, ht1⟩
      simp only [NumEnd] at hb1 hT
      generalize at_ + k = at2 at *
      have hc10 := hb1.cell 0
      have hc11 := hb1.cell 1
      have hf11 := hb1.frozen 1
      simp at hc10 hc11
      by_cases hsz : s.size < at2 + n
      · rw [if_pos hsz] at hT
        subst hT
        have hd : decide ((s.size : Int) - ((at2 : Nat) : Int) < (n : Int)) = true := by simp; omega
        have hwr : IntKind.i64.wrap ((s.size : Int) - ((at2 : Nat) : Int)) = (s.size : Int) - ((at2 : Nat) : Int) := by rw [IntKind.wrap_i64]; omega
        go_wp2_with fail
        go_quiet (fail)
        go_wp2_with fail
        refine leaves_cons (f := 29) (args := #[.pointer (some ⟨g, 0, none⟩)]) (by simp) (by simp [go_sem]) ?_
        refine (caught_panicking g at2 8 [] s at2 _ (hb1.drewN _)).mono ?_
        rintro e u' w'' ⟨rfl, rfl, hb2, ht2⟩
        simp [Leaves, settle, results, Try.results17, go_sem, RB]
        exact ⟨hb2, (ht1.drewN _).trans ht2 (fun _ _ h => h)⟩
      · have hd : decide ((s.size : Int) - ((at2 : Nat) : Int) < (n : Int)) = false := by simp; omega
        rw [if_neg hsz] at hT
        subst hT
        have hwr : IntKind.i64.wrap ((s.size : Int) - ((at2 : Nat) : Int)) = (s.size : Int) - ((at2 : Nat) : Int) := by rw [IntKind.wrap_i64]; omega
        have hwr2 : IntKind.i64.wrap ((at2 : Int) + (n : Int)) = (at2 : Int) + (n : Int) := by rw [IntKind.wrap_i64]; omega
        have hsl : ∀ W, (Instr.slice 9 (.string s) (some (.int .i64 (at2 : Int))) (some (.int .i64 ((at2 : Int) + (n : Int)))) none).run Try.prog W = .ok (.string (s.extract at2 (at2 + n))) W := fun W => by
          rw [run_slice_string (h := Try.underlying9) (h0 := by omega) (h1 := by omega) (h2 := by omega)]
          rfl
        go_wp2_with fail
        go_quiet (fail)
        go_wp2_with fail
        go_quiet (fail)
        go_wp2_with fail
        refine leaves_cons (f := 29) (args := #[.pointer (some ⟨g, 0, none⟩)]) (by simp) (by simp [go_sem]) ?_
        refine (caught_idle g _).mono ?_
        rintro e u' w'' ⟨rfl, rfl, rfl⟩
        simp [Leaves, settle, results, Try.results17, go_sem, RB]
        exact ⟨(hb1.drewN _).set_ 1 _, Touch.setCell (F := fun x => x = g) (ht1.drewN _) (p := ⟨g, 1, none⟩) (fun _ => rfl) _⟩
    | inr x =>
      rintro r w1 ⟨rfl, hb1, ht1⟩
      subst hT
      go_wp2_with fail
      refine leaves_cons (f := 29) (args := #[.pointer (some ⟨g, 0, none⟩)]) (by simp) (by simp [go_sem]) ?_
      refine (caught_panicking g at_ x [] s at_ _ hb1).mono ?_
      rintro e u' w'' ⟨rfl, rfl, hb2, ht2⟩
      simp [Leaves, settle, results, Try.results17, go_sem, RB]
      exact ⟨hb2, ht1.trans ht2 (fun _ _ h => h)⟩
  · rw [if_neg he] at hT
    subst hT
    have hne : (e == 0) = false := by simpa using he
    have hne' : (e != 0) = true := by simp [bne, he]
    go_enter_defers Try.func17, Try.ntmps17
    go_wp2_with fail
    simp [bodyPostD, Leaves, settle, results, Try.results17, go_sem]
    exact ⟨hb, .refl _ _⟩

end Go.Proofs.Ytahemhdmlfejlab
