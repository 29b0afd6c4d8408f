/- Contracts of package wire: the reader's deferred method. -/
import Derived.Test.YtahemhdmlfejlabW10
import Derived.Defers
import Derived.Recover
namespace Go.Proofs.Ytahemhdmlfejlab
open Go.ChangeShapes Go.WideShapes Go.ChangeAt Go.RowKit
set_option maxRecDepth 100000

theorem caught_idle (g : Nat) (w : World) :
    CallsD Try.prog 29 #[.pointer (some ⟨g, 0, none⟩)] .returning w fun e u' w' => e = .returned (.tuple #[]) ∧ u' = .returning ∧ w' = w := by
  refine callsD_of_wpS Try.func29 rfl fun c₀ cs hu => ?_
  apply wpS_seq
  apply wpS_region
  simp [wpOpsS, go_sem, recoverD, hu, Try.ntmps29, Exit.thenS]
  apply wpS_seq
  apply wpS_region
  simp [wpOpsS, go_sem, Exit.thenS]
  refine wpS_cond (t := false) (by simp [Act.eval]) ?_
  simp only [Bool.false_eq_true, if_false]
  refine wpS_of_wp (wp_skip ?_)
  cases c₀
  simp_all [bodyPostS, results, Try.results29]

theorem caught_frame (g : Nat) (v : Value) : (#[Value.pointer (some ⟨g, 0, none⟩)] ++ ((((Array.replicate 25 undef).setIfInBounds 4 v).setIfInBounds 1 v).setIfInBounds 5 v).setIfInBounds 6 (Value.bool true)) =
    #[.pointer (some ⟨g, 0, none⟩), undef, v, undef, undef, v, v, .bool true, undef, undef, undef, undef, undef, undef, undef, undef, undef, undef, undef, undef, undef, undef, undef, undef, undef, undef] := by kernel_rfl

theorem caught_panicking (g : Nat) (a x : Int) (older : List PanicEntry) (s : ByteArray) (at_ : Int) (w : World) (hb : Blk w g 56 #[.string s, .int .i64 at_, .int .i64 0]) :
    CallsD Try.prog 29 #[.pointer (some ⟨g, 0, none⟩)] (.panicking ({ v := .iface 58 (.agg #[.int .i64 a, .int .i64 x]), recovered := false } :: older)) w fun e u' w' =>
      e = .returned (.tuple #[]) ∧ u' = .panicking ({ v := .iface 58 (.agg #[.int .i64 a, .int .i64 x]), recovered := true } :: older) ∧ Blk w' g 56 #[.string s, .int .i64 a, .int .i64 x] ∧ Touch (· = g) w w' := by
  refine callsD_of_wpS Try.func29 rfl fun c₀ cs hu => ?_
  apply wpS_seq
  apply wpS_region
  simp [wpOpsS, go_sem, recoverD, hu, Try.ntmps29, Exit.thenS]
  have hc := hb.cell 0
  have hc1 := hb.cell 1
  have hc2 := hb.cell 2
  have hf1 := hb.frozen 1
  have hf2 := hb.frozen 2
  simp at hc hc1 hc2
  have hgl := hb.lt
  have hne : ¬ g = w.heap.size := by omega
  have hne' : ¬ w.heap.size = g := by omega
  apply wpS_seq
  apply wpS_region
  simp [wpOpsS, go_sem, Exit.thenS]
  refine wpS_cond (t := true) (by simp [Act.eval]) ?_
  simp only [if_true]
  refine wpS_of_wp (Code.wp_mono (Q := fun e a' w' => e = Exit.normal ∧ a'.defers = [] ∧ Blk w' g 56 #[.string s, .int .i64 a, .int .i64 x] ∧ Touch (· = g) w w') ?_ ?_)
  · rintro e a1 w1 ⟨rfl, hd, h1, h2⟩
    simp [bodyPostS, results, Try.results29, hd]
    exact ⟨h1, h2⟩
  have hta : ∀ w, (Instr.typeAssert (.iface 58 (.agg #[.int .i64 a, .int .i64 x])) 20 58 true).run Try.prog w = .ok (.tuple #[.agg #[.int .i64 a, .int .i64 x], .bool true]) w := fun _ => by kernel_rfl
  rw [caught_frame]
  go_wp2_with fail
  go_region
  refine ⟨rfl, rfl, ?_, ?_⟩
  · exact (((hb.set_ 1 (.int .i64 a)).set_ 2 (.int .i64 x)).alloc (.cells #[.int .i64 a, .int .i64 x] 58)).drew
  · exact ((((Touch.refl (fun x => x = g) w).setCell (p := ⟨g, 1, none⟩) (fun _ => rfl) _).setCell (p := ⟨g, 2, none⟩) (fun _ => rfl) _).alloc _).drew

/-- The reader's state: its place, and what is wrong. -/
def rNum (s : ByteArray) (at_ : Nat) (e : Int) (lo hi : Int) : Int × Nat × Int :=
  if e = 0 then match rdN s at_ lo hi 9 0 0 with
    | .inl (n, k) => (n, at_ + k, 0)
    | .inr x => (0, at_, x)
  else (0, at_, e)

def RB (s : ByteArray) (at_ : Nat) (e : Int) : Array Value := #[.string s, .int .i64 (at_ : Int), .int .i64 e]

theorem rnum_any (g : Nat) (s : ByteArray) (at_ : Nat) (e lo hi : Int) (w : World) (hb : Blk w g 56 (RB s at_ e)) (hat : at_ ≤ s.size) (hs : s.size ≤ 140737488351232) :
    Calls Try.prog 16 #[.pointer (some ⟨g, 0, none⟩), .int .i64 lo, .int .i64 hi] w fun r w' => r = .returned (.int .i64 (rNum s at_ e lo hi).1) ∧ Blk w' g 56 (RB s (rNum s at_ e lo hi).2.1 (rNum s at_ e lo hi).2.2) ∧ Touch (· = g) w w' := by
  have hc2 := hb.cell 2
  simp [RB] at hc2
  unfold rNum
  by_cases he : e = 0
  · subst he
    rw [if_pos rfl]
    have HN := Lib.hid (number_walk g s at_ lo hi w hb hat hs)
    generalize rdN s at_ lo hi 9 0 0 = res at *
    go_enter_defers Try.func16, Try.ntmps16
    go_wp2_with fail
    refine HN.out.mono ?_
    cases res with
    | inl p =>
      obtain ⟨n, k⟩ := p
      rintro r w1 ⟨rfl, hb1, ht1⟩
      go_wp2_with fail
      refine leaves_cons (f := 29) (args := #[.pointer (some ⟨g, 0, none⟩)]) (by simp) (by simp [go_sem]) ?_
      refine (caught_idle g _).mono ?_
      rintro e u' w'' ⟨rfl, rfl, rfl⟩

      simp [Leaves, settle, results, Try.results16, go_sem, RB]
      exact ⟨hb1, ht1⟩
    | inr x =>
      rintro r w1 ⟨rfl, hb1, ht1⟩
      go_wp2_with fail
      refine leaves_cons (f := 29) (args := #[.pointer (some ⟨g, 0, none⟩)]) (by simp) (by simp [go_sem]) ?_
      refine (caught_panicking g at_ x [] s at_ _ hb1).mono ?_
      rintro e u' w'' ⟨rfl, rfl, hb2, ht2⟩

      simp [Leaves, settle, results, Try.results16, go_sem, RB]
      exact ⟨hb2, ht1.trans ht2 (fun _ _ h => h)⟩
  · rw [if_neg he]
    have hne : (e == 0) = false := by simpa using he
    have hne' : (e != 0) = true := by simp [bne, he]
    go_enter_defers Try.func16, Try.ntmps16
    go_wp2_with fail
    simp [bodyPostD, Leaves, settle, results, Try.results16, go_sem]
    exact ⟨hb, .refl _ _⟩

end Go.Proofs.Ytahemhdmlfejlab
