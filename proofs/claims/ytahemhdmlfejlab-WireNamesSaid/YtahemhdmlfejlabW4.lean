/- Contracts of package wire: the writer's methods. -/
import Derived.Test.YtahemhdmlfejlabW3
namespace Go.Proofs.Ytahemhdmlfejlab
open Go.ChangeShapes Go.WideShapes Go.ChangeAt Go.RowKit

structure IsW (w : World) (g : Nat) (v : Value) (bs : List UInt8) : Prop where
  blk : Blk w g 51 #[v]
  own : Own w 5 1 v bs.length (bc bs)
  le : bs.length ≤ 4194304

structure WStep (g : Nat) (w : World) (v : Value) (w' : World) (v' : Value) : Prop where
  touch : Touch (WF g v) w w'
  at_ : ∀ k, v'.ownBlock = some k → v.ownBlock = some k ∨ w.heap.size ≤ k

theorem WStep.refl (g : Nat) (w : World) (v : Value) : WStep g w v w v := ⟨Touch.refl _ _, fun _ h => .inl h⟩
theorem WStep.of_below {g : Nat} {w w' : World} {v : Value} (h : Below w.heap.size w w') : WStep g w v w' v := ⟨Touch.of_below h _, fun _ h => .inl h⟩
theorem WStep.trans {g : Nat} {a b c : World} {u v x : Value} (h : WStep g a u b v) (k : WStep g b v c x) : WStep g a u c x :=
  ⟨h.touch.trans k.touch fun j hj hf => by
    rcases hf with hf | hf
    · exact .inl hf
    · rcases h.at_ j hf with h1 | h1
      · exact .inr h1
      · omega, fun j hj => by
    rcases k.at_ j hj with h1 | h1
    · exact h.at_ j h1
    · have := h.touch.size
      exact .inr (by omega)⟩
theorem IsW.below {w w' : World} {g : Nat} {v : Value} {bs : List UInt8} (h : IsW w g v bs) (hb : Below w.heap.size w w') : IsW w' g v bs :=
  ⟨h.blk.below hb h.blk.lt, h.own.new hb, h.le⟩
theorem IsW.touch {w w' : World} {g : Nat} {v : Value} {bs : List UInt8} {F : Nat → Prop} (h : IsW w g v bs) (hb : Touch F w w') (h1 : ¬ F g) (h2 : ∀ k, v.ownBlock = some k → ¬ F k) : IsW w' g v bs :=
  ⟨h.blk.touch hb h1, h.own.touch hb h2, h.le⟩

def putE (bs s : List UInt8) : Int := if bs.length + s.length ≤ 4194304 then 0 else 40
def putB (bs s : List UInt8) : List UInt8 := if bs.length + s.length ≤ 4194304 then bs ++ s else bs

/-- put behind what was made of the parts. -/
theorem put_any (w : World) (H g bL : Nat) (ps : List Part) (bs : List UInt8) (v : Value) (hW : IsW w g v bs) (hbL : Blk w bL 49 (ps.map Prod.fst).toArray)
    (hgH : g < H) (hvH : ∀ k, v.ownBlock = some k → k < H) (hps : ∀ p ∈ ps, Rd w (fun k => H ≤ k ∧ k < w.heap.size) p.1 p.2.length (bc p.2)) (hH : H ≤ w.heap.size) (hn : ps.length ≤ 2) (hsm : ∀ p ∈ ps, p.2.length ≤ 140737488351232) (n : Nat) (hpl : ps.length = n) :
    Calls Try.prog 24 #[.pointer (some ⟨g, 0, none⟩), .slice (some ⟨bL, 0, none⟩) n n] w fun e w' => e = .returned (.int .i64 (putE bs (catB ps ps.length))) ∧ ∃ v', IsW w' g v' (putB bs (catB ps ps.length)) ∧ WStep g w v w' v' := by
  subst hpl
  unfold putE putB
  by_cases h : bs.length + (catB ps ps.length).length ≤ 4194304
  · rw [if_pos h, if_pos h]
    refine (put_ok w H g bL ps bs v hW.blk hW.own hbL hgH hvH hps hH hW.le hn h).mono ?_
    rintro e w' ⟨rfl, v', h1, h2, h3, h4⟩
    exact ⟨rfl, v', ⟨h1, h2, by rw [List.length_append]; exact h⟩, h3, h4⟩
  · rw [if_neg h, if_neg h]
    refine (put_no w g bL ps bs v hW.blk hW.own hbL _ hps hW.le hn hsm (by omega)).mono ?_
    rintro e w' ⟨rfl, rfl⟩
    exact ⟨rfl, v, hW, WStep.refl _ _ _⟩

theorem num_neg (g : Nat) (n : Int) (w : World) (hn : n < 0) : Calls Try.prog 9 #[.pointer (some ⟨g, 0, none⟩), .int .i64 n] w fun e w' => e = .returned (.int .i64 1) ∧ w = w' := by
  go_enter Try.func9, Try.ntmps9
  go_wp2_with fail
  go_ret
  exact ⟨rfl, rfl⟩

theorem num_nil (n : Int) (w : World) : Calls Try.prog 9 #[.pointer none, .int .i64 n] w fun e w' => e = .returned (.int .i64 2) ∧ w = w' := by
  go_enter Try.func9, Try.ntmps9
  go_wp2_with fail
  go_ret
  exact ⟨rfl, rfl⟩

theorem num_any (g : Nat) (v : Value) (bs : List UInt8) (n : Nat) (w : World) (hn : n ≤ 9223372036854775807) (hW : IsW w g v bs) :
    Calls Try.prog 9 #[.pointer (some ⟨g, 0, none⟩), .int .i64 n] w fun e w' => e = .returned (.int .i64 (putE bs (numL n))) ∧ ∃ v', IsW w' g v' (putB bs (numL n)) ∧ WStep g w v w' v' := by
  have hbg := hW.blk.lt
  have hvl := hW.own.lt
  go_enter Try.func9, Try.ntmps9
  go_wp2_with fail
  refine (number_any n _ hn).mono ?_
  rintro e w1 ⟨u, rfl, hO1, hb1, hu1⟩
  have hR := hO1.rd (Pb := fun k => w.heap.size ≤ k ∧ k < w1.heap.size) hu1
  have hS := hb1.size
  obtain ⟨ao, cap, rfl, _, _, _⟩ := hO1.form
  have hput := put_any (w1.alloc (.cells #[.slice ao (numL n).length cap] 49)) w.heap.size g w1.heap.size [(.slice ao (numL n).length cap, numL n)] bs v ((hW.below hb1).below ((Below.refl _ _).alloc (Nat.le_refl _) _)) (Blk.new _ _ _)
    hbg hvl (fun p hp => by
      simp only [List.mem_singleton] at hp
      subst hp
      exact (hR.touch (Touch.alloc (Touch.refl (fun _ => False) _) _) (fun _ _ f => f.elim)).mono (fun k hk _ => ⟨hk.1, by simp; omega⟩)) (by simp; omega) (by simp) (fun p hp => by
      simp only [List.mem_singleton] at hp
      subst hp
      have := numL_9 n (by omega)
      simp only
      omega) 1 rfl
  have hcat : catB [((Value.slice ao (numL n).length cap, numL n) : Part)] [((Value.slice ao (numL n).length cap, numL n) : Part)].length = numL n := by simp [catB]
  rw [hcat] at hput
  have HP := Lib.hid hput
  clear hput hcat
  go_wp2_with fail
  refine HP.out.mono ?_
  rintro e w2 ⟨rfl, v', h1, h2⟩
  go_wp2_with fail
  go_ret
  exact ⟨rfl, v', h1, ((WStep.of_below hb1).trans (WStep.of_below ((Below.refl _ _).alloc (Nat.le_refl _) _))).trans h2⟩

end Go.Proofs.Ytahemhdmlfejlab
