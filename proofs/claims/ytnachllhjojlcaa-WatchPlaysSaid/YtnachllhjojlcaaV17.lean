/- The examples. -/
import Derived.Test.YtnachllhjojlcaaV16
namespace Go.Proofs.Ytnachllhjojlcaa
open Go.ChangeShapes Go.WideShapes Go.ChangeAt Go.RowKit Go.Maps Go.Deep
set_option maxRecDepth 100000

instance decI64 (x : Int) : Decidable (I64 x) := inferInstanceAs (Decidable (_ ∧ _))

/-- The blocks that came between two worlds are as they were. -/
def snap (a b : World) : Ast := fun w F => (∀ k, a.heap.size ≤ k → k < b.heap.size → w.heap[k]? = b.heap[k]?) ∧ b.heap.size ≤ w.heap.size ∧ ∀ k, F k ↔ a.heap.size ≤ k ∧ k < b.heap.size
theorem Solid.snap (a b : World) : Solid (snap a b) where
  stay := fun ⟨h, hs, e⟩ ht hG => ⟨fun k h1 h2 => (ht.block k (by omega) (hG k ((e k).2 ⟨h1, h2⟩))).trans (h k h1 h2), Nat.le_trans hs ht.size, e⟩
  lt := fun ⟨h, hs, e⟩ k hk => by have := (e k).1 hk; omega
theorem snap_new (a b : World) : snap a b b fun k => a.heap.size ≤ k ∧ k < b.heap.size := ⟨fun _ _ _ => rfl, Nat.le_refl _, fun _ => Iff.rfl⟩
theorem snap_cell {a b w : World} {F : Nat → Prop} (h : snap a b w F) (p : Addr) (h1 : a.heap.size ≤ p.block) (h2 : p.block < b.heap.size) : w.cell? p = b.cell? p :=
  World.cell?_of_block (w := b) (h.1 _ h1 h2)
theorem On.newSnap {W w w' : World} {A : Ast} (hA : Solid A) (h : On W w A) (hb : Below w.heap.size w w') : On W w' (A.and (snap w w')) :=
  h.new hA hb (snap_new w w') fun _ hk => hk.1
theorem snap_ints {a b w : World} {F : Nat → Prop} (h : snap a b w F) {k : Nat} {l : List Int} (h1 : a.heap.size ≤ k) (h2 : k < b.heap.size) (hc : ∀ j (h : j < l.length), b.cell? ⟨k, j, none⟩ = some (.int .i64 l[j])) : Ints w (some ⟨k, 0, none⟩) l := fun _ =>
  ⟨k, 0, rfl, by have := h.2.1; omega, fun j hj => (snap_cell h ⟨k, 0 + j, none⟩ h1 h2).trans (by rw [Nat.zero_add]; exact hc j hj)⟩

section
variable {W w : World} {C : Ast → Ast} {x n t : Nat} {S : WS}
theorem on_add' (hC : Ctx C) (h : On W w (C (wat x n t S))) (hn : n ≤ 60) (ht : t ≤ 999) (ao : Option Addr) (c : List Int) (cap : Nat) (hc : Ints w ao c) (hl : c.length ≤ 40) (hI : ∀ x ∈ c, I64 x) {S' : WS} {a b : Int} (hr : addS S c = (S', a, b)) :
    Calls Try.prog 12 #[.pointer (some ⟨x, 0, none⟩), .slice ao c.length cap] w fun e w' => e = .returned (.tuple #[.int .i64 a, .int .i64 b]) ∧ On W w' (C (wat x n (t + 1) S')) := by
  have := on_add hC h hn ht ao c cap hc hl hI
  rw [hr] at this
  exact this
theorem on_decide' (hC : Ctx C) (h : On W w (C (wat x n t S))) (hn : n ≤ 60) (i : Int) (hi : I64 i) {S' : WS} {r : Int} (hr : decS S i = (S', r)) :
    Calls Try.prog 13 #[.pointer (some ⟨x, 0, none⟩), .int .i64 i] w fun e w' => e = .returned (.int .i64 r) ∧ On W w' (C (wat x n (t + 1) S')) := by
  have := on_decide hC h hn i hi
  rw [hr] at this
  exact this
theorem on_back' (hC : Ctx C) (h : On W w (C (wat x n t S))) (hn : n ≤ 60) (ht : t ≤ 999) (i : Int) (hi : I64 i) {S' : WS} {r : Int} (hr : backS S i = (S', r)) :
    Calls Try.prog 20 #[.pointer (some ⟨x, 0, none⟩), .int .i64 i] w fun e w' => e = .returned (.int .i64 r) ∧ On W w' (C (wat x n (t + 1) S')) := by
  have := on_back hC h hn ht i hi
  rw [hr] at this
  exact this
theorem on_prop' (hC : Ctx C) (h : On W w (C (wat x n t S))) (hn : n ≤ 60) (ht : t ≤ 999) {S' : WS} {r : Int} (hr : propS S = (S', r)) :
    Calls Try.prog 14 #[.pointer (some ⟨x, 0, none⟩)] w fun e w' => e = .returned (.int .i64 r) ∧ On W w' (C (wat x n (t + 1) S')) := by
  have := on_prop hC h hn ht
  rw [hr] at this
  exact this
theorem on_value' (hC : Ctx C) (h : On W w (C (wat x n t S))) (hn : n ≤ 60) (i : Int) (hi : I64 i) {v : Int} (hr : valE n S.es i = v) :
    Calls Try.prog 15 #[.pointer (some ⟨x, 0, none⟩), .int .i64 i] w fun e w' => e = .returned (.int .i64 v) ∧ w = w' := by
  have := on_value hC h hn i hi
  rw [hr] at this
  exact this
theorem on_level' (hC : Ctx C) (h : On W w (C (wat x n t S))) {v : Int} (hr : hi S.es = v) :
    Calls Try.prog 25 #[.pointer (some ⟨x, 0, none⟩)] w fun e w' => e = .returned (.int .i64 v) ∧ w = w' := by
  have := on_level hC h
  rw [hr] at this
  exact this
end

def exRow : Nat → List Int
  | 0 => [1, 2]
  | 1 => [-1, 3]
  | _ => [-3, -2]
theorem ex_states : ∃ (st : Nat → WS) (S4 S5 S6 S7 : WS), st 0 = newS 3 ∧ (∀ k, k < 3 → addS (st k) (exRow k) = (st (k + 1), (k : Int), 0)) ∧ decS (st 3) (-2) = (S4, 0) ∧ propS S4 = (S5, -1) ∧ valE 3 S5.es 1 = 1 ∧ valE 3 S5.es 3 = 1 ∧ hi S5.es = 1 ∧ addS S5 [-1, -3] = (S6, 3, 0) ∧ propS S6 = (S7, 3) := by
  let st : Nat → WS := fun k => match k with
    | 0 => newS 3
    | 1 => (addS (newS 3) [1, 2]).1
    | 2 => (addS (addS (newS 3) [1, 2]).1 [-1, 3]).1
    | _ => (addS (addS (addS (newS 3) [1, 2]).1 [-1, 3]).1 [-3, -2]).1
  refine ⟨st, (decS (st 3) (-2)).1, (propS (decS (st 3) (-2)).1).1, (addS (propS (decS (st 3) (-2)).1).1 [-1, -3]).1, (propS (addS (propS (decS (st 3) (-2)).1).1 [-1, -3]).1).1, rfl, fun k hk => ?_, ?_, ?_, ?_, ?_, ?_, ?_, ?_⟩
  · match k, hk with
    | 0, _ => show addS (st 0) (exRow 0) = (st (0 + 1), ((0 : Nat) : Int), 0); kernel_rfl
    | 1, _ => show addS (st 1) (exRow 1) = (st (1 + 1), ((1 : Nat) : Int), 0); kernel_rfl
    | 2, _ => show addS (st 2) (exRow 2) = (st (2 + 1), ((2 : Nat) : Int), 0); kernel_rfl
  · kernel_rfl
  · kernel_rfl
  · kernel_rfl
  · kernel_rfl
  · kernel_rfl
  · kernel_rfl
  · kernel_rfl

theorem ex_rows {w1 w4 : World} (h : w4 = (((w1.alloc (.cells #[.int .i64 1, .int .i64 2] 3)).alloc (.cells #[.int .i64 (-1), .int .i64 3] 3)).alloc (.cells #[.int .i64 (-3), .int .i64 (-2)] 3)).alloc
    (.cells #[.slice (some ⟨w1.heap.size, 0, none⟩) 2 2, .slice (some ⟨w1.heap.size + 1, 0, none⟩) 2 2, .slice (some ⟨w1.heap.size + 1 + 1, 0, none⟩) 2 2] 23)) :
    Below w1.heap.size w1 w4 ∧ w4.heap.size = w1.heap.size + 4 ∧ ∀ (wr : World) (F : Nat → Prop), snap w1 w4 wr F → ∀ k, k < 3 → wr.cell? ⟨w1.heap.size + 1 + 1 + 1, k, none⟩ = some (.slice (some ⟨w1.heap.size + k, 0, none⟩) 2 2) ∧ Ints wr (some ⟨w1.heap.size + k, 0, none⟩) (exRow k) := by
  obtain ⟨a1, e1⟩ : ∃ a, a = w1.alloc (.cells #[.int .i64 1, .int .i64 2] 3) := ⟨_, rfl⟩
  obtain ⟨a2, e2⟩ : ∃ a, a = a1.alloc (.cells #[.int .i64 (-1), .int .i64 3] 3) := ⟨_, rfl⟩
  obtain ⟨a3, e3⟩ : ∃ a, a = a2.alloc (.cells #[.int .i64 (-3), .int .i64 (-2)] 3) := ⟨_, rfl⟩
  rw [← e1, ← e2, ← e3] at h
  have s1 : a1.heap.size = w1.heap.size + 1 := by rw [e1]; simp
  have s2 : a2.heap.size = w1.heap.size + 2 := by rw [e2]; simp [s1]
  have s3 : a3.heap.size = w1.heap.size + 3 := by rw [e3]; simp [s2]
  have s4 : w4.heap.size = w1.heap.size + 4 := by rw [h]; simp [s3]
  have b1 : Blk a1 w1.heap.size 3 #[.int .i64 1, .int .i64 2] := by rw [e1]; exact Blk.new ..
  have b2 : Blk a2 (w1.heap.size + 1) 3 #[.int .i64 (-1), .int .i64 3] := by rw [e2, ← s1]; exact Blk.new ..
  have b3 : Blk a3 (w1.heap.size + 2) 3 #[.int .i64 (-3), .int .i64 (-2)] := by rw [e3, ← s2]; exact Blk.new ..
  have b4 : Blk w4 (w1.heap.size + 3) 23 #[.slice (some ⟨w1.heap.size, 0, none⟩) 2 2, .slice (some ⟨w1.heap.size + 1, 0, none⟩) 2 2, .slice (some ⟨w1.heap.size + 1 + 1, 0, none⟩) 2 2] := by rw [h, ← s3]; exact Blk.new ..
  have l0 : Below w1.heap.size w1 a1 := by rw [e1]; exact (Below.refl _ _).alloc (Nat.le_refl _) _
  have l1 : Below a1.heap.size a1 a2 := by rw [e2]; exact (Below.refl _ _).alloc (Nat.le_refl _) _
  have l2 : Below a2.heap.size a2 a3 := by rw [e3]; exact (Below.refl _ _).alloc (Nat.le_refl _) _
  have l3 : Below a3.heap.size a3 w4 := by rw [h]; exact (Below.refl _ _).alloc (Nat.le_refl _) _
  have c1 := ((b1.below l1 (by omega)).below l2 (by omega)).below l3 (by omega)
  have c2 := (b2.below l2 (by omega)).below l3 (by omega)
  have c3 := b3.below l3 (by omega)
  refine ⟨bel_new l0 l0.size (bel_new l1 l1.size (bel_new l2 l2.size l3)), s4, fun wr F hs k hk => ?_⟩
  have hq : ∀ j, wr.cell? ⟨w1.heap.size + 3, j, none⟩ = w4.cell? ⟨w1.heap.size + 3, j, none⟩ := fun j => snap_cell hs _ (by simp) (by simp only; omega)
  match k, hk with
  | 0, _ => exact ⟨(hq 0).trans (b4.cell 0), snap_ints hs (by omega) (by omega) fun j hj => by
      match j, hj with
      | 0, _ => exact c1.cell 0
      | 1, _ => exact c1.cell 1⟩
  | 1, _ => exact ⟨(hq 1).trans (b4.cell 1), snap_ints hs (by omega) (by omega) fun j hj => by
      match j, hj with
      | 0, _ => exact c2.cell 0
      | 1, _ => exact c2.cell 1⟩
  | 2, _ => exact ⟨(hq 2).trans (b4.cell 2), snap_ints hs (by omega) (by omega) fun j hj => by
      match j, hj with
      | 0, _ => exact c3.cell 0
      | 1, _ => exact c3.cell 1⟩
theorem ex_len : ∀ k, k < 3 → (exRow k).length = 2
  | 0, _ => rfl
  | 1, _ => rfl
  | 2, _ => rfl
theorem ex_i64 (k : Nat) (_ : k < 3) : ∀ x ∈ exRow k, I64 x := fun x hx => by
  unfold exRow at hx
  split at hx <;> simp at hx <;> rcases hx with rfl | rfl <;> decide

/-- A clause of two that is written out and added at once. -/
theorem add_lit2 {W w : World} {C : Ast → Ast} {x n t : Nat} {S S' : WS} (hC : Ctx C) (h : On W w (C (wat x n t S))) (hn : n ≤ 60) (ht : t ≤ 999) (p q : Int) (hp : I64 p) (hq : I64 q) {a b : Int} (hr : addS S [p, q] = (S', a, b)) :
    Calls Try.prog 12 #[.pointer (some ⟨x, 0, none⟩), .slice (some ⟨w.heap.size, 0, none⟩) 2 2] (w.alloc (.cells #[.int .i64 p, .int .i64 q] 3)) fun e w' => e = .returned (.tuple #[.int .i64 a, .int .i64 b]) ∧ On W w' (C (wat x n (t + 1) S')) := by
  have hb : Below w.heap.size w (w.alloc (.cells #[.int .i64 p, .int .i64 q] 3)) := (Below.refl _ _).alloc (Nat.le_refl _) _
  have hk := Blk.new w 3 #[.int .i64 p, .int .i64 q]
  exact on_add' hC (h.below (hC.solid (Solid.wat ..)) hb) hn ht _ [p, q] 2 (fun _ => ⟨w.heap.size, 0, rfl, by simp, fun j hj => by
    match j, hj with
    | 0, _ => exact hk.cell 0
    | 1, _ => exact hk.cell 1⟩) (by simp) (fun y hy => by
    simp at hy
    rcases hy with rfl | rfl
    · exact hp
    · exact hq) hr

theorem awake_any (w : World) : Calls Try.prog 9 #[] w fun e w' => e = .returned (.bool true) ∧ Below w.heap.size w w' := by
  obtain ⟨st, S4, S5, S6, S7, e0, e1, e2, e3, e4, e5, e6, e7, e8⟩ := ex_states
  have HN : Hid (Calls Try.prog 10 #[.int .i64 3] w fun e w' => ∃ x, e = .returned (.tuple #[.pointer (some ⟨x, 0, none⟩), .int .i64 0]) ∧ On w w' (Emp.and (wat x 3 0 (st 0)))) := Lib.hid (by
    rw [e0]
    exact on_new (n := 3) Solid.emp (On.start (Below.refl w.heap.size w)) (by omega))
  have E1 := Lib.hid e1
  have E2 := Lib.hid e2
  have E3 := Lib.hid e3
  have E4 := Lib.hid e4
  have E5 := Lib.hid e5
  have E6 := Lib.hid e6
  have E7 := Lib.hid e7
  have E8 := Lib.hid e8
  clear e0 e1 e2 e3 e4 e5 e6 e7 e8
  go_enter Try.func9, Try.ntmps9
  go_wp2_with (go_at_call 10; (with_reducible refine HN.out.mono ?_); rintro e w1 ⟨x, rfl, h1⟩)
  obtain ⟨w4, hw4⟩ : ∃ w4, w4 = (((w1.alloc (.cells #[.int .i64 1, .int .i64 2] 3)).alloc (.cells #[.int .i64 (-1), .int .i64 3] 3)).alloc (.cells #[.int .i64 (-3), .int .i64 (-2)] 3)).alloc
    (.cells #[.slice (some ⟨w1.heap.size, 0, none⟩) 2 2, .slice (some ⟨w1.heap.size + 1, 0, none⟩) 2 2, .slice (some ⟨w1.heap.size + 1 + 1, 0, none⟩) 2 2] 23) := ⟨_, rfl⟩
  have hrows := ex_rows hw4
  rw [← hw4]
  obtain ⟨hb4, hz4, hrow⟩ := hrows
  have h4 : On w w4 ((Emp.and (wat x 3 0 (st 0))).and (snap w1 w4)) := h1.newSnap (Solid.emp.and (Solid.wat ..)) hb4
  have HRow := Lib.hid hrow
  clear hw4 hrow h1 hb4
  have hC : Ctx fun A => (Emp.and A).and (snap w1 w4) := (Ctx.id.left (Solid.snap w1 w4)).right Solid.emp
  go_loopw [20] (fun s wr => ∃ k : Nat, k ≤ 3 ∧ s = .int .i64 k ∧ On w wr ((Emp.and (wat x 3 k (st k))).and (snap w1 w4))) (fun s _ => 3 - (intOf s).toNat)
  case atStart => exact ⟨0, by omega, rfl, h4⟩
  case round =>
    obtain ⟨k, hk, rfl, hr⟩ := hrel
    by_cases hlt : k < 3
    · have hki : (k : Int) < 3 := by omega
      have hr2 := hr
      obtain ⟨_, ⟨_, Fb, _, hsn, _, _⟩, _, _⟩ := hr2
      obtain ⟨hc, hi⟩ := HRow.out wr _ hsn k hlt
      have HA := Lib.hid (on_add' hC hr (by omega) (by omega) (some ⟨w1.heap.size + k, 0, none⟩) (exRow k) 2 hi (by rw [ex_len k hlt]; omega) (ex_i64 k hlt) (E1.out k hlt))
      rw [ex_len k hlt] at HA
      clear hsn hi hr
      go_wp2_with (go_at_call 12; (with_reducible refine HA.out.mono ?_); rintro e w2 ⟨rfl, h2⟩)
      go_roundw
      case rel => exact ⟨k + 1, by omega, by go_num, h2⟩
      case measure => simp [intOf]; omega
    · obtain rfl : k = 3 := by omega
      go_wp2_with (first
        | (go_at_call 13; (with_reducible refine (on_decide' hC hr (by omega) (-2) (by decide) E2.out).mono ?_); rintro e w5 ⟨rfl, h5⟩)
        | (go_at_call 14; (with_reducible refine (on_prop' hC h5 (by omega) (by omega) E3.out).mono ?_); rintro e w6 ⟨rfl, h6⟩)
        | (go_at_call 15; (with_reducible refine (on_value' hC h6 (by omega) 1 (by decide) E4.out).mono ?_); rintro e w7 ⟨rfl, rfl⟩)
        | (go_at_call 15; (with_reducible refine (on_value' hC h6 (by omega) 3 (by decide) E5.out).mono ?_); rintro e w7 ⟨rfl, rfl⟩)
        | (go_at_call 25; (with_reducible refine (on_level' hC h6 E6.out).mono ?_); rintro e w7 ⟨rfl, rfl⟩)
        | (go_at_call 12; (with_reducible refine (add_lit2 hC h6 (by omega) (by omega) (-1) (-3) (by decide) (by decide) E7.out).mono ?_); rintro e w8 ⟨rfl, h8⟩)
        | (go_at_call 14; (with_reducible refine (on_prop' hC h8 (by omega) (by omega) E8.out).mono ?_); rintro e w9 ⟨rfl, h9⟩))
      go_ret
      exact ⟨rfl, h9.bel⟩

end Go.Proofs.Ytnachllhjojlcaa
