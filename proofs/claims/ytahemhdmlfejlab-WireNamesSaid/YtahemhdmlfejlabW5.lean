/- Contracts of package wire: the writer's methods. -/
import Derived.Test.YtahemhdmlfejlabW4
import Derived.Laws.BytesArg
namespace Go.Proofs.Ytahemhdmlfejlab
open Go.ChangeShapes Go.WideShapes Go.ChangeAt Go.RowKit

theorem rd_bytes (w : World) (s : ByteArray) (cap : Nat) (fr : Nat × Nat) (hc : s.size ≤ cap) (hm : cap ≤ maxLen) (Pb : Nat → Prop) (hp : Pb w.heap.size) :
    Rd (w.alloc (.cells (bytesRow s cap) 5 fr)) Pb (.slice (some ⟨w.heap.size, 0, none⟩) s.size cap) s.size (bc s.data.toList) := by
  refine ⟨by rw [bc_len]; simp, _, cap, rfl, hc, hm, fun _ => ⟨w.heap.size, 0, rfl, hp, by simp, fun j hj => ?_⟩⟩
  have hj' : j < s.data.size := hj
  rw [cell_of_row _ _ (0 + j) _ _ _ (heap_alloc_new w _), Nat.zero_add, bytesRow_at s cap j hj', bc_get _ j (by simpa using hj')]
  simp

theorem text_any (g : Nat) (v : Value) (bs : List UInt8) (s : ByteArray) (w : World) (hs : s.size ≤ 140737488351232) (hW : IsW w g v bs) :
    Calls Try.prog 11 #[.pointer (some ⟨g, 0, none⟩), .string s] w fun e w' => e = .returned (.int .i64 (putE bs (numL s.size ++ s.data.toList))) ∧ ∃ v', IsW w' g v' (putB bs (numL s.size ++ s.data.toList)) ∧ WStep g w v w' v' := by
  have hbg := hW.blk.lt
  have hvl := hW.own.lt
  have hcv := fun w => run_bytes_of_string (P := Try.prog) w 9 49 5 s Try.underlying9 Try.underlying49 Try.underlying5
  go_enter Try.func11, Try.ntmps11
  go_wp2_with fail
  refine (number_any s.size _ (by omega)).mono ?_
  rintro e w1 ⟨u, rfl, hO1, hb1, hu1⟩
  have hR := hO1.rd (Pb := fun k => w.heap.size ≤ k ∧ k < w1.heap.size) hu1
  have hS := hb1.size
  obtain ⟨ao, cap, rfl, _, _, _⟩ := hO1.form
  have hgc := grownCap_ge w1 s.size 0 5
  have hgm := grownCap_le_maxLen w1 s.size 0 5 (by simp only [maxLen]; omega)
  have hbel : Below w1.heap.size w1 (((w1.alloc (Obj.cells (bytesRow s (grownCap w1 s.size 0 5)) 5 ((bytesRow s (grownCap w1 s.size 0 5)).size, (bytesRow s (grownCap w1 s.size 0 5)).size + 1))).alloc
      (Obj.cells #[Value.slice ao (numL s.size).length cap, Value.slice (some { block := w1.heap.size, off := 0 }) s.size (grownCap w1 s.size 0 5)] 49)).drew) :=
    (((Below.refl _ _).alloc (Nat.le_refl _) _).alloc (by simp) _).drew
  have hput := put_any (((w1.alloc (Obj.cells (bytesRow s (grownCap w1 s.size 0 5)) 5 ((bytesRow s (grownCap w1 s.size 0 5)).size, (bytesRow s (grownCap w1 s.size 0 5)).size + 1))).alloc
      (Obj.cells #[Value.slice ao (numL s.size).length cap, Value.slice (some { block := w1.heap.size, off := 0 }) s.size (grownCap w1 s.size 0 5)] 49)).drew)
    w.heap.size g (w1.heap.size + 1) [(.slice ao (numL s.size).length cap, numL s.size), (.slice (some { block := w1.heap.size, off := 0 }) s.size (grownCap w1 s.size 0 5), s.data.toList)] bs v ((hW.below hb1).below hbel)
    (by have := Blk.new (w1.alloc (Obj.cells (bytesRow s (grownCap w1 s.size 0 5)) 5 ((bytesRow s (grownCap w1 s.size 0 5)).size, (bytesRow s (grownCap w1 s.size 0 5)).size + 1))) 49 #[Value.slice ao (numL s.size).length cap, Value.slice (some { block := w1.heap.size, off := 0 }) s.size (grownCap w1 s.size 0 5)]
        simp only [World.size_alloc] at this
        exact this.drew)
    hbg hvl (fun p hp => by
      simp only [List.mem_cons, List.not_mem_nil, or_false] at hp
      rcases hp with rfl | rfl
      · exact (hR.touch (Touch.of_below hbel (fun _ => False)) (fun _ _ f => f.elim)).mono (fun k hk _ => ⟨hk.1, by simp; omega⟩)
      · have h1 := rd_bytes w1 s (grownCap w1 s.size 0 5) ((bytesRow s (grownCap w1 s.size 0 5)).size, (bytesRow s (grownCap w1 s.size 0 5)).size + 1) hgc hgm (fun k => k = w1.heap.size) rfl
        have h2 := (h1.touch ((Touch.alloc (Touch.refl (fun _ => False) _) (Obj.cells #[Value.slice ao (numL s.size).length cap, Value.slice (some { block := w1.heap.size, off := 0 }) s.size (grownCap w1 s.size 0 5)] 49)).drew) (fun _ _ f => f.elim)).mono (Qb := fun k => w.heap.size ≤ k ∧ k < (((w1.alloc (Obj.cells (bytesRow s (grownCap w1 s.size 0 5)) 5 ((bytesRow s (grownCap w1 s.size 0 5)).size, (bytesRow s (grownCap w1 s.size 0 5)).size + 1))).alloc
      (Obj.cells #[Value.slice ao (numL s.size).length cap, Value.slice (some { block := w1.heap.size, off := 0 }) s.size (grownCap w1 s.size 0 5)] 49)).drew).heap.size) (fun k hk _ => ⟨by omega, by simp; omega⟩)
        have hl : s.data.toList.length = s.size := by simp
        rw [hl]
        exact h2) (by simp; omega) (by simp) (fun p hp => by
      simp only [List.mem_cons, List.not_mem_nil, or_false] at hp
      rcases hp with rfl | rfl
      · have := numL_9 s.size (by omega)
        simp only
        omega
      · have hl : s.data.toList.length = s.size := by simp
        simp only
        omega) 2 rfl
  have hcat : ∀ p q : Part, catB [p, q] [p, q].length = p.2 ++ q.2 := by intro p q; simp [catB]
  rw [hcat] at hput
  have HP := Lib.hid hput
  have HB := Lib.hid hbel
  clear hput hcat hbel
  go_wp2_with fail
  refine HP.out.mono ?_
  rintro e w2 ⟨rfl, v', h1, h2⟩
  go_wp2_with fail
  go_ret
  exact ⟨rfl, v', h1, ((WStep.of_below hb1).trans (WStep.of_below HB.out)).trans h2⟩

theorem text_nil (s : ByteArray) (w : World) : Calls Try.prog 11 #[.pointer none, .string s] w fun e w' => e = .returned (.int .i64 2) ∧ w = w' := by
  go_enter Try.func11, Try.ntmps11
  go_wp2_with fail
  go_ret
  exact ⟨rfl, rfl⟩

theorem bytes_nil (w : World) : Calls Try.prog 13 #[.pointer none] w fun e w' => e = .returned (.string ⟨#[]⟩) ∧ w = w' := by
  go_enter Try.func13, Try.ntmps13
  go_wp2_with fail
  go_ret
  exact ⟨rfl, rfl⟩

theorem conv_own {w : World} {v : Value} {l : List UInt8} (h : Own w 5 1 v l.length (bc l)) : (convert 49 9 v).run Try.prog w = .ok (.string ⟨l.toArray⟩) w := by
  obtain ⟨ao, cap, rfl, _, _, hf⟩ := h.form
  rcases Nat.eq_zero_or_pos l.length with h0 | h0
  · have hl : l = [] := List.eq_nil_of_length_eq_zero h0
    subst hl
    cases ao with
    | none => exact run_convert_bytes_nil w 49 5 Try.underlying49 Try.underlying5 _ _ 9 Try.underlying9
    | some a => exact run_convert_bytes_back w 49 9 5 a cap [] Try.underlying49 Try.underlying5 Try.underlying9 (fun j hj => by simp at hj)
  · obtain ⟨g, off, rfl, hc, _, _⟩ := hf h0
    refine run_convert_bytes_back w 49 9 5 ⟨g, off, none⟩ cap l Try.underlying49 Try.underlying5 Try.underlying9 (fun j hj => ?_)
    have ha : (⟨g, off, none⟩ : Addr).add j = ⟨g, off + j, none⟩ := by unfold Addr.add; split <;> simp_all
    rw [ha, hc j (by rw [bc_len]; exact hj), bc_get l j hj]

theorem bytes_any (g : Nat) (v : Value) (bs : List UInt8) (w : World) (hW : IsW w g v bs) : Calls Try.prog 13 #[.pointer (some ⟨g, 0, none⟩)] w fun e w' => e = .returned (.string ⟨bs.toArray⟩) ∧ w = w' := by
  have hcv := conv_own hW.own
  have hc := hW.blk.cell 0
  simp at hc
  obtain ⟨ao, cap, rfl, _, _, _⟩ := hW.own.form
  go_enter Try.func13, Try.ntmps13
  go_wp2_with fail
  go_ret
  exact ⟨rfl, rfl⟩

theorem new_any (w : World) : Calls Try.prog 8 #[] w fun e w' => e = .returned (.pointer (some ⟨w.heap.size, 0, none⟩)) ∧ IsW w' w.heap.size (.slice none 0 0) [] ∧ Below w.heap.size w w' := by
  go_enter Try.func8, Try.ntmps8
  go_wp2_with fail
  go_ret
  exact ⟨rfl, ⟨Blk.new _ _ _, Own.nil _ _ _, by simp⟩, (Below.refl _ _).alloc (Nat.le_refl _) _⟩

end Go.Proofs.Ytahemhdmlfejlab
