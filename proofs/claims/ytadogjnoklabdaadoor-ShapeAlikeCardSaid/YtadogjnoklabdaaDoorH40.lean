/- What ShapeAlike does to a copy: the copy's memory while it is written over. Conditions: as each theorem names them. -/
import Derived.Test.YtadogjnoklabdaaDoorH39
namespace Go.Proofs.YtadogjnoklabdaaDoor
open Go.ChangeShapes Go.WideShapes Go.ChangeAt Go.RowKit Go.Deep
set_option maxRecDepth 100000

/-- A copy that is written over: its box at q, its Args' array, and the first Args of its Args. -/
structure AltSt (Ww : World) (n1 n3 q : Nat) (r : RichD) (k' : Int) (sc : Value) (S : Nat → Value) (W : World) : Prop where
  t : Touch (fun k => n1 ≤ k ∧ k < n3) Ww W
  bx : Blk W q 28 #[.int .u8 k', .string r.dep.name, .int .u8 r.dep.op, .int .i64 r.dep.ep, .string r.dep.ver, .string r.dep.rel, sc]
  ar : ∃ xs, Own W 28 7 sc r.n xs ∧ (∀ j, j < r.n → xs[j * 7 + 6]? = some (S j)) ∧ ∀ j, j < r.n → (xs[j * 7]?).isSome
  ch : ∀ j, j < r.n → 0 < (r.args j).n → ∃ b o c v, S j = .slice (some ⟨b, o, none⟩) (r.args j).n c ∧ n1 ≤ b ∧ b < n3 ∧ sc.ownBlock ≠ some b ∧ b ≠ q ∧ W.cell? ⟨b, o + 1, none⟩ = some v ∧ W.frozen? ⟨b, o + 1, none⟩ = false
  ho : ∀ b, sc.ownBlock = some b → n1 ≤ b ∧ b < n3 ∧ b ≠ q
  hq : n1 ≤ q ∧ q < n3
theorem cell_some {w : World} {p q : Addr} {x v : Value} (h : w.cell? q = some v) : ∃ v', (w.setCell p x).cell? q = some v' := by
  by_cases e : p = q
  · subst e
    exact ⟨x, World.cell?_setCell_same w _ _ h⟩
  · exact ⟨v, (World.cell?_setCell_other w _ _ _ e).trans h⟩
/-- The copy as it was made. -/
theorem AltSt.start {Ww : World} {n1 n3 q : Nat} {r : RichD} {sc : Value} {W0 : World} (hN : NewArgs n1 W0 r sc) (hb : Below W0.heap.size W0 Ww) (h0 : W0.heap.size ≤ q) (hq : q < n3) (h1 : n1 ≤ W0.heap.size) (hB : RichB Ww q r sc) :
    ∃ S, (∀ j, j < r.n → ∃ a c, S j = .slice a (r.args j).n c) ∧ AltSt Ww n1 n3 q r r.kind sc S Ww := by
  obtain ⟨hd, hn, S, hO, hi, hA⟩ := hN
  refine ⟨S, fun j hj => (hA j hj).is.form, Touch.refl _ _, hB, ⟨_, hO.new hb, fun j hj => ?_, fun j hj => ?_⟩, fun j hj h2 => ?_, fun b hb2 => ?_, ⟨by omega, hq⟩⟩
  · rw [enR_at _ _ _ j hj 6 (by omega)]
    rfl
  · have := enR_at r.args S r.n j hj 0 (by omega)
    rw [Nat.add_zero] at this
    rw [this]
    rfl
  · have h3 := hA j hj
    obtain ⟨a, c, e⟩ := h3.is.form
    rw [e] at h3
    generalize hr : r.args j = rj at h3 e h2 ⊢
    cases h3 with
    | mk _ _ _ S2 hd2 hn2 hA2 hS2 =>
      obtain ⟨b, o, rfl, ⟨h4, h5⟩, h6, h7⟩ := hA2 0 h2
      have h8 := (h7.below hb).c1
      rw [Nat.zero_mul, Nat.add_zero] at h8
      have hlt : b < W0.heap.size := h7.lt
      exact ⟨b, o, c, _, e, h4, by omega, h5, by omega, h8, (World.frozen?_of_block (w := W0) (hb.block b hlt)).trans (h6 _)⟩
  · have := hi b hb2
    have h4 := hO.lt b hb2
    exact ⟨this, by omega, by omega⟩
theorem AltSt.kind {Ww : World} {n1 n3 q : Nat} {r : RichD} {k' : Int} {sc : Value} {S : Nat → Value} {W : World} (h : AltSt Ww n1 n3 q r k' sc S W) (k2 : Int) : AltSt Ww n1 n3 q r k2 sc S (W.setCell ⟨q, 0, none⟩ (.int .u8 k2)) := by
  refine ⟨h.t.setCell (p := ⟨q, 0, none⟩) (fun _ => h.hq) _, h.bx.set_ 0 _, ?_, fun j hj h2 => ?_, h.ho, h.hq⟩
  · obtain ⟨xs, h1, h2, h3⟩ := h.ar
    exact ⟨xs, h1.far (p := ⟨q, 0, none⟩) (fun e => (h.ho q e).2.2 rfl) _, h2, h3⟩
  · obtain ⟨b, o, c, v, h3, h4, h5, h6, h7, h8, h9⟩ := h.ch j hj h2
    obtain ⟨v', h10⟩ := cell_some (p := ⟨q, 0, none⟩) (x := .int .u8 k2) h8
    exact ⟨b, o, c, v', h3, h4, h5, h6, h7, h10, by simpa using h9⟩
theorem AltSt.arg {Ww : World} {n1 n3 q : Nat} {r : RichD} {k' : Int} {b o c : Nat} {S : Nat → Value} {W : World} (h : AltSt Ww n1 n3 q r k' (.slice (some ⟨b, o, none⟩) r.n c) S W) (j : Nat) : AltSt Ww n1 n3 q r k' (.slice (some ⟨b, o, none⟩) r.n c) S (W.setCell ⟨b, o + j * 7, none⟩ (.int .u8 99)) := by
  obtain ⟨g1, g2, g3⟩ := h.ho b rfl
  refine ⟨h.t.setCell (p := ⟨b, o + j * 7, none⟩) (fun _ => ⟨g1, g2⟩) _, h.bx.far (p := ⟨b, o + j * 7, none⟩) (fun e => g3 e.symm) _, ?_, fun i hi h2 => ?_, h.ho, h.hq⟩
  · obtain ⟨xs, h1, h2, h3⟩ := h.ar
    refine ⟨_, h1.stored (j * 7) _, fun i hi => ?_, fun i hi => ?_⟩
    · rw [List.getElem?_set_ne (by omega)]
      exact h2 i hi
    · have h4 := h3 i hi
      rw [Option.isSome_iff_exists] at h4 ⊢
      obtain ⟨v, h4⟩ := h4
      by_cases e : j * 7 = i * 7
      · have hlt := (List.getElem?_eq_some_iff.1 h4).1
        exact ⟨_, by rw [e, List.getElem?_set_self hlt]⟩
      · exact ⟨v, by rw [List.getElem?_set_ne e]; exact h4⟩
  · obtain ⟨b', o', c', v, h3, h4, h5, h6, h7, h8, h9⟩ := h.ch i hi h2
    obtain ⟨v', h10⟩ := cell_some (p := ⟨b, o + j * 7, none⟩) (x := .int .u8 99) h8
    exact ⟨b', o', c', v', h3, h4, h5, h6, h7, h10, by simpa using h9⟩
theorem AltSt.name {Ww : World} {n1 n3 q : Nat} {r : RichD} {k' : Int} {sc : Value} {S : Nat → Value} {W : World} (h : AltSt Ww n1 n3 q r k' sc S W) (b i : Nat) (h1 : n1 ≤ b) (h2 : b < n3) (h3 : sc.ownBlock ≠ some b) (h4 : b ≠ q) (u : Value) : AltSt Ww n1 n3 q r k' sc S (W.setCell ⟨b, i, none⟩ u) := by
  refine ⟨h.t.setCell (p := ⟨b, i, none⟩) (fun _ => ⟨h1, h2⟩) _, h.bx.far (p := ⟨b, i, none⟩) (fun e => h4 e.symm) _, ?_, fun j hj h5 => ?_, h.ho, h.hq⟩
  · obtain ⟨xs, h6, h7, h8⟩ := h.ar
    exact ⟨xs, h6.far (p := ⟨b, i, none⟩) h3 _, h7, h8⟩
  · obtain ⟨b', o', c', v, p3, p4, p5, p6, p7, p8, p9⟩ := h.ch j hj h5
    obtain ⟨v', p10⟩ := cell_some (p := ⟨b, i, none⟩) (x := u) p8
    exact ⟨b', o', c', v', p3, p4, p5, p6, p7, p10, by simpa using p9⟩
/-- What a round reads and writes of the array. -/
theorem AltSt.at_ {Ww : World} {n1 n3 q : Nat} {r : RichD} {k' : Int} {sc : Value} {S : Nat → Value} {W : World} (h : AltSt Ww n1 n3 q r k' sc S W) (j : Nat) (hj : j < r.n) : ∃ b o c, sc = .slice (some ⟨b, o, none⟩) r.n c ∧ b < W.heap.size ∧ W.cell? ⟨b, o + j * 7 + 6, none⟩ = some (S j) ∧ (∃ v, W.cell? ⟨b, o + j * 7, none⟩ = some v) ∧ ∀ i, W.frozen? ⟨b, i, none⟩ = false := by
  obtain ⟨xs, h1, h2, h3⟩ := h.ar
  obtain ⟨ao, c, e, _, _, hc⟩ := h1.form
  obtain ⟨b, o, rfl, h4, h5, h6⟩ := hc (by omega)
  have h7 := h2 j hj
  have h8 := h3 j hj
  have hl7 := (List.getElem?_eq_some_iff.1 h7).1
  rw [Option.isSome_iff_exists] at h8
  obtain ⟨v, h8⟩ := h8
  have hl8 := (List.getElem?_eq_some_iff.1 h8).1
  refine ⟨b, o, c, e, h6, ?_, ⟨v, ?_⟩, h5⟩
  · rw [Nat.add_assoc, h4 _ hl7, h7]
  · rw [h4 _ hl8, h8]
theorem AltSt.form {Ww : World} {n1 n3 q : Nat} {r : RichD} {k' : Int} {sc : Value} {S : Nat → Value} {W : World} (h : AltSt Ww n1 n3 q r k' sc S W) : ∃ a c, sc = .slice a r.n c := by
  obtain ⟨xs, h1, _⟩ := h.ar
  obtain ⟨ao, c, e, _⟩ := h1.form
  exact ⟨ao, c, e⟩
/-- Of another kind: not the same, whatever else. -/
theorem same_unlike (r : RichD) (s s2 : Value) (k2 : Int) (d : DepD) (w : World) (hk : ¬ r.kind = k2) : Calls Tryd.prog 18 #[r.val s, richV k2 d s2] w fun e w' => e = .returned (.bool false) ∧ Below w.heap.size w w' := by
  have HB0 := Lib.hid (show ∀ o1 o2, Below w.heap.size w ((w.alloc o1).alloc o2) from fun o1 o2 => below_t' (new_b _ _) (new_b _ _))
  have hkd : (r.kind == k2) = false := by simpa using hk
  unfold RichD.val richV
  go_enter Tryd.func18, Tryd.ntmps18
  go_wp2_with fail
  go_ret
  exact ⟨rfl, HB0.out _ _⟩
end Go.Proofs.YtadogjnoklabdaaDoor
