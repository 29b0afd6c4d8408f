/- A watcher's contracts: Add's steps. -/
import Derived.Test.YtnachllhjojlcaaV12
namespace Go.Proofs.Ytnachllhjojlcaa
open Go.ChangeShapes Go.WideShapes Go.ChangeAt Go.RowKit Go.Maps
set_option maxRecDepth 100000

theorem ded_take {l : List Int} (k : Nat) (h : k < l.length) : dedL (l.take (k + 1)) = if (dedL (l.take k)).any (fun y => y == l[k]) = true then dedL (l.take k) else dedL (l.take k) ++ [l[k]] := by
  unfold dedL
  rw [List.take_succ_eq_append_getElem h, List.foldl_append]
  rfl
theorem ded_len_go (l : List Int) : ∀ a : List Int, (l.foldl (fun a x => if a.any (fun y => y == x) then a else a ++ [x]) a).length ≤ a.length + l.length := by
  induction l with
  | nil => intro a; simp
  | cons x r ih =>
    intro a
    rw [List.foldl_cons]
    refine Nat.le_trans (ih _) ?_
    by_cases h : a.any (fun y => y == x) = true
    · rw [if_pos h, List.length_cons]; omega
    · rw [if_neg h, List.length_cons, List.length_append]; simp; omega
theorem ded_len (l : List Int) : (dedL l).length ≤ l.length := by
  have := ded_len_go l []
  simpa [dedL] using this
theorem any_known (n : Nat) (c : List Int) : (c.any fun x => !decide (1 ≤ x.natAbs ∧ x.natAbs ≤ n)) = !knownS n c := by
  unfold knownS
  induction c with
  | nil => rfl
  | cons x r ih => rw [List.any_cons, List.all_cons, ih, Bool.not_and]

/-- The state while Add goes on. -/
structure AdSt (W wr : World) (M M1 : WM) (S S1 : WS) (d : Nat) : Prop where
  at_ : WAt wr M1 S1
  x : M1.x = M.x
  nb : M1.nB ≤ M.nB + d
  touch : Touch (M.all S) W wr
  all : ∀ k, M1.all S1 k → M.all S k ∨ W.heap.size ≤ k

section
variable {W wr : World} {M M1 : WM} {S S1 : WS} {d : Nat}
theorem AdSt.start (h : WAt W M S) (hb : Below W.heap.size W wr) : AdSt W wr M M S S 0 := ⟨h.below hb, rfl, Nat.le_refl _, Touch.of_below hb _, fun _ hk => .inl hk⟩
theorem AdSt.up (h : AdSt W wr M M1 S S1 d) {d' : Nat} (hd : d ≤ d') (h0 : d' ≠ 0) : WUp d' W wr M S S1 := ⟨M1, h.at_, h.x, by have := h.nb; omega, h.touch, h.all, fun e => absurd e h0⟩
theorem AdSt.call (h : AdSt W wr M M1 S S1 d) {d' : Nat} {w' : World} {S2 : WS} (hu : WUp d' wr w' M1 S1 S2) : ∃ M2, AdSt W w' M M2 S S2 (d + d') := by
  obtain ⟨M2, u1, u2, u3, u4, u5, _⟩ := hu
  exact ⟨M2, u1, u2.trans h.x, by have := h.nb; omega, touch_trans h.touch h.all u4, all_trans h.touch.size h.all u5⟩

/-- A clause is laid beside the others. -/
theorem AdSt.cls (h : AdSt W wr M M1 S S1 d) {w6 wA w10 : World} {v v' : Value} {c : List Int} (h6 : Below wr.heap.size wr w6) (hv : Own w6 3 1 v c.length (inC c)) (hvn : ∀ k, v.ownBlock = some k → wr.heap.size ≤ k)
    (hA : Below w6.heap.size w6 wA) (ho : Own w10 23 1 v' (S1.cl.length + 1) (rowV S1.cl.length M1.C ++ [v])) (hg : wA.grownBy w10 M1.vC.ownBlock) (hat : v'.ownBlock = M1.vC.ownBlock ∨ v'.ownBlock = some wA.heap.size) :
    Touch (fun k => M1.vC.ownBlock = some k) wr w10 ∧ AdSt W (w10.setCell ⟨M.x, 1, none⟩ v') M { M1 with vC := v', C := fun i => if i = S1.cl.length then v else M1.C i } S ⟨S1.n, S1.es, S1.cl ++ [c], S1.ls, S1.by_, S1.done, S1.fresh⟩ d := by
  have t1 : Touch (fun k => M1.vC.ownBlock = some k) w6 w10 := (Touch.of_below hA fun k => M1.vC.ownBlock = some k).trans (Touch.of_grown (F := fun k => M1.vC.ownBlock = some k) hg fun k hk => hk) fun _ _ hk => hk
  have t2 : Touch (fun k => M1.vC.ownBlock = some k) wr w10 := (Touch.of_below h6 fun k => M1.vC.ownBlock = some k).trans t1 fun _ _ hk => hk
  have hv2 : Own w10 3 1 v c.length (inC c) := hv.touch t1 fun k hk e => by
    have h1 := hvn k hk
    have h2 := h.at_.lt .cls k e
    omega
  obtain ⟨s1, s2, s3⟩ := h.at_.addCl (fun k => wr.heap.size ≤ k) (fun k hk ⟨t, ht⟩ => by have := h.at_.lt t k ht; omega) t2 hv2 hvn ho (fun k hk => by
    rcases hat with e | e
    · exact .inl (e ▸ hk)
    · rw [e] at hk
      injection hk with hk
      have h1 := h6.size
      have h2 := hA.size
      exact .inr (by omega))
  rw [← h.x]
  exact ⟨t2, s1, h.x, h.nb, touch_trans h.touch h.all s2, all_trans h.touch.size h.all s3⟩

/-- A row is laid beside the others. -/
theorem AdSt.lits (h : AdSt W wr M M1 S S1 d) {wA w10 : World} {v v' : Value} {c : List Int} (hv : Own wr 3 1 v c.length (inC c)) (hvn : ∀ k, v.ownBlock = some k → W.heap.size ≤ k ∧ ¬ M1.all S1 k)
    (hA : Below wr.heap.size wr wA) (ho : Own w10 23 1 v' (S1.ls.length + 1) (rowV S1.ls.length M1.L ++ [v])) (hg : wA.grownBy w10 M1.vL.ownBlock) (hat : v'.ownBlock = M1.vL.ownBlock ∨ v'.ownBlock = some wA.heap.size) :
    Touch (fun k => M1.vL.ownBlock = some k) wr w10 ∧ AdSt W (w10.setCell ⟨M.x, 2, none⟩ v') M { M1 with vL := v', L := fun i => if i = S1.ls.length then v else M1.L i } S ⟨S1.n, S1.es, S1.cl, S1.ls ++ [c], S1.by_, S1.done, S1.fresh⟩ d := by
  have t2 : Touch (fun k => M1.vL.ownBlock = some k) wr w10 := (Touch.of_below hA fun k => M1.vL.ownBlock = some k).trans (Touch.of_grown (F := fun k => M1.vL.ownBlock = some k) hg fun k hk => hk) fun _ _ hk => hk
  have hv2 : Own w10 3 1 v c.length (inC c) := hv.touch t2 fun k hk e => (hvn k hk).2 ⟨.lits, e⟩
  obtain ⟨s1, s2, s3⟩ := h.at_.addLi (fun k => v.ownBlock = some k ∨ wr.heap.size ≤ k) (fun k hk ⟨t, ht⟩ => by
    rcases hk with hk | hk
    · exact (hvn k hk).2 ⟨t, ht⟩
    · have := h.at_.lt t k ht; omega) t2 hv2 (fun k hk => .inl hk) ho (fun k hk => by
    rcases hat with e | e
    · exact .inl (e ▸ hk)
    · rw [e] at hk
      injection hk with hk
      have h2 := hA.size
      exact .inr (.inr (by omega)))
  rw [← h.x]
  refine ⟨t2, s1, h.x, h.nb, touch_trans h.touch h.all s2, fun k hk => ?_⟩
  rcases s3 k hk with h1 | h1 | h1
  · exact h.all k h1
  · exact .inr (hvn k h1).1
  · exact .inr (Nat.le_trans h.touch.size h1)

/-- A fresh one more. -/
theorem AdSt.fresh (h : AdSt W wr M M1 S S1 d) {wA w10 : World} {v' : Value} {c : Nat} (hA : Below wr.heap.size wr wA) (ho : Own w10 3 1 v' (S1.fresh.length + 1) (natC S1.fresh ++ [.int .i64 (c : Int)])) (hg : wA.grownBy w10 M1.vF.ownBlock) (hat : v'.ownBlock = M1.vF.ownBlock ∨ v'.ownBlock = some wA.heap.size) :
    Touch (fun k => M1.vF.ownBlock = some k) wr w10 ∧ AdSt W (w10.setCell ⟨M.x, 5, none⟩ v') M { M1 with vF := v' } S (S1.wFresh (S1.fresh ++ [c])) d := by
  have t2 : Touch (fun k => M1.vF.ownBlock = some k) wr w10 := (Touch.of_below hA fun k => M1.vF.ownBlock = some k).trans (Touch.of_grown (F := fun k => M1.vF.ownBlock = some k) hg fun k hk => hk) fun _ _ hk => hk
  obtain ⟨s1, s2, s3⟩ := h.at_.setFresh (fr := S1.fresh ++ [c]) t2 (by rw [natC_snoc, List.length_append]; exact ho) (fun k hk => by
    rcases hat with e | e
    · exact .inl (e ▸ hk)
    · rw [e] at hk
      injection hk with hk
      have h2 := hA.size
      exact .inr (by omega))
  rw [← h.x]
  exact ⟨t2, s1, h.x, h.nb, touch_trans h.touch h.all s2, all_trans h.touch.size h.all s3⟩

/-- What is read of a watcher while a part of it is written: the place x + i. -/
theorem AdSt.read (h : AdSt W wr M M1 S S1 d) {w10 : World} {F : Nat → Prop} (t : Tag) (hF : ∀ k, F k → M1.own S1 t k) (hne : t ≠ .self) (ht : Touch F wr w10) (i : Nat) {u : Value} (hc : wr.cell? ⟨M.x, i, none⟩ = some u) :
    w10.cell? ⟨M.x, i, none⟩ = some u ∧ w10.frozen? ⟨M.x, i, none⟩ = false := by
  have hx : M.x < wr.heap.size := by have := h.at_.lt .self M1.x rfl; rw [h.x] at this; exact this
  have hn : ¬ F M.x := fun e => hne (h.at_.dis t .self M.x (hF _ e) h.x.symm)
  have hf := h.at_.cells.2.2.2.2.2.2 i
  rw [h.x] at hf
  exact ⟨(ht.cell (p := ⟨M.x, i, none⟩) hx hn).trans hc, (ht.frozen (p := ⟨M.x, i, none⟩) hx hn).trans hf⟩
/-- A block beside the watcher stays. -/
theorem AdSt.box (h : AdSt W wr M M1 S S1 d) {w10 : World} {F : Nat → Prop} (t : Tag) (hF : ∀ k, F k → M1.own S1 t k) (ht : Touch F wr w10) {cp : Nat} (hcp : cp < W.heap.size) (hno : ¬ M.all S cp) {u : Value} (hc : wr.cell? ⟨cp, 0, none⟩ = some u) : w10.cell? ⟨cp, 0, none⟩ = some u :=
  (ht.cell (p := ⟨cp, 0, none⟩) (Nat.lt_of_lt_of_le hcp h.touch.size) (fun e => by
    rcases h.all cp ⟨t, hF _ e⟩ with h1 | h1
    · exact hno h1
    · omega)).trans hc
end

theorem add_state (S : WS) (hl : S.ls.length = S.cl.length) (c D : List Int) (q : List Int × (Int → List Nat)) :
    (chS ⟨S.n, S.es, S.cl ++ [c], S.ls ++ [D], S.by_, S.done, S.fresh⟩ S.cl.length q).wFresh (S.fresh ++ [S.cl.length]) = ⟨S.n, S.es, S.cl ++ [c], S.ls ++ [q.1], q.2, S.done, S.fresh ++ [S.cl.length]⟩ := by
  show WS.mk S.n S.es (S.cl ++ [c]) ((S.ls ++ [D]).set S.cl.length q.1) q.2 S.done (S.fresh ++ [S.cl.length]) = _
  rw [← hl, List.set_append_right _ _ (Nat.le_refl _), Nat.sub_self]
  rfl

end Go.Proofs.Ytnachllhjojlcaa
