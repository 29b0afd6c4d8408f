/- shape.Count. Conditions: as each theorem names them. -/
import Derived.Test.YtadogjnoklabdaaDoorH13
import Derived.Test.YtadogjnoklabdaaDoorMem
import Derived.RangeFuncWrites
import Derived.RangeFuncFrom
namespace Go.Proofs.YtadogjnoklabdaaDoor
open Go.ChangeShapes Go.WideShapes Go.ChangeAt Go.RowKit Go.Deep Go.Shelf
set_option maxRecDepth 100000
attribute [local go_sem] Oper.semAt_some

theorem blk_walk {A B : World} {row : Option Nat} {g : Nat} {t : TypeId} {cs : Array Value} {n0 : Nat} (h : Blk A g t cs) (hg : A.grownBy B row) (hr : ∀ r, row = some r → n0 ≤ r ∧ ∃ o : Obj, A.heap[r]? = some o ∧ o.isCells = false) : Blk B g t cs :=
  h.grown hg fun e => by
    obtain ⟨_, o, ho, hc⟩ := hr g e.symm
    unfold Blk at h
    rw [h] at ho
    injection ho with ho
    rw [← ho] at hc
    simp [Obj.isCells] at hc
theorem Kp.set {B n0 : Nat} (hB : n0 ≤ B) (W : World) (i : Nat) (u : Value) : Kp B n0 W (W.setCell ⟨B, i, none⟩ u) := by
  refine ⟨⟨by simp, fun k o hk ho _ _ => (Below.heap_setCell W ⟨B, i, none⟩ u k hk).trans ho⟩, (Below.refl n0 W).setCell (p := ⟨B, i, none⟩) hB u⟩
theorem KC.keeps {W W' : World} (h : Below W.heap.size W W') (n : Nat) : KeepsFrom n W W' := ⟨h.size, fun k _ _ hk _ => (h.block k (Array.getElem?_eq_some_iff.1 hk).1).trans hk⟩

set_option maxHeartbeats 4000000 in
theorem count_any (W0 : World) (r : RichD) (s : Value) (hs0 : IsArgs W0 r s) (w : World) (hB : Below W0.heap.size W0 w) (hc : r.count ≤ 4611686018427387904) : Calls Tryd.prog 12 #[r.val s] w fun e w' => e = .returned (.int .i64 r.count) ∧ Below w.heap.size w w' := by
  have hs := hs0.kept hB
  obtain ⟨a, c, rfl⟩ := hs.form
  obtain ⟨w2, hw2⟩ : ∃ w2, w2 = (w.alloc (richObj r (.slice a r.n c))).alloc (.cells #[.int .i64 0] 3) := ⟨_, rfl⟩
  obtain ⟨w4, hw4⟩ : ∃ w4, w4 = (w2.alloc (richObj r (.slice a r.n c))).alloc (.cells #[selfV (w2.heap.size + 1)] 57) := ⟨_, rfl⟩
  have HP := Lib.hid (parts_any r (.slice a r.n c) w2)
  rw [← hw4] at HP
  have hz2 : w2.heap.size = w.heap.size + 2 := by rw [hw2]; simp
  have hz4 : w4.heap.size = w.heap.size + 4 := by rw [hw4]; simp [hz2]
  have hb2 : Below w.heap.size w w2 := by rw [hw2]; exact ((Below.refl _ w).alloc (Nat.le_refl _) _).alloc (by simp) _
  have hb24 : Below w2.heap.size w2 w4 := by rw [hw4]; exact ((Below.refl _ w2).alloc (Nat.le_refl _) _).alloc (by simp) _
  have hk2 : Blk w2 (w.heap.size + 1) 3 #[.int .i64 0] := by rw [hw2]; have := Blk.new (w.alloc (richObj r (.slice a r.n c))) 3 #[.int .i64 0]; rwa [World.size_alloc] at this
  have hk4 : Blk w4 (w.heap.size + 1) 3 #[.int .i64 0] := hk2.below hb24 (by omega)
  have hself : Blk w4 (w.heap.size + 3) 57 #[selfV (w.heap.size + 3)] := by
    rw [hw4, hz2]
    have := Blk.new (w2.alloc (richObj r (.slice a r.n c))) 57 #[selfV (w.heap.size + 2 + 1)]
    rw [World.size_alloc, hz2] at this
    exact this
  have hrb : RichB w4 (w.heap.size + 2) r (.slice a r.n c) := by
    have h := RichB.new w2 r (.slice a r.n c)
    rw [hz2] at h
    rw [hw4]
    exact h.below (below_new _ _)
  have hst := parts_stops w w4 (w.heap.size + 3) (w.heap.size + 2) (w.heap.size + 1) 4 (by omega) (by omega) r _ hs (hb2.trans (hb24.mono (by omega))) (by omega) (by omega) hself hrb
  have HST := Lib.hid hst
  have HB4 := Lib.hid (hb2.trans (hb24.mono (by omega)))
  have HK4 := Lib.hid hk4
  clear hst hself hrb hk4 hk2 hb2 hb24 hs hs0 hB hw4
  refine (callsIn_wide (n := 5)).1 ?_
  refine callsIn_of_wp_marks Tryd.func12 rfl trivial ?_ rfl
  simp only [Tryd.ntmps12, List.size_toArray, List.length_cons, List.length_nil, Nat.reduceAdd, Nat.reduceSub, Array.replicate_succ, Array.replicate_zero, List.push_toArray, List.append_toArray, List.nil_append, List.cons_append]
  unfold RichD.val richV
  subst hw2
  gi_wp2_with ((try refine ⟨trivial, ?_⟩); gi_at_call 29; refine (callsIn_wide.2 HP.out).mono ?_; rintro e w1 ⟨rfl, rfl⟩)
  refine wpIn_rangeFunc_ownG (F := Fence.wide) (n := 5) rfl (by omega) (gf := 35) (lb := #[.pointer (some ⟨w.heap.size + 3, 0, none⟩), .pointer (some ⟨w.heap.size + 2, 0, none⟩)]) rfl trivial (enters_of Tryd.func35 (by kernel_rfl) rfl) HST.out Kp.t (Kp.b (by omega)) (Below.refl _ _) (fun _ => rfl)
    (fun pre W => Blk W (w.heap.size + 1) 3 #[.int .i64 (pre.length : Int)] ∧ Below w.heap.size w W) (fun _ _ _ => False)
    (OwnFrom.and (fun s A B row hs hg hr => blk_walk hs hg hr) (ownFrom_below (Nat.le_refl _) (by omega)))
    (fun _ _ _ _ _ hs _ _ => hs) ⟨HK4.out, HB4.out⟩ ?a1 ?assign ?body ?done ?stop
  case assign =>
    intro l x W K hK
    gi_wp2
    exact hK
  case body =>
    rintro l pre x W ⟨hbk, hbl⟩ hlen
    have hc0 : W.cell? ⟨w.heap.size + 1, 0, none⟩ = some (.int .i64 (pre.length : Int)) := hbk.cell 0
    have hf0 : W.frozen? ⟨w.heap.size + 1, 0, none⟩ = false := hbk.frozen 0
    have hle : (pre.length : Int) + 1 ≤ 4611686018427387904 := by omega
    have HBk := Lib.hid hbk
    have HBl := Lib.hid hbl
    clear hbk hbl hlen
    gi_wp2
    refine ⟨(KeepsOthers.setCell _ _ _).from _, Kp.set (by omega) _ _ _, ?_, HBl.out.trans (Kp.set (n0 := w.heap.size) (B := w.heap.size + 1) (by omega) W 0 _).bl⟩
    have h := HBk.out.set_ 0 (.int .i64 ((pre ++ [x]).length : Int))
    simpa using h
  case done =>
    rintro D ys W hD hS ⟨hbk, hbl⟩ hKD
    have hl : ys.length = r.count := by rw [← parts_len r false, ← hS, List.length_map]
    rw [hl] at hbk
    have hc0 : W.cell? ⟨w.heap.size + 1, 0, none⟩ = some (.int .i64 (r.count : Int)) := hbk.cell 0
    have HD := Lib.hid (hbl.trans (belowK_b (w := w) (Nat.le_refl _) W D _ (.deferred none) (by omega) hKD rfl rfl))
    have HKD := Lib.hid hKD
    clear hbk hbl hS hKD
    gi_wp2
    refine ⟨by simp, .inl ⟨_, _, rfl, run_takeDeferred HKD.out, ?_⟩⟩
    exact ⟨_, results_tmp rfl _ _ _, rfl, HD.out⟩
  case stop =>
    rintro D c pre W _ _ h _
    exact h.elim
end Go.Proofs.YtadogjnoklabdaaDoor
