/- shape.parts: the iterator's contract; shape.Count. Conditions: as each theorem names them. -/
import Derived.Test.YtadogjnoklabdaaDoorH12
namespace Go.Proofs.YtadogjnoklabdaaDoor
open Go.ChangeShapes Go.WideShapes Go.ChangeAt Go.RowKit Go.Deep Go.Shelf
set_option maxRecDepth 100000
attribute [local go_sem] Oper.semAt_some

set_option maxHeartbeats 4000000 in
theorem parts2_in (W0 : World) (l Bt Bb B n : Nat) (hB0 : W0.heap.size ≤ B) (hBt : Bt ≠ B) (J Jx : List PartD → World → Prop)
    (hJ : ∀ ys W o, J ys W → J ys (W.alloc o)) (r : RichD) (s : Value) (hs : IsArgs W0 r s)
    (hY : ∀ m pre x W, J pre W → pre.length < r.count → YieldAt Fence.wide m Tryd.prog l (encP x) W fun e W' =>
      (e = .returned (.bool true) ∧ J (pre ++ [x]) W' ∧ Kp B W0.heap.size W W') ∨ (e = .returned (.bool false) ∧ Jx (pre ++ [x]) W'))
    (W : World) (hW : Below W0.heap.size W0 W) (hWs : W0.heap.size ≤ W.heap.size) (hBW : B < W.heap.size) (hcB : Blk W Bt 57 #[selfV Bt]) (hcb : RichB W Bb r s) (h0 : J [] W) :
    CallsIn Fence.wide n Tryd.prog 35 #[.func (.yield l) #[] #[], .pointer (some ⟨Bt, 0, none⟩), .pointer (some ⟨Bb, 0, none⟩)] W fun e W' => (∃ v, e = .returned v) ∧
      ((∃ ys : List PartD, ys.map PartD.key = r.parts false ∧ J ys W') ∨ (∃ ys : List PartD, ys.map PartD.key <+: r.parts false ∧ Jx ys W')) := by
  have hdd : ∀ k : Nat, (Fence.wide.depth.isSome = true → 1 ≤ k) := fun k h => by cases h
  have HT := Lib.hid (tell_in W0 l Bt B r.count hB0 hBt J Jx hJ hY r s hs (n - 1) [] false W hW hWs hBW hcB h0 (by simp))
  obtain ⟨d0, d1, d2, d3, d4, d5, d6, d7⟩ := hcb.at_
  have hself : W.cell? ⟨Bt, 0, none⟩ = some (.func (.func 34) #[] #[.pointer (some ⟨Bt, 0, none⟩)]) := hcB.cell 0
  clear hY hs hJ h0 hcB
  refine callsIn_of_wp Tryd.func35 rfl trivial ?_ rfl
  simp only [Tryd.ntmps35, List.size_toArray, List.length_cons, List.length_nil, Nat.reduceAdd, Nat.reduceSub, Array.replicate_succ, Array.replicate_zero, List.push_toArray, List.append_toArray, List.nil_append, List.cons_append]
  gi_wp2_with ((try refine ⟨trivial, ?_⟩); (try refine ⟨hdd _, ?_⟩); gi_at_call 34; refine HT.out.mono ?_; clear HT; rintro e W1 (⟨rfl, HZ, _⟩ | ⟨rfl, HX⟩))
  · go_end0
    obtain ⟨ys, h1, h2⟩ := HZ
    exact ⟨⟨_, rfl⟩, .inl ⟨ys, h1, h2⟩⟩
  · go_end0
    obtain ⟨ys, h1, h2⟩ := HX
    exact ⟨⟨_, rfl⟩, .inr ⟨ys, h1, h2⟩⟩
theorem parts_any (r : RichD) (s : Value) (w : World) : Calls Tryd.prog 29 #[r.val s] w fun e w' => e = .returned (.func (.func 35) #[] #[.pointer (some ⟨w.heap.size + 1, 0, none⟩), .pointer (some ⟨w.heap.size, 0, none⟩)]) ∧ w' = (w.alloc (richObj r s)).alloc (.cells #[selfV (w.heap.size + 1)] 57) := by
  have hsf := fun (a : Addr) (c : Array Value) (w : World) => run_store Tryd.prog w a (.func (.func 34) #[] c) .plain rfl
  unfold RichD.val richV
  go_enter Tryd.func29, Tryd.ntmps29
  go_wp2_with fail
  go_ret
  exact ⟨rfl, rfl⟩
theorem parts_stops (W0 w1 : World) (Bt Bb B n : Nat) (hB0 : W0.heap.size ≤ B) (hBt : Bt ≠ B) (r : RichD) (s : Value) (hs : IsArgs W0 r s)
    (hW : Below W0.heap.size W0 w1) (hWs : W0.heap.size ≤ w1.heap.size) (hBW : B < w1.heap.size) (hcB : Blk w1 Bt 57 #[selfV Bt]) (hcb : RichB w1 Bb r s) :
    SeqStopsK Fence.wide n Tryd.prog 35 #[.pointer (some ⟨Bt, 0, none⟩), .pointer (some ⟨Bb, 0, none⟩)] encP (Kp B W0.heap.size) (fun ys => ys.map PartD.key = r.parts false) (fun ys => ys.map PartD.key <+: r.parts false) r.count w1 := fun l J Jx W hb hJ hJx hY h0 =>
  parts2_in W0 l Bt Bb B n hB0 hBt J Jx (fun ys A o h => hJ ys A (A.alloc o) none h (World.grownBy_alloc A o none) (fun r e => by cases e)) r s hs
    (fun m pre x A h1 h2 => yield_any rfl m (hY pre x A h1 h2)) W (hW.trans (hb.mono hWs)) (Nat.le_trans hWs hb.size) (Nat.lt_of_lt_of_le hBW hb.size)
    (hcB.below hb hcB.lt) (hcb.below hb) h0
end Go.Proofs.YtadogjnoklabdaaDoor
