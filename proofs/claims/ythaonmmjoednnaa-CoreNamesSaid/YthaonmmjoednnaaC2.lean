/- slices.Backward over rows: its iterator's contract (a body may write one block). Conditions: as each theorem names them. -/
import Derived.Test.YthaonmmjoednnaaC1
import Derived.RangeFuncNested
import Derived.RangeFuncBound
import Derived.RangeFuncCalls
import Derived.RangeFuncLeaves
import Derived.Shelf.Abstract
import Derived.Shelf.RegionOpen
import Derived.OwnWalkIn
import Derived.TacticsInMore
import Derived.LoopNIn
import Derived.LoopIn
namespace Go.Proofs.Ythaonmmjoednnaa
open Go.ChangeShapes Go.WideShapes Go.ChangeAt Go.RowKit Go.Maps Go.Deep Go.Shelf
set_option maxRecDepth 100000
attribute [local go_sem] Oper.semAt_some

/-- What a round keeps: all that lies below n₀, but gr. -/
abbrev KpB (gr n0 : Nat) (W W' : World) : Prop := Touch (fun k => k = gr ∨ n0 ≤ k) W W'
theorem KpB.t {gr n0 : Nat} {A B C : World} (h : KpB gr n0 A B) (k : KpB gr n0 B C) : KpB gr n0 A C := h.trans k fun _ _ h => h
theorem KpB.b {gr n0 : Nat} {w : World} (hn : n0 ≤ w.heap.size) (W : World) (l : Nat) (o o' : Obj) (hl : w.heap.size ≤ l) (_ : W.heap[l]? = some o) (_ : o.isCells = false) (_ : o.isWalk = false) : KpB gr n0 W (W.putObj l o') :=
  Touch.of_grown (grownBy_putObj' W l o') fun k e => by cases e; exact .inr (by omega)

theorem KpB.cell {gr n0 : Nat} {W W' : World} (h : KpB gr n0 W W') {b : Nat} (hb : b < n0) (hg : b ≠ gr) (hw : n0 ≤ W.heap.size) (i : Nat) : W'.cell? ⟨b, i, none⟩ = W.cell? ⟨b, i, none⟩ :=
  Touch.cell h (p := ⟨b, i, none⟩) (Nat.lt_of_lt_of_le hb hw) fun e => by
    rcases e with e | e
    · exact hg e
    · exact absurd hb (Nat.not_lt.2 e)

/-- The places from the last down to q. -/
def downL (n q : Nat) : List Nat := ((List.range n).drop q).reverse
theorem downL_end (n : Nat) : downL n n = [] := by simp [downL]
theorem downL_zero (n : Nat) : downL n 0 = (List.range n).reverse := by simp [downL]
theorem downL_step {n p : Nat} (h : p < n) : downL n p = downL n (p + 1) ++ [p] := by
  unfold downL
  rw [List.drop_eq_getElem_cons (by simpa using h), List.reverse_cons]
  simp
theorem downL_len (n q : Nat) : (downL n q).length = n - q := by simp [downL]

abbrev rowE (cl : List (List Int)) (av : Nat → Option Addr) (cv : Nat → Nat) (j : Fin cl.length) : Array Value := #[.int .i64 (j.val : Int), .slice (av j.val) cl[j.val].length (cv j.val)]

set_option maxHeartbeats 2000000 in
theorem bwd1_in (F : Fence) (n : Nat) (hF : F.fn 24) (hro : F.round = none) (hn : 1 ≤ n) (l Bs gr n0 : Nat) (ao : Option Addr) (cap : Nat) (cl : List (List Int)) (av : Nat → Option Addr) (cv : Nat → Nat) (hcl : cl.length ≤ 4611686018427387904) (hBs : Bs < n0) (hBg : Bs ≠ gr)
    (J Jx : List (Fin cl.length) → World → Prop)
    (hY : ∀ pre x W, J pre W → pre.length < cl.length → YieldAt F (n - 1) Try.prog l (rowE cl av cv x) W fun e W' =>
      (e = .returned (.bool true) ∧ J (pre ++ [x]) W' ∧ KpB gr n0 W W') ∨ (e = .returned (.bool false) ∧ Jx (pre ++ [x]) W'))
    (W : World) (hn0 : n0 ≤ W.heap.size) (hc : W.cell? ⟨Bs, 0, none⟩ = some (.slice ao cl.length cap))
    (hR : 0 < cl.length → ∃ b off, ao = some ⟨b, off, none⟩ ∧ b < n0 ∧ b ≠ gr ∧ ∀ j (h : j < cl.length), W.cell? ⟨b, off + j, none⟩ = some (.slice (av j) cl[j].length (cv j))) (h0 : J [] W) :
    CallsIn F n Try.prog 24 #[.func (.yield l) #[] #[], .pointer (some ⟨Bs, 0, none⟩)] W fun e W' => (∃ v, e = .returned v) ∧
      ((∃ ys : List (Fin cl.length), ys.map Fin.val = (List.range cl.length).reverse ∧ J ys W') ∨ (∃ pre, True ∧ Jx pre W')) := by
  refine callsIn_of_wp Try.func24 rfl hF ?_ hro
  simp only [Try.ntmps24, List.size_toArray, List.length_cons, List.length_nil, Nat.reduceAdd, Nat.reduceSub, Array.replicate_succ, Array.replicate_zero, List.push_toArray, List.append_toArray, List.nil_append, List.cons_append]
  have HR := Lib.hid hR
  have HC := Lib.hid hc
  have HY := Lib.hid hY
  have hw1 : IntKind.i64.wrap ((cl.length : Int) - 1) = (cl.length : Int) - 1 := by rw [IntKind.wrap_i64]; omega
  obtain ⟨m, hm⟩ : ∃ m, m = cl.length := ⟨_, rfl⟩
  clear hR hY
  gi_wp2
  gi_loopw [3] (fun i wr => ∃ (q : Nat) (pre : List (Fin cl.length)), q ≤ cl.length ∧ i = .int .i64 ((q : Int) - 1) ∧ Hid (pre.map Fin.val = downL cl.length q ∧ J pre wr ∧ KpB gr n0 W wr))
    (fun i _ => (intOf i + 1).toNat)
  case atStart => exact ⟨cl.length, [], Nat.le_refl _, rfl, Lib.hid ⟨by simp [downL_end], h0, Touch.refl _ _⟩⟩
  case round =>
    obtain ⟨q, pre, hq, rfl, HJ⟩ := hrel
    obtain ⟨hp, hJs, hk⟩ := HJ.out
    have hcr : wr.cell? ⟨Bs, 0, none⟩ = some (.slice ao cl.length cap) := (hk.cell hBs hBg hn0 0).trans HC.out
    rcases q with _ | p
    · have hd : decide ((0 : Int) ≤ ((0 : Nat) : Int) - 1) = false := by decide
      have HE := Lib.hid (show pre.map Fin.val = (List.range cl.length).reverse by rw [hp, downL_zero])
      have HJ2 := Lib.hid hJs
      clear hp hJs hk HJ
      gi_wp2
      go_end0
      exact ⟨⟨_, rfl⟩, .inl ⟨pre, HE.out, HJ2.out⟩⟩
    · obtain ⟨b, off, rfl, hbl, hbn, hcells⟩ := HR.out (by omega)
      have hcp : wr.cell? ⟨b, off + p, none⟩ = some (.slice (av p) cl[p].length (cv p)) := (hk.cell hbl hbn hn0 _).trans (hcells p (by omega))
      obtain ⟨fn, tmps, assign, body, hy, hRd⟩ := HY.out pre ⟨p, by omega⟩ wr hJs (by
        have := congrArg List.length hp
        rw [List.length_map, downL_len] at this
        omega)
      dsimp only [rowE] at hy
      have hz : ((p + 1 : Nat) : Int) - 1 = (p : Int) := by omega
      have hpl : (p : Int) < (cl.length : Int) := by omega
      have hw2 : IntKind.i64.wrap ((p : Int) - 1) = (p : Int) - 1 := by rw [IntKind.wrap_i64]; omega
      rw [hz]
      have HP := Lib.hid (show (pre ++ [(⟨p, by omega⟩ : Fin cl.length)]).map Fin.val = downL cl.length p by rw [List.map_append, hp, downL_step (n := cl.length) (p := p) (by omega)]; rfl)
      have HK := Lib.hid hk
      have hpq : p ≤ cl.length := by omega
      clear hp hk hcells hJs HJ hz
      gi_wp2
      refine hRd.mono ?_
      rintro e W3 (⟨rfl, hJ3, hk3⟩ | ⟨rfl, hJx3⟩)
      · gi_wp2
        go_roundw
        case rel => exact ⟨p, _, hpq, rfl, Lib.hid ⟨HP.out, hJ3, HK.out.t hk3⟩⟩
        case measure => simp [intOf]
      · gi_wp2
        refine bodyPost_ret (results_none rfl _ _ _) rfl ?_
        exact ⟨⟨_, rfl⟩, .inr ⟨_, trivial, hJx3⟩⟩

theorem bwd_in (F : Fence) (n : Nat) (hF : F.fn 17) (hro : F.round = none) (a : Option Addr) (len cap : Nat) (w : World) :
    CallsIn F n Try.prog 17 #[.slice a len cap] w fun e w' => e = .returned (.func (.func 24) #[] #[.pointer (some ⟨w.heap.size, 0, none⟩)]) ∧ w' = w.alloc (.cells #[.slice a len cap] 25) := by
  refine callsIn_of_wp Try.func17 rfl hF ?_ hro
  simp only [Try.ntmps17, List.size_toArray, List.length_cons, List.length_nil, Nat.reduceAdd, Nat.reduceSub, Array.replicate_succ, Array.replicate_zero, List.push_toArray, List.append_toArray, List.nil_append, List.cons_append]
  gi_wp2
  go_ret
  exact ⟨rfl, rfl⟩

theorem bwd_stops (F : Fence) (n : Nat) (hF : F.fn 24) (hro : F.round = none) (hn : 1 ≤ n) (Bs gr : Nat) (ao : Option Addr) (cap : Nat) (cl : List (List Int)) (av : Nat → Option Addr) (cv : Nat → Nat) (w : World) (hcl : cl.length ≤ 4611686018427387904) (hBs : Bs < w.heap.size) (hBg : Bs ≠ gr)
    (hc : w.cell? ⟨Bs, 0, none⟩ = some (.slice ao cl.length cap))
    (hR : 0 < cl.length → ∃ b off, ao = some ⟨b, off, none⟩ ∧ b < w.heap.size ∧ b ≠ gr ∧ ∀ j (h : j < cl.length), w.cell? ⟨b, off + j, none⟩ = some (.slice (av j) cl[j].length (cv j))) :
    SeqStopsK F n Try.prog 24 #[.pointer (some ⟨Bs, 0, none⟩)] (rowE cl av cv) (KpB gr w.heap.size) (fun ys => ys.map Fin.val = (List.range cl.length).reverse) (fun _ => True) cl.length w := fun l J Jx W hW _ _ hY h0 => by
  refine bwd1_in F n hF hro hn l Bs gr w.heap.size ao cap cl av cv hcl hBs hBg J Jx hY W hW.size ((hW.cell (p := ⟨Bs, 0, none⟩) hBs).trans hc) (fun h => ?_) h0
  obtain ⟨b, off, e, hbl, hbn, hcs⟩ := hR h
  exact ⟨b, off, e, hbl, hbn, fun j hj => (hW.cell (p := ⟨b, off + j, none⟩) hbl).trans (hcs j hj)⟩

end Go.Proofs.Ythaonmmjoednnaa
