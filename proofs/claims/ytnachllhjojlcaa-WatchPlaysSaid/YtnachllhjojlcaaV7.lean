/- moves: what its walk stands on. -/
import Derived.Test.YtnachllhjojlcaaV6
namespace Go.Proofs.Ytnachllhjojlcaa
open Go.ChangeShapes Go.WideShapes Go.ChangeAt Go.RowKit Go.Maps
set_option maxRecDepth 100000

/-! ### How long lists are -/
theorem int_nodup_len : ∀ (n : Nat) (l : List Int), l.Nodup → (∀ x ∈ l, 1 ≤ x.natAbs ∧ x.natAbs ≤ n) → l.length ≤ 2 * n
  | 0, l, _, h => by
    cases l with
    | nil => simp
    | cons x l => have := h x (List.mem_cons_self ..); omega
  | n + 1, l, hn, h => by
    have h1 : ((l.erase ((n : Int) + 1)).erase (-((n : Int) + 1))).Nodup := (hn.erase _).erase _
    have h2 := int_nodup_len n _ h1 (fun x hx => by
      obtain ⟨a1, a2⟩ := ((hn.erase _).mem_erase_iff).1 hx
      obtain ⟨b1, b2⟩ := (hn.mem_erase_iff).1 a2
      have := h x b2
      omega)
    have h3 := List.length_erase (a := -((n : Int) + 1)) (l := l.erase ((n : Int) + 1))
    have h4 := List.length_erase (a := (n : Int) + 1) (l := l)
    split at h3 <;> split at h4 <;> omega
theorem nat_nodup_len : ∀ (n : Nat) (l : List Nat), l.Nodup → (∀ x ∈ l, x < n) → l.length ≤ n
  | 0, l, _, h => by
    cases l with
    | nil => simp
    | cons x l => have := h x (List.mem_cons_self ..); omega
  | n + 1, l, hn, h => by
    have h2 := nat_nodup_len n (l.erase n) (hn.erase _) (fun x hx => by
      obtain ⟨b1, b2⟩ := (hn.mem_erase_iff).1 hx
      have := h x b2
      omega)
    have h4 := List.length_erase (a := n) (l := l)
    split at h4 <;> omega
theorem WInv.rowLen {S : WS} (h : WInv S) (i : Nat) : (S.ls.getD i []).length ≤ 2 * S.n := int_nodup_len _ _ (h.nodup i) fun _ hx => (h.lits hx).2
theorem WInv.byLen {S : WS} (h : WInv S) (x : Int) : (S.by_ x).length ≤ S.cl.length := nat_nodup_len _ _ (h.byN x) fun _ hi => ((h.byI x _).1 hi).1

/-! ### The state while moves goes on -/
structure MvSt (W wr : World) (M M1 : WM) (S S1 : WS) (x0 : Int) (vOld : Value) (d : Nat) (left : List Nat) (vLf : Value) : Prop where
  at_ : WAt wr M1 S1
  x : M1.x = M.x
  B0 : M1.B x0 = vOld
  nb : M1.nB ≤ M.nB + d
  touch : Touch (M.all S) W wr
  all : ∀ k, M1.all S1 k → M.all S k ∨ W.heap.size ≤ k
  lf : Own wr 3 1 vLf left.length (natC left)
  lfNew : ∀ k, vLf.ownBlock = some k → W.heap.size ≤ k ∧ ¬ M1.all S1 k

section
variable {W wr wr' : World} {M M1 : WM} {S S1 : WS} {x0 : Int} {vOld vLf : Value} {d : Nat} {left : List Nat}
theorem MvSt.lt (h : MvSt W wr M M1 S S1 x0 vOld d left vLf) : ∀ k, M1.all S1 k → k < wr.heap.size := fun k ⟨t, hk⟩ => h.at_.lt t k hk
theorem MvSt.below (h : MvSt W wr M M1 S S1 x0 vOld d left vLf) (hb : Below wr.heap.size wr wr') : MvSt W wr' M M1 S S1 x0 vOld d left vLf :=
  ⟨h.at_.below hb, h.x, h.B0, h.nb, h.touch.trans (Touch.of_below hb fun _ => False) fun _ _ hf => hf.elim, h.all, h.lf.new hb, h.lfNew⟩
/-- The watcher is written. -/
theorem MvSt.upd {M2 : WM} {S2 : WS} {d' : Nat} (h : MvSt W wr M M1 S S1 x0 vOld d left vLf) (ha : WAt wr' M2 S2) (ht : Touch (M1.all S1) wr wr') (hall : ∀ k, M2.all S2 k → M1.all S1 k ∨ wr.heap.size ≤ k) (hx : M2.x = M1.x) (hB : M2.B x0 = M1.B x0) (hn : M2.nB ≤ M1.nB + d') :
    MvSt W wr' M M2 S S2 x0 vOld (d + d') left vLf :=
  ⟨ha, hx.trans h.x, hB.trans h.B0, by have := h.nb; omega, touch_trans h.touch h.all ht, all_trans h.touch.size h.all hall, h.lf.touch ht fun k hk => (h.lfNew k hk).2, fun k hk => ⟨(h.lfNew k hk).1, fun hk2 => by
    rcases hall k hk2 with h1 | h1
    · exact (h.lfNew k hk).2 h1
    · have := h.lf.lt k hk; omega⟩⟩
/-- More is left. -/
theorem MvSt.app {wA : World} {v' : Value} {more : List Nat} (h : MvSt W wr M M1 S S1 x0 vOld d left vLf) (hA : Below wr.heap.size wr wA) (ho : Own wr' 3 1 v' (left.length + more.length) (natC left ++ natC more)) (hg : wA.grownBy wr' vLf.ownBlock)
    (hat : v'.ownBlock = vLf.ownBlock ∨ v'.ownBlock = some wA.heap.size) : MvSt W wr' M M1 S S1 x0 vOld d (left ++ more) v' := by
  have h1 := h.below hA
  have ht : Touch (fun k => vLf.ownBlock = some k) wA wr' := Touch.of_grown hg fun k hk => hk
  refine ⟨h1.at_.touch ht fun k hk hf => (h1.lfNew k hf).2 hk, h.x, h.B0, h.nb, h1.touch.trans ht fun k hk hf => ?_, h.all, ?_, fun k hk => ?_⟩
  · have := (h.lfNew k hf).1; omega
  · have e : natC (left ++ more) = natC left ++ natC more := by simp [natC]
    rw [List.length_append, e]
    exact ho
  · rcases hat with e | e
    · exact h.lfNew k (e ▸ hk)
    · rw [e] at hk
      injection hk with hk
      subst hk
      exact ⟨h1.touch.size, fun hk2 => by have := h1.lt _ hk2; omega⟩
theorem MvSt.push {wA : World} {v' : Value} {c : Nat} (h : MvSt W wr M M1 S S1 x0 vOld d left vLf) (hA : Below wr.heap.size wr wA) (ho : Own wr' 3 1 v' (left.length + 1) (natC left ++ [.int .i64 (c : Int)])) (hg : wA.grownBy wr' vLf.ownBlock)
    (hat : v'.ownBlock = vLf.ownBlock ∨ v'.ownBlock = some wA.heap.size) : MvSt W wr' M M1 S S1 x0 vOld d (left ++ [c]) v' := h.app (more := [c]) hA ho hg hat
/-- What is left is laid back. -/
theorem MvSt.done (h : MvSt W wr M M1 S S1 x0 vOld d left vLf) (hx0 : I64 x0) (hn : M1.nB < maxLen) :
    ∃ w2, (Instr.mapUpdate 63 (.map (some M1.mb)) (.int .i64 x0) vLf).run Try.prog wr = .ok () w2 ∧ wr.grownBy w2 (some M1.mb) ∧ WUp (d + 1) W w2 M S (S1.wBy (updF S1.by_ x0 left)) := by
  obtain ⟨w2, h1, h2, h3, h4, h5⟩ := WAt.byPutN (fun k => vLf.ownBlock = some k) (fun k hk => (h.lfNew k hk).2) h.at_ hx0 hn left (Touch.refl _ _) h.lf (fun k hk => .inr hk)
  refine ⟨w2, h1, h2, _, h3, h.x, by have := h.nb; show M1.nB + 1 ≤ _; omega, touch_trans h.touch h.all h4, fun k hk => ?_, fun h0 => by omega⟩
  rcases h5 k hk with h6 | h6
  · exact h.all k h6
  · exact .inr (h.lfNew k h6).1
end

end Go.Proofs.Ytnachllhjojlcaa
