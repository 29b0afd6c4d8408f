/- shape.parts: its iterator's contract. Conditions: as each theorem names them. -/
import Derived.Test.YtadogjnoklabdaaDoorH10
import Derived.RangeFuncNested
import Derived.RangeFuncBound
import Derived.RangeFuncCalls
import Derived.RangeFuncLeaves
import Derived.Shelf.Abstract
import Derived.Shelf.RegionOpen
import Derived.OwnWalkIn
import Derived.TacticsInMore
import Derived.LoopNIn
import Derived.LoopIn
namespace Go.Proofs.YtadogjnoklabdaaDoor
open Go.ChangeShapes Go.WideShapes Go.ChangeAt Go.RowKit Go.Deep Go.Shelf
set_option maxRecDepth 100000
attribute [local go_sem] Oper.semAt_some

/-- What a round keeps: every cell but block B's. -/
structure KC (B : Nat) (W W' : World) : Prop where
  size : W.heap.size ≤ W'.heap.size
  cells : ∀ k o, k ≠ B → W.heap[k]? = some o → o.isCells = true → W'.heap[k]? = some o
theorem KC.refl (B : Nat) (W : World) : KC B W W := ⟨Nat.le_refl _, fun _ _ _ h _ => h⟩
theorem KC.trans {B : Nat} {W W' W'' : World} (h : KC B W W') (k : KC B W' W'') : KC B W W'' := ⟨Nat.le_trans h.size k.size, fun i o hi ho hc => k.cells i o hi (h.cells i o hi ho hc) hc⟩
theorem KC.cell {B : Nat} {W W' : World} (h : KC B W W') {k i : Nat} {v : Value} (hk : k ≠ B) (hv : W.cell? ⟨k, i, none⟩ = some v) : W'.cell? ⟨k, i, none⟩ = some v := by
  cases ho : W.heap[k]? with
  | none => simp [World.cell?, ho] at hv
  | some o =>
    have hc : o.isCells = true := by
      cases o <;> first | rfl | (simp [World.cell?, ho] at hv)
    rw [World.cell?_of_block (w := W) ((h.cells k o hk ho hc).trans ho.symm)]
    exact hv
theorem KC.of_below {B : Nat} {W W' : World} (h : Below W.heap.size W W') : KC B W W' := ⟨h.size, fun k _ _ ho _ => (h.block k (Array.getElem?_eq_some_iff.1 ho).1).trans ho⟩
/-- What a round keeps, whole: every cell but B's; all that lies below n0. -/
structure Kp (B n0 : Nat) (W W' : World) : Prop where
  kc : KC B W W'
  bl : Below n0 W W'
theorem Kp.refl (B n0 : Nat) (W : World) : Kp B n0 W W := ⟨KC.refl _ _, Below.refl _ _⟩
theorem Kp.t {B n0 : Nat} {W W' W'' : World} (h : Kp B n0 W W') (k : Kp B n0 W' W'') : Kp B n0 W W'' := ⟨h.kc.trans k.kc, h.bl.trans k.bl⟩
theorem Kp.of_below {B n0 : Nat} {W W' : World} (hn : n0 ≤ W.heap.size) (h : Below W.heap.size W W') : Kp B n0 W W' := ⟨KC.of_below h, h.mono hn⟩
theorem Kp.b {B n0 : Nat} {w : World} (hn : n0 ≤ w.heap.size) (W : World) (l : Nat) (o o' : Obj) (hl : w.heap.size ≤ l) (hlo : W.heap[l]? = some o) (hc : o.isCells = false) (_ : o.isWalk = false) : Kp B n0 W (W.putObj l o') := by
  have hg := grownBy_putObj' W l o'
  refine ⟨⟨hg.size, fun k o2 _ ho hc2 => ?_⟩, hg.os, hg.tape, hg.output, hg.size, fun k hk => ?_⟩
  · by_cases e : k = l
    · subst e
      rw [hlo] at ho
      injection ho with ho
      subst ho
      rw [hc] at hc2
      cases hc2
    · exact (hg.block k (Array.getElem?_eq_some_iff.1 ho).1 (fun h => e (by injection h))).trans ho
  · by_cases hkW : k < W.heap.size
    · exact hg.block k hkW (fun h => by injection h with h; omega)
    · have := (Array.getElem?_eq_some_iff.1 hlo).1
      omega
theorem RichAt.kc {B : Nat} {W W' : World} {b o : Nat} {r : RichD} {s : Value} (h : RichAt W b o r s) (hk : KC B W W') (hb : b ≠ B) : RichAt W' b o r s :=
  ⟨hk.cell hb h.c0, hk.cell hb h.c1, hk.cell hb h.c2, hk.cell hb h.c3, hk.cell hb h.c4, hk.cell hb h.c5, hk.cell hb h.c6, Nat.lt_of_lt_of_le h.lt hk.size⟩

/-- One part, as a round is handed it. -/
structure PartD where
  kind : Int
  dep : DepD
  n : Nat
  a : Option Addr
  c : Nat
  alone : Bool
  fit : fitR kind dep
  hn : n ≤ 9223372036854775807
abbrev encP (x : PartD) : Array Value := #[richV x.kind x.dep (.slice x.a x.n x.c), .bool x.alone]
abbrev KeyD := Int × DepD × Nat × Bool
def PartD.key (x : PartD) : KeyD := (x.kind, x.dep, x.n, x.alone)
def catN {α : Type} (f : Nat → List α) : Nat → List α | 0 => [] | k + 1 => catN f k ++ f k
def aloneE (k : Int) (al : Bool) : Bool := al || k == 6 || k == 7
def RichD.parts : RichD → Bool → List KeyD
  | .nil, al => [(0, noDep, 0, al)]
  | .node k d n f, al => (k, d, n, al) :: catN (fun j => (f j).parts (al || k == 6 || k == 7)) n
theorem parts_eq (r : RichD) (al : Bool) : r.parts al = (r.kind, r.dep, r.n, al) :: catN (fun j => (r.args j).parts (aloneE r.kind al)) r.n := by
  cases r <;> rfl
theorem catN_len {α : Type} {f : Nat → List α} {g : Nat → Nat} : ∀ n, (∀ j, j < n → (f j).length = g j) → (catN f n).length = sumN g n
  | 0, _ => rfl
  | n + 1, h => by
    simp only [catN, sumN, List.length_append]
    rw [catN_len n (fun j hj => h j (by omega)), h n (by omega)]
theorem parts_len : (r : RichD) → (al : Bool) → (r.parts al).length = r.count
  | .nil, _ => rfl
  | .node k d n f, al => by
    simp only [RichD.parts, RichD.count, List.length_cons]
    rw [catN_len n (fun j _ => parts_len (f j) _)]
    omega
theorem catN_pre {α : Type} {f : Nat → List α} {k n : Nat} (h : k ≤ n) : catN f k <+: catN f n := by
  induction h with
  | refl => exact List.prefix_refl _
  | step _ ih => exact ih.trans (List.prefix_append _ _)
end Go.Proofs.YtadogjnoklabdaaDoor
