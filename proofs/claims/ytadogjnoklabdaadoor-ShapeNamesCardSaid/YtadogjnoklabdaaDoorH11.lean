/- shape.parts: its iterator's contract. Conditions: as each theorem names them. -/
import Derived.Test.YtadogjnoklabdaaDoorH10
import Derived.RangeFuncNested
import Derived.RangeFuncBound
import Derived.RangeFuncCalls
import Derived.RangeFuncLeaves
import Derived.Shelf.Abstract
import Derived.Shelf.RegionOpen
import Derived.OwnWalkIn
import Derived.TacticsInMore
import Derived.LoopNIn
import Derived.LoopIn
namespace Go.Proofs.YtadogjnoklabdaaDoor
open Go.ChangeShapes Go.WideShapes Go.ChangeAt Go.RowKit Go.Deep Go.Shelf
set_option maxRecDepth 100000
attribute [local go_sem] Oper.semAt_some

/-- A block of Deps. -/
def depB : Obj → Bool | .cells _ t _ => t == 25 | _ => false
/-- What a round keeps: every cell but block B's, and those of blocks of Deps. -/
structure KC (B : Nat) (W W' : World) : Prop where
  size : W.heap.size ≤ W'.heap.size
  cells : ∀ k o, k ≠ B → W.heap[k]? = some o → o.isCells = true → depB o = false → W'.heap[k]? = some o
theorem KC.refl (B : Nat) (W : World) : KC B W W := ⟨Nat.le_refl _, fun _ _ _ h _ _ => h⟩
theorem KC.trans {B : Nat} {W W' W'' : World} (h : KC B W W') (k : KC B W' W'') : KC B W W'' := ⟨Nat.le_trans h.size k.size, fun i o hi ho hc hd => k.cells i o hi (h.cells i o hi ho hc hd) hc hd⟩
theorem KC.blk {B : Nat} {W W' : World} (h : KC B W W') {k : Nat} {t : TypeId} {cs : Array Value} (hk : k ≠ B) (hv : Blk W k t cs) (ht : (t == 25) = false) : Blk W' k t cs := h.cells k _ hk hv rfl ht
theorem KC.of_below {B : Nat} {W W' : World} (h : Below W.heap.size W W') : KC B W W' := ⟨h.size, fun k _ _ ho _ _ => (h.block k (Array.getElem?_eq_some_iff.1 ho).1).trans ho⟩
/-- What a round keeps, whole: every cell but B's; all that lies below n0. -/
structure Kp (B n0 : Nat) (W W' : World) : Prop where
  kc : KC B W W'
  bl : Below n0 W W'
theorem Kp.refl (B n0 : Nat) (W : World) : Kp B n0 W W := ⟨KC.refl _ _, Below.refl _ _⟩
theorem Kp.t {B n0 : Nat} {W W' W'' : World} (h : Kp B n0 W W') (k : Kp B n0 W' W'') : Kp B n0 W W'' := ⟨h.kc.trans k.kc, h.bl.trans k.bl⟩
theorem Kp.of_below {B n0 : Nat} {W W' : World} (hn : n0 ≤ W.heap.size) (h : Below W.heap.size W W') : Kp B n0 W W' := ⟨KC.of_below h, h.mono hn⟩
theorem Kp.b {B n0 : Nat} {w : World} (hn : n0 ≤ w.heap.size) (W : World) (l : Nat) (o o' : Obj) (hl : w.heap.size ≤ l) (hlo : W.heap[l]? = some o) (hc : o.isCells = false) (_ : o.isWalk = false) : Kp B n0 W (W.putObj l o') := by
  have hg := grownBy_putObj' W l o'
  refine ⟨⟨hg.size, fun k o2 _ ho hc2 _ => ?_⟩, hg.os, hg.tape, hg.output, hg.size, fun k hk => ?_⟩
  · by_cases e : k = l
    · subst e
      rw [hlo] at ho
      injection ho with ho
      subst ho
      rw [hc] at hc2
      cases hc2
    · exact (hg.block k (Array.getElem?_eq_some_iff.1 ho).1 (fun h => e (by injection h))).trans ho
  · by_cases hkW : k < W.heap.size
    · exact hg.block k hkW (fun h => by injection h with h; omega)
    · have := (Array.getElem?_eq_some_iff.1 hlo).1
      omega
/-- A rich dependency's own block. -/
def RichB (W : World) (b : Nat) (r : RichD) (s : Value) : Prop := Blk W b 28 #[.int .u8 r.kind, .string r.dep.name, .int .u8 r.dep.op, .int .i64 r.dep.ep, .string r.dep.ver, .string r.dep.rel, s]
theorem RichB.kc {B : Nat} {W W' : World} {b : Nat} {r : RichD} {s : Value} (h : RichB W b r s) (hk : KC B W W') (hb : b ≠ B) : RichB W' b r s := hk.blk hb h rfl
theorem RichB.at_ {W : World} {b : Nat} {r : RichD} {s : Value} (h : RichB W b r s) : RichAt W b 0 r s := ⟨h.cell 0, h.cell 1, h.cell 2, h.cell 3, h.cell 4, h.cell 5, h.cell 6, h.lt⟩
theorem RichB.new (w : World) (r : RichD) (s : Value) : RichB (w.alloc (richObj r s)) w.heap.size r s := Blk.new _ _ _
theorem RichB.below {W W' : World} {b : Nat} {r : RichD} {s : Value} (h : RichB W b r s) (hb : Below W.heap.size W W') : RichB W' b r s := Blk.below h hb h.lt

/-- One part, as a round is handed it. -/
structure PartD where
  kind : Int
  dep : DepD
  n : Nat
  a : Option Addr
  c : Nat
  alone : Bool
  fit : fitR kind dep
  hn : n ≤ 9223372036854775807
abbrev encP (x : PartD) : Array Value := #[richV x.kind x.dep (.slice x.a x.n x.c), .bool x.alone]
abbrev KeyD := Int × DepD × Nat × Bool
def PartD.key (x : PartD) : KeyD := (x.kind, x.dep, x.n, x.alone)
def catN {α : Type} (f : Nat → List α) : Nat → List α | 0 => [] | k + 1 => catN f k ++ f k
def aloneE (k : Int) (al : Bool) : Bool := al || k == 6 || k == 7
def RichD.parts : RichD → Bool → List KeyD
  | .nil, al => [(0, noDep, 0, al)]
  | .node k d n f, al => (k, d, n, al) :: catN (fun j => (f j).parts (al || k == 6 || k == 7)) n
theorem parts_eq (r : RichD) (al : Bool) : r.parts al = (r.kind, r.dep, r.n, al) :: catN (fun j => (r.args j).parts (aloneE r.kind al)) r.n := by
  cases r <;> rfl
theorem catN_len {α : Type} {f : Nat → List α} {g : Nat → Nat} : ∀ n, (∀ j, j < n → (f j).length = g j) → (catN f n).length = sumN g n
  | 0, _ => rfl
  | n + 1, h => by
    simp only [catN, sumN, List.length_append]
    rw [catN_len n (fun j hj => h j (by omega)), h n (by omega)]
theorem parts_len : (r : RichD) → (al : Bool) → (r.parts al).length = r.count
  | .nil, _ => rfl
  | .node k d n f, al => by
    simp only [RichD.parts, RichD.count, List.length_cons]
    rw [catN_len n (fun j _ => parts_len (f j) _)]
    omega
theorem catN_pre {α : Type} {f : Nat → List α} {k n : Nat} (h : k ≤ n) : catN f k <+: catN f n := by
  induction h with
  | refl => exact List.prefix_refl _
  | step _ ih => exact ih.trans (List.prefix_append _ _)
end Go.Proofs.YtadogjnoklabdaaDoor
