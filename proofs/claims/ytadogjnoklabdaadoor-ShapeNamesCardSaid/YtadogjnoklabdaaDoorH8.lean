/- Rich dependencies in memory; the document's Count and Depth, size, shape.Depth. Conditions: as each theorem names them. -/
import Derived.Test.YtadogjnoklabdaaDoorH7
namespace Go.Proofs.YtadogjnoklabdaaDoor
open Go.ChangeShapes Go.WideShapes Go.ChangeAt Go.RowKit Go.Deep
set_option maxRecDepth 100000

/-- A rich dependency in plain words. -/
inductive RichD where
  | nil
  | node (kind : Int) (dep : DepD) (n : Nat) (args : Nat → RichD)
abbrev noDep : DepD := ⟨⟨#[]⟩, 0, 0, ⟨#[]⟩, ⟨#[]⟩⟩
def RichD.kind : RichD → Int | .nil => 0 | .node k _ _ _ => k
def RichD.dep : RichD → DepD | .nil => noDep | .node _ d _ _ => d
def RichD.n : RichD → Nat | .nil => 0 | .node _ _ n _ => n
def RichD.args : RichD → Nat → RichD | .nil => fun _ => .nil | .node _ _ _ f => f
/-- A rich dependency's value, its Args' slice being s. -/
abbrev richV (k : Int) (d : DepD) (s : Value) : Value := .agg #[.int .u8 k, .string d.name, .int .u8 d.op, .int .i64 d.ep, .string d.ver, .string d.rel, s]
abbrev RichD.val (r : RichD) (s : Value) : Value := richV r.kind r.dep s
/-- A rich dependency's cells at a place. -/
structure RichAt (w : World) (b o : Nat) (r : RichD) (s : Value) : Prop where
  c0 : w.cell? ⟨b, o, none⟩ = some (.int .u8 r.kind)
  c1 : w.cell? ⟨b, o + 1, none⟩ = some (.string r.dep.name)
  c2 : w.cell? ⟨b, o + 2, none⟩ = some (.int .u8 r.dep.op)
  c3 : w.cell? ⟨b, o + 3, none⟩ = some (.int .i64 r.dep.ep)
  c4 : w.cell? ⟨b, o + 4, none⟩ = some (.string r.dep.ver)
  c5 : w.cell? ⟨b, o + 5, none⟩ = some (.string r.dep.rel)
  c6 : w.cell? ⟨b, o + 6, none⟩ = some s
  lt : b < w.heap.size
theorem RichAt.below {w w' : World} {b o : Nat} {r : RichD} {s : Value} (h : RichAt w b o r s) (hb : Below w.heap.size w w') : RichAt w' b o r s := by
  have k : ∀ c, w'.cell? ⟨b, c, none⟩ = w.cell? ⟨b, c, none⟩ := fun c => World.cell?_of_block (w := w) (hb.block b h.lt)
  exact ⟨(k _).trans h.c0, (k _).trans h.c1, (k _).trans h.c2, (k _).trans h.c3, (k _).trans h.c4, (k _).trans h.c5, (k _).trans h.c6, Nat.lt_of_lt_of_le h.lt hb.size⟩
def fitR (k : Int) (d : DepD) : Prop := d.fit ∧ 0 ≤ k ∧ k < 256
/-- A slice's value holds a rich dependency's Args. -/
inductive IsArgs (w : World) : RichD → Value → Prop
  | mk (r : RichD) (a : Option Addr) (c : Nat) (S : Nat → Value) (hd : fitR r.kind r.dep) (hn : r.n ≤ 9223372036854775807)
      (hA : ∀ j, j < r.n → ∃ b o, a = some ⟨b, o, none⟩ ∧ RichAt w b (o + j * 7) (r.args j) (S j))
      (hS : ∀ j, j < r.n → IsArgs w (r.args j) (S j)) : IsArgs w r (.slice a r.n c)
theorem IsArgs.kept {w w' : World} {r : RichD} {s : Value} (h : IsArgs w r s) (hb : Below w.heap.size w w') : IsArgs w' r s := by
  induction h with
  | mk r a c S hd hn hA hS ih =>
    refine .mk r a c S hd hn (fun j hj => ?_) ih
    obtain ⟨b, o, h1, h2⟩ := hA j hj
    exact ⟨b, o, h1, h2.below hb⟩
def sumN (f : Nat → Nat) : Nat → Nat | 0 => 0 | k + 1 => sumN f k + f k
def maxN (f : Nat → Nat) : Nat → Nat | 0 => 0 | k + 1 => max (maxN f k) (f k)
def RichD.count : RichD → Nat | .nil => 1 | .node _ _ n f => 1 + sumN (fun j => (f j).count) n
def RichD.depth : RichD → Nat | .nil => 1 | .node k _ n f => if k = 1 then 0 else maxN (fun j => (f j).depth) n + 1
theorem sumN_mono {f : Nat → Nat} {k n : Nat} (h : k ≤ n) : sumN f k ≤ sumN f n := by
  induction h with
  | refl => exact Nat.le_refl _
  | step _ ih => exact Nat.le_trans ih (Nat.le_add_right _ _)
theorem count_eq (r : RichD) : r.count = 1 + sumN (fun j => (r.args j).count) r.n := by
  cases r <;> rfl
theorem depth_eq (r : RichD) : r.depth = if r.kind = 1 then 0 else maxN (fun j => (r.args j).depth) r.n + 1 := by
  cases r <;> rfl

theorem ret_int {a b : Int} (h : a = b) : Ending.returned (.int .i64 a) = .returned (.int .i64 b) := by rw [h]
/-- The parameter's block. -/
theorem rich_new (w : World) (r : RichD) (s : Value) : RichAt (w.alloc (.cells #[.int .u8 r.kind, .string r.dep.name, .int .u8 r.dep.op, .int .i64 r.dep.ep, .string r.dep.ver, .string r.dep.rel, s] 28)) w.heap.size 0 r s :=
  ⟨by simp, by simp, by simp, by simp, by simp, by simp, by simp, by simp⟩

set_option maxHeartbeats 4000000 in
theorem rcount_any (W : World) (r : RichD) (s : Value) (hs : IsArgs W r s) (w : World) (hB : Below W.heap.size W w) (hc : r.count ≤ 4611686018427387904) : Calls Tryd.prog 25 #[r.val s] w fun e w' => e = .returned (.int .i64 r.count) ∧ Below w.heap.size w w' := by
  induction hs generalizing w with
  | mk r a c S hd hn hA hS ih =>
    obtain ⟨T, hT⟩ : ∃ T : Int, T = r.count := ⟨_, rfl⟩
    rw [← hT]
    have HT := Lib.hid hT
    have HR0 := Lib.hid (rich_new w r (.slice a r.n c))
    have HB0 := Lib.hid (show Below w.heap.size w (w.alloc (.cells #[.int .u8 r.kind, .string r.dep.name, .int .u8 r.dep.op, .int .i64 r.dep.ep, .string r.dep.ver, .string r.dep.rel, .slice a r.n c] 28)) from (Below.refl _ _).alloc (Nat.le_refl _) _)
    have HA := Lib.hid (show ∀ w', Below W.heap.size W w' → ∀ j, j < r.n → ∃ b o, a = some ⟨b, o, none⟩ ∧ RichAt w' b (o + j * 7) (r.args j) (S j) from fun w' h j hj => by
      obtain ⟨b, o, h1, h2⟩ := hA j hj
      exact ⟨b, o, h1, h2.below h⟩)
    have HI := Lib.hid ih
    have HBW := Lib.hid hB
    have HC := Lib.hid (show ∀ j, j < r.n → 1 + sumN (fun j => (r.args j).count) j + (r.args j).count ≤ r.count ∧ r.count ≤ 4611686018427387904 from fun j hj => by
      have := sumN_mono (f := fun j => (r.args j).count) (show j + 1 ≤ r.n by omega)
      simp only [sumN] at this
      have := count_eq r
      omega)
    clear hT hA hS ih hd hc hB
    unfold RichD.val richV
    go_enter Tryd.func25, Tryd.ntmps25
    go_wp2_with fail
    go_loopw [3, 4] (fun x i wr => ∃ k q : Nat, k ≤ r.n ∧ Hid (q = 1 + sumN (fun j => (r.args j).count) k) ∧ x = .int .i64 (q : Int) ∧ i = .int .i64 k ∧ Hid (RichAt wr w.heap.size 0 r (.slice a r.n c)) ∧ Hid (Below w.heap.size w wr)) (fun x i wr => r.n - (intOf i).toNat)
    case atStart => exact ⟨0, 1, by omega, Lib.hid rfl, rfl, rfl, HR0, HB0⟩
    case round =>
      obtain ⟨k, q, hk, HQ, rfl, rfl, HRk, HBk⟩ := hrel
      obtain ⟨d0, d1, d2, d3, d4, d5, d6, d7⟩ := HRk.out
      by_cases hlt : k < r.n
      · have hki : (k : Int) < (r.n : Int) := by omega
        have HB2 := Lib.hid (HBW.out.trans (HBk.out.mono HBW.out.size))
        obtain ⟨b, o, ha, ⟨e0, e1, e2, e3, e4, e5, e6, e7⟩⟩ := HA.out _ HB2.out k hlt
        subst ha
        obtain ⟨m, hm⟩ : ∃ m, m = (r.args k).count := ⟨_, rfl⟩
        have hqm : q + m ≤ 4611686018427387904 := by
          have h1 := HC.out k hlt
          have h2 := HQ.out
          omega
        have HM := Lib.hid (HI.out k hlt _ HB2.out (by have := HC.out k hlt; omega))
        rw [← hm] at HM
        have HMm := Lib.hid hm
        clear hm
        go_wp2_with (first
          | (go_at_call 25; (with_reducible refine (HM.out).mono ?_); rintro e w1 ⟨rfl, HBc⟩; have HB1 := Lib.hid (HBk.out.trans (HBc.mono HBk.out.size)); have HR1 := Lib.hid (HRk.out.below HBc); clear HBc)
          | fail)
        go_roundw
        case rel => exact ⟨k + 1, q + m, by omega, Lib.hid (by have := HQ.out; have := HMm.out; simp only [sumN]; omega), by go_num, by go_num, HR1, HB1⟩
        case measure => simp [intOf]; omega
      · obtain rfl : k = r.n := by omega
        go_wp2_with fail
        go_ret
        exact ⟨ret_int (by rw [HT.out, count_eq, HQ.out]), HBk.out⟩
end Go.Proofs.YtadogjnoklabdaaDoor
