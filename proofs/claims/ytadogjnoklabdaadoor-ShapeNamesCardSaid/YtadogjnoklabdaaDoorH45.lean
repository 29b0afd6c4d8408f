/- ShapeNames' table: what each kind of its operations does. Conditions: as each theorem names them. -/
import Derived.Test.YtadogjnoklabdaaDoorH44
namespace Go.Proofs.YtadogjnoklabdaaDoor
open Go.ChangeShapes Go.WideShapes Go.ChangeAt Go.RowKit Go.Deep
set_option maxRecDepth 100000

section
variable {o : Oper} {a : Act} {w : World} {K : Act → World → Prop} {Q : Exit → Act → World → Prop}
theorem built_to {t : TypeId} {parts : Array (Nat × Operand)} (ho : o.op = .build t parts) (vs : List (Nat × Value)) (hv : parts.toList.map (fun (i, x) => (i, a.eval x)) = vs) (cells : Array Value) (hf : Tryd.prog.built t vs = some cells) (h : K (a.put o.dst (.agg cells)) w) : o.wp Tryd.prog a w K Q := by
  rw [← Array.toList_map] at hv
  refine wp_build t parts ho (by rw [hv, hf]; rfl) ?_
  rw [hv, hf]
  exact h
theorem do_none (ho : o.op = .build 28 #[]) (h : K (a.put o.dst ((kR 0 []).val nilS)) w) : o.wp Tryd.prog a w K Q :=
  built_to ho [] rfl _ (by kernel_rfl) h
theorem do_zero (k : Int) (ho : o.op = .build 28 #[(0, .const (.int .u8 k))]) (h : K (a.put o.dst ((kR k []).val nilS)) w) : o.wp Tryd.prog a w K Q :=
  built_to ho [(0, .int .u8 k)] rfl _ (by kernel_rfl) h
theorem do_ld (p b : Nat) (r : RichD) (s : Value) (ho : o.op = .load 28 (.tmp p)) (hp : a.eval (.tmp p) = .pointer (some ⟨b, 0, none⟩)) (hb : RichB w b r s) (h : K (a.put o.dst (r.val s)) w) : o.wp Tryd.prog a w K Q :=
  wp_load_row 28 (.tmp p) ho b hp 28 _ (0, 0) _ hb Tryd.underlying28 rfl (by kernel_rfl) h
abbrev rowV (r : RichD) (s : Value) (m : Int) : Value := .agg #[.int .u8 r.kind, .string r.dep.name, .int .u8 r.dep.op, .int .i64 r.dep.ep, .string r.dep.ver, .string r.dep.rel, s, .int .u8 m]
theorem do_row (t : Nat) (m : Int) (r : RichD) (s : Value) (ho : o.op = .build 44 #[(0, .tmp t), (1, .const (.int .u8 m))]) (hx : a.eval (.tmp t) = r.val s) (h : K (a.put o.dst (rowV r s m)) w) : o.wp Tryd.prog a w K Q := by
  refine built_to ho [(0, r.val s), (1, .int .u8 m)] ?_ _ (by kernel_rfl) h
  show [(0, a.eval (.tmp t)), (1, .int .u8 m)] = _
  rw [hx]
theorem slice_to {parts : Array (Nat × Operand)} {n : Nat} (ho : o.op = .buildSlice 26 n parts) (hn : 0 < n ∧ n ≤ 100) (ps : List PartV) (vs : List (Nat × Value)) (hv : parts.toList.map (fun (i, x) => (i, a.eval x)) = vs)
    (hf : Instr.fill (fun i => some (i * 7, 7)) ((Array.range (n * 7)).map ((#[.int .u8 0, .string ⟨#[]⟩, .int .u8 0, .int .i64 0, .string ⟨#[]⟩, .string ⟨#[]⟩, .slice none 0 0] : Array Value)[· % 7]!)) vs = some (partsC ps).toArray)
    (h : K (a.put o.dst (.slice (some ⟨w.heap.size, 0, none⟩) n n)) (w.alloc (.cells (partsC ps).toArray 28))) : o.wp Tryd.prog a w K Q := by
  rw [← Array.toList_map] at hv
  obtain ⟨i, hi, hz, hs, _⟩ := iRich
  refine wp_buildSlice 26 28 n parts ho (partsC ps).toArray i _ Tryd.underlying26 hi hz (by rw [hs]; omega) (by rw [hs]; omega) ?_ h
  rw [hs, hv]
  exact hf
theorem do_bs1 (t0 : Nat) (p0 : PartV) (ho : o.op = .buildSlice 26 1 #[(0, .tmp t0)]) (h0 : a.eval (.tmp t0) = p0.1.val p0.2)
    (h : K (a.put o.dst (.slice (some ⟨w.heap.size, 0, none⟩) 1 1)) (w.alloc (.cells (partsC [p0]).toArray 28))) : o.wp Tryd.prog a w K Q :=
  slice_to ho (by omega) [p0] [(0, p0.1.val p0.2)] (by show [(0, a.eval (.tmp t0))] = _; rw [h0]) (by kernel_rfl) h
theorem do_bs2 (t0 t1 : Nat) (p0 p1 : PartV) (ho : o.op = .buildSlice 26 2 #[(0, .tmp t0), (1, .tmp t1)]) (h0 : a.eval (.tmp t0) = p0.1.val p0.2) (h1 : a.eval (.tmp t1) = p1.1.val p1.2)
    (h : K (a.put o.dst (.slice (some ⟨w.heap.size, 0, none⟩) 2 2)) (w.alloc (.cells (partsC [p0, p1]).toArray 28))) : o.wp Tryd.prog a w K Q :=
  slice_to ho (by omega) [p0, p1] [(0, p0.1.val p0.2), (1, p1.1.val p1.2)] (by show [(0, a.eval (.tmp t0)), (1, a.eval (.tmp t1))] = _; rw [h0, h1]) (by kernel_rfl) h
theorem do_bs3 (t0 t1 t2 : Nat) (p0 p1 p2 : PartV) (ho : o.op = .buildSlice 26 3 #[(0, .tmp t0), (1, .tmp t1), (2, .tmp t2)]) (h0 : a.eval (.tmp t0) = p0.1.val p0.2) (h1 : a.eval (.tmp t1) = p1.1.val p1.2) (h2 : a.eval (.tmp t2) = p2.1.val p2.2)
    (h : K (a.put o.dst (.slice (some ⟨w.heap.size, 0, none⟩) 3 3)) (w.alloc (.cells (partsC [p0, p1, p2]).toArray 28))) : o.wp Tryd.prog a w K Q :=
  slice_to ho (by omega) [p0, p1, p2] [(0, p0.1.val p0.2), (1, p1.1.val p1.2), (2, p2.1.val p2.2)] (by show [(0, a.eval (.tmp t0)), (1, a.eval (.tmp t1)), (2, a.eval (.tmp t2))] = _; rw [h0, h1, h2]) (by kernel_rfl) h
theorem do_bs4 (t0 t1 t2 t3 : Nat) (p0 p1 p2 p3 : PartV) (ho : o.op = .buildSlice 26 4 #[(0, .tmp t0), (1, .tmp t1), (2, .tmp t2), (3, .tmp t3)]) (h0 : a.eval (.tmp t0) = p0.1.val p0.2) (h1 : a.eval (.tmp t1) = p1.1.val p1.2) (h2 : a.eval (.tmp t2) = p2.1.val p2.2) (h3 : a.eval (.tmp t3) = p3.1.val p3.2)
    (h : K (a.put o.dst (.slice (some ⟨w.heap.size, 0, none⟩) 4 4)) (w.alloc (.cells (partsC [p0, p1, p2, p3]).toArray 28))) : o.wp Tryd.prog a w K Q :=
  slice_to ho (by omega) [p0, p1, p2, p3] [(0, p0.1.val p0.2), (1, p1.1.val p1.2), (2, p2.1.val p2.2), (3, p3.1.val p3.2)] (by show [(0, a.eval (.tmp t0)), (1, a.eval (.tmp t1)), (2, a.eval (.tmp t2)), (3, a.eval (.tmp t3))] = _; rw [h0, h1, h2, h3]) (by kernel_rfl) h
theorem do_call (k : Int) (t : Nat) (v : Value) (ho : o.op = .call { callee := .value (.func 14), args := #[.const (.int .u8 k), .tmp t], argTypes := #[5, 26] }) (hx : a.eval (.tmp t) = v)
    (hc : Calls Tryd.prog 14 #[.int .u8 k, v] w fun e w' => ∃ u, e = .returned u ∧ K (a.put o.dst u) w') : o.wp Tryd.prog a w K Q := by
  unfold Oper.wp execOp
  simp only [ho, resolve, Sem.run_bind, List.map_toArray, List.map_cons, List.map_nil, hx]
  go_simp
  refine hc.mono ?_
  rintro e w' ⟨u, rfl, hk⟩
  exact hk
theorem do_len (t : Nat) (b : Option Addr) (n c : Nat) (ho : o.op = .call { callee := .builtin .len, args := #[.tmp t], argTypes := #[45] }) (hx : a.eval (.tmp t) = .slice b n c) (h : K (a.put o.dst (.int .i64 n)) w) : o.wp Tryd.prog a w K Q := by
  unfold Oper.wp execOp
  simp only [ho, resolve, invoke, builtin, Sem.run_bind, Sem.run_pure, Result.andThen_ok, List.map_toArray, List.map_cons, List.map_nil, hx]
  have hr : (Builtin.len_ #[45] o.type #[.slice b n c]).run Tryd.prog w = .ok (.int .i64 n) w := by simp [go_sem, Builtin.len_]
  rw [hr]
  exact h
theorem do_move (x : Value) (ho : o.op = .move (.const x)) (h : K (a.put o.dst x) w) : o.wp Tryd.prog a w K Q := by
  unfold Oper.wp execOp
  simp only [ho, Sem.run_pure]
  exact h
end
end Go.Proofs.YtadogjnoklabdaaDoor
