/- ShapeNames: what is called behind the table. Conditions: as each theorem names them. -/
import Derived.Test.YtadogjnoklabdaaDoorH51
namespace Go.Proofs.YtadogjnoklabdaaDoor
open Go.ChangeShapes Go.WideShapes Go.ChangeAt Go.RowKit Go.Deep
set_option maxRecDepth 100000
theorem cnt_many : (manyR 23 []).count ≤ 100 ∧ (manyR 24 []).count ≤ 100 ∧ (manyR 24 [deepR 9]).count ≤ 100 ∧ (deepR 8).count ≤ 100 ∧ (deepR 9).count ≤ 100 ∧ (deepR 3).count ≤ 100 := by decide +kernel
theorem c_may23 {w : World} {g : Nat} (hW : Words w) (hO : Ops w) (W : World) (ao : Option Addr) (cp : Nat) (h : LSt w g 24 (.slice ao 24 cp) W) :
    Calls Tryd.prog 11 #[.agg #[.int .u8 3, .string ⟨#[]⟩, .int .u8 0, .int .i64 0, .string ⟨#[]⟩, .string ⟨#[]⟩, .slice ao 23 cp], .int .u8 3] W fun e w' => e = .returned (.int .i64 0) ∧ Below W.heap.size W w' := by
  exact may_at (r := manyR 23 []) (s := .slice ao 23 cp) h.st.bl hW hO (h.many 23 cp (by decide)) cnt_many.1 3 (by decide) 0 may23
theorem c_may24 {w : World} {g : Nat} (hW : Words w) (hO : Ops w) (W : World) (ao : Option Addr) (cp : Nat) (h : LSt w g 24 (.slice ao 24 cp) W) :
    Calls Tryd.prog 11 #[.agg #[.int .u8 3, .string ⟨#[]⟩, .int .u8 0, .int .i64 0, .string ⟨#[]⟩, .string ⟨#[]⟩, .slice ao 24 cp], .int .u8 1] W fun e w' => e = .returned (.int .i64 40) ∧ Below W.heap.size W w' := by
  exact may_at (r := manyR 24 []) (s := .slice ao 24 cp) h.st.bl hW hO (h.many 24 cp (by decide)) cnt_many.2.1 1 (by decide) 40 may24
theorem c_may25 {w : World} {g : Nat} (hW : Words w) (hO : Ops w) {r9 : RichD} (hr : r9 = deepR 9) (W : World) (ao : Option Addr) (cp n : Nat) (hn : n = 25) (h : NSt w g W) (hs : IsArgs W (manyR 24 [r9]) (.slice ao 25 cp)) :
    Calls Tryd.prog 11 #[.agg #[.int .u8 3, .string ⟨#[]⟩, .int .u8 0, .int .i64 0, .string ⟨#[]⟩, .string ⟨#[]⟩, .slice ao n cp], .int .u8 1] W fun e w' => e = .returned (.int .i64 40) ∧ Below W.heap.size W w' := by
  subst hn
  rw [hr] at hs
  exact may_at (r := manyR 24 [deepR 9]) (s := .slice ao 25 cp) h.bl hW hO hs cnt_many.2.2.1 1 (by decide) 40 may25
theorem c_may8 {w : World} (hW : Words w) (hO : Ops w) {r8 : RichD} (hr : r8 = deepR 8) (W : World) (ao : Option Addr) (c : Nat) (h : Below w.heap.size w W) (hs : IsArgs W r8 (.slice ao r8.n c)) :
    Calls Tryd.prog 11 #[.agg #[.int .u8 r8.kind, .string r8.dep.name, .int .u8 r8.dep.op, .int .i64 r8.dep.ep, .string r8.dep.ver, .string r8.dep.rel, .slice ao r8.n c], .int .u8 1] W fun e w' => e = .returned (.int .i64 0) ∧ Below W.heap.size W w' := by
  exact may_at (r := r8) (s := .slice ao r8.n c) h hW hO hs (by rw [hr]; exact cnt_many.2.2.2.1) 1 (by decide) 0 (by rw [hr]; exact deep8)
theorem c_may9 {w : World} (hW : Words w) (hO : Ops w) {r9 : RichD} (hr : r9 = deepR 9) (W : World) (ao : Option Addr) (c : Nat) (h : Below w.heap.size w W) (hs : IsArgs W r9 (.slice ao r9.n c)) :
    Calls Tryd.prog 11 #[.agg #[.int .u8 r9.kind, .string r9.dep.name, .int .u8 r9.dep.op, .int .i64 r9.dep.ep, .string r9.dep.ver, .string r9.dep.rel, .slice ao r9.n c], .int .u8 1] W fun e w' => e = .returned (.int .i64 21) ∧ Below W.heap.size W w' := by
  exact may_at (r := r9) (s := .slice ao r9.n c) h hW hO hs (by rw [hr]; exact cnt_many.2.2.2.2.1) 1 (by decide) 21 (by rw [hr]; exact deep9)
theorem c_may9w {w : World} (hW : Words w) (hO : Ops w) {r9 : RichD} (hr : r9 = deepR 9) (W : World) (ao : Option Addr) (c : Nat) (h : Below w.heap.size w W) (hs : IsArgs W r9 (.slice ao r9.n c)) :
    Calls Tryd.prog 11 #[.agg #[.int .u8 r9.kind, .string r9.dep.name, .int .u8 r9.dep.op, .int .i64 r9.dep.ep, .string r9.dep.ver, .string r9.dep.rel, .slice ao r9.n c], .int .u8 4] W fun e w' => e = .returned (.int .i64 1) ∧ Below W.heap.size W w' := by
  exact may_at (r := r9) (s := .slice ao r9.n c) h hW hO hs (by rw [hr]; exact cnt_many.2.2.2.2.1) 4 (by decide) 1 (by rw [hr]; exact deep9w)
theorem c_maya {w : World} (hW : Words w) (hO : Ops w) (W : World) (h : Below w.heap.size w W) :
    Calls Tryd.prog 11 #[.agg #[.int .u8 1, .string { data := #[97] }, .int .u8 0, .int .i64 0, .string ⟨#[]⟩, .string ⟨#[]⟩, .slice none 0 0], .int .u8 0] W fun e w' => e = .returned (.int .i64 1) ∧ Below W.heap.size W w' := by
  exact may_at (r := aR) (s := .slice none 0 0) h hW hO (is_leaf W 1 (dN (oneS 97)) fit_aR) (by decide +kernel) 0 (by decide) 1 a_zero
theorem c_deep8 {r8 : RichD} (hr : r8 = deepR 8) (W : World) :
    Calls Tryd.prog 23 #[.int .i64 8] W fun e w' => ∃ ao c, e = .returned (.agg #[.int .u8 r8.kind, .string r8.dep.name, .int .u8 r8.dep.op, .int .i64 r8.dep.ep, .string r8.dep.ver, .string r8.dep.rel, .slice ao r8.n c]) ∧ ArgsIn (fun x => W.heap.size ≤ x) w' r8 (.slice ao r8.n c) ∧ Below W.heap.size W w' := by
  exact deep_at 8 (by decide) W r8 hr
theorem c_deep9 {r9 : RichD} (hr : r9 = deepR 9) (W : World) :
    Calls Tryd.prog 23 #[.int .i64 9] W fun e w' => ∃ ao c, e = .returned (.agg #[.int .u8 r9.kind, .string r9.dep.name, .int .u8 r9.dep.op, .int .i64 r9.dep.ep, .string r9.dep.ver, .string r9.dep.rel, .slice ao r9.n c]) ∧ ArgsIn (fun x => W.heap.size ≤ x) w' r9 (.slice ao r9.n c) ∧ Below W.heap.size W w' := by
  exact deep_at 9 (by decide) W r9 hr
theorem c_deep3 {r3 : RichD} (hr : r3 = deepR 3) (W : World) :
    Calls Tryd.prog 23 #[.int .i64 3] W fun e w' => ∃ ao c, e = .returned (.agg #[.int .u8 r3.kind, .string r3.dep.name, .int .u8 r3.dep.op, .int .i64 r3.dep.ep, .string r3.dep.ver, .string r3.dep.rel, .slice ao r3.n c]) ∧ ArgsIn (fun x => W.heap.size ≤ x) w' r3 (.slice ao r3.n c) ∧ Below W.heap.size W w' := by
  exact deep_at 3 (by decide) W r3 hr
theorem c_deep2 {r2 : RichD} (hr : r2 = deepR 2) (W : World) :
    Calls Tryd.prog 23 #[.int .i64 2] W fun e w' => ∃ ao c, e = .returned (.agg #[.int .u8 r2.kind, .string r2.dep.name, .int .u8 r2.dep.op, .int .i64 r2.dep.ep, .string r2.dep.ver, .string r2.dep.rel, .slice ao r2.n c]) ∧ ArgsIn (fun x => W.heap.size ≤ x) w' r2 (.slice ao r2.n c) ∧ Below W.heap.size W w' := by
  exact deep_at 2 (by decide) W r2 hr
theorem c_count3 {r3 : RichD} (hr : r3 = deepR 3) (W : World) (a3 : Option Addr) (c3 : Nat) (h : IsArgs W r3 (.slice a3 r3.n c3)) :
    Calls Tryd.prog 12 #[.agg #[.int .u8 r3.kind, .string r3.dep.name, .int .u8 r3.dep.op, .int .i64 r3.dep.ep, .string r3.dep.ver, .string r3.dep.rel, .slice a3 r3.n c3]] W fun e w' => e = .returned (.int .i64 7) ∧ Below W.heap.size W w' := by
  exact count_at (r := r3) h 7 (by decide) (by rw [hr]; exact deep3c.1)
theorem c_depth3 {r3 : RichD} (hr : r3 = deepR 3) (W : World) (a3 : Option Addr) (c3 : Nat) (h : IsArgs W r3 (.slice a3 r3.n c3)) :
    Calls Tryd.prog 13 #[.agg #[.int .u8 r3.kind, .string r3.dep.name, .int .u8 r3.dep.op, .int .i64 r3.dep.ep, .string r3.dep.ver, .string r3.dep.rel, .slice a3 r3.n c3]] W fun e w' => e = .returned (.int .i64 3) ∧ Below W.heap.size W w' := by
  exact depth_at (r := r3) h (by rw [hr]; exact cnt_many.2.2.2.2.2) 3 (by rw [hr]; exact deep3c.2.1)
theorem c_atoms3 {r3 : RichD} (hr : r3 = deepR 3) (W : World) (a3 : Option Addr) (c3 : Nat) (h : IsArgs W r3 (.slice a3 r3.n c3)) :
    Calls Tryd.prog 15 #[.agg #[.int .u8 r3.kind, .string r3.dep.name, .int .u8 r3.dep.op, .int .i64 r3.dep.ep, .string r3.dep.ver, .string r3.dep.rel, .slice a3 r3.n c3]] W fun e w' => ∃ b o c, e = .returned (.slice (some ⟨b, o, none⟩) 4 c) ∧ (b < w'.heap.size ∧ w'.cell? ⟨b, o + 15, none⟩ = some (.string { data := #[97] })) ∧ Below W.heap.size W w' := by
  have h1 := fun h => atoms_three (W := W) (s := .slice a3 r3.n c3) h
  rw [← hr] at h1
  exact h1 h
theorem c_countz (W : World) :
    Calls Tryd.prog 12 #[.agg #[.int .u8 0, .string ⟨#[]⟩, .int .u8 0, .int .i64 0, .string ⟨#[]⟩, .string ⟨#[]⟩, .slice none 0 0]] W fun e w' => e = .returned (.int .i64 1) ∧ Below W.heap.size W w' := by
  exact count_at (r := zR) (zero_is W) 1 (by decide) zero_facts.1
theorem c_depthz (W : World) :
    Calls Tryd.prog 13 #[.agg #[.int .u8 0, .string ⟨#[]⟩, .int .u8 0, .int .i64 0, .string ⟨#[]⟩, .string ⟨#[]⟩, .slice none 0 0]] W fun e w' => e = .returned (.int .i64 1) ∧ Below W.heap.size W w' := by
  exact depth_at (r := zR) (zero_is W) (by rw [zero_facts.1]; decide) 1 zero_facts.2.1
theorem c_atomsz (W : World) :
    Calls Tryd.prog 15 #[.agg #[.int .u8 0, .string ⟨#[]⟩, .int .u8 0, .int .i64 0, .string ⟨#[]⟩, .string ⟨#[]⟩, .slice none 0 0]] W fun e w' => ∃ ao c, e = .returned (.slice ao 0 c) ∧ Below W.heap.size W w' := by
  exact atoms_no (r := zR) (zero_is W) (by rw [zero_facts.1]; decide) zero_facts.2.2
theorem c_same {r3 : RichD} (hr : r3 = deepR 3) {r2 : RichD} (hr2 : r2 = deepR 2) (W : World) (a3 : Option Addr) (c3 : Nat) (h : IsArgs W r3 (.slice a3 r3.n c3)) (a2 : Option Addr) (c2 : Nat) (h2 : IsArgs W r2 (.slice a2 r2.n c2)) :
    Calls Tryd.prog 18 #[.agg #[.int .u8 r3.kind, .string r3.dep.name, .int .u8 r3.dep.op, .int .i64 r3.dep.ep, .string r3.dep.ver, .string r3.dep.rel, .slice a3 r3.n c3], .agg #[.int .u8 r2.kind, .string r2.dep.name, .int .u8 r2.dep.op, .int .i64 r2.dep.ep, .string r2.dep.ver, .string r2.dep.rel, .slice a2 r2.n c2]] W fun e w' => e = .returned (.bool false) ∧ Below W.heap.size W w' := by
  exact same_at (r := r3) (r2 := r2) h h2 false (by rw [hr, hr2]; exact deep32)
end Go.Proofs.YtadogjnoklabdaaDoor
