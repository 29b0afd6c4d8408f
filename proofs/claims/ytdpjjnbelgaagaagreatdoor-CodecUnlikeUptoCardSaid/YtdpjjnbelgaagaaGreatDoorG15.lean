/- The end of a drawn region: append, a field's address, the store. Conditions: as each theorem names them. -/
import Derived.Test.YtdpjjnbelgaagaaGreatDoorG14
import Derived.Test.YtdpjjnbelgaagaaGreatDoorG05
import Derived.Test.YtdpjjnbelgaagaaGreatDoorG13
namespace Go.Proofs.YtdpjjnbelgaagaaGreatDoor
open Go.ChangeShapes Go.WideShapes Go.ChangeAt Go.RowKit Go.Deep
set_option maxRecDepth 100000

section
variable {o : Oper} {a : Act} {w : World} {K : Act → World → Prop} {Q : Exit → Act → World → Prop}
theorem doF_stP (t u g k : Nat) (old : Value) (aa : Option Addr) (n c : Nat) (ho : o.op = .store 36 (.tmp t) (.tmp u)) (hx : a.eval (.tmp t) = .pointer (some ⟨g, k, none⟩)) (hv : a.eval (.tmp u) = .slice aa n c) (hc : w.cell? ⟨g, k, none⟩ = some old) (hf : w.frozen? ⟨g, k, none⟩ = false) (hlt : g < w.heap.size)
    (h : K (a.put o.dst undef) (w.setCell ⟨g, k, none⟩ (.slice aa n c))) : o.wp Tryz.prog a w K Q := by
  unfold Oper.wp execOp
  simp only [ho, hx, hv]
  go_simp
  exact h
theorem doF_stQ (t u g k : Nat) (old : Value) (aa : Option Addr) (n c : Nat) (ho : o.op = .store 39 (.tmp t) (.tmp u)) (hx : a.eval (.tmp t) = .pointer (some ⟨g, k, none⟩)) (hv : a.eval (.tmp u) = .slice aa n c) (hc : w.cell? ⟨g, k, none⟩ = some old) (hf : w.frozen? ⟨g, k, none⟩ = false) (hlt : g < w.heap.size)
    (h : K (a.put o.dst undef) (w.setCell ⟨g, k, none⟩ (.slice aa n c))) : o.wp Tryz.prog a w K Q := by
  unfold Oper.wp execOp
  simp only [ho, hx, hv]
  go_simp
  exact h
end
theorem evp_ne (a : Act) {d t : Nat} (v : Value) (h : d ≠ t) : (a.put (some d) v).eval (.tmp t) = a.eval (.tmp t) := by
  show (a.tmps.setIfInBounds d v).getD t undef = a.tmps.getD t undef
  simp [Array.getD_eq_getD_getElem?, Array.getElem?_setIfInBounds_ne h]
theorem evp_self (a : Act) {d : Nat} (v : Value) (h : d < a.tmps.size) : (a.put (some d) v).eval (.tmp d) = v := by
  show (a.tmps.setIfInBounds d v).getD d undef = v
  simp [Array.getD_eq_getD_getElem?, Array.getElem?_setIfInBounds_self, h]
theorem put_size (a : Act) (d : Nat) (v : Value) : (a.put (some d) v).tmps.size = a.tmps.size := by
  show (a.tmps.setIfInBounds d v).size = a.tmps.size
  simp
/-- The end of such a region. -/
theorem tail_push {α : Type} {K : Kd α} {te tl tb : TypeId} {i : TypeInfo} {z : Value} {bytes fld off : Nat} (hu : Tryz.prog.underlying tl = some (.slice te)) (hi : Tryz.prog.info? te = some i) (hz : i.zero = some z) (hsz : i.size = K.size) (hby : i.bytes = bytes) (hzs : z.cells.size = K.size) (h0 : 0 < K.size)
    {W : World} {a : Act} {Q : Exit → Act → World → Prop} {o1 o2 o3 : Oper} {s x p d1 d2 gd gb N0 m0 : Nat} {cs : Array Value} {l : List α} {cur old : Value} {y : α} {r : K.R}
    (ho1 : o1.op = .call { callee := .builtin .append, args := #[.tmp s, .tmp x], argTypes := #[tl, tl] }) (hg1 : o1.guard = none) (hd1 : o1.dst = some d1) (ho2 : o2.op = .fieldAddr tb (.tmp p) fld) (hg2 : o2.guard = none) (hd2 : o2.dst = some d2) (ho3 : o3.op = .store tl (.tmp d2) (.tmp d1)) (hg3 : o3.guard = none) (hd3 : o3.dst = none)
    (hfa : ∀ (a : Act) (w : World) (K : Act → World → Prop), a.eval (.tmp p) = .pointer (some ⟨gd, 0, none⟩) → K (a.put o2.dst (.pointer (some ⟨gd, off, none⟩))) w → o2.wp Tryz.prog a w K Q)
    (hst : ∀ (a : Act) (w : World) (K : Act → World → Prop) (old : Value) (aa : Option Addr) (n c : Nat), a.eval (.tmp d2) = .pointer (some ⟨gd, off, none⟩) → a.eval (.tmp d1) = .slice aa n c → w.cell? ⟨gd, off, none⟩ = some old → w.frozen? ⟨gd, off, none⟩ = false → gd < w.heap.size → K (a.put o3.dst undef) (w.setCell ⟨gd, off, none⟩ (.slice aa n c)) → o3.wp Tryz.prog a w K Q)
    (hps : a.eval (.tmp s) = cur) (hpx : a.eval (.tmp x) = .slice (some ⟨gb, 0, none⟩) 1 1) (hpp : a.eval (.tmp p) = .pointer (some ⟨gd, 0, none⟩)) (hne1 : d1 ≠ p) (hne2 : d1 ≠ d2) (hsz1 : d1 < a.tmps.size) (hsz2 : d2 < a.tmps.size)
    (hbd : Blk W gd tb cs) (hof : cs[off]? = some old) (hgd : gd < N0) (hte : tb ≠ te) (hac : Acc K te N0 W l cur) (hb : Blk W gb te (K.cells y r).toArray) (hy : K.holds (free m0) W y r) (hm : N0 ≤ m0) (hcm : ∀ b, cur.ownBlock = some b → b < m0) (hN : N0 ≤ W.heap.size) (hln : (l.length + 1) * bytes ≤ 140737488355328) (hl : l.length + 1 ≤ maxLen)
    (hK : ∀ ao cap W', Acc K te N0 W' (l ++ [y]) (.slice ao (l.length + 1) cap) → Blk W' gd tb (cs.setIfInBounds off (.slice ao (l.length + 1) cap)) → Touch (fun b => b = gd ∨ cur.ownBlock = some b) W W' → Q .normal ((a.put (some d1) (.slice ao (l.length + 1) cap)).put (some d2) (.pointer (some ⟨gd, off, none⟩))) W') :
    TailWp Q [o1, o2, o3] a W := by
  obtain ⟨xs, hown, hone⟩ := hac.own
  have hsrc : Src Tryz.prog K.size tl (.slice (some ⟨gb, 0, none⟩) 1 1) 1 (K.cells y r) W := by
    have h1 := Own.of_blk (e := te) (size := K.size) hb 1 (by simp [K.len]) (by simp [maxLen])
    exact h1.src hu fun u hu => K.one hy u (by simpa using hu)
  refine ⟨hg1, wp_append_S W (.tmp s) (.tmp x) _ _ ho1 te i z K.size bytes hu hi hz hsz hby hzs h0 cur l.length xs hps hown hone _ 1 (K.cells y r) hpx hsrc hl hln fun ao cap W1 k1 k2 k3 k4 k5 k6 => ⟨hg2, hfa _ _ _ ?_ ⟨hg3, ?_⟩⟩⟩
  · rw [hd1, evp_ne a _ hne1]
    exact hpp
  · have hgo : cur.ownBlock ≠ some gd := fun e => by
      obtain ⟨c2, h2⟩ := hown.blk e
      exact hbd.ne_ h2 hte rfl
    have hb1 : Blk W1 gd tb cs := hbd.grown k4 fun e => hgo e.symm
    have hc1 : W1.cell? ⟨gd, off, none⟩ = some old := (hb1.cell off).trans hof
    have hA := Acc.push hown hac hm hy hcm hN k3 k4 k5
    have hT1 : Touch (fun b => b = gd ∨ cur.ownBlock = some b) W W1 := Touch.of_grown k4 fun k hk => .inr hk
    refine hst _ _ _ old ao (l.length + 1) cap ?_ ?_ hc1 (hb1.frozen off) hb1.lt ?_
    · rw [hd1, hd2, evp_self _ _ (by rw [put_size]; exact hsz2)]
    · rw [hd1, hd2, evp_ne _ _ (fun e => hne2 e.symm), evp_self _ _ hsz1]
    · show Q .normal (((a.put o1.dst _).put o2.dst _).put o3.dst undef) _
      rw [hd1, hd2, hd3]
      exact hK ao cap _ (hA.keep (by simp) fun b hb _ => Below.heap_setCell W1 ⟨gd, off, none⟩ _ b (by show b ≠ gd; omega)) (hb1.set_ off _) (hT1.setCell (fun _ => .inl rfl) _)
end Go.Proofs.YtdpjjnbelgaagaaGreatDoor

namespace Go.Proofs.YtdpjjnbelgaagaaGreatDoor
open Go.ChangeShapes Go.WideShapes Go.ChangeAt Go.RowKit Go.Deep
set_option maxRecDepth 100000

theorem CellsAt.bel {w w' : World} {b o : Nat} {cs : List Value} (h : CellsAt w b o cs) (hb : Below w.heap.size w w') : CellsAt w' b o cs := h.below hb
section
variable {o : Oper} {a : Act} {w : World} {K : Act → World → Prop} {Q : Exit → Act → World → Prop}
theorem doG_r0 (t g q : Nat) (ho : o.op = .fieldAddr 38 (.tmp t) 0) (hx : a.eval (.tmp t) = .pointer (some ⟨g, q, none⟩)) (h : K (a.put o.dst (.pointer (some ⟨g, q, none⟩))) w) : o.wp Tryz.prog a w K Q := by
  unfold Oper.wp execOp
  simp only [ho, hx]
  go_simp
  exact h
theorem doG_r1 (t g q : Nat) (ho : o.op = .fieldAddr 38 (.tmp t) 1) (hx : a.eval (.tmp t) = .pointer (some ⟨g, q, none⟩)) (h : K (a.put o.dst (.pointer (some ⟨g, q + 1, none⟩))) w) : o.wp Tryz.prog a w K Q := by
  unfold Oper.wp execOp
  simp only [ho, hx]
  go_simp
  exact h
theorem doG_d0 (t g q : Nat) (ho : o.op = .fieldAddr 55 (.tmp t) 0) (hx : a.eval (.tmp t) = .pointer (some ⟨g, q, none⟩)) (h : K (a.put o.dst (.pointer (some ⟨g, q, none⟩))) w) : o.wp Tryz.prog a w K Q := by
  unfold Oper.wp execOp
  simp only [ho, hx]
  go_simp
  exact h
theorem doG_d1 (t g q : Nat) (ho : o.op = .fieldAddr 55 (.tmp t) 1) (hx : a.eval (.tmp t) = .pointer (some ⟨g, q, none⟩)) (h : K (a.put o.dst (.pointer (some ⟨g, q + 1, none⟩))) w) : o.wp Tryz.prog a w K Q := by
  unfold Oper.wp execOp
  simp only [ho, hx]
  go_simp
  exact h
theorem doG_slP (t g k : Nat) (aa : Option Addr) (n c : Nat) (ho : o.op = .load 36 (.tmp t)) (hx : a.eval (.tmp t) = .pointer (some ⟨g, k, none⟩)) (hc : w.cell? ⟨g, k, none⟩ = some (.slice aa n c)) (h : K (a.put o.dst (.slice aa n c)) w) : o.wp Tryz.prog a w K Q := by
  unfold Oper.wp execOp
  simp only [ho, hx]
  go_simp
  exact h
theorem doG_slQ (t g k : Nat) (aa : Option Addr) (n c : Nat) (ho : o.op = .load 39 (.tmp t)) (hx : a.eval (.tmp t) = .pointer (some ⟨g, k, none⟩)) (hc : w.cell? ⟨g, k, none⟩ = some (.slice aa n c)) (h : K (a.put o.dst (.slice aa n c)) w) : o.wp Tryz.prog a w K Q := by
  unfold Oper.wp execOp
  simp only [ho, hx]
  go_simp
  exact h
theorem doG_ixP (t u b q n c i : Nat) (ho : o.op = .indexAddr 36 (.tmp t) (.tmp u)) (hx : a.eval (.tmp t) = .slice (some ⟨b, q, none⟩) n c) (hu : a.eval (.tmp u) = .int .i64 i) (hi : i < n) (h : K (a.put o.dst (.pointer (some ⟨b, q + i * 15, none⟩))) w) : o.wp Tryz.prog a w K Q := by
  have hki : (i : Int) < (n : Int) := by omega
  unfold Oper.wp execOp
  simp only [ho, hx, hu]
  go_simp
  exact h
theorem doG_ixQ (t u b q n c i : Nat) (ho : o.op = .indexAddr 39 (.tmp t) (.tmp u)) (hx : a.eval (.tmp t) = .slice (some ⟨b, q, none⟩) n c) (hu : a.eval (.tmp u) = .int .i64 i) (hi : i < n) (h : K (a.put o.dst (.pointer (some ⟨b, q + i * 2, none⟩))) w) : o.wp Tryz.prog a w K Q := by
  have hki : (i : Int) < (n : Int) := by omega
  unfold Oper.wp execOp
  simp only [ho, hx, hu]
  go_simp
  exact h
theorem doG_move (t : Nat) (v : Value) (ho : o.op = .move (.tmp t)) (hx : a.eval (.tmp t) = v) (h : K (a.put o.dst v) w) : o.wp Tryz.prog a w K Q := by
  subst hx
  unfold Oper.wp execOp
  simp only [ho]
  exact h
theorem doG_pkg (t g k : Nat) (p : PkgD) (r : PkgR) (hf : r.forms) (ho : o.op = .load 29 (.tmp t)) (hx : a.eval (.tmp t) = .pointer (some ⟨g, k, none⟩)) (hc : CellsAt w g k (pkgCs p r)) (h : K (a.put o.dst (p.val r)) w) : o.wp Tryz.prog a w K Q := by
  obtain ⟨⟨q1, q2, q3, e1⟩, ⟨q4, q5, q6, e2⟩, ⟨q7, q8, q9, e3⟩, ⟨q10, q11, q12, e4⟩, ⟨q13, q14, q15, e5⟩, ⟨q16, q17, q18, e6⟩, ⟨q19, q20, q21, e7⟩, ⟨q22, q23, q24, e8⟩, ⟨q25, q26, q27, e9⟩⟩ := hf
  rcases r with ⟨r0, r1, r2, r3, r4, r5, r6, r7, r8⟩
  dsimp only at e1 e2 e3 e4 e5 e6 e7 e8 e9
  subst e1 e2 e3 e4 e5 e6 e7 e8 e9
  have x0 := hc.2 0 (show 0 < 15 by omega)
  have x1 := hc.2 1 (show 1 < 15 by omega)
  have x2 := hc.2 2 (show 2 < 15 by omega)
  have x3 := hc.2 3 (show 3 < 15 by omega)
  have x4 := hc.2 4 (show 4 < 15 by omega)
  have x5 := hc.2 5 (show 5 < 15 by omega)
  have x6 := hc.2 6 (show 6 < 15 by omega)
  have x7 := hc.2 7 (show 7 < 15 by omega)
  have x8 := hc.2 8 (show 8 < 15 by omega)
  have x9 := hc.2 9 (show 9 < 15 by omega)
  have x10 := hc.2 10 (show 10 < 15 by omega)
  have x11 := hc.2 11 (show 11 < 15 by omega)
  have x12 := hc.2 12 (show 12 < 15 by omega)
  have x13 := hc.2 13 (show 13 < 15 by omega)
  have x14 := hc.2 14 (show 14 < 15 by omega)
  dsimp only [pkgCs] at x0 x1 x2 x3 x4 x5 x6 x7 x8 x9 x10 x11 x12 x13 x14
  simp only [Nat.add_zero, List.getElem?_cons_zero, List.getElem?_cons_succ] at x0 x1 x2 x3 x4 x5 x6 x7 x8 x9 x10 x11 x12 x13 x14
  have hlt := hc.1
  unfold Oper.wp execOp
  simp only [ho, hx]
  go_simp
  exact h
theorem doG_copy (t : Nat) (v : Value) (ho : o.op = .call { callee := .value (.func 46), args := #[.tmp t], argTypes := #[29] }) (hx : a.eval (.tmp t) = v) (hc : Calls Tryz.prog 46 #[v] w fun e w' => ∃ u, e = .returned u ∧ K (a.put o.dst u) w') : o.wp Tryz.prog a w K Q := by
  unfold Oper.wp execOp
  simp only [ho, resolve, Sem.run_bind, List.map_toArray, List.map_cons, List.map_nil, hx]
  go_simp
  refine hc.mono ?_
  rintro e w' ⟨u, rfl, hk⟩
  exact hk
theorem doG_one (t : Nat) (p : PkgD) (r : PkgR) (hf : r.forms) (ho : o.op = .buildSlice 36 1 #[(0, .tmp t)]) (hx : a.eval (.tmp t) = p.val r) (h : K (a.put o.dst (.slice (some ⟨w.heap.size, 0, none⟩) 1 1)) (w.alloc (.cells (pkA p r) 29))) : o.wp Tryz.prog a w K Q := by
  obtain ⟨⟨q1, q2, q3, e1⟩, ⟨q4, q5, q6, e2⟩, ⟨q7, q8, q9, e3⟩, ⟨q10, q11, q12, e4⟩, ⟨q13, q14, q15, e5⟩, ⟨q16, q17, q18, e6⟩, ⟨q19, q20, q21, e7⟩, ⟨q22, q23, q24, e8⟩, ⟨q25, q26, q27, e9⟩⟩ := hf
  rcases r with ⟨r0, r1, r2, r3, r4, r5, r6, r7, r8⟩
  dsimp only at e1 e2 e3 e4 e5 e6 e7 e8 e9
  subst e1 e2 e3 e4 e5 e6 e7 e8 e9
  exact doR_pkgs t _ ho hx rfl (by kernel_rfl) h
end
theorem PkgIn.forms {B : World → Nat → Prop} {w : World} {p : PkgD} {r : PkgR} (h : PkgIn B w p r) : r.forms :=
  ⟨(let ⟨a, c, e⟩ := h.prov.form; ⟨a, _, c, e⟩), (let ⟨a, c, e⟩ := h.req.form; ⟨a, _, c, e⟩), (let ⟨a, c, e⟩ := h.con.form; ⟨a, _, c, e⟩), (let ⟨a, c, e⟩ := h.obs.form; ⟨a, _, c, e⟩), (let ⟨a, c, e⟩ := h.reco.form; ⟨a, _, c, e⟩), (let ⟨a, c, e⟩ := h.sup.form; ⟨a, _, c, e⟩), (let ⟨a, c, e⟩ := h.sug.form; ⟨a, _, c, e⟩), (let ⟨a, c, e⟩ := h.enh.form; ⟨a, _, c, e⟩), (let ⟨a, c, e⟩ := h.files.form; ⟨a, _, c, e⟩)⟩
def okG9 (g gd k j b oo n1 c1 b2 o2 n2 c2 : Nat) (p : PkgD) (r : PkgR) (cur : Value) (N : Nat) (w : World) : Nat → Value → Prop
  | 0, v => v = .pointer (some ⟨gd, 1, none⟩)
  | 1, v => v = cur
  | 2, v => v = .pointer (some ⟨g, 0, none⟩)
  | 3, v => v = .slice (some ⟨b, oo, none⟩) n1 c1
  | 4, v => v = .int .i64 k
  | 5, v => v = .pointer (some ⟨b, oo + k * 2, none⟩)
  | 6, v => v = .pointer (some ⟨b, oo + k * 2 + 1, none⟩)
  | 7, v => v = .slice (some ⟨b2, o2, none⟩) n2 c2
  | 8, v => v = .int .i64 j
  | 9, v => v = .pointer (some ⟨b2, o2 + j * 15, none⟩)
  | 10, v => v = p.val r
  | 11, v => ∃ r', v = p.val r' ∧ PkgIn (free N) w p r'
  | 12, v => ∃ r' gb, v = .slice (some ⟨gb, 0, none⟩) 1 1 ∧ Blk w gb 29 (pkgCs p r').toArray ∧ PkgIn (free N) w p r'
  | _, _ => True
theorem okG9_mono {g gd k j b oo n1 c1 b2 o2 n2 c2 : Nat} {p : PkgD} {r : PkgR} {cur : Value} {N : Nat} {w w' : World} (hb : Below w.heap.size w w') : ∀ {i : Nat} {v : Value}, okG9 g gd k j b oo n1 c1 b2 o2 n2 c2 p r cur N w i v → okG9 g gd k j b oo n1 c1 b2 o2 n2 c2 p r cur N w' i v
  | 0, _, h => h
  | 1, _, h => h
  | 2, _, h => h
  | 3, _, h => h
  | 4, _, h => h
  | 5, _, h => h
  | 6, _, h => h
  | 7, _, h => h
  | 8, _, h => h
  | 9, _, h => h
  | 10, _, h => h
  | 11, _, ⟨r', e, h⟩ => ⟨r', e, PkgIn.belN h hb⟩
  | 12, _, ⟨r', gb, e, h1, h2⟩ => ⟨r', gb, e, h1.bel' hb, PkgIn.belN h2 hb⟩
  | _ + 13, _, _ => trivial
abbrev opsG9 : List Op := [.fieldAddr 38 (.tmp 5) 1, .load 36 (.tmp 33), .fieldAddr 55 (.tmp 1) 0, .load 39 (.tmp 35), .move (.tmp 4), .indexAddr 39 (.tmp 36) (.tmp 37), .fieldAddr 38 (.tmp 38) 1, .load 36 (.tmp 39), .move (.tmp 6), .indexAddr 36 (.tmp 40) (.tmp 41), .load 29 (.tmp 42), .call { callee := .value (.func 46), args := #[.tmp 43], argTypes := #[29] }, .buildSlice 36 1 #[(0, .tmp 44)], .call { callee := .builtin .append, args := #[.tmp 34, .tmp 45], argTypes := #[36, 36] }, .fieldAddr 38 (.tmp 5) 1, .store 36 (.tmp 47) (.tmp 46)]
abbrev depsG9 : List (List Nat) := [[], [0], [], [2], [], [3, 4], [5], [6], [], [7, 8], [9], [10], [11], [1, 12], [13], [14]]
set_option maxHeartbeats 16000000 in
theorem gather9 {L : List Value} {n0 w0 : World} {g gd k j b oo n1 c1 b2 o2 n2 c2 N0 : Nat} {p : PkgD} {r : PkgR} {cur : Value} {l : List PkgD} {cs : Array Value} {ops : Array Oper} {Q : Exit → Act → World → Prop} {id : Nat} (hL : L.length = 73) (hsz : ops.size = 16)
    (hL1 : (L[1]?).getD undef = .pointer (some ⟨g, 0, none⟩)) (hL4 : (L[4]?).getD undef = .int .i64 k) (hL5 : (L[5]?).getD undef = .pointer (some ⟨gd, 0, none⟩)) (hL6 : (L[6]?).getD undef = .int .i64 j) {vi : Value} (hbg : Blk n0 g 55 #[.slice (some ⟨b, oo, none⟩) n1 c1, vi]) {prio : Int} (hcr : CellsAt n0 b (oo + k * 2) [.int .i64 prio, .slice (some ⟨b2, o2, none⟩) n2 c2]) (hk : k < n1) (hcp : CellsAt n0 b2 (o2 + j * 15) (pkgCs p r)) (hj : j < n2)
    (hbd : Blk n0 gd 38 cs) (hof : cs[1]? = some cur) (hin : PkgIn anyB w0 p r) (hw0 : Below w0.heap.size w0 n0) (hsm : p.small) (hac : Acc pkgK 29 N0 n0 l cur) (hgd : gd < N0) (hN0 : N0 ≤ n0.heap.size) (hln : l.length < 1048576)
    (hops : (ops.toList.map fun o => (o.op, o.guard)) = opsG9.map fun x => (x, none)) (hdst : (ops.toList.map (·.dst)) = ((List.range 15).map fun i => some (33 + i)) ++ [none])
    (hdeps : ((ops.toList.zip depsG9).all fun x => x.2.all fun d => x.1.after.any fun e => e.on == d && Region.binds .any e) = true)
    (hlow : (ops.toList.zipIdx.all fun x => x.1.after.all fun e => decide (e.on < x.2)) = true)
    (hK : ∀ mid ao cap W, mid.length = 15 → Acc pkgK 29 N0 W (l ++ [p]) (.slice ao (l.length + 1) cap) → Blk W gd 38 (cs.setIfInBounds 1 (.slice ao (l.length + 1) cap)) → Touch (fun b => b = gd ∨ cur.ownBlock = some b) n0 W → Q .normal (frm (L.take 33) mid (L.drop 48)) W) :
    (Code.region id ops true).wp Tryz.prog Q { tmps := L.toArray, defers := [] } n0 := by
  obtain ⟨N, hN⟩ : ∃ N, N = n0.heap.size := ⟨_, rfl⟩
  have hF1 : ∀ mid, (frm (L.take 33) mid (L.drop 48)).eval (.tmp 1) = .pointer (some ⟨g, 0, none⟩) := fun mid => (frm_front (by rw [List.length_take]; omega)).trans (by rw [List.getElem?_take_of_lt (by omega)]; exact hL1)
  have hF4 : ∀ mid, (frm (L.take 33) mid (L.drop 48)).eval (.tmp 4) = .int .i64 k := fun mid => (frm_front (by rw [List.length_take]; omega)).trans (by rw [List.getElem?_take_of_lt (by omega)]; exact hL4)
  have hF5 : ∀ mid, (frm (L.take 33) mid (L.drop 48)).eval (.tmp 5) = .pointer (some ⟨gd, 0, none⟩) := fun mid => (frm_front (by rw [List.length_take]; omega)).trans (by rw [List.getElem?_take_of_lt (by omega)]; exact hL5)
  have hF6 : ∀ mid, (frm (L.take 33) mid (L.drop 48)).eval (.tmp 6) = .int .i64 j := fun mid => (frm_front (by rw [List.length_take]; omega)).trans (by rw [List.getElem?_take_of_lt (by omega)]; exact hL6)
  have hop_at : ∀ (i : Nat) (o : Oper) (x : Op), ops[i]? = some o → opsG9[i]? = some x → o.op = x ∧ o.guard = none := fun i o x ho hx => by
    have h4 := congrArg (fun l => l[i]?) hops
    rw [List.getElem?_map, List.getElem?_map, Array.getElem?_toList, ho, hx] at h4
    exact Prod.mk.inj (Option.some.inj h4)
  have hds_at : ∀ (i : Nat) (o : Oper) (x : Option Tmp), ops[i]? = some o → (((List.range 15).map fun i => some (33 + i)) ++ [none])[i]? = some x → o.dst = x := fun i o x ho hx => by
    have h4 := congrArg (fun l => l[i]?) hdst
    rw [List.getElem?_map, Array.getElem?_toList, ho, hx] at h4
    exact Option.some.inj h4
  obtain ⟨ac, cc, hcur⟩ : ∃ ac cc, cur = .slice ac l.length cc := by
    obtain ⟨xs, hown, _⟩ := hac.own
    exact own_at hown
  refine spec_tail (ok := okG9 g gd k j b oo n1 c1 b2 o2 n2 c2 p r cur N) (fun hb h => okG9_mono hb h) (n := 33) (K := 13) (M := 15) (N := 16) (by omega) (by omega) hsz (by omega) depsG9 (by rw [List.map_take, hdst]; rfl) hdeps rfl (by kernel_rfl) hlow (fun i o mid w hi ho hm hb hdp => ?_) (fun mid w hm hb hall => ?_)
  · have hbN : N ≤ w.heap.size := hN ▸ hb.size
    have hcases : i = 0 ∨ i = 1 ∨ i = 2 ∨ i = 3 ∨ i = 4 ∨ i = 5 ∨ i = 6 ∨ i = 7 ∨ i = 8 ∨ i = 9 ∨ i = 10 ∨ i = 11 ∨ i = 12 := by omega
    rcases hcases with rfl | rfl | rfl | rfl | rfl | rfl | rfl | rfl | rfl | rfl | rfl | rfl | rfl
    all_goals
      obtain ⟨hop, hgd'⟩ := hop_at _ _ _ ho rfl
      have hd := hdp _ rfl
      clear hdp hop_at hds_at ho
    · exact ⟨guard_no hgd', fun Kc hKc => doG_r1 5 gd 0 hop (hF5 mid) (hKc _ _ rfl (Below.refl _ _))⟩
    · subst hcur
      exact ⟨guard_no hgd', fun Kc hKc => doG_slP 33 gd 1 _ _ _ hop (hd 0 (by simp)) (((hbd.bel' hb).cell 1).trans hof) (hKc _ _ rfl (Below.refl _ _))⟩
    · exact ⟨guard_no hgd', fun Kc hKc => doG_d0 1 g 0 hop (hF1 mid) (hKc _ _ rfl (Below.refl _ _))⟩
    · exact ⟨guard_no hgd', fun Kc hKc => doG_slQ 35 g 0 _ _ _ hop (hd 2 (by simp)) ((hbg.bel' hb).cell 0) (hKc _ _ rfl (Below.refl _ _))⟩
    · exact ⟨guard_no hgd', fun Kc hKc => doG_move 4 _ hop (hF4 mid) (hKc _ _ rfl (Below.refl _ _))⟩
    · exact ⟨guard_no hgd', fun Kc hKc => doG_ixQ 36 37 b oo n1 c1 k hop (hd 3 (by simp)) (hd 4 (by simp)) hk (hKc _ _ rfl (Below.refl _ _))⟩
    · exact ⟨guard_no hgd', fun Kc hKc => doG_r1 38 b _ hop (hd 5 (by simp)) (hKc _ _ rfl (Below.refl _ _))⟩
    · exact ⟨guard_no hgd', fun Kc hKc => doG_slP 39 b _ _ _ _ hop (hd 6 (by simp)) ((hcr.below hb).2 1 (show 1 < 2 by omega)) (hKc _ _ rfl (Below.refl _ _))⟩
    · exact ⟨guard_no hgd', fun Kc hKc => doG_move 6 _ hop (hF6 mid) (hKc _ _ rfl (Below.refl _ _))⟩
    · exact ⟨guard_no hgd', fun Kc hKc => doG_ixP 40 41 b2 o2 n2 c2 j hop (hd 7 (by simp)) (hd 8 (by simp)) hj (hKc _ _ rfl (Below.refl _ _))⟩
    · exact ⟨guard_no hgd', fun Kc hKc => doG_pkg 42 b2 _ p r hin.forms hop (hd 9 (by simp)) (hcp.below hb) (hKc _ _ rfl (Below.refl _ _))⟩
    · have e1 := hd 10 (by simp)
      refine ⟨guard_no hgd', fun Kc hKc => doG_copy 43 _ hop e1 ((r10copy_any p r w (hin.keep (Nat.le_trans hw0.size hb.size) fun b _ hlt => ⟨(below_t' hw0 hb).block b hlt, trivial⟩) hsm).mono ?_)⟩
      rintro e w' ⟨⟨r', rfl, k1⟩, k2⟩
      exact ⟨_, rfl, hKc _ w' ⟨r', rfl, k1.keep (Nat.le_refl _) fun b ⟨j1, j2⟩ _ => ⟨rfl, Nat.le_trans hbN j1, j2⟩⟩ k2⟩
    · obtain ⟨r', e1, e2⟩ := hd 11 (by simp)
      exact ⟨guard_no hgd', fun Kc hKc => doG_one 44 p r' e2.forms hop e1 (hKc _ _ ⟨r', w.heap.size, rfl, Blk.new _ _ _, PkgIn.belN e2 (new_b _ _)⟩ (new_b _ _))⟩
  · have e0 : ops.toList.drop 13 = [ops[13]'(by omega), ops[14]'(by omega), ops[15]'(by omega)] := by
      rw [List.drop_eq_getElem_cons (by rw [Array.length_toList]; omega), List.drop_eq_getElem_cons (by rw [Array.length_toList]; omega), List.drop_eq_getElem_cons (by rw [Array.length_toList]; omega), List.drop_eq_nil_of_le (by rw [Array.length_toList]; omega)]
      simp only [Array.getElem_toList]
    rw [e0]
    obtain ⟨hp1, hg1⟩ := hop_at 13 _ _ (Array.getElem?_eq_getElem (by omega)) rfl
    obtain ⟨hp2, hg2⟩ := hop_at 14 _ _ (Array.getElem?_eq_getElem (by omega)) rfl
    obtain ⟨hp3, hg3⟩ := hop_at 15 _ _ (Array.getElem?_eq_getElem (by omega)) rfl
    have hd1 := hds_at 13 _ _ (Array.getElem?_eq_getElem (by omega)) rfl
    have hd2 := hds_at 14 _ _ (Array.getElem?_eq_getElem (by omega)) rfl
    have hd3 := hds_at 15 _ _ (Array.getElem?_eq_getElem (by omega)) rfl
    have z1 := hall 1 (by omega)
    obtain ⟨r', gb, z2, z3, z4⟩ := hall 12 (by omega)
    obtain ⟨iD, hiD, hz0, hz1, hz2⟩ := iPkg
    have hts : (frm (L.take 33) mid (L.drop 48)).tmps.size = 73 := by
      show ((L.take 33) ++ mid ++ L.drop 48).toArray.size = 73
      simp [List.length_take, List.length_drop, hL, hm]
    refine tail_push (K := pkgK) (r := r') (y := p) (m0 := N) Tryz.underlying36 hiD hz0 hz1 hz2 rfl (by decide) hp1 hg1 hd1 hp2 hg2 hd2 hp3 hg3 hd3 (fun a w K h1 h2 => doG_r1 _ _ _ hp2 h1 h2) (fun a w K old aa n c h1 h2 h3 h4 h5 h6 => doF_stP _ _ _ _ old aa n c hp3 h1 h2 h3 h4 h5 h6) z1 z2 (hF5 mid) (by decide) (by decide) (by rw [hts]; decide) (by rw [hts]; decide) (hbd.bel' hb) hof hgd (by decide) (hac.below hb) z3 z4 (by omega) (fun b hb2 => ?_) (by have := hb.size; omega) (by omega) (by simp only [maxLen]; omega) fun ao cap W k1 k2 k3 => ?_
    · obtain ⟨xs, hown, _⟩ := hac.own
      have := hown.lt b hb2
      omega
    · have hF : (L.take 33).length = 33 := by rw [List.length_take]; omega
      rw [frm_put hF (by rw [hm]; decide), frm_put hF (by rw [List.length_set, hm]; decide)]
      exact hK _ ao cap W (by rw [List.length_set, List.length_set]; exact hm) k1 k2 ((Touch.of_below hb _).trans k3 fun _ _ h => h)
def okG14 (g gd k j b oo n1 c1 b2 o2 n2 c2 : Nat) (p : PkgD) (r : PkgR) (cur : Value) (N : Nat) (w : World) : Nat → Value → Prop
  | 0, v => v = .pointer (some ⟨gd, 1, none⟩)
  | 1, v => v = cur
  | 2, v => v = .pointer (some ⟨g, 1, none⟩)
  | 3, v => v = .slice (some ⟨b2, o2, none⟩) n2 c2
  | 4, v => v = .int .i64 j
  | 5, v => v = .pointer (some ⟨b2, o2 + j * 15, none⟩)
  | 6, v => v = p.val r
  | 7, v => ∃ r', v = p.val r' ∧ PkgIn (free N) w p r'
  | 8, v => ∃ r' gb, v = .slice (some ⟨gb, 0, none⟩) 1 1 ∧ Blk w gb 29 (pkgCs p r').toArray ∧ PkgIn (free N) w p r'
  | _, _ => True
theorem okG14_mono {g gd k j b oo n1 c1 b2 o2 n2 c2 : Nat} {p : PkgD} {r : PkgR} {cur : Value} {N : Nat} {w w' : World} (hb : Below w.heap.size w w') : ∀ {i : Nat} {v : Value}, okG14 g gd k j b oo n1 c1 b2 o2 n2 c2 p r cur N w i v → okG14 g gd k j b oo n1 c1 b2 o2 n2 c2 p r cur N w' i v
  | 0, _, h => h
  | 1, _, h => h
  | 2, _, h => h
  | 3, _, h => h
  | 4, _, h => h
  | 5, _, h => h
  | 6, _, h => h
  | 7, _, ⟨r', e, h⟩ => ⟨r', e, PkgIn.belN h hb⟩
  | 8, _, ⟨r', gb, e, h1, h2⟩ => ⟨r', gb, e, h1.bel' hb, PkgIn.belN h2 hb⟩
  | _ + 9, _, _ => trivial
abbrev opsG14 : List Op := [.fieldAddr 55 (.tmp 3) 1, .load 36 (.tmp 61), .fieldAddr 55 (.tmp 1) 1, .load 36 (.tmp 63), .move (.tmp 7), .indexAddr 36 (.tmp 64) (.tmp 65), .load 29 (.tmp 66), .call { callee := .value (.func 46), args := #[.tmp 67], argTypes := #[29] }, .buildSlice 36 1 #[(0, .tmp 68)], .call { callee := .builtin .append, args := #[.tmp 62, .tmp 69], argTypes := #[36, 36] }, .fieldAddr 55 (.tmp 3) 1, .store 36 (.tmp 71) (.tmp 70)]
abbrev depsG14 : List (List Nat) := [[], [0], [], [2], [], [3, 4], [5], [6], [7], [1, 8], [9], [10]]
set_option maxHeartbeats 16000000 in
theorem gather14 {L : List Value} {n0 w0 : World} {g gd k j b oo n1 c1 b2 o2 n2 c2 N0 : Nat} {p : PkgD} {r : PkgR} {cur : Value} {l : List PkgD} {cs : Array Value} {ops : Array Oper} {Q : Exit → Act → World → Prop} {id : Nat} (hL : L.length = 73) (hsz : ops.size = 12)
    (hL1 : (L[1]?).getD undef = .pointer (some ⟨g, 0, none⟩)) (hL3 : (L[3]?).getD undef = .pointer (some ⟨gd, 0, none⟩)) (hL7 : (L[7]?).getD undef = .int .i64 j) {vr : Value} (hbg : Blk n0 g 55 #[vr, .slice (some ⟨b2, o2, none⟩) n2 c2]) (hcp : CellsAt n0 b2 (o2 + j * 15) (pkgCs p r)) (hj : j < n2)
    (hbd : Blk n0 gd 55 cs) (hof : cs[1]? = some cur) (hin : PkgIn anyB w0 p r) (hw0 : Below w0.heap.size w0 n0) (hsm : p.small) (hac : Acc pkgK 29 N0 n0 l cur) (hgd : gd < N0) (hN0 : N0 ≤ n0.heap.size) (hln : l.length < 1048576)
    (hops : (ops.toList.map fun o => (o.op, o.guard)) = opsG14.map fun x => (x, none)) (hdst : (ops.toList.map (·.dst)) = ((List.range 11).map fun i => some (61 + i)) ++ [none])
    (hdeps : ((ops.toList.zip depsG14).all fun x => x.2.all fun d => x.1.after.any fun e => e.on == d && Region.binds .any e) = true)
    (hlow : (ops.toList.zipIdx.all fun x => x.1.after.all fun e => decide (e.on < x.2)) = true)
    (hK : ∀ mid ao cap W, mid.length = 11 → Acc pkgK 29 N0 W (l ++ [p]) (.slice ao (l.length + 1) cap) → Blk W gd 55 (cs.setIfInBounds 1 (.slice ao (l.length + 1) cap)) → Touch (fun b => b = gd ∨ cur.ownBlock = some b) n0 W → Q .normal (frm (L.take 61) mid (L.drop 72)) W) :
    (Code.region id ops true).wp Tryz.prog Q { tmps := L.toArray, defers := [] } n0 := by
  obtain ⟨N, hN⟩ : ∃ N, N = n0.heap.size := ⟨_, rfl⟩
  have hF1 : ∀ mid, (frm (L.take 61) mid (L.drop 72)).eval (.tmp 1) = .pointer (some ⟨g, 0, none⟩) := fun mid => (frm_front (by rw [List.length_take]; omega)).trans (by rw [List.getElem?_take_of_lt (by omega)]; exact hL1)
  have hF3 : ∀ mid, (frm (L.take 61) mid (L.drop 72)).eval (.tmp 3) = .pointer (some ⟨gd, 0, none⟩) := fun mid => (frm_front (by rw [List.length_take]; omega)).trans (by rw [List.getElem?_take_of_lt (by omega)]; exact hL3)
  have hF7 : ∀ mid, (frm (L.take 61) mid (L.drop 72)).eval (.tmp 7) = .int .i64 j := fun mid => (frm_front (by rw [List.length_take]; omega)).trans (by rw [List.getElem?_take_of_lt (by omega)]; exact hL7)
  have hop_at : ∀ (i : Nat) (o : Oper) (x : Op), ops[i]? = some o → opsG14[i]? = some x → o.op = x ∧ o.guard = none := fun i o x ho hx => by
    have h4 := congrArg (fun l => l[i]?) hops
    rw [List.getElem?_map, List.getElem?_map, Array.getElem?_toList, ho, hx] at h4
    exact Prod.mk.inj (Option.some.inj h4)
  have hds_at : ∀ (i : Nat) (o : Oper) (x : Option Tmp), ops[i]? = some o → (((List.range 11).map fun i => some (61 + i)) ++ [none])[i]? = some x → o.dst = x := fun i o x ho hx => by
    have h4 := congrArg (fun l => l[i]?) hdst
    rw [List.getElem?_map, Array.getElem?_toList, ho, hx] at h4
    exact Option.some.inj h4
  obtain ⟨ac, cc, hcur⟩ : ∃ ac cc, cur = .slice ac l.length cc := by
    obtain ⟨xs, hown, _⟩ := hac.own
    exact own_at hown
  refine spec_tail (ok := okG14 g gd k j b oo n1 c1 b2 o2 n2 c2 p r cur N) (fun hb h => okG14_mono hb h) (n := 61) (K := 9) (M := 11) (N := 12) (by omega) (by omega) hsz (by omega) depsG14 (by rw [List.map_take, hdst]; rfl) hdeps rfl (by kernel_rfl) hlow (fun i o mid w hi ho hm hb hdp => ?_) (fun mid w hm hb hall => ?_)
  · have hbN : N ≤ w.heap.size := hN ▸ hb.size
    have hcases : i = 0 ∨ i = 1 ∨ i = 2 ∨ i = 3 ∨ i = 4 ∨ i = 5 ∨ i = 6 ∨ i = 7 ∨ i = 8 := by omega
    rcases hcases with rfl | rfl | rfl | rfl | rfl | rfl | rfl | rfl | rfl
    all_goals
      obtain ⟨hop, hgd'⟩ := hop_at _ _ _ ho rfl
      have hd := hdp _ rfl
      clear hdp hop_at hds_at ho
    · exact ⟨guard_no hgd', fun Kc hKc => doG_d1 3 gd 0 hop (hF3 mid) (hKc _ _ rfl (Below.refl _ _))⟩
    · subst hcur
      exact ⟨guard_no hgd', fun Kc hKc => doG_slP 61 gd 1 _ _ _ hop (hd 0 (by simp)) (((hbd.bel' hb).cell 1).trans hof) (hKc _ _ rfl (Below.refl _ _))⟩
    · exact ⟨guard_no hgd', fun Kc hKc => doG_d1 1 g 0 hop (hF1 mid) (hKc _ _ rfl (Below.refl _ _))⟩
    · exact ⟨guard_no hgd', fun Kc hKc => doG_slP 63 g 1 _ _ _ hop (hd 2 (by simp)) ((hbg.bel' hb).cell 1) (hKc _ _ rfl (Below.refl _ _))⟩
    · exact ⟨guard_no hgd', fun Kc hKc => doG_move 7 _ hop (hF7 mid) (hKc _ _ rfl (Below.refl _ _))⟩
    · exact ⟨guard_no hgd', fun Kc hKc => doG_ixP 64 65 b2 o2 n2 c2 j hop (hd 3 (by simp)) (hd 4 (by simp)) hj (hKc _ _ rfl (Below.refl _ _))⟩
    · exact ⟨guard_no hgd', fun Kc hKc => doG_pkg 66 b2 _ p r hin.forms hop (hd 5 (by simp)) (hcp.below hb) (hKc _ _ rfl (Below.refl _ _))⟩
    · have e1 := hd 6 (by simp)
      refine ⟨guard_no hgd', fun Kc hKc => doG_copy 67 _ hop e1 ((r10copy_any p r w (hin.keep (Nat.le_trans hw0.size hb.size) fun b _ hlt => ⟨(below_t' hw0 hb).block b hlt, trivial⟩) hsm).mono ?_)⟩
      rintro e w' ⟨⟨r', rfl, k1⟩, k2⟩
      exact ⟨_, rfl, hKc _ w' ⟨r', rfl, k1.keep (Nat.le_refl _) fun b ⟨j1, j2⟩ _ => ⟨rfl, Nat.le_trans hbN j1, j2⟩⟩ k2⟩
    · obtain ⟨r', e1, e2⟩ := hd 7 (by simp)
      exact ⟨guard_no hgd', fun Kc hKc => doG_one 68 p r' e2.forms hop e1 (hKc _ _ ⟨r', w.heap.size, rfl, Blk.new _ _ _, PkgIn.belN e2 (new_b _ _)⟩ (new_b _ _))⟩
  · have e0 : ops.toList.drop 9 = [ops[9]'(by omega), ops[10]'(by omega), ops[11]'(by omega)] := by
      rw [List.drop_eq_getElem_cons (by rw [Array.length_toList]; omega), List.drop_eq_getElem_cons (by rw [Array.length_toList]; omega), List.drop_eq_getElem_cons (by rw [Array.length_toList]; omega), List.drop_eq_nil_of_le (by rw [Array.length_toList]; omega)]
      simp only [Array.getElem_toList]
    rw [e0]
    obtain ⟨hp1, hg1⟩ := hop_at 9 _ _ (Array.getElem?_eq_getElem (by omega)) rfl
    obtain ⟨hp2, hg2⟩ := hop_at 10 _ _ (Array.getElem?_eq_getElem (by omega)) rfl
    obtain ⟨hp3, hg3⟩ := hop_at 11 _ _ (Array.getElem?_eq_getElem (by omega)) rfl
    have hd1 := hds_at 9 _ _ (Array.getElem?_eq_getElem (by omega)) rfl
    have hd2 := hds_at 10 _ _ (Array.getElem?_eq_getElem (by omega)) rfl
    have hd3 := hds_at 11 _ _ (Array.getElem?_eq_getElem (by omega)) rfl
    have z1 := hall 1 (by omega)
    obtain ⟨r', gb, z2, z3, z4⟩ := hall 8 (by omega)
    obtain ⟨iD, hiD, hz0, hz1, hz2⟩ := iPkg
    have hts : (frm (L.take 61) mid (L.drop 72)).tmps.size = 73 := by
      show ((L.take 61) ++ mid ++ L.drop 72).toArray.size = 73
      simp [List.length_take, List.length_drop, hL, hm]
    refine tail_push (K := pkgK) (r := r') (y := p) (m0 := N) Tryz.underlying36 hiD hz0 hz1 hz2 rfl (by decide) hp1 hg1 hd1 hp2 hg2 hd2 hp3 hg3 hd3 (fun a w K h1 h2 => doG_d1 _ _ _ hp2 h1 h2) (fun a w K old aa n c h1 h2 h3 h4 h5 h6 => doF_stP _ _ _ _ old aa n c hp3 h1 h2 h3 h4 h5 h6) z1 z2 (hF3 mid) (by decide) (by decide) (by rw [hts]; decide) (by rw [hts]; decide) (hbd.bel' hb) hof hgd (by decide) (hac.below hb) z3 z4 (by omega) (fun b hb2 => ?_) (by have := hb.size; omega) (by omega) (by simp only [maxLen]; omega) fun ao cap W k1 k2 k3 => ?_
    · obtain ⟨xs, hown, _⟩ := hac.own
      have := hown.lt b hb2
      omega
    · have hF : (L.take 61).length = 61 := by rw [List.length_take]; omega
      rw [frm_put hF (by rw [hm]; decide), frm_put hF (by rw [List.length_set, hm]; decide)]
      exact hK _ ao cap W (by rw [List.length_set, List.length_set]; exact hm) k1 k2 ((Touch.of_below hb _).trans k3 fun _ _ h => h)
end Go.Proofs.YtdpjjnbelgaagaaGreatDoor

namespace Go.Proofs.YtdpjjnbelgaagaaGreatDoor
open Go.ChangeShapes Go.WideShapes Go.ChangeAt Go.RowKit Go.Deep
set_option maxRecDepth 100000

/-- Data's lists are short, and few. -/
structure DataD.small (d : DataD) : Prop where
  repos : d.repos.length ≤ 1048576
  pkgs : ∀ x ∈ d.repos, x.pkgs.length ≤ 1048576 ∧ ∀ p ∈ x.pkgs, p.small
  inst : d.inst.length ≤ 1048576 ∧ ∀ p ∈ d.inst, p.small
/-- What a copy of data returns. -/
def DataPost (d : DataD) (w : World) (e : Ending) (w' : World) : Prop := ∃ vr vi, e = .returned (.agg #[vr, vi]) ∧ DataIn (free w.heap.size) w' d vr vi ∧ Below w.heap.size w w'
/-- The boxes of the call, and what is gathered of the repositories. -/
structure OSt (d : DataD) (w : World) (g : Nat) (vr vi : Value) (k : Nat) (xr : Value) (W : World) : Prop where
  b0 : Blk W g 55 #[vr, vi]
  b1 : Blk W (g + 1) 55 #[.slice none 0 0, .slice none 0 0]
  b2 : Blk W (g + 2) 55 #[xr, .slice none 0 0]
  ac : Acc repoK 38 (g + 3) W (d.repos.take k) xr
  bl : Below w.heap.size w W
  gw : g = w.heap.size
/-- A round's repository under way. -/
structure ISt (x : RepoD) (wr : World) (gr j : Nat) (cur : Value) (W : World) : Prop where
  br : Blk W gr 38 #[.int .i64 x.prio, cur]
  ac : Acc pkgK 29 (gr + 1) W (x.pkgs.take j) cur
  bl : Below wr.heap.size wr W
  gw : gr = wr.heap.size
theorem OSt.start (d : DataD) (w : World) (vr vi : Value) : OSt d w w.heap.size vr vi 0 (.slice none 0 0) (((w.alloc (.cells #[vr, vi] 55)).alloc (.cells #[.slice none 0 0, .slice none 0 0] 55)).alloc (.cells #[.slice none 0 0, .slice none 0 0] 55)) := by
  have h1 := new_b w (.cells #[vr, vi] 55)
  have h2 := new_b (w.alloc (.cells #[vr, vi] 55)) (.cells #[.slice none 0 0, .slice none 0 0] 55)
  have h3 := new_b ((w.alloc (.cells #[vr, vi] 55)).alloc (.cells #[.slice none 0 0, .slice none 0 0] 55)) (.cells #[.slice none 0 0, .slice none 0 0] 55)
  have x1 := Blk.new w 55 #[vr, vi]
  have x2 := Blk.new (w.alloc (.cells #[vr, vi] 55)) 55 #[.slice none 0 0, .slice none 0 0]
  have x3 := Blk.new ((w.alloc (.cells #[vr, vi] 55)).alloc (.cells #[.slice none 0 0, .slice none 0 0] 55)) 55 #[.slice none 0 0, .slice none 0 0]
  rw [World.size_alloc] at x2
  rw [World.size_alloc, World.size_alloc] at x3
  have y1 := x1.below h2 x1.lt
  have y2 := y1.below h3 y1.lt
  exact ⟨y2, x2.below h3 x2.lt, x3, Acc.nil _ _ _ _, below_t' (below_t' h1 h2) h3, rfl⟩
theorem split1 {l : List Value} {n : Nat} (h : l.length = n + 1) : ∃ x l', l = x :: l' ∧ l'.length = n := by
  cases l with
  | nil => cases h
  | cons x l' => exact ⟨x, l', rfl, by simpa using h⟩
theorem split15 {l : List Value} (h : l.length = 15) : ∃ m0 m1 m2 m3 m4 m5 m6 m7 m8 m9 m10 m11 m12 m13 m14, l = [m0, m1, m2, m3, m4, m5, m6, m7, m8, m9, m10, m11, m12, m13, m14] := by
  obtain ⟨m0, l0, e0, h0⟩ := split1 h
  obtain ⟨m1, l1, e1, h1⟩ := split1 h0
  obtain ⟨m2, l2, e2, h2⟩ := split1 h1
  obtain ⟨m3, l3, e3, h3⟩ := split1 h2
  obtain ⟨m4, l4, e4, h4⟩ := split1 h3
  obtain ⟨m5, l5, e5, h5⟩ := split1 h4
  obtain ⟨m6, l6, e6, h6⟩ := split1 h5
  obtain ⟨m7, l7, e7, h7⟩ := split1 h6
  obtain ⟨m8, l8, e8, h8⟩ := split1 h7
  obtain ⟨m9, l9, e9, h9⟩ := split1 h8
  obtain ⟨m10, l10, e10, h10⟩ := split1 h9
  obtain ⟨m11, l11, e11, h11⟩ := split1 h10
  obtain ⟨m12, l12, e12, h12⟩ := split1 h11
  obtain ⟨m13, l13, e13, h13⟩ := split1 h12
  obtain ⟨m14, l14, e14, h14⟩ := split1 h13
  have e := List.eq_nil_of_length_eq_zero h14
  exact ⟨m0, m1, m2, m3, m4, m5, m6, m7, m8, m9, m10, m11, m12, m13, m14, by rw [e0, e1, e2, e3, e4, e5, e6, e7, e8, e9, e10, e11, e12, e13, e14, e]⟩
theorem split11 {l : List Value} (h : l.length = 11) : ∃ m0 m1 m2 m3 m4 m5 m6 m7 m8 m9 m10, l = [m0, m1, m2, m3, m4, m5, m6, m7, m8, m9, m10] := by
  obtain ⟨m0, l0, e0, h0⟩ := split1 h
  obtain ⟨m1, l1, e1, h1⟩ := split1 h0
  obtain ⟨m2, l2, e2, h2⟩ := split1 h1
  obtain ⟨m3, l3, e3, h3⟩ := split1 h2
  obtain ⟨m4, l4, e4, h4⟩ := split1 h3
  obtain ⟨m5, l5, e5, h5⟩ := split1 h4
  obtain ⟨m6, l6, e6, h6⟩ := split1 h5
  obtain ⟨m7, l7, e7, h7⟩ := split1 h6
  obtain ⟨m8, l8, e8, h8⟩ := split1 h7
  obtain ⟨m9, l9, e9, h9⟩ := split1 h8
  obtain ⟨m10, l10, e10, h10⟩ := split1 h9
  have e := List.eq_nil_of_length_eq_zero h10
  exact ⟨m0, m1, m2, m3, m4, m5, m6, m7, m8, m9, m10, by rw [e0, e1, e2, e3, e4, e5, e6, e7, e8, e9, e10, e]⟩
theorem ISt.start (x : RepoD) (wr : World) : ISt x wr wr.heap.size 0 (.slice none 0 0) (wr.alloc (.cells #[.int .i64 x.prio, .slice none 0 0] 38)) := ⟨Blk.new _ _ _, Acc.nil _ _ _ _, new_b _ _, rfl⟩
theorem hh_bound {α : Type} {K : Kd α} {B : World → Nat → Prop} {w : World} {l : List α} {v : Value} (h : LIn K B w l v) : l.length ≤ 4611686018427387904 := h.bound
theorem iRepZ : ∃ i, Tryz.prog.info? 38 = some i ∧ i.zero = some (.agg #[.int .i64 0, .slice none 0 0]) ∧ i.size = 2 ∧ i.bytes = 32 :=
  info_parts (P := Tryz.prog) (e := 38) (z := .agg #[.int .i64 0, .slice none 0 0]) (size := 2) (bytes := 32) (by kernel_rfl)
/-- The third loop: what is gathered of what is installed. -/
structure TSt (d : DataD) (w : World) (g : Nat) (vr vi xr : Value) (w3 : World) (j : Nat) (xi : Value) (W : World) : Prop where
  b0 : Blk W g 55 #[vr, vi]
  b1 : Blk W (g + 1) 55 #[.slice none 0 0, .slice none 0 0]
  b2 : Blk W (g + 2) 55 #[xr, xi]
  ac : Acc pkgK 29 w3.heap.size W (d.inst.take j) xi
  tc : Touch (fun b => b = g + 2) w3 W
  bl : Below w.heap.size w W
set_option maxHeartbeats 8000000 in
theorem r11copy_any (d : DataD) (vr vi : Value) (w : World) (h : DataIn anyB w d vr vi) (hsm : d.small) : Calls Tryz.prog 20 #[.agg #[vr, vi]] w (DataPost d w) := by
  obtain ⟨ar, cr, rfl⟩ := h.repos.form
  obtain ⟨ai, ci, rfl⟩ := h.inst.form
  obtain ⟨n1, hn1⟩ : ∃ n, n = d.repos.length := ⟨_, rfl⟩
  obtain ⟨n2, hn2⟩ : ∃ n, n = d.inst.length := ⟨_, rfl⟩
  have HD := Lib.hid h
  have HS := Lib.hid hsm
  have HN := Lib.hid (And.intro hn1 hn2)
  have hnb1 : n1 ≤ 1048576 := hn1 ▸ hsm.repos
  have hnb2 : n2 ≤ 1048576 := hn2 ▸ hsm.inst.1
  rw [← hn1, ← hn2]
  clear h hsm hn1 hn2
  go_enter Tryz.func20, Tryz.ntmps20
  go_wp2_with fail
  have HO := Lib.hid (OSt.start d w (.slice ar n1 cr) (.slice ai n2 ci))
  obtain ⟨W, hW⟩ : ∃ W, W = (((w.alloc (.cells #[.slice ar n1 cr, .slice ai n2 ci] 55)).alloc (.cells #[.slice none 0 0, .slice none 0 0] 55)).alloc (.cells #[.slice none 0 0, .slice none 0 0] 55)) := ⟨_, rfl⟩
  rw [← hW] at HO ⊢
  obtain ⟨g, hg⟩ : ∃ g, g = w.heap.size := ⟨_, rfl⟩
  rw [← hg] at HO ⊢
  clear hW hg
  go_loopw [4] (fun i wr => ∃ k : Nat, k ≤ n1 ∧ i = .int .i64 k ∧ ∃ xr, Hid (OSt d w g (.slice ar n1 cr) (.slice ai n2 ci) k xr wr)) (fun i _ => n1 - (intOf i).toNat)
  case atStart => exact ⟨0, by omega, rfl, _, HO.out⟩
  case round =>
    obtain ⟨k, hk, rfl, xr, HQ⟩ := hrel
    have z0 : wr.cell? ⟨g, 0, none⟩ = some (.slice ar n1 cr) := HQ.out.b0.cell 0
    have zl : g < wr.heap.size := HQ.out.b0.lt
    by_cases hlt : k < n1
    · have hki : (k : Int) < (n1 : Int) := by omega
      obtain ⟨b, o, r, ha, _, hcs0, hh0⟩ := HD.out.repos.at_ k (by have := HN.out; omega)
      obtain ⟨x, hx⟩ : ∃ x, x = d.repos[k]'(by have := HN.out; omega) := ⟨_, rfl⟩
      rw [← hx] at hcs0 hh0
      subst ha
      dsimp only [repoK] at hcs0 r
      have hpk : LIn pkgK anyB w x.pkgs r := hh0.2
      obtain ⟨xa, xc, hr⟩ := hpk.form
      have hr' : (r : Value) = .slice xa x.pkgs.length xc := hr
      subst hr'
      obtain ⟨np, hnp⟩ : ∃ n, n = x.pkgs.length := ⟨_, rfl⟩
      rw [← hnp] at hcs0
      have hd := hcs0.below HQ.out.bl
      have x0 : wr.cell? ⟨b, o + k * 2, none⟩ = some (.int .i64 x.prio) := hd.2 0 (show 0 < 2 by omega)
      have x1 : wr.cell? ⟨b, o + k * 2 + 1, none⟩ = some (.slice xa np xc) := hd.2 1 (show 1 < 2 by omega)
      have xl := hd.1
      have HX := Lib.hid (And.intro hx hnp)
      have hnb3 : np ≤ 1048576 := by rw [hnp]; exact (HS.out.pkgs x (hx ▸ List.getElem_mem _)).1
      have HC := Lib.hid hcs0
      have HH := Lib.hid hh0
      have HLt := Lib.hid hlt
      clear hx hnp hcs0 hh0 hpk hr hd
      go_wp2_with fail
      have HI := Lib.hid (ISt.start x wr)
      obtain ⟨V, hV⟩ : ∃ V, V = (wr.alloc (.cells #[.int .i64 x.prio, .slice none 0 0] 38)) := ⟨_, rfl⟩
      rw [← hV] at HI ⊢
      obtain ⟨gr, hgr⟩ : ∃ g, g = wr.heap.size := ⟨_, rfl⟩
      rw [← hgr] at HI ⊢
      have HGr := Lib.hid hgr
      clear hV hgr x0 x1 xl z0 zl
      obtain ⟨wo, rfl⟩ : ∃ wo, wo = wr := ⟨_, rfl⟩
      go_loopw [6] (fun i wx => ∃ j : Nat, j ≤ np ∧ i = .int .i64 j ∧ ∃ cur, Hid (ISt x wo gr j cur wx)) (fun i _ => np - (intOf i).toNat)
      case atStart => exact ⟨0, by omega, rfl, _, HI.out⟩
      case round =>
        obtain ⟨j, hj, rfl, cur, HJ⟩ := hrel
        have HBo := Lib.hid (HQ.out.b0.bel' HJ.out.bl)
        have HCo := Lib.hid (HC.out.below (below_t' HQ.out.bl HJ.out.bl))
        have z0 : wr.cell? ⟨g, 0, none⟩ = some (.slice (some ⟨b, o, none⟩) n1 cr) := HBo.out.cell 0
        have zl : g < wr.heap.size := HBo.out.lt
        have x1 : wr.cell? ⟨b, o + k * 2 + 1, none⟩ = some (.slice xa np xc) := HCo.out.2 1 (show 1 < 2 by omega)
        have xl := HCo.out.1
        by_cases hlj : j < np
        · have hkj : (j : Int) < (np : Int) := by omega
          have hpk : LIn pkgK anyB w x.pkgs (.slice xa x.pkgs.length xc) := HH.out.2
          obtain ⟨b2, o2, rp, ha2, _, hcp0, hp0⟩ := hpk.at_ j (by have := HX.out; omega)
          obtain ⟨p, hp⟩ : ∃ p, p = x.pkgs[j]'(by have := HX.out; omega) := ⟨_, rfl⟩
          rw [← hp] at hcp0 hp0
          subst ha2
          have HP := Lib.hid (And.intro hp (And.intro hcp0 hp0))
          have HLj := Lib.hid hlj
          clear hp hcp0 hp0 hpk
          go_upto_region 9 with fail
          have hll : (x.pkgs.take j).length = j := by rw [List.length_take]; have := HX.out; omega
          have hpm : p ∈ x.pkgs := HP.out.1 ▸ List.getElem_mem _
          have hxm : x ∈ d.repos := HX.out.1 ▸ List.getElem_mem _
          refine gather9 (w0 := w) (g := g) (gd := gr) (k := k) (j := j) (b := b) (oo := o) (n1 := n1) (c1 := cr) (b2 := b2) (o2 := o2) (n2 := np) (c2 := xc) (N0 := gr + 1) (p := p) (r := rp) (cur := cur) (l := x.pkgs.take j) (by kernel_rfl) (by kernel_rfl) rfl rfl rfl rfl HBo.out HCo.out hlt (HP.out.2.1.below (below_t' HQ.out.bl HJ.out.bl)) hlj HJ.out.br rfl HP.out.2.2 (below_t' HQ.out.bl HJ.out.bl) ((HS.out.pkgs x hxm).2 p hpm) HJ.out.ac (by omega) (by have := HJ.out.br.lt; omega) (by rw [hll]; have := (HS.out.pkgs x hxm).1; have := HX.out; omega) (by kernel_rfl) (by kernel_rfl) (by kernel_rfl) (by kernel_rfl) ?_
          intro mid ao cap V' hm k1 k2 k3
          obtain ⟨m0, m1, m2, m3, m4, m5, m6, m7, m8, m9, m10, m11, m12, m13, m14, rfl⟩ := split15 hm
          rw [hll] at k1 k2
          have HV : Hid (ISt x wo gr (j + 1) (.slice ao (j + 1) cap) V') := Lib.hid (by
            refine ⟨k2, ?_, ?_, HJ.out.gw⟩
            · rw [List.take_succ_eq_append_getElem (by have := HX.out; omega), ← HP.out.1]
              exact k1
            · refine HJ.out.bl.trans (k3.below HJ.out.bl.size fun b hb hf => ?_)
              have := HJ.out.gw
              rcases hf with rfl | hf
              · omega
              · obtain ⟨_, _, _, hge, _⟩ := HJ.out.ac.ex
                have := hge b hf
                omega)
          clear hm k1 k2 k3
          simp only [frm, List.take_succ_cons, List.take_zero, List.drop_succ_cons, List.drop_zero, List.cons_append, List.nil_append, List.append_nil]
          rename_i hk
          refine hk _ _ ?_
          go_wp2_with fail
          go_roundw
          case rel => exact ⟨j + 1, HLj.out, by go_num, _, HV.out⟩
          case measure => have := HLj.out; simp [intOf]; omega
        · obtain rfl : j = np := by omega
          have hl2 : (x.pkgs.take j).length = j := by rw [List.length_take]; have := HX.out; omega
          obtain ⟨oa, oc, hcur⟩ : ∃ oa oc, cur = .slice oa j oc := by
            obtain ⟨xs, hown, _⟩ := HJ.out.ac.own
            rw [hl2] at hown
            exact own_at hown
          subst hcur
          obtain ⟨xs, hown, hone⟩ := (HQ.out.ac.below HJ.out.bl).own
          have hl3 : (d.repos.take k).length = k := by rw [List.length_take]; have := HN.out; omega
          rw [hl3] at hown
          obtain ⟨ao, cp, hxr⟩ := own_at hown
          subst hxr
          have HO4 := Lib.hid hown
          have HN4 := Lib.hid hone
          have HL3 := Lib.hid hl3
          have HXR := Lib.hid (show ∀ b, (Value.slice ao k cp).ownBlock = some b → g + 3 ≤ b ∧ b < wo.heap.size from fun b hb => by
            obtain ⟨ps, h1, h2, h3, h4⟩ := HQ.out.ac.ex
            exact ⟨h3 b hb, h2.lt b hb⟩)
          have HB2 := Lib.hid (HQ.out.b2.bel' HJ.out.bl)
          have HB1 := Lib.hid (HQ.out.b1.bel' HJ.out.bl)
          have y0 : wr.cell? ⟨gr, 0, none⟩ = some (.int .i64 x.prio) := HJ.out.br.cell 0
          have y1 : wr.cell? ⟨gr, 1, none⟩ = some (.slice oa j oc) := HJ.out.br.cell 1
          have yl := HJ.out.br.lt
          have u0 : wr.cell? ⟨g + 2, 0, none⟩ = some (.slice ao k cp) := HB2.out.cell 0
          have ul := HB2.out.lt
          have HHr := Lib.hid (show repoK.holds (free gr) wr x (.slice oa j oc) from by
            have h1 := HJ.out.ac
            have h2 : x.pkgs.take j = x.pkgs := List.take_of_length_le (by have := HX.out; omega)
            rw [h2] at h1
            exact ⟨HH.out.1, (h1.done (by have := hh_bound HH.out.2; omega) (by decide)).keep (Nat.le_refl _) fun b ⟨j1, j2⟩ _ => ⟨rfl, by omega, j2⟩⟩)
          have hkm : k + 1 ≤ 1048576 := by have := HS.out.repos; have := HN.out; omega
          have HKM := Lib.hid hkm
          clear hown hone hl3 hl2 hkm
          obtain ⟨iR, hiR, hz0, hz1, hz2⟩ := iRepZ
          have HW2 := Lib.hid (new_b wr (.cells #[.int .i64 x.prio, .slice oa j oc] 38))
          go_wp2_with (first
            | (at_builtin; (refine wpList_append_S _ rfl (.tmp 49) (.tmp 51) _ _ rfl 38 iR _ 2 32 Tryz.underlying39 hiR hz0 hz1 hz2 rfl (by omega) (.slice ao k cp) k xs rfl (HO4.out.alloc _) HN4.out (.slice (some ⟨wr.heap.size, 0, none⟩) 1 1) 1 (repoK.cells x (Value.slice oa j oc)) rfl (src_repo wr x (.slice oa j oc) rfl) (by have := HKM.out; simp only [maxLen]; omega) (by have := HKM.out; omega) ?_); rintro ao' cap' w7 hn1 hn2 hO7 hg7 hat7 hlt7; have u7 : w7.cell? ⟨g + 2, 0, none⟩ = some (.slice ao k cp) := ((HB2.out.bel' HW2.out).grown hg7 (fun e => by have := HXR.out _ e.symm; omega)).cell 0; have v7 := ((HB2.out.bel' HW2.out).grown hg7 (fun e => by have := HXR.out _ e.symm; omega)).frozen 0; have l7 := ((HB2.out.bel' HW2.out).grown hg7 (fun e => by have := HXR.out _ e.symm; omega)).lt; have HZ7 := Lib.hid (And.intro hO7 (And.intro hg7 hat7)); clear hn1 hn2 hO7 hg7 hat7 hlt7)
            | fail)
          have HS7 : Hid (OSt d w g (.slice (some ⟨b, o, none⟩) n1 cr) (.slice ai n2 ci) (k + 1) (.slice ao' (k + 1) cap') (w7.setCell ⟨g + 2, 0, none⟩ (.slice ao' (k + 1) cap'))) := Lib.hid (by
            have hgr := HZ7.out.2.1
            have hne : ∀ i, i < g + 3 → some i ≠ (Value.slice ao k cp).ownBlock := fun i hi e => by have := HXR.out _ e.symm; omega
            have t7 : Touch (fun b => b = g + 2 ∨ (Value.slice ao k cp).ownBlock = some b) wo (w7.setCell ⟨g + 2, 0, none⟩ (.slice ao' (k + 1) cap')) := ((((Touch.of_below HJ.out.bl _).trans (Touch.of_below HW2.out (fun _ => False)) fun _ _ f => f.elim)).trans (Touch.of_grown (F := fun b => (Value.slice ao k cp).ownBlock = some b) hgr fun q hq => hq) fun _ _ f => .inr f).setCell (fun _ => .inl rfl) _
            refine ⟨HQ.out.b0.touch t7 (fun hf => ?_), HQ.out.b1.touch t7 (fun hf => ?_), ?_, ?_, HQ.out.bl.trans (t7.below HQ.out.bl.size fun q hq hf => ?_), HQ.out.gw⟩
            · rcases hf with hf | hf
              · omega
              · exact hne g (by omega) hf.symm
            · rcases hf with hf | hf
              · omega
              · exact hne (g + 1) (by omega) hf.symm
            · exact ((HB2.out.bel' HW2.out).grown hgr (hne _ (by omega))).set_ 0 _
            · have hxe := HX.out.1
              rw [List.take_succ_eq_append_getElem (by have := HN.out; omega), ← hxe]
              have hpu := Acc.push (K := repoK) (t := 38) (n0 := g + 3) (m0 := gr) (x := x) (r := Value.slice oa j oc) (by rw [HL3.out]; exact HO4.out.alloc (.cells #[.int .i64 x.prio, .slice oa j oc] 38)) ((HQ.out.ac.below HJ.out.bl).below HW2.out) (by have := HB2.out.lt; have := HJ.out.gw; have := HQ.out.b2.lt; omega) (repoK.keep HHr.out HW2.out.size fun b ⟨j1, j2⟩ hb => ⟨HW2.out.block b hb, j1, fun i => (World.frozen?_of_block (w := wr) (HW2.out.block b hb)).trans (j2 i)⟩) (fun b hb => by have := HXR.out b hb; have := HJ.out.gw; omega) (by have := HW2.out.size; have := HB2.out.lt; omega) (by rw [HL3.out]; exact HZ7.out.1) hgr HZ7.out.2.2
              exact hpu.keep (by simp) fun b hb _ => Below.heap_setCell w7 ⟨g + 2, 0, none⟩ _ b (by show b ≠ g + 2; omega)
            · have := HQ.out.gw
              rcases hf with hf | hf
              · omega
              · have := HXR.out q hf
                omega)
          go_roundw
          case rel => exact ⟨k + 1, HLt.out, by go_num, _, HS7.out⟩
          case measure => have := HLt.out; simp [intOf]; omega
    · obtain rfl : k = n1 := by omega
      have HRl := Lib.hid (show LIn repoK (free (g + 3)) wr d.repos xr from by
        have h1 := HQ.out.ac
        rw [List.take_of_length_le (by have := HN.out; omega)] at h1
        exact h1.done (by have := HD.out.repos.bound; omega) (by decide))
      obtain ⟨xa, xc, hxr⟩ := HRl.out.form
      have hk1 : d.repos.length = k := HN.out.1.symm
      rw [hk1] at hxr
      subst hxr
      have HT := Lib.hid (show TSt d w g (.slice ar k cr) (.slice ai n2 ci) (.slice xa k xc) wr 0 (.slice none 0 0) wr from ⟨HQ.out.b0, HQ.out.b1, HQ.out.b2, Acc.nil _ _ _ _, Touch.refl _ _, HQ.out.bl⟩)
      have HG3 := Lib.hid (show g + 2 < wr.heap.size ∧ g = w.heap.size from ⟨HQ.out.b2.lt, HQ.out.gw⟩)
      clear hk1
      go_wp2_with fail
      clear z0 zl
      obtain ⟨w3, rfl⟩ : ∃ w3, w3 = wr := ⟨_, rfl⟩
      go_loopw [7] (fun i wx => ∃ j : Nat, j ≤ n2 ∧ i = .int .i64 j ∧ ∃ xi, Hid (TSt d w g (.slice ar k cr) (.slice ai n2 ci) (.slice xa k xc) w3 j xi wx)) (fun i _ => n2 - (intOf i).toNat)
      case atStart => exact ⟨0, by omega, rfl, _, HT.out⟩
      case round =>
        obtain ⟨j, hj, rfl, xi, HJ⟩ := hrel
        have z1 : wr.cell? ⟨g, 1, none⟩ = some (.slice ai n2 ci) := HJ.out.b0.cell 1
        have zl : g < wr.heap.size := HJ.out.b0.lt
        have hl2 : (d.inst.take j).length = j := by rw [List.length_take]; have := HN.out; omega
        have HL2 := Lib.hid hl2
        have HXI := Lib.hid (show ∀ b, xi.ownBlock = some b → w3.heap.size ≤ b from fun b hb => by
          obtain ⟨_, _, _, h3, _⟩ := HJ.out.ac.ex
          exact h3 b hb)
        clear hl2
        by_cases hlj : j < n2
        · have hkj : (j : Int) < (n2 : Int) := by omega
          obtain ⟨b2, o2, rp, ha2, _, hcp0, hp0⟩ := HD.out.inst.at_ j (by have := HN.out; omega)
          obtain ⟨p, hp⟩ : ∃ p, p = d.inst[j]'(by have := HN.out; omega) := ⟨_, rfl⟩
          rw [← hp] at hcp0 hp0
          subst ha2
          have HP := Lib.hid (And.intro hp (And.intro hcp0 hp0))
          have HLj := Lib.hid hlj
          clear hp hcp0 hp0
          go_upto_region 14 with fail
          have hpm : p ∈ d.inst := HP.out.1 ▸ List.getElem_mem _
          refine gather14 (w0 := w) (g := g) (gd := g + 2) (k := 0) (j := j) (b := 0) (oo := 0) (n1 := 0) (c1 := 0) (b2 := b2) (o2 := o2) (n2 := n2) (c2 := ci) (N0 := w3.heap.size) (p := p) (r := rp) (cur := xi) (l := d.inst.take j) (by kernel_rfl) (by kernel_rfl) rfl rfl rfl HJ.out.b0 (HP.out.2.1.below HJ.out.bl) hlj HJ.out.b2 rfl HP.out.2.2 HJ.out.bl (HS.out.inst.2 p hpm) HJ.out.ac (by have := HG3.out; omega) HJ.out.tc.size (by rw [HL2.out]; have := HS.out.inst.1; have := HN.out; omega) (by kernel_rfl) (by kernel_rfl) (by kernel_rfl) (by kernel_rfl) ?_
          intro mid ao cap V' hm k1 k2 k3
          obtain ⟨m0, m1, m2, m3, m4, m5, m6, m7, m8, m9, m10, rfl⟩ := split11 hm
          rw [HL2.out] at k1 k2
          have HV : Hid (TSt d w g (.slice ar k cr) (.slice (some ⟨b2, o2, none⟩) n2 ci) (.slice xa k xc) w3 (j + 1) (.slice ao (j + 1) cap) V') := Lib.hid (by
            have hg3 := HG3.out
            refine ⟨HJ.out.b0.touch k3 (fun hf => ?_), HJ.out.b1.touch k3 (fun hf => ?_), k2, ?_, HJ.out.tc.trans k3 (fun q hq hf => ?_), HJ.out.bl.trans (k3.below HJ.out.bl.size fun q hq hf => ?_)⟩
            · rcases hf with hf | hf
              · omega
              · have := HXI.out _ hf; omega
            · rcases hf with hf | hf
              · omega
              · have := HXI.out _ hf; omega
            · rw [List.take_succ_eq_append_getElem (by have := HN.out; omega), ← HP.out.1]
              exact k1
            · rcases hf with hf | hf
              · exact hf
              · have := HXI.out _ hf; omega
            · rcases hf with hf | hf
              · omega
              · have := HXI.out _ hf; omega)
          clear hm k1 k2 k3
          simp only [frm, List.take_succ_cons, List.take_zero, List.drop_succ_cons, List.drop_zero, List.cons_append, List.nil_append, List.append_nil]
          rename_i hk
          refine hk _ _ ?_
          go_wp2_with fail
          go_roundw
          case rel => exact ⟨j + 1, HLj.out, by go_num, _, HV.out⟩
          case measure => have := HLj.out; simp [intOf]; omega
        · obtain rfl : j = n2 := by omega
          obtain ⟨oa, oc, hxi⟩ : ∃ oa oc, xi = .slice oa j oc := by
            obtain ⟨xs, hown, _⟩ := HJ.out.ac.own
            rw [HL2.out] at hown
            exact own_at hown
          subst hxi
          have x20 : wr.cell? ⟨g + 2, 0, none⟩ = some (.slice xa k xc) := HJ.out.b2.cell 0
          have x21 : wr.cell? ⟨g + 2, 1, none⟩ = some (.slice oa j oc) := HJ.out.b2.cell 1
          have x2l := HJ.out.b2.lt
          have x10 : wr.cell? ⟨g + 1, 0, none⟩ = some (.slice none 0 0) := HJ.out.b1.cell 0
          have x11 : wr.cell? ⟨g + 1, 1, none⟩ = some (.slice none 0 0) := HJ.out.b1.cell 1
          have f10 := HJ.out.b1.frozen 0
          have f11 := HJ.out.b1.frozen 1
          have x1l := HJ.out.b1.lt
          go_wp2_with fail
          refine bodyPost_ret (results_cell_row rfl _ _ (g + 1) 55 _ (0, 0) _ rfl ((HJ.out.b1.set_ 0 (.slice xa k xc)).set_ 1 (.slice oa j oc)) Tryz.underlying55 rfl (by kernel_rfl)) rfl ⟨_, _, rfl, ⟨?_, ?_⟩, ?_⟩
          · have hg3 := HG3.out
            refine HRl.out.keep (by simp; exact HJ.out.tc.size) fun b ⟨j1, j2⟩ hb => ?_
            have e1 : ((wr.setCell ⟨g + 1, 0, none⟩ (.slice xa k xc)).setCell ⟨g + 1, 1, none⟩ (.slice oa j oc)).heap[b]? = w3.heap[b]? :=
              ((Below.heap_setCell _ ⟨g + 1, 1, none⟩ _ b (by show b ≠ g + 1; omega)).trans (Below.heap_setCell _ ⟨g + 1, 0, none⟩ _ b (by show b ≠ g + 1; omega))).trans (HJ.out.tc.block b hb (by omega))
            exact ⟨e1, by omega, fun i => (World.frozen?_of_block (w := w3) e1).trans (j2 i)⟩
          · have hg3 := HG3.out
            have h1 := HJ.out.ac
            rw [List.take_of_length_le (by have := HN.out; omega)] at h1
            refine (h1.done (by have := HD.out.inst.bound; omega) (by decide)).keep (by simp) fun b ⟨j1, j2⟩ hb => ?_
            have e1 : ((wr.setCell ⟨g + 1, 0, none⟩ (.slice xa k xc)).setCell ⟨g + 1, 1, none⟩ (.slice oa j oc)).heap[b]? = wr.heap[b]? :=
              (Below.heap_setCell _ ⟨g + 1, 1, none⟩ _ b (by show b ≠ g + 1; omega)).trans (Below.heap_setCell _ ⟨g + 1, 0, none⟩ _ b (by show b ≠ g + 1; omega))
            exact ⟨e1, by omega, fun i => (World.frozen?_of_block (w := wr) e1).trans (j2 i)⟩
          · have hg3 := HG3.out
            exact HJ.out.bl.trans (((Touch.refl (fun b => b = g + 1) wr).setCell (fun _ => rfl) _).setCell (fun _ => rfl) _ |>.below HJ.out.bl.size fun b hb e => by omega)
end Go.Proofs.YtdpjjnbelgaagaaGreatDoor

namespace Go.Proofs.YtdpjjnbelgaagaaGreatDoor
open Go.ChangeShapes Go.WideShapes Go.ChangeAt Go.RowKit Go.Deep
set_option maxRecDepth 100000

theorem len_wtL {α : Type} {g : α → Nat} (h : ∀ x, 1 ≤ g x) (l : List α) : l.length ≤ wtL g l := by
  unfold wtL
  induction l with
  | nil => simp
  | cons x l ih =>
    have := h x
    simp only [List.length_cons, List.map_cons, List.sum_cons]
    omega
theorem wtR_pos (r : RichD) : 1 ≤ wtR r := by
  cases r with
  | nil => show 1 ≤ 8; omega
  | node k d n f => show 1 ≤ wtD d + 3 + _; omega
theorem sumN_len {f : Nat → Nat} (h : ∀ j, 1 ≤ f j) : ∀ n, n ≤ sumN f n
  | 0 => Nat.le_refl _
  | n + 1 => Nat.add_le_add (sumN_len h n) (h n)
theorem argL_len_wt (r : RichD) : (argL r).length ≤ wtRs r := by
  rw [argL_len]
  unfold wtRs
  have := sumN_len (f := fun j => wtR (r.args j)) (fun j => wtR_pos _) r.n
  omega
theorem wtD_pos (d : DepD) : 1 ≤ wtD d := by unfold wtD; omega
theorem pkg_small {p : PkgD} (h : wtP p ≤ 1048576) : p.small := by
  have h1 := len_wtL wtD_pos p.prov
  have h2 := len_wtL wtD_pos p.obs
  have h3 := len_wtL wtS_pos p.files
  have a1 := argL_len_wt p.req
  have a2 := argL_len_wt p.con
  have a3 := argL_len_wt p.reco
  have a4 := argL_len_wt p.sup
  have a5 := argL_len_wt p.sug
  have a6 := argL_len_wt p.enh
  unfold wtP at h
  exact ⟨by omega, by omega, fun x hx => by have := argL_wt hx; omega, by omega, fun x hx => by have := argL_wt hx; omega, by omega, by omega, fun x hx => by have := argL_wt hx; omega, by omega, fun x hx => by have := argL_wt hx; omega, by omega, fun x hx => by have := argL_wt hx; omega, by omega, fun x hx => by have := argL_wt hx; omega, by omega⟩
theorem wtO_pos (x : RepoD) : 1 ≤ wtO x := by unfold wtO; omega
theorem data_small {d : DataD} (h : wtA d ≤ 1048576) : d.small := by
  have e : wtA d = wtL wtO d.repos + wtL wtP d.inst + 1 := rfl
  have h1 := len_wtL wtO_pos d.repos
  have h2 := len_wtL wtP_pos d.inst
  refine ⟨by omega, fun x hx => ?_, by omega, fun p hp => pkg_small ?_⟩
  · have h3 := wtL_mem (g := wtO) hx
    have e2 : wtO x = wtL wtP x.pkgs + 2 := rfl
    have h4 := len_wtL wtP_pos x.pkgs
    exact ⟨by omega, fun p hp => pkg_small (by have := wtL_mem (g := wtP) hp; omega)⟩
  · have := wtL_mem (g := wtP) hp
    omega
/-! ### What writes leave of a copy -/
/-- Values that are alike: an int, a string: any of its kind; all else just itself. -/
def likeV : Value → Value → Prop
  | .int k _, v => ∃ x, v = .int k x
  | .string _, v => ∃ s, v = .string s
  | u, v => v = u
theorem likeV.refl (v : Value) : likeV v v := by
  cases v <;> first | exact ⟨_, rfl⟩ | exact rfl
theorem likeV.trans {u v w : Value} (h : likeV u v) (k : likeV v w) : likeV u w := by
  cases u <;> first | (obtain ⟨_, rfl⟩ := h; exact k) | (have e : v = _ := h; subst e; exact k)
structure Shp (n0 n1 : Nat) (w w' : World) : Prop where
  tch : Touch (fun b => n0 ≤ b ∧ b < n1) w w'
  cell : ∀ b i v, n0 ≤ b → b < n1 → w.cell? ⟨b, i, none⟩ = some v → ∃ v', w'.cell? ⟨b, i, none⟩ = some v' ∧ likeV v v'
  froz : ∀ b i, n0 ≤ b → b < n1 → w'.frozen? ⟨b, i, none⟩ = w.frozen? ⟨b, i, none⟩
section
variable {n0 n1 : Nat} {w w' : World} {b i : Nat}
theorem Shp.refl (n0 n1 : Nat) (w : World) : Shp n0 n1 w w := ⟨Touch.refl _ _, fun _ _ v _ _ h => ⟨v, h, likeV.refl v⟩, fun _ _ _ _ => rfl⟩
theorem Shp.set {v u : Value} (h : Shp n0 n1 w w') (h0 : n0 ≤ b) (h1 : b < n1) (hc : w'.cell? ⟨b, i, none⟩ = some v) (hl : likeV v u) : Shp n0 n1 w (w'.setCell ⟨b, i, none⟩ u) := by
  refine ⟨h.tch.setCell (fun _ => ⟨h0, h1⟩) u, fun b' i' v' k0 k1 hv => ?_, fun b' i' k0 k1 => ?_⟩
  · obtain ⟨v2, h2, h3⟩ := h.cell b' i' v' k0 k1 hv
    by_cases e : (⟨b, i, none⟩ : Addr) = ⟨b', i', none⟩
    · injection e with e1 e2
      subst e1 e2
      rw [hc] at h2
      injection h2 with h2
      subst h2
      exact ⟨u, World.cell?_setCell_same _ _ _ hc, h3.trans hl⟩
    · exact ⟨v2, by rw [World.cell?_setCell_other _ _ _ _ e]; exact h2, h3⟩
  · rw [World.frozen?_setCell]
    exact h.froz b' i' k0 k1
theorem Shp.int {k : IntKind} {x : Int} (h : Shp n0 n1 w w') (h0 : n0 ≤ b) (h1 : b < n1) (hc : w.cell? ⟨b, i, none⟩ = some (.int k x)) : ∃ y, w'.cell? ⟨b, i, none⟩ = some (.int k y) := by
  obtain ⟨v, h2, x', rfl⟩ := h.cell b i _ h0 h1 hc
  exact ⟨x', h2⟩
theorem Shp.str {x : ByteArray} (h : Shp n0 n1 w w') (h0 : n0 ≤ b) (h1 : b < n1) (hc : w.cell? ⟨b, i, none⟩ = some (.string x)) : ∃ y, w'.cell? ⟨b, i, none⟩ = some (.string y) := by
  obtain ⟨v, h2, x', rfl⟩ := h.cell b i _ h0 h1 hc
  exact ⟨x', h2⟩
theorem Shp.slice {a : Option Addr} {n c : Nat} (h : Shp n0 n1 w w') (h0 : n0 ≤ b) (h1 : b < n1) (hc : w.cell? ⟨b, i, none⟩ = some (.slice a n c)) : w'.cell? ⟨b, i, none⟩ = some (.slice a n c) := by
  obtain ⟨v, h2, h3⟩ := h.cell b i _ h0 h1 hc
  rw [h2]
  exact congrArg some h3
end
/-- What lies outside is as it was. -/
theorem DataIn.out {n0 n1 : Nat} {B : World → Nat → Prop} {w w' : World} {d : DataD} {vr vi : Value} (h : DataIn B w d vr vi) (hs : Shp n0 n1 w w') (hB : ∀ b, B w b → b < w.heap.size → ¬(n0 ≤ b ∧ b < n1)) : DataIn anyB w' d vr vi :=
  h.keep hs.tch.size fun b k1 k2 => ⟨hs.tch.block b k2 (hB b k1 k2), trivial⟩
end Go.Proofs.YtdpjjnbelgaagaaGreatDoor

namespace Go.Proofs.YtdpjjnbelgaagaaGreatDoor
open Go.ChangeShapes Go.WideShapes Go.ChangeAt Go.RowKit Go.Deep
set_option maxRecDepth 100000

set_option maxHeartbeats 8000000 in
theorem ksame_0 (p q : PkgD) (rp rq : PkgR) (w : World) (hp : PkgIn anyB w p rp) (hq : PkgIn anyB w q rq) (e0 : ¬ p.name.toList = q.name.toList) : Calls Tryz.prog 51 #[p.val rp, q.val rq] w fun e w' => e = .returned (.bool (samePk p q)) ∧ Below w.heap.size w w' := by
  rcases p with ⟨pnm, pep, pve, pre, par, pvd, pl0, pl1, pl2, pl3, pl4, pl5, pl6, pl7, pl8⟩
  rcases q with ⟨qnm, qep, qve, qre, qar, qvd, ql0, ql1, ql2, ql3, ql4, ql5, ql6, ql7, ql8⟩
  rcases rp with ⟨u0, u1, u2, u3, u4, u5, u6, u7, u8⟩
  rcases rq with ⟨v0, v1, v2, v3, v4, v5, v6, v7, v8⟩
  dsimp only at e0
  obtain ⟨a0, ac0, (rfl : u0 = _)⟩ := hp.prov.form
  obtain ⟨b0, bc0, (rfl : v0 = _)⟩ := hq.prov.form
  obtain ⟨a1, ac1, (rfl : u1 = _)⟩ := hp.req.form
  obtain ⟨b1, bc1, (rfl : v1 = _)⟩ := hq.req.form
  obtain ⟨a2, ac2, (rfl : u2 = _)⟩ := hp.con.form
  obtain ⟨b2, bc2, (rfl : v2 = _)⟩ := hq.con.form
  obtain ⟨a3, ac3, (rfl : u3 = _)⟩ := hp.obs.form
  obtain ⟨b3, bc3, (rfl : v3 = _)⟩ := hq.obs.form
  obtain ⟨a4, ac4, (rfl : u4 = _)⟩ := hp.reco.form
  obtain ⟨b4, bc4, (rfl : v4 = _)⟩ := hq.reco.form
  obtain ⟨a5, ac5, (rfl : u5 = _)⟩ := hp.sup.form
  obtain ⟨b5, bc5, (rfl : v5 = _)⟩ := hq.sup.form
  obtain ⟨a6, ac6, (rfl : u6 = _)⟩ := hp.sug.form
  obtain ⟨b6, bc6, (rfl : v6 = _)⟩ := hq.sug.form
  obtain ⟨a7, ac7, (rfl : u7 = _)⟩ := hp.enh.form
  obtain ⟨b7, bc7, (rfl : v7 = _)⟩ := hq.enh.form
  obtain ⟨a8, ac8, (rfl : u8 = _)⟩ := hp.files.form
  obtain ⟨b8, bc8, (rfl : v8 = _)⟩ := hq.files.form
  obtain ⟨T, hT⟩ : ∃ T, T = samePk ⟨pnm, pep, pve, pre, par, pvd, pl0, pl1, pl2, pl3, pl4, pl5, pl6, pl7, pl8⟩ ⟨qnm, qep, qve, qre, qar, qvd, ql0, ql1, ql2, ql3, ql4, ql5, ql6, ql7, ql8⟩ := ⟨_, rfl⟩
  rw [← hT]
  have HT2 := Lib.hid (show T = false from by rw [hT]; unfold samePk; simp [e0])
  clear hT
  have hb1 := new_b w (.cells #[.string pnm, .int .i64 pep, .string pve, .string pre, .int .u8 par, .string pvd, .slice a0 pl0.length ac0, .slice a1 (argL pl1).length ac1, .slice a2 (argL pl2).length ac2, .slice a3 pl3.length ac3, .slice a4 (argL pl4).length ac4, .slice a5 (argL pl5).length ac5, .slice a6 (argL pl6).length ac6, .slice a7 (argL pl7).length ac7, .slice a8 pl8.length ac8] 29)
  have hb2 := new_b (w.alloc (.cells #[.string pnm, .int .i64 pep, .string pve, .string pre, .int .u8 par, .string pvd, .slice a0 pl0.length ac0, .slice a1 (argL pl1).length ac1, .slice a2 (argL pl2).length ac2, .slice a3 pl3.length ac3, .slice a4 (argL pl4).length ac4, .slice a5 (argL pl5).length ac5, .slice a6 (argL pl6).length ac6, .slice a7 (argL pl7).length ac7, .slice a8 pl8.length ac8] 29)) (.cells #[.string qnm, .int .i64 qep, .string qve, .string qre, .int .u8 qar, .string qvd, .slice b0 ql0.length bc0, .slice b1 (argL ql1).length bc1, .slice b2 (argL ql2).length bc2, .slice b3 ql3.length bc3, .slice b4 (argL ql4).length bc4, .slice b5 (argL ql5).length bc5, .slice b6 (argL ql6).length bc6, .slice b7 (argL ql7).length bc7, .slice b8 ql8.length bc8] 29)
  have hx1 := Blk.new w 29 #[.string pnm, .int .i64 pep, .string pve, .string pre, .int .u8 par, .string pvd, .slice a0 pl0.length ac0, .slice a1 (argL pl1).length ac1, .slice a2 (argL pl2).length ac2, .slice a3 pl3.length ac3, .slice a4 (argL pl4).length ac4, .slice a5 (argL pl5).length ac5, .slice a6 (argL pl6).length ac6, .slice a7 (argL pl7).length ac7, .slice a8 pl8.length ac8]
  have hx2 := Blk.new (w.alloc (.cells #[.string pnm, .int .i64 pep, .string pve, .string pre, .int .u8 par, .string pvd, .slice a0 pl0.length ac0, .slice a1 (argL pl1).length ac1, .slice a2 (argL pl2).length ac2, .slice a3 pl3.length ac3, .slice a4 (argL pl4).length ac4, .slice a5 (argL pl5).length ac5, .slice a6 (argL pl6).length ac6, .slice a7 (argL pl7).length ac7, .slice a8 pl8.length ac8] 29)) 29 #[.string qnm, .int .i64 qep, .string qve, .string qre, .int .u8 qar, .string qvd, .slice b0 ql0.length bc0, .slice b1 (argL ql1).length bc1, .slice b2 (argL ql2).length bc2, .slice b3 ql3.length bc3, .slice b4 (argL ql4).length bc4, .slice b5 (argL ql5).length bc5, .slice b6 (argL ql6).length bc6, .slice b7 (argL ql7).length bc7, .slice b8 ql8.length bc8]
  rw [World.size_alloc] at hx2
  obtain ⟨W, hW⟩ : ∃ W, W = (w.alloc (.cells #[.string pnm, .int .i64 pep, .string pve, .string pre, .int .u8 par, .string pvd, .slice a0 pl0.length ac0, .slice a1 (argL pl1).length ac1, .slice a2 (argL pl2).length ac2, .slice a3 pl3.length ac3, .slice a4 (argL pl4).length ac4, .slice a5 (argL pl5).length ac5, .slice a6 (argL pl6).length ac6, .slice a7 (argL pl7).length ac7, .slice a8 pl8.length ac8] 29)).alloc (.cells #[.string qnm, .int .i64 qep, .string qve, .string qre, .int .u8 qar, .string qvd, .slice b0 ql0.length bc0, .slice b1 (argL ql1).length bc1, .slice b2 (argL ql2).length bc2, .slice b3 ql3.length bc3, .slice b4 (argL ql4).length bc4, .slice b5 (argL ql5).length bc5, .slice b6 (argL ql6).length bc6, .slice b7 (argL ql7).length bc7, .slice b8 ql8.length bc8] 29) := ⟨_, rfl⟩
  have HBx := Lib.hid (show Blk W w.heap.size 29 #[.string pnm, .int .i64 pep, .string pve, .string pre, .int .u8 par, .string pvd, .slice a0 pl0.length ac0, .slice a1 (argL pl1).length ac1, .slice a2 (argL pl2).length ac2, .slice a3 pl3.length ac3, .slice a4 (argL pl4).length ac4, .slice a5 (argL pl5).length ac5, .slice a6 (argL pl6).length ac6, .slice a7 (argL pl7).length ac7, .slice a8 pl8.length ac8] ∧ Blk W (w.heap.size + 1) 29 #[.string qnm, .int .i64 qep, .string qve, .string qre, .int .u8 qar, .string qvd, .slice b0 ql0.length bc0, .slice b1 (argL ql1).length bc1, .slice b2 (argL ql2).length bc2, .slice b3 ql3.length bc3, .slice b4 (argL ql4).length bc4, .slice b5 (argL ql5).length bc5, .slice b6 (argL ql6).length bc6, .slice b7 (argL ql7).length bc7, .slice b8 ql8.length bc8] ∧ Below w.heap.size w W from hW ▸ ⟨hx1.below hb2 hx1.lt, hx2, below_t' hb1 hb2⟩)
  clear hp hq hb1 hb2 hx1 hx2
  have z0 := HBx.out.1.lt
  have z1 := HBx.out.2.1.lt
  have x0 : W.cell? ⟨w.heap.size, 0, none⟩ = some (.string pnm) := HBx.out.1.cell 0
  have y0 : W.cell? ⟨w.heap.size + 1, 0, none⟩ = some (.string qnm) := HBx.out.2.1.cell 0
  go_enter Tryz.func51, Tryz.ntmps51
  go_upto_region 1 with fail
  rw [← hW]
  have HWe := Lib.hid hW
  clear hW
  go_wp2_with fail
  go_ret
  exact ⟨ret_bool HT2.out.symm, HBx.out.2.2⟩
set_option maxHeartbeats 8000000 in
theorem ksame_1 (p q : PkgD) (rp rq : PkgR) (w : World) (hp : PkgIn anyB w p rp) (hq : PkgIn anyB w q rq) (e0 : p.name.toList = q.name.toList) (e1 : ¬ p.ep = q.ep) : Calls Tryz.prog 51 #[p.val rp, q.val rq] w fun e w' => e = .returned (.bool (samePk p q)) ∧ Below w.heap.size w w' := by
  rcases p with ⟨pnm, pep, pve, pre, par, pvd, pl0, pl1, pl2, pl3, pl4, pl5, pl6, pl7, pl8⟩
  rcases q with ⟨qnm, qep, qve, qre, qar, qvd, ql0, ql1, ql2, ql3, ql4, ql5, ql6, ql7, ql8⟩
  rcases rp with ⟨u0, u1, u2, u3, u4, u5, u6, u7, u8⟩
  rcases rq with ⟨v0, v1, v2, v3, v4, v5, v6, v7, v8⟩
  dsimp only at e0 e1
  obtain ⟨a0, ac0, (rfl : u0 = _)⟩ := hp.prov.form
  obtain ⟨b0, bc0, (rfl : v0 = _)⟩ := hq.prov.form
  obtain ⟨a1, ac1, (rfl : u1 = _)⟩ := hp.req.form
  obtain ⟨b1, bc1, (rfl : v1 = _)⟩ := hq.req.form
  obtain ⟨a2, ac2, (rfl : u2 = _)⟩ := hp.con.form
  obtain ⟨b2, bc2, (rfl : v2 = _)⟩ := hq.con.form
  obtain ⟨a3, ac3, (rfl : u3 = _)⟩ := hp.obs.form
  obtain ⟨b3, bc3, (rfl : v3 = _)⟩ := hq.obs.form
  obtain ⟨a4, ac4, (rfl : u4 = _)⟩ := hp.reco.form
  obtain ⟨b4, bc4, (rfl : v4 = _)⟩ := hq.reco.form
  obtain ⟨a5, ac5, (rfl : u5 = _)⟩ := hp.sup.form
  obtain ⟨b5, bc5, (rfl : v5 = _)⟩ := hq.sup.form
  obtain ⟨a6, ac6, (rfl : u6 = _)⟩ := hp.sug.form
  obtain ⟨b6, bc6, (rfl : v6 = _)⟩ := hq.sug.form
  obtain ⟨a7, ac7, (rfl : u7 = _)⟩ := hp.enh.form
  obtain ⟨b7, bc7, (rfl : v7 = _)⟩ := hq.enh.form
  obtain ⟨a8, ac8, (rfl : u8 = _)⟩ := hp.files.form
  obtain ⟨b8, bc8, (rfl : v8 = _)⟩ := hq.files.form
  obtain ⟨T, hT⟩ : ∃ T, T = samePk ⟨pnm, pep, pve, pre, par, pvd, pl0, pl1, pl2, pl3, pl4, pl5, pl6, pl7, pl8⟩ ⟨qnm, qep, qve, qre, qar, qvd, ql0, ql1, ql2, ql3, ql4, ql5, ql6, ql7, ql8⟩ := ⟨_, rfl⟩
  rw [← hT]
  have HT2 := Lib.hid (show T = false from by rw [hT]; unfold samePk; simp [e0, e1])
  clear hT
  have hb1 := new_b w (.cells #[.string pnm, .int .i64 pep, .string pve, .string pre, .int .u8 par, .string pvd, .slice a0 pl0.length ac0, .slice a1 (argL pl1).length ac1, .slice a2 (argL pl2).length ac2, .slice a3 pl3.length ac3, .slice a4 (argL pl4).length ac4, .slice a5 (argL pl5).length ac5, .slice a6 (argL pl6).length ac6, .slice a7 (argL pl7).length ac7, .slice a8 pl8.length ac8] 29)
  have hb2 := new_b (w.alloc (.cells #[.string pnm, .int .i64 pep, .string pve, .string pre, .int .u8 par, .string pvd, .slice a0 pl0.length ac0, .slice a1 (argL pl1).length ac1, .slice a2 (argL pl2).length ac2, .slice a3 pl3.length ac3, .slice a4 (argL pl4).length ac4, .slice a5 (argL pl5).length ac5, .slice a6 (argL pl6).length ac6, .slice a7 (argL pl7).length ac7, .slice a8 pl8.length ac8] 29)) (.cells #[.string qnm, .int .i64 qep, .string qve, .string qre, .int .u8 qar, .string qvd, .slice b0 ql0.length bc0, .slice b1 (argL ql1).length bc1, .slice b2 (argL ql2).length bc2, .slice b3 ql3.length bc3, .slice b4 (argL ql4).length bc4, .slice b5 (argL ql5).length bc5, .slice b6 (argL ql6).length bc6, .slice b7 (argL ql7).length bc7, .slice b8 ql8.length bc8] 29)
  have hx1 := Blk.new w 29 #[.string pnm, .int .i64 pep, .string pve, .string pre, .int .u8 par, .string pvd, .slice a0 pl0.length ac0, .slice a1 (argL pl1).length ac1, .slice a2 (argL pl2).length ac2, .slice a3 pl3.length ac3, .slice a4 (argL pl4).length ac4, .slice a5 (argL pl5).length ac5, .slice a6 (argL pl6).length ac6, .slice a7 (argL pl7).length ac7, .slice a8 pl8.length ac8]
  have hx2 := Blk.new (w.alloc (.cells #[.string pnm, .int .i64 pep, .string pve, .string pre, .int .u8 par, .string pvd, .slice a0 pl0.length ac0, .slice a1 (argL pl1).length ac1, .slice a2 (argL pl2).length ac2, .slice a3 pl3.length ac3, .slice a4 (argL pl4).length ac4, .slice a5 (argL pl5).length ac5, .slice a6 (argL pl6).length ac6, .slice a7 (argL pl7).length ac7, .slice a8 pl8.length ac8] 29)) 29 #[.string qnm, .int .i64 qep, .string qve, .string qre, .int .u8 qar, .string qvd, .slice b0 ql0.length bc0, .slice b1 (argL ql1).length bc1, .slice b2 (argL ql2).length bc2, .slice b3 ql3.length bc3, .slice b4 (argL ql4).length bc4, .slice b5 (argL ql5).length bc5, .slice b6 (argL ql6).length bc6, .slice b7 (argL ql7).length bc7, .slice b8 ql8.length bc8]
  rw [World.size_alloc] at hx2
  obtain ⟨W, hW⟩ : ∃ W, W = (w.alloc (.cells #[.string pnm, .int .i64 pep, .string pve, .string pre, .int .u8 par, .string pvd, .slice a0 pl0.length ac0, .slice a1 (argL pl1).length ac1, .slice a2 (argL pl2).length ac2, .slice a3 pl3.length ac3, .slice a4 (argL pl4).length ac4, .slice a5 (argL pl5).length ac5, .slice a6 (argL pl6).length ac6, .slice a7 (argL pl7).length ac7, .slice a8 pl8.length ac8] 29)).alloc (.cells #[.string qnm, .int .i64 qep, .string qve, .string qre, .int .u8 qar, .string qvd, .slice b0 ql0.length bc0, .slice b1 (argL ql1).length bc1, .slice b2 (argL ql2).length bc2, .slice b3 ql3.length bc3, .slice b4 (argL ql4).length bc4, .slice b5 (argL ql5).length bc5, .slice b6 (argL ql6).length bc6, .slice b7 (argL ql7).length bc7, .slice b8 ql8.length bc8] 29) := ⟨_, rfl⟩
  have HBx := Lib.hid (show Blk W w.heap.size 29 #[.string pnm, .int .i64 pep, .string pve, .string pre, .int .u8 par, .string pvd, .slice a0 pl0.length ac0, .slice a1 (argL pl1).length ac1, .slice a2 (argL pl2).length ac2, .slice a3 pl3.length ac3, .slice a4 (argL pl4).length ac4, .slice a5 (argL pl5).length ac5, .slice a6 (argL pl6).length ac6, .slice a7 (argL pl7).length ac7, .slice a8 pl8.length ac8] ∧ Blk W (w.heap.size + 1) 29 #[.string qnm, .int .i64 qep, .string qve, .string qre, .int .u8 qar, .string qvd, .slice b0 ql0.length bc0, .slice b1 (argL ql1).length bc1, .slice b2 (argL ql2).length bc2, .slice b3 ql3.length bc3, .slice b4 (argL ql4).length bc4, .slice b5 (argL ql5).length bc5, .slice b6 (argL ql6).length bc6, .slice b7 (argL ql7).length bc7, .slice b8 ql8.length bc8] ∧ Below w.heap.size w W from hW ▸ ⟨hx1.below hb2 hx1.lt, hx2, below_t' hb1 hb2⟩)
  clear hp hq hb1 hb2 hx1 hx2
  have z0 := HBx.out.1.lt
  have z1 := HBx.out.2.1.lt
  have x0 : W.cell? ⟨w.heap.size, 0, none⟩ = some (.string pnm) := HBx.out.1.cell 0
  have y0 : W.cell? ⟨w.heap.size + 1, 0, none⟩ = some (.string qnm) := HBx.out.2.1.cell 0
  have x1 : W.cell? ⟨w.heap.size, 1, none⟩ = some (.int .i64 pep) := HBx.out.1.cell 1
  have y1 : W.cell? ⟨w.heap.size + 1, 1, none⟩ = some (.int .i64 qep) := HBx.out.2.1.cell 1
  have x2 : W.cell? ⟨w.heap.size, 2, none⟩ = some (.string pve) := HBx.out.1.cell 2
  have y2 : W.cell? ⟨w.heap.size + 1, 2, none⟩ = some (.string qve) := HBx.out.2.1.cell 2
  have x3 : W.cell? ⟨w.heap.size, 3, none⟩ = some (.string pre) := HBx.out.1.cell 3
  have y3 : W.cell? ⟨w.heap.size + 1, 3, none⟩ = some (.string qre) := HBx.out.2.1.cell 3
  go_enter Tryz.func51, Tryz.ntmps51
  go_upto_region 1 with fail
  rw [← hW]
  have HWe := Lib.hid hW
  clear hW
  go_wp2_with fail
  go_ret
  exact ⟨ret_bool HT2.out.symm, HBx.out.2.2⟩
set_option maxHeartbeats 8000000 in
theorem ksame_2 (p q : PkgD) (rp rq : PkgR) (w : World) (hp : PkgIn anyB w p rp) (hq : PkgIn anyB w q rq) (e0 : p.name.toList = q.name.toList) (e1 : p.ep = q.ep) (e2 : ¬ p.ver.toList = q.ver.toList) : Calls Tryz.prog 51 #[p.val rp, q.val rq] w fun e w' => e = .returned (.bool (samePk p q)) ∧ Below w.heap.size w w' := by
  rcases p with ⟨pnm, pep, pve, pre, par, pvd, pl0, pl1, pl2, pl3, pl4, pl5, pl6, pl7, pl8⟩
  rcases q with ⟨qnm, qep, qve, qre, qar, qvd, ql0, ql1, ql2, ql3, ql4, ql5, ql6, ql7, ql8⟩
  rcases rp with ⟨u0, u1, u2, u3, u4, u5, u6, u7, u8⟩
  rcases rq with ⟨v0, v1, v2, v3, v4, v5, v6, v7, v8⟩
  dsimp only at e0 e1 e2
  obtain ⟨a0, ac0, (rfl : u0 = _)⟩ := hp.prov.form
  obtain ⟨b0, bc0, (rfl : v0 = _)⟩ := hq.prov.form
  obtain ⟨a1, ac1, (rfl : u1 = _)⟩ := hp.req.form
  obtain ⟨b1, bc1, (rfl : v1 = _)⟩ := hq.req.form
  obtain ⟨a2, ac2, (rfl : u2 = _)⟩ := hp.con.form
  obtain ⟨b2, bc2, (rfl : v2 = _)⟩ := hq.con.form
  obtain ⟨a3, ac3, (rfl : u3 = _)⟩ := hp.obs.form
  obtain ⟨b3, bc3, (rfl : v3 = _)⟩ := hq.obs.form
  obtain ⟨a4, ac4, (rfl : u4 = _)⟩ := hp.reco.form
  obtain ⟨b4, bc4, (rfl : v4 = _)⟩ := hq.reco.form
  obtain ⟨a5, ac5, (rfl : u5 = _)⟩ := hp.sup.form
  obtain ⟨b5, bc5, (rfl : v5 = _)⟩ := hq.sup.form
  obtain ⟨a6, ac6, (rfl : u6 = _)⟩ := hp.sug.form
  obtain ⟨b6, bc6, (rfl : v6 = _)⟩ := hq.sug.form
  obtain ⟨a7, ac7, (rfl : u7 = _)⟩ := hp.enh.form
  obtain ⟨b7, bc7, (rfl : v7 = _)⟩ := hq.enh.form
  obtain ⟨a8, ac8, (rfl : u8 = _)⟩ := hp.files.form
  obtain ⟨b8, bc8, (rfl : v8 = _)⟩ := hq.files.form
  obtain ⟨T, hT⟩ : ∃ T, T = samePk ⟨pnm, pep, pve, pre, par, pvd, pl0, pl1, pl2, pl3, pl4, pl5, pl6, pl7, pl8⟩ ⟨qnm, qep, qve, qre, qar, qvd, ql0, ql1, ql2, ql3, ql4, ql5, ql6, ql7, ql8⟩ := ⟨_, rfl⟩
  rw [← hT]
  have HT2 := Lib.hid (show T = false from by rw [hT]; unfold samePk; simp [e0, e1, e2])
  clear hT
  have hb1 := new_b w (.cells #[.string pnm, .int .i64 pep, .string pve, .string pre, .int .u8 par, .string pvd, .slice a0 pl0.length ac0, .slice a1 (argL pl1).length ac1, .slice a2 (argL pl2).length ac2, .slice a3 pl3.length ac3, .slice a4 (argL pl4).length ac4, .slice a5 (argL pl5).length ac5, .slice a6 (argL pl6).length ac6, .slice a7 (argL pl7).length ac7, .slice a8 pl8.length ac8] 29)
  have hb2 := new_b (w.alloc (.cells #[.string pnm, .int .i64 pep, .string pve, .string pre, .int .u8 par, .string pvd, .slice a0 pl0.length ac0, .slice a1 (argL pl1).length ac1, .slice a2 (argL pl2).length ac2, .slice a3 pl3.length ac3, .slice a4 (argL pl4).length ac4, .slice a5 (argL pl5).length ac5, .slice a6 (argL pl6).length ac6, .slice a7 (argL pl7).length ac7, .slice a8 pl8.length ac8] 29)) (.cells #[.string qnm, .int .i64 qep, .string qve, .string qre, .int .u8 qar, .string qvd, .slice b0 ql0.length bc0, .slice b1 (argL ql1).length bc1, .slice b2 (argL ql2).length bc2, .slice b3 ql3.length bc3, .slice b4 (argL ql4).length bc4, .slice b5 (argL ql5).length bc5, .slice b6 (argL ql6).length bc6, .slice b7 (argL ql7).length bc7, .slice b8 ql8.length bc8] 29)
  have hx1 := Blk.new w 29 #[.string pnm, .int .i64 pep, .string pve, .string pre, .int .u8 par, .string pvd, .slice a0 pl0.length ac0, .slice a1 (argL pl1).length ac1, .slice a2 (argL pl2).length ac2, .slice a3 pl3.length ac3, .slice a4 (argL pl4).length ac4, .slice a5 (argL pl5).length ac5, .slice a6 (argL pl6).length ac6, .slice a7 (argL pl7).length ac7, .slice a8 pl8.length ac8]
  have hx2 := Blk.new (w.alloc (.cells #[.string pnm, .int .i64 pep, .string pve, .string pre, .int .u8 par, .string pvd, .slice a0 pl0.length ac0, .slice a1 (argL pl1).length ac1, .slice a2 (argL pl2).length ac2, .slice a3 pl3.length ac3, .slice a4 (argL pl4).length ac4, .slice a5 (argL pl5).length ac5, .slice a6 (argL pl6).length ac6, .slice a7 (argL pl7).length ac7, .slice a8 pl8.length ac8] 29)) 29 #[.string qnm, .int .i64 qep, .string qve, .string qre, .int .u8 qar, .string qvd, .slice b0 ql0.length bc0, .slice b1 (argL ql1).length bc1, .slice b2 (argL ql2).length bc2, .slice b3 ql3.length bc3, .slice b4 (argL ql4).length bc4, .slice b5 (argL ql5).length bc5, .slice b6 (argL ql6).length bc6, .slice b7 (argL ql7).length bc7, .slice b8 ql8.length bc8]
  rw [World.size_alloc] at hx2
  obtain ⟨W, hW⟩ : ∃ W, W = (w.alloc (.cells #[.string pnm, .int .i64 pep, .string pve, .string pre, .int .u8 par, .string pvd, .slice a0 pl0.length ac0, .slice a1 (argL pl1).length ac1, .slice a2 (argL pl2).length ac2, .slice a3 pl3.length ac3, .slice a4 (argL pl4).length ac4, .slice a5 (argL pl5).length ac5, .slice a6 (argL pl6).length ac6, .slice a7 (argL pl7).length ac7, .slice a8 pl8.length ac8] 29)).alloc (.cells #[.string qnm, .int .i64 qep, .string qve, .string qre, .int .u8 qar, .string qvd, .slice b0 ql0.length bc0, .slice b1 (argL ql1).length bc1, .slice b2 (argL ql2).length bc2, .slice b3 ql3.length bc3, .slice b4 (argL ql4).length bc4, .slice b5 (argL ql5).length bc5, .slice b6 (argL ql6).length bc6, .slice b7 (argL ql7).length bc7, .slice b8 ql8.length bc8] 29) := ⟨_, rfl⟩
  have HBx := Lib.hid (show Blk W w.heap.size 29 #[.string pnm, .int .i64 pep, .string pve, .string pre, .int .u8 par, .string pvd, .slice a0 pl0.length ac0, .slice a1 (argL pl1).length ac1, .slice a2 (argL pl2).length ac2, .slice a3 pl3.length ac3, .slice a4 (argL pl4).length ac4, .slice a5 (argL pl5).length ac5, .slice a6 (argL pl6).length ac6, .slice a7 (argL pl7).length ac7, .slice a8 pl8.length ac8] ∧ Blk W (w.heap.size + 1) 29 #[.string qnm, .int .i64 qep, .string qve, .string qre, .int .u8 qar, .string qvd, .slice b0 ql0.length bc0, .slice b1 (argL ql1).length bc1, .slice b2 (argL ql2).length bc2, .slice b3 ql3.length bc3, .slice b4 (argL ql4).length bc4, .slice b5 (argL ql5).length bc5, .slice b6 (argL ql6).length bc6, .slice b7 (argL ql7).length bc7, .slice b8 ql8.length bc8] ∧ Below w.heap.size w W from hW ▸ ⟨hx1.below hb2 hx1.lt, hx2, below_t' hb1 hb2⟩)
  clear hp hq hb1 hb2 hx1 hx2
  have z0 := HBx.out.1.lt
  have z1 := HBx.out.2.1.lt
  have x0 : W.cell? ⟨w.heap.size, 0, none⟩ = some (.string pnm) := HBx.out.1.cell 0
  have y0 : W.cell? ⟨w.heap.size + 1, 0, none⟩ = some (.string qnm) := HBx.out.2.1.cell 0
  have x1 : W.cell? ⟨w.heap.size, 1, none⟩ = some (.int .i64 pep) := HBx.out.1.cell 1
  have y1 : W.cell? ⟨w.heap.size + 1, 1, none⟩ = some (.int .i64 qep) := HBx.out.2.1.cell 1
  have x2 : W.cell? ⟨w.heap.size, 2, none⟩ = some (.string pve) := HBx.out.1.cell 2
  have y2 : W.cell? ⟨w.heap.size + 1, 2, none⟩ = some (.string qve) := HBx.out.2.1.cell 2
  have x3 : W.cell? ⟨w.heap.size, 3, none⟩ = some (.string pre) := HBx.out.1.cell 3
  have y3 : W.cell? ⟨w.heap.size + 1, 3, none⟩ = some (.string qre) := HBx.out.2.1.cell 3
  subst e1
  go_enter Tryz.func51, Tryz.ntmps51
  go_upto_region 1 with fail
  rw [← hW]
  have HWe := Lib.hid hW
  clear hW
  go_wp2_with fail
  go_ret
  exact ⟨ret_bool HT2.out.symm, HBx.out.2.2⟩
end Go.Proofs.YtdpjjnbelgaagaaGreatDoor
