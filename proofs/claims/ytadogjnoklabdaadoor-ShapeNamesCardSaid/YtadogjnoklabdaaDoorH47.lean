/- ShapeNames' table: each operation keeps the invariant. Conditions: as each theorem names them. -/
import Derived.Test.YtadogjnoklabdaaDoorH46
namespace Go.Proofs.YtadogjnoklabdaaDoor
open Go.ChangeShapes Go.WideShapes Go.ChangeAt Go.RowKit Go.Deep
set_option maxRecDepth 100000

/-- What holds while the region's operations are carried out, in whatever order. -/
def TInv (F B : List Value) (w0 : World) (listed : Array Bool) (a : Act) (w : World) : Prop :=
  ∃ mid, a = frm F mid B ∧ mid.length = 135 ∧ listed.size = 135 ∧ Below w0.heap.size w0 w ∧ ∀ i d, ods10[i]? = some d → listed.getD i false = true → d.sp.ok w ((mid[i]?).getD undef)
theorem ods_len : ods10.length = 135 := rfl
theorem TInv.close {F B mid : List Value} {w0 w w' : World} {listed : Array Bool} (hF : F.length = 38) (hm : mid.length = 135) (hl : listed.size = 135) (hb : Below w0.heap.size w0 w) (hs : ∀ i d, ods10[i]? = some d → listed.getD i false = true → d.sp.ok w ((mid[i]?).getD undef))
    {i : Nat} {d : OD} (hd : ods10[i]? = some d) (v : Value) (hv : d.sp.ok w' v) (hw : Below w.heap.size w w') : TInv F B w0 (listed.setIfInBounds i true) ((frm F mid B).put (some (38 + i)) v) w' := by
  have hi : i < 135 := by rw [← ods_len]; exact (List.getElem?_eq_some_iff.1 hd).1
  refine ⟨mid.set i v, frm_put hF (by omega) v, by rw [List.length_set]; exact hm, by simpa using hl, below_t' hb hw, fun j e hj hlj => ?_⟩
  by_cases hji : j = i
  · subst hji
    obtain rfl : e = d := Option.some.inj (hj.symm.trans hd)
    rw [List.getElem?_set_self (by omega)]
    exact hv
  · rw [List.getElem?_set_ne (fun e => hji e.symm)]
    refine Sp.ok_below (hs j e hj ?_) hw
    simpa [Array.getD_eq_getD_getElem?, Array.getElem?_setIfInBounds_ne (fun e => hji e.symm : i ≠ j)] using hlj
theorem sp_of {d : Nat} {x : Sp} (h : (ods10[d]?).map OD.sp = some x) : ∃ e, ods10[d]? = some e ∧ e.sp = x := by
  cases he : ods10[d]? with
  | none => rw [he] at h; cases h
  | some e =>
    rw [he] at h
    exact ⟨e, rfl, Option.some.inj h⟩
theorem is_dep {w : World} {k k2 : Int} {d d2 : DepD} {l : List RichD} {s : Value} (h : IsArgs w (listR k d l) s) (hf : fitR k2 d2) : IsArgs w (listR k2 d2 l) s := by
  obtain ⟨a, c, rfl⟩ := h.form
  have hn := h.bound
  obtain ⟨S, hA, hS⟩ := h.elems2
  exact .mk (listR k2 d2 l) a c S hf hn hA hS
theorem iRowT : ∃ i, Tryd.prog.info? 44 = some i ∧ i.zero = some (.agg #[.int .u8 0, .string ⟨#[]⟩, .int .u8 0, .int .i64 0, .string ⟨#[]⟩, .string ⟨#[]⟩, .slice none 0 0, .int .u8 0]) ∧ i.size = 8 ∧ i.bytes = 104 :=
  info_parts (P := Tryd.prog) (e := 44) (z := .agg #[.int .u8 0, .string ⟨#[]⟩, .int .u8 0, .int .i64 0, .string ⟨#[]⟩, .string ⟨#[]⟩, .slice none 0 0, .int .u8 0]) (size := 8) (bytes := 104) (by kernel_rfl)
theorem fill_tab (S : Nat → Value) : Instr.fill (fun i => some (i * 8, 8)) ((Array.range (26 * 8)).map ((#[.int .u8 0, .string ⟨#[]⟩, .int .u8 0, .int .i64 0, .string ⟨#[]⟩, .string ⟨#[]⟩, .slice none 0 0, .int .u8 0] : Array Value)[· % 8]!)) ((List.range 26).map fun j => (j, rowV (rowT j).1 (S j) (rowT j).2)) = some (enT S 26).toArray := by kernel_rfl
theorem do_tab {o : Oper} {a : Act} {w : World} {K : Act → World → Prop} {Q : Exit → Act → World → Prop} (ho : o.op = OD.op .tab) (S : Nat → Value) (hS : ∀ j, j < 26 → a.eval (.tmp (38 + tabD.getD j 0)) = rowV (rowT j).1 (S j) (rowT j).2)
    (h : K (a.put o.dst (.slice (some ⟨w.heap.size, 0, none⟩) 26 26)) (w.alloc (.cells (enT S 26).toArray 44))) : o.wp Tryd.prog a w K Q := by
  obtain ⟨i, hi, hz, hs, _⟩ := iRowT
  refine wp_buildSlice 45 44 26 _ ho (enT S 26).toArray i _ Tryd.underlying45 hi hz (by rw [hs]; omega) (by rw [hs]; omega) ?_ h
  rw [hs, Array.toList_map]
  have hv : ((List.range 26).map fun j => (j, Operand.tmp (38 + tabD.getD j 0))).map (fun (i, x) => (i, a.eval x)) = (List.range 26).map fun j => (j, rowV (rowT j).1 (S j) (rowT j).2) := by
    rw [List.map_map]
    refine List.map_congr_left fun j hj => ?_
    show (j, a.eval (.tmp (38 + tabD.getD j 0))) = _
    rw [hS j (List.mem_range.1 hj)]
  rw [show (#[(0, .tmp (38 + 1)), (1, .tmp (38 + 3)), (2, .tmp (38 + 5)), (3, .tmp (38 + 7)), (4, .tmp (38 + 9)), (5, .tmp (38 + 11)), (6, .tmp (38 + 13)), (7, .tmp (38 + 19)), (8, .tmp (38 + 24)), (9, .tmp (38 + 28)), (10, .tmp (38 + 32)), (11, .tmp (38 + 38)), (12, .tmp (38 + 45)), (13, .tmp (38 + 50)), (14, .tmp (38 + 56)), (15, .tmp (38 + 60)), (16, .tmp (38 + 66)), (17, .tmp (38 + 70)), (18, .tmp (38 + 75)), (19, .tmp (38 + 81)), (20, .tmp (38 + 85)), (21, .tmp (38 + 96)), (22, .tmp (38 + 107)), (23, .tmp (38 + 115)), (24, .tmp (38 + 126)), (25, .tmp (38 + 131))] : Array (Nat × Operand)).toList = ((List.range 26).map fun j => (j, Operand.tmp (38 + tabD.getD j 0))) from by kernel_rfl, hv]
  exact fill_tab S
theorem step_call {wA wB : World} (k : Int) (hk : 0 ≤ k ∧ k < 256) (rs : List RichD) (s : Value) (hs : IsArgs wA (kR 0 rs) s) (hb : Below wA.heap.size wA wB) : (Sp.rich (kR k rs)).ok wB ((kR k rs).val s) :=
  ⟨s, rfl, is_dep (hs.kept hb) (fit_no k hk)⟩
theorem step_slice {wA : World} (ps : List PartV) (hps : ∀ p ∈ ps, IsArgs wA p.1 p.2) (hl : ps.length ≤ 9223372036854775807) : IsArgs (wA.alloc (.cells (partsC ps).toArray 28)) (kR 0 (ps.map (·.1))) (.slice (some ⟨wA.heap.size, 0, none⟩) ps.length ps.length) := by
  have hblk := Blk.new wA 28 (partsC ps).toArray
  exact is_parts ps (fit_no 0 (by decide)) hl (fun i v hv => by rw [hblk.cell i, ← hv]; simp) (fun p hp => (hps p hp).kept (new_b _ _))

theorem tinv_step {F B : List Value} {w0 : World} {ops : Array Oper} {Q : Exit → Act → World → Prop} (hF : F.length = 38)
    (hops : (ops.toList.map fun o => (o.op, o.dst, o.guard)) = ods10.zipIdx.map fun x => (x.1.op, some (38 + x.2), none))
    (hdeps : ((ops.toList.zip ods10).all fun x => x.2.deps.all fun d => x.1.after.any fun e => e.on == d && Region.binds .any e) = true)
    (hbox : ∀ W, Below w0.heap.size w0 W → ∀ p r, boxT p = some r → p < 38 ∧ ∃ b s, (F[p]?).getD undef = .pointer (some ⟨b, 0, none⟩) ∧ RichB W b r s ∧ IsArgs W r s)
    (listed : Array Bool) (a : Act) (w : World) (i : Nat) (hinv : TInv F B w0 listed a w) (hi : i ∈ Region.ready .any ops listed) :
    wpOp Tryd.prog ops Q i (fun a' w' => TInv F B w0 (listed.setIfInBounds i true) a' w') a w := by
  obtain ⟨mid, rfl, hm, hl, hb, hs⟩ := hinv
  obtain ⟨hi1, _⟩ := ready_un hi
  obtain ⟨o, ho, haft⟩ := ready_after hi
  have hi2 : i < ods10.length := by rw [ods_len]; omega
  obtain ⟨d, hd⟩ : ∃ d, ods10[i]? = some d := ⟨_, List.getElem?_eq_getElem hi2⟩
  have hoL : ops.toList[i]? = some o := by rw [Array.getElem?_toList]; exact ho
  have h3 : (o.op, o.dst, o.guard) = (d.op, some (38 + i), none) := by
    have h4 := congrArg (fun l => l[i]?) hops
    simp only [List.getElem?_map, hoL, Option.map_some, List.getElem?_zipIdx, hd, Nat.zero_add] at h4
    exact Option.some.inj h4
  obtain ⟨hop, hrest⟩ := Prod.mk.inj h3
  obtain ⟨hdst, hgd⟩ := Prod.mk.inj hrest
  have hdep : ∀ x ∈ d.deps, listed.getD x false = true := fun x hx => by
    rw [List.all_eq_true] at hdeps
    have h5 := hdeps (o, d) (List.mem_of_getElem? (i := i) (by rw [List.getElem?_zip_eq_some]; exact ⟨hoL, hd⟩))
    rw [List.all_eq_true] at h5
    have h6 := h5 x hx
    rw [Array.any_eq_true] at h6
    obtain ⟨j, hj, h7⟩ := h6
    simp only [Bool.and_eq_true, beq_iff_eq] at h7
    rw [← h7.1]
    exact haft _ (by simp) h7.2
  have hval : ∀ x y, (ods10[x]?).map OD.sp = some y → listed.getD x false = true → y.ok w ((frm F mid B).eval (.tmp (38 + x))) := fun x y hx hlx => by
    obtain ⟨e, he, rfl⟩ := sp_of hx
    have hx2 : x < 135 := by rw [← ods_len]; exact (List.getElem?_eq_some_iff.1 he).1
    rw [frm_eval hF (by omega)]
    exact hs x e he hlx
  have hwf := wf_all d (List.mem_of_getElem? hd)
  have hclose := fun (v : Value) (w' : World) (h1 : d.sp.ok w' v) (h2 : Below w.heap.size w w') => TInv.close (B := B) hF hm hl hb hs hd v h1 h2
  rw [← hdst] at hclose
  unfold wpOp
  rw [ho]
  simp only [Region.wanted, hgd, if_true]
  refine Or.inl ?_
  cases d with
  | none => exact do_none hop (hclose _ _ ⟨nilS, rfl, is_leaf _ 0 noDep (fit_no 0 (by decide))⟩ (Below.refl _ _))
  | zero k => exact do_zero k hop (hclose _ _ ⟨nilS, rfl, is_leaf _ k noDep (fit_no k hwf)⟩ (Below.refl _ _))
  | ld p r =>
    obtain ⟨hp, b, s, h4, h5, h6⟩ := hbox w hb p r hwf
    exact do_ld p b r s hop ((frm_front (by omega)).trans h4) h5 (hclose _ _ ⟨s, rfl, h6⟩ (Below.refl _ _))
  | row x m r =>
    obtain ⟨s, h4, h5⟩ := hval x _ hwf (hdep x List.mem_cons_self)
    exact do_row (38 + x) m r s hop h4 (hclose _ _ ⟨s, rfl, h5⟩ (Below.refl _ _))
  | bs1 x0 r0 =>
    obtain ⟨s0, h0, i0⟩ := hval x0 _ hwf (hdep x0 List.mem_cons_self)
    refine do_bs1 (38 + x0) (r0, s0) hop h0 (hclose _ _ (step_slice [(r0, s0)] (fun p hp => ?_) (by simp)) (new_b _ _))
    simp only [List.mem_cons, List.not_mem_nil, or_false] at hp
    subst hp
    exact i0
  | bs2 x0 x1 r0 r1 =>
    obtain ⟨s0, h0, i0⟩ := hval x0 _ hwf.1 (hdep x0 (by simp [OD.deps]))
    obtain ⟨s1, h1, i1⟩ := hval x1 _ hwf.2 (hdep x1 (by simp [OD.deps]))
    refine do_bs2 (38 + x0) (38 + x1) (r0, s0) (r1, s1) hop h0 h1 (hclose _ _ (step_slice [(r0, s0), (r1, s1)] (fun p hp => ?_) (by simp)) (new_b _ _))
    simp only [List.mem_cons, List.not_mem_nil, or_false] at hp
    rcases hp with rfl | rfl
    · exact i0
    · exact i1
  | bs3 x0 x1 x2 r0 r1 r2 =>
    obtain ⟨s0, h0, i0⟩ := hval x0 _ hwf.1 (hdep x0 (by simp [OD.deps]))
    obtain ⟨s1, h1, i1⟩ := hval x1 _ hwf.2.1 (hdep x1 (by simp [OD.deps]))
    obtain ⟨s2, h2, i2⟩ := hval x2 _ hwf.2.2 (hdep x2 (by simp [OD.deps]))
    refine do_bs3 (38 + x0) (38 + x1) (38 + x2) (r0, s0) (r1, s1) (r2, s2) hop h0 h1 h2 (hclose _ _ (step_slice [(r0, s0), (r1, s1), (r2, s2)] (fun p hp => ?_) (by simp)) (new_b _ _))
    simp only [List.mem_cons, List.not_mem_nil, or_false] at hp
    rcases hp with rfl | rfl | rfl
    · exact i0
    · exact i1
    · exact i2
  | bs4 x0 x1 x2 x3 r0 r1 r2 r3 =>
    obtain ⟨s0, h0, i0⟩ := hval x0 _ hwf.1 (hdep x0 (by simp [OD.deps]))
    obtain ⟨s1, h1, i1⟩ := hval x1 _ hwf.2.1 (hdep x1 (by simp [OD.deps]))
    obtain ⟨s2, h2, i2⟩ := hval x2 _ hwf.2.2.1 (hdep x2 (by simp [OD.deps]))
    obtain ⟨s3, h3', i3⟩ := hval x3 _ hwf.2.2.2 (hdep x3 (by simp [OD.deps]))
    refine do_bs4 (38 + x0) (38 + x1) (38 + x2) (38 + x3) (r0, s0) (r1, s1) (r2, s2) (r3, s3) hop h0 h1 h2 h3' (hclose _ _ (step_slice [(r0, s0), (r1, s1), (r2, s2), (r3, s3)] (fun p hp => ?_) (by simp)) (new_b _ _))
    simp only [List.mem_cons, List.not_mem_nil, or_false] at hp
    rcases hp with rfl | rfl | rfl | rfl
    · exact i0
    · exact i1
    · exact i2
    · exact i3
  | cl k x rs =>
    have h4 := hval x _ hwf.1 (hdep x List.mem_cons_self)
    obtain ⟨b, c, hsl⟩ := IsArgs.form h4
    refine do_call k (38 + x) _ hop hsl ((rich_any k b _ c w).mono ?_)
    rintro e w' ⟨rfl, hBc⟩
    rw [hsl] at h4
    exact ⟨_, rfl, hclose _ _ (step_call k hwf.2 rs _ h4 hBc) hBc⟩
  | tab =>
    have h4 : ∀ j : Nat, ∃ s, j < 26 → (frm F mid B).eval (.tmp (38 + tabD.getD j 0)) = rowV (rowT j).1 s (rowT j).2 ∧ IsArgs w (rowT j).1 s := fun j => by
      by_cases hj : j < 26
      · have hmem : tabD.getD j 0 ∈ tabD := by
          have hj2 : j < tabD.length := hj
          rw [List.getD_eq_getElem?_getD, List.getElem?_eq_getElem hj2]
          exact List.getElem_mem hj2
        obtain ⟨s, h5, h6⟩ := hval _ _ (hwf j hj) (hdep _ hmem)
        exact ⟨s, fun _ => ⟨h5, h6⟩⟩
      · exact ⟨nilS, fun h => absurd h hj⟩
    obtain ⟨S, hS⟩ := Classical.axiomOfChoice h4
    exact do_tab hop S (fun j hj => (hS j hj).1) (hclose _ _ ⟨w.heap.size, rfl, S, Blk.new _ _ _, fun j hj => (hS j hj).2.kept (new_b _ _)⟩ (new_b _ _))
  | len =>
    obtain ⟨q, h4, _⟩ := hval 132 _ hwf (hdep 132 List.mem_cons_self)
    exact do_len (38 + 132) _ 26 26 hop h4 (hclose _ _ rfl (Below.refl _ _))
  | nul => exact do_move _ hop (hclose _ _ rfl (Below.refl _ _))
end Go.Proofs.YtadogjnoklabdaaDoor
