/- shape.Copy. Conditions: as each theorem names them. -/
import Derived.Test.YtadogjnoklabdaaDoorH33
import Derived.Deep.RegionHeld3
namespace Go.Proofs.YtadogjnoklabdaaDoor
open Go.ChangeShapes Go.WideShapes Go.ChangeAt Go.RowKit Go.Deep
set_option maxRecDepth 100000

section
variable {P : Program} (w : World)
theorem step_append_S {ops : Array Oper} {o : Oper} {a : Act} {K : Act → World → Prop} {Q : Exit → Act → World → Prop} {E : Prop} (hgd : o.guard = none) (s sx : Operand) (t tx : TypeId)
    (ho : o.op = .call { callee := .builtin .append, args := #[s, sx], argTypes := #[t, tx] })
    (e : TypeId) (i : TypeInfo) (z : Value) (size bytes : Nat) (ht : P.underlying t = some (.slice e)) (hi : P.info? e = some i) (hz : i.zero = some z)
    (hsize : i.size = size) (hby : i.bytes = bytes) (hzs : z.cells.size = size) (hsz : 0 < size)
    (v : Value) (n : Nat) (xs : List Value) (hv : a.eval s = v) (hown : Own w e size v n xs) (h0 : ∀ u ∈ xs, u.oneCell' = true)
    (x : Value) (m : Nat) (news : List Value) (hx : a.eval sx = x) (hs : Src P size tx x m news w)
    (h63 : n + m ≤ maxLen) (hbytes : (n + m) * bytes ≤ 140737488355328)
    (h : ∀ ao' cap' w', n + m ≤ cap' → cap' ≤ maxLen → Own w' e size (.slice ao' (n + m) cap') (n + m) (xs ++ news) → w.grownBy w' v.ownBlock → ((Value.slice ao' (n + m) cap').ownBlock = v.ownBlock ∨ (Value.slice ao' (n + m) cap').ownBlock = some w.heap.size) → (∀ k, (Value.slice ao' (n + m) cap').ownBlock = some k → k < w'.heap.size) → K (a.put o.dst (.slice ao' (n + m) cap')) w') :
    if Region.wanted o (yielded ops a.tmps) = true then Oper.wp P o a w K Q else E := by
  have hw : Region.wanted o (yielded ops a.tmps) = true := by simp [Region.wanted, hgd]
  rw [if_pos hw]
  exact wp_append_S w s sx t tx ho e i z size bytes ht hi hz hsize hby hzs hsz v n xs hv hown h0 x m news hx hs h63 hbytes h

end

theorem count_pos (r : RichD) : 1 ≤ r.count := by rw [count_eq]; omega
theorem n_lt (r : RichD) : r.n < r.count := by
  have h : ∀ n, n ≤ sumN (fun j => (r.args j).count) n := fun n => by
    induction n with
    | zero => exact Nat.le_refl _
    | succ n ih =>
      have := count_pos (r.args n)
      simp only [sumN]
      omega
  have := h r.n
  rw [count_eq]
  omega
theorem NewArgs.form {n0 : Nat} {w : World} {r : RichD} {s : Value} (h : NewArgs n0 w r s) : ∃ a c, s = .slice a r.n c := by
  obtain ⟨_, _, _, hO, _⟩ := h
  obtain ⟨ao, c, e, _⟩ := hO.form
  exact ⟨ao, c, e⟩
abbrev richA (r : RichD) (s : Value) : Array Value := #[.int .u8 r.kind, .string r.dep.name, .int .u8 r.dep.op, .int .i64 r.dep.ep, .string r.dep.ver, .string r.dep.rel, s]
theorem src_rich (w : World) (r : RichD) (s : Value) (hs : s.oneCell' = true) : Src Tryd.prog 7 26 (.slice (some ⟨w.heap.size, 0, none⟩) 1 1) 1 (richCs r s) (w.alloc (.cells (richA r s) 28)) :=
  (Own.made w 28 7 (richA r s) 1 rfl (by simp [maxLen])).src Tryd.underlying26 (fun u hu => enR_one (f := fun _ => r) (S := fun _ => s) 1 (fun _ _ => hs) u (by
    show u ∈ [] ++ richCs r s
    exact hu))
theorem cp_new (w : World) (r : RichD) (s : Value) (S : Nat → Value) : CpSt w w.heap.size r s 0 S (.slice none 0 0) (((w.alloc (.cells (richA r s) 28)).alloc (.cells zeroR 28)).alloc (.cells (richA r (.slice none 0 0)) 28)) := by
  refine ⟨below_t' (new_b _ _) (below_t' (new_b _ _) (new_b _ _)), ((RichB.new w r s).below (new_b _ _)).below (new_b _ _), ?_, ?_, Own.nil _ _ _, fun b h => by simp [Value.ownBlock] at h, fun j hj => absurd hj (Nat.not_lt_zero j)⟩
  · have h := Blk.new (w.alloc (.cells (richA r s) 28)) 28 zeroR
    rw [World.size_alloc] at h
    exact h.alloc _
  · have h := RichB.new ((w.alloc (.cells (richA r s) 28)).alloc (.cells zeroR 28)) r (.slice none 0 0)
    rwa [World.size_alloc, World.size_alloc] at h
/-- The result's cell is filled. -/
def fin7 (W : World) (b : Nat) (r : RichD) (v : Value) : World :=
  ((((((W.setCell ⟨b, 0, none⟩ (.int .u8 r.kind)).setCell ⟨b, 1, none⟩ (.string r.dep.name)).setCell ⟨b, 2, none⟩ (.int .u8 r.dep.op)).setCell ⟨b, 3, none⟩ (.int .i64 r.dep.ep)).setCell ⟨b, 4, none⟩ (.string r.dep.ver)).setCell ⟨b, 5, none⟩ (.string r.dep.rel)).setCell ⟨b, 6, none⟩ v
theorem fin7_far (W : World) (b : Nat) (r : RichD) (v : Value) (k : Nat) (hk : k ≠ b) : (fin7 W b r v).heap[k]? = W.heap[k]? := by
  unfold fin7
  have h := fun (W : World) (i : Nat) (u : Value) => Below.heap_setCell W ⟨b, i, none⟩ u k hk
  rw [h, h, h, h, h, h, h]
theorem fin7_size (W : World) (b : Nat) (r : RichD) (v : Value) : (fin7 W b r v).heap.size = W.heap.size := by
  unfold fin7
  simp
theorem fin7_below {w W : World} {b : Nat} (r : RichD) (v : Value) (h : Below w.heap.size w W) (hb : w.heap.size ≤ b) : Below w.heap.size w (fin7 W b r v) :=
  ((((((h.setCell (p := ⟨b, 0, none⟩) hb _).setCell (p := ⟨b, 1, none⟩) hb _).setCell (p := ⟨b, 2, none⟩) hb _).setCell (p := ⟨b, 3, none⟩) hb _).setCell (p := ⟨b, 4, none⟩) hb _).setCell (p := ⟨b, 5, none⟩) hb _).setCell (p := ⟨b, 6, none⟩) hb _
theorem fin7_blk {W : World} {b : Nat} (h : Blk W b 28 zeroR) (r : RichD) (v : Value) : Blk (fin7 W b r v) b 28 (richA r v) :=
  ((((((h.set_ 0 (.int .u8 r.kind)).set_ 1 (.string r.dep.name)).set_ 2 (.int .u8 r.dep.op)).set_ 3 (.int .i64 r.dep.ep)).set_ 4 (.string r.dep.ver)).set_ 5 (.string r.dep.rel)).set_ 6 v
theorem CpSt.fin {w W : World} {g : Nat} {r : RichD} {s : Value} {S : Nat → Value} {v : Value} (h : CpSt w g r s r.n S v W) (hgw : w.heap.size ≤ g) (hd : fitR r.kind r.dep) (hn : r.n ≤ 9223372036854775807) :
    Blk (fin7 W (g + 1) r v) (g + 1) 28 (richA r v) ∧ NewArgs w.heap.size (fin7 W (g + 1) r v) r v ∧ Below w.heap.size w (fin7 W (g + 1) r v) := by
  refine ⟨fin7_blk h.rz r v, ⟨hd, hn, S, ?_, fun b hb => by have := h.hi b hb; omega, fun j hj => (h.ar j hj).keep (by rw [fin7_size]; exact Nat.le_refl _) fun b h1 _ => ⟨?_, by have := h1.1; omega, h1.2⟩⟩, fin7_below r v h.bl (by omega)⟩
  · exact h.ow.keep fun k hk => fin7_far _ _ _ _ k (by have := h.hi k hk; omega)
  · exact fin7_far _ _ _ _ b (by have := h1.1; omega)
abbrev ldR (n : Nat) : Op := Op.load 26 (.tmp n)

set_option maxHeartbeats 4000000 in
theorem copy_any (W : World) (r : RichD) : ∀ (s : Value) (w : World), IsArgs W r s → Below W.heap.size W w → r.count ≤ 600 →
    Calls Tryd.prog 17 #[r.val s] w fun e w' => ∃ s', e = .returned (r.val s') ∧ NewArgs w.heap.size w' r s' ∧ Below w.heap.size w w' := by
  have step : ∀ (r : RichD) (s : Value) (w : World), IsArgs W r s → Below W.heap.size W w → r.count ≤ 600 →
      (∀ j, j < r.n → ∀ (s : Value) (w : World), IsArgs W (r.args j) s → Below W.heap.size W w → (r.args j).count ≤ 600 → Calls Tryd.prog 17 #[(r.args j).val s] w fun e w' => ∃ s', e = .returned ((r.args j).val s') ∧ NewArgs w.heap.size w' (r.args j) s' ∧ Below w.heap.size w w') →
      Calls Tryd.prog 17 #[r.val s] w fun e w' => ∃ s', e = .returned (r.val s') ∧ NewArgs w.heap.size w' r s' ∧ Below w.heap.size w w' := by
    intro r s w hs hB hc ih
    obtain ⟨a, c, rfl⟩ := hs.form
    obtain ⟨S, hA, hS⟩ := hs.elems2
    obtain ⟨g, hg⟩ : ∃ g, g = w.heap.size := ⟨_, rfl⟩
    have hn600 := n_lt r
    have HFit := Lib.hid (IsArgs.node_n hs)
    have HE := Lib.hid (show ∀ w', Below W.heap.size W w' → ∀ j, j < r.n → ∃ b o, a = some ⟨b, o, none⟩ ∧ RichAt w' b (o + j * 7) (r.args j) (S j) from fun w' h j hj => by
      obtain ⟨b, o, h1, h2⟩ := hA j hj
      exact ⟨b, o, h1, h2.below h⟩)
    have HI := Lib.hid (show ∀ j, j < r.n → ∀ w', Below W.heap.size W w' → Calls Tryd.prog 17 #[(r.args j).val (S j)] w' fun e w'' => ∃ s', e = .returned ((r.args j).val s') ∧ NewArgs w'.heap.size w'' (r.args j) s' ∧ Below w'.heap.size w' w'' from fun j hj w' h => ih j hj _ w' (hS j hj) h (by have := arg_count hj; omega))
    have HSf := Lib.hid (show ∀ j, j < r.n → ∃ a' c', S j = .slice a' (r.args j).n c' from fun j hj => (hS j hj).form)
    have HBW := Lib.hid hB
    have HG := Lib.hid hg
    clear hA hS hs ih hB
    unfold RichD.val richV
    go_enter Tryd.func17, Tryd.ntmps17
    go_upto_region 2 with fail
    obtain ⟨w3, hw3⟩ : ∃ w3, w3 = ((w.alloc (.cells (richA r (.slice a r.n c)) 28)).alloc (.cells zeroR 28)).alloc (.cells (richA r (.slice none 0 0)) 28) := ⟨_, rfl⟩
    have HC3 := Lib.hid (show CpSt w g r (.slice a r.n c) 0 (fun _ => .slice none 0 0) (.slice none 0 0) w3 from by rw [hw3, hg]; exact cp_new _ _ _ _)
    rw [← hw3, ← hg]
    clear hw3 hg
    have d6 : w3.cell? ⟨g, 6, none⟩ = some (.slice a r.n c) := HC3.out.ri.cell 6
    obtain ⟨iR, hiR, hz0, hz1, hz2⟩ := iRich
    go_wp2_with fail
    clear d6
    go_loopw [14] (fun i wr => ∃ (k : Nat) (Sx : Nat → Value) (ao : Option Addr) (cp : Nat), k ≤ r.n ∧ i = .int .i64 k ∧ Hid (CpSt w g r (.slice a r.n c) k Sx (.slice ao k cp) wr)) (fun i wr => r.n - (intOf i).toNat)
    case atStart => exact ⟨0, _, none, 0, by omega, rfl, HC3⟩
    case round =>
      obtain ⟨k, Sx, ao, cp, hk, rfl, HCk⟩ := hrel
      by_cases hlt : k < r.n
      · have hki : (k : Int) < (r.n : Int) := by omega
        have HB2 := Lib.hid (HBW.out.trans (HCk.out.bl.mono HBW.out.size))
        obtain ⟨b, o, ha, y0, y1, y2, y3, y4, y5, y6, y7⟩ := HE.out wr HB2.out k hlt
        subst ha
        obtain ⟨xa, xc, hx⟩ := HSf.out k hlt
        obtain ⟨gb, hgb⟩ : ∃ gb, gb = wr.heap.size := ⟨_, rfl⟩
        obtain ⟨w5, hw5⟩ : ∃ w5, w5 = wr.alloc (richObj (r.args k) (.slice xa (r.args k).n xc)) := ⟨_, rfl⟩
        have hb5 : Below wr.heap.size wr w5 := by rw [hw5]; exact new_b _ _
        have HC5 := Lib.hid (HCk.out.below hb5)
        have hr5 : RichB w5 gb (r.args k) (.slice xa (r.args k).n xc) := by rw [hw5, hgb]; exact RichB.new _ _ _
        have HM := Lib.hid (fun w' (h : Below w5.heap.size w5 w') => HI.out k hlt w' (HB2.out.trans ((below_t' hb5 h).mono HB2.out.size)))
        simp only [hx] at HM y6
        have HSS := Lib.hid (show ∀ w', Below w5.heap.size w5 w' → (w'.cell? ⟨gb, 0, none⟩ = some (.int .u8 (r.args k).kind) ∧ w'.cell? ⟨gb, 1, none⟩ = some (.string (r.args k).dep.name) ∧ w'.cell? ⟨gb, 2, none⟩ = some (.int .u8 (r.args k).dep.op) ∧ w'.cell? ⟨gb, 3, none⟩ = some (.int .i64 (r.args k).dep.ep) ∧ w'.cell? ⟨gb, 4, none⟩ = some (.string (r.args k).dep.ver) ∧ w'.cell? ⟨gb, 5, none⟩ = some (.string (r.args k).dep.rel) ∧ w'.cell? ⟨gb, 6, none⟩ = some (.slice xa (r.args k).n xc)) from fun w' h => by
          have h2 := hr5.below h
          exact ⟨h2.cell 0, h2.cell 1, h2.cell 2, h2.cell 3, h2.cell 4, h2.cell 5, h2.cell 6⟩)
        have HKp := Lib.hid (show ∀ (w6 w10 : World) (o : Obj) (v' : Value), Below w5.heap.size w5 w6 → (w6.alloc o).grownBy w10 (Value.slice ao k cp).ownBlock → (w10.cell? ⟨gb, 0, none⟩ = some (.int .u8 (r.args k).kind) ∧ w10.cell? ⟨gb, 1, none⟩ = some (.string (r.args k).dep.name) ∧ w10.cell? ⟨gb, 2, none⟩ = some (.int .u8 (r.args k).dep.op) ∧ w10.cell? ⟨gb, 3, none⟩ = some (.int .i64 (r.args k).dep.ep) ∧ w10.cell? ⟨gb, 4, none⟩ = some (.string (r.args k).dep.ver) ∧ w10.cell? ⟨gb, 5, none⟩ = some (.string (r.args k).dep.rel) ∧ w10.cell? ⟨gb, 6, none⟩ = some (.slice xa (r.args k).n xc)) ∧ ((w10.setCell ⟨g + 2, 6, none⟩ v').cell? ⟨gb, 0, none⟩ = some (.int .u8 (r.args k).kind) ∧ (w10.setCell ⟨g + 2, 6, none⟩ v').cell? ⟨gb, 1, none⟩ = some (.string (r.args k).dep.name) ∧ (w10.setCell ⟨g + 2, 6, none⟩ v').cell? ⟨gb, 2, none⟩ = some (.int .u8 (r.args k).dep.op) ∧ (w10.setCell ⟨g + 2, 6, none⟩ v').cell? ⟨gb, 3, none⟩ = some (.int .i64 (r.args k).dep.ep) ∧ (w10.setCell ⟨g + 2, 6, none⟩ v').cell? ⟨gb, 4, none⟩ = some (.string (r.args k).dep.ver) ∧ (w10.setCell ⟨g + 2, 6, none⟩ v').cell? ⟨gb, 5, none⟩ = some (.string (r.args k).dep.rel) ∧ (w10.setCell ⟨g + 2, 6, none⟩ v').cell? ⟨gb, 6, none⟩ = some (.slice xa (r.args k).n xc)) from fun w6 w10 o v' h6 hg6 => by
          have h7 := (hr5.below h6).below (new_b w6 o)
          have hne : (Value.slice ao k cp).ownBlock ≠ some gb := fun e => by have := HCk.out.ow.lt gb e; omega
          have h8 : RichB w10 gb (r.args k) (.slice xa (r.args k).n xc) := Blk.grown h7 hg6 (fun e => hne e.symm)
          have hg2 : g + 2 < wr.heap.size := HCk.out.ou.lt
          have h9 : RichB (w10.setCell ⟨g + 2, 6, none⟩ v') gb (r.args k) (.slice xa (r.args k).n xc) := Blk.far h8 (by show gb ≠ g + 2; omega) v'
          exact ⟨⟨h8.cell 0, h8.cell 1, h8.cell 2, h8.cell 3, h8.cell 4, h8.cell 5, h8.cell 6⟩, h9.cell 0, h9.cell 1, h9.cell 2, h9.cell 3, h9.cell 4, h9.cell 5, h9.cell 6⟩)
        have HOu := Lib.hid (show ∀ w', Below w5.heap.size w5 w' → w'.cell? ⟨g + 2, 6, none⟩ = some (.slice ao k cp) from fun w' h => (HC5.out.ou.below h).cell 6)
        have HOw := Lib.hid (show ∀ w', Below w5.heap.size w5 w' → Own w' 28 7 (.slice ao k cp) k (enR r.args Sx k) from fun w' h => HC5.out.ow.new h)
        have HOne := Lib.hid HC5.out.one
        have HDr := Lib.hid (show Below w5.heap.size w5 w5.drew from (Below.refl _ w5).drew)
        have q5 := HOu.out _ (Below.refl _ w5)
        have HWg := Lib.hid (show w.heap.size ≤ g by rw [HG.out]; exact Nat.le_refl _)
        go_upto_region 5 with fail
        rw [← hw5, ← hgb]
        clear hw5 hgb hb5 hr5 y0 y1 y2 y3 y4 y5 y6 y7
        rw [show Op.load 26 (Operand.tmp 18) = ldR 18 from rfl]
        go_region_held3 (fun w' => w'.cell? ⟨gb, 0, none⟩ = some (.int .u8 (r.args k).kind) ∧ w'.cell? ⟨gb, 1, none⟩ = some (.string (r.args k).dep.name) ∧ w'.cell? ⟨gb, 2, none⟩ = some (.int .u8 (r.args k).dep.op) ∧ w'.cell? ⟨gb, 3, none⟩ = some (.int .i64 (r.args k).dep.ep) ∧ w'.cell? ⟨gb, 4, none⟩ = some (.string (r.args k).dep.ver) ∧ w'.cell? ⟨gb, 5, none⟩ = some (.string (r.args k).dep.rel) ∧ w'.cell? ⟨gb, 6, none⟩ = some (.slice xa (r.args k).n xc)) (first | exact HSS.out _ HDr.out | exact HSS.out _ (below_t' HDr.out (new_b _ _)) | exact HS10.out.1 | exact HS10.out.2)
          ((first
            | (go_at_call 17; (with_reducible refine (HM.out _ HDr.out).mono ?_); rintro e w6 ⟨sk, rfl, hNk, HBc⟩; have HDr := Lib.hid (below_t' HDr.out HBc); obtain ⟨ak, ck, rfl⟩ := hNk.form; have HNk := Lib.hid (show ArgsIn (fun b => w5.heap.size ≤ b) w6 (r.args k) (.slice ak (r.args k).n ck) from hNk.in_); have q6 := HOu.out _ HDr.out; have q7 := HOu.out _ (below_t' HDr.out (new_b w6 (.cells (richA (r.args k) (.slice ak (r.args k).n ck)) 28))); clear hNk HBc)
            | (refine step_append_S _ (by rfl) (.tmp 19) (.tmp 22) _ _ (by rfl) 28 iR _ 7 96 Tryd.underlying26 hiR hz0 hz1 hz2 rfl (by omega) (.slice ao k cp) k (enR r.args Sx k) (by rfl) (HOw.out _ (below_t' HDr.out (new_b w6 (.cells (richA (r.args k) (.slice ak (r.args k).n ck)) 28)))) HOne.out (.slice (some ⟨w6.heap.size, 0, none⟩) 1 1) 1 (richCs (r.args k) (.slice ak (r.args k).n ck)) (by rfl) (src_rich w6 (r.args k) (.slice ak (r.args k).n ck) rfl) (by simp only [maxLen]; omega) (by omega) ?_; intro ao2 cap2 w10 hn2 hm2 hown2 hg2 hat2 hlt2; have HP := Lib.hid (HC5.out.put HWg.out HDr.out HNk.out hown2 (.cells (richA (r.args k) (.slice ak (r.args k).n ck)) 28) hg2 hat2); have HS10 := Lib.hid (HKp.out w6 w10 _ (.slice ao2 (k + 1) cap2) HDr.out hg2); have c10 := HP.out.2.cell 6; have f10 := HP.out.2.frozen 6; have l10 := HP.out.2.lt; clear hown2 hg2 hat2 hlt2 hn2 hm2)))
        all_goals
          go_wp2_with fail
          go_roundw
          case rel => exact ⟨k + 1, _, ao2, cap2, by omega, by go_num, Lib.hid HP.out.1⟩
          case measure => simp [intOf]; omega
      · obtain rfl : k = r.n := by omega
        have hou := HCk.out.ou
        have o0 := hou.cell 0
        have o1 := hou.cell 1
        have o2 := hou.cell 2
        have o3 := hou.cell 3
        have o4 := hou.cell 4
        have o5 := hou.cell 5
        have o6 := hou.cell 6
        have ol : g + 2 < wr.heap.size := hou.lt
        have hrz := HCk.out.rz
        have z0 := hrz.cell 0
        have z1 := hrz.cell 1
        have z2 := hrz.cell 2
        have z3 := hrz.cell 3
        have z4 := hrz.cell 4
        have z5 := hrz.cell 5
        have z6 := hrz.cell 6
        have f0 := hrz.frozen 0
        have f1 := hrz.frozen 1
        have f2 := hrz.frozen 2
        have f3 := hrz.frozen 3
        have f4 := hrz.frozen 4
        have f5 := hrz.frozen 5
        have f6 := hrz.frozen 6
        have zl := hrz.lt
        clear hou hrz
        go_wp2_with fail
        have hn6 : r.n ≤ 9223372036854775807 := by omega
        obtain ⟨h1, h2, h3⟩ := HCk.out.fin (by rw [HG.out]; exact Nat.le_refl _) HFit.out hn6
        exact bodyPost_ret (results_cell_row rfl _ _ (g + 1) 28 _ (0, 0) _ rfl h1 Tryd.underlying28 rfl (by kernel_rfl)) rfl ⟨_, rfl, h2, h3⟩
  induction r with
  | nil => exact fun s w h1 h2 h3 => step .nil s w h1 h2 h3 (fun j hj => absurd hj (Nat.not_lt_zero j))
  | node k d n f ih => exact fun s w h1 h2 h3 => step (.node k d n f) s w h1 h2 h3 (fun j _ => ih j)
end Go.Proofs.YtadogjnoklabdaaDoor
