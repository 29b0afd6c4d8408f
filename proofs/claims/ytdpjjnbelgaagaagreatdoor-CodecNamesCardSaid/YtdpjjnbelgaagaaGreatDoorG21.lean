/- CodecNames: a region that draws its order, each operation leaving what is told of it. Conditions: as each theorem names them. -/
import Derived.Test.YtdpjjnbelgaagaaGreatDoorG20
namespace Go.Proofs.YtdpjjnbelgaagaaGreatDoor
open Go.ChangeShapes Go.WideShapes Go.ChangeAt Go.RowKit Go.Deep
set_option maxRecDepth 100000

theorem frm_splitN (n : Nat) (L : List Value) : frm (L.take n) (L.drop n) [] = { tmps := L.toArray, defers := [] } := by
  unfold frm
  rw [List.append_nil, List.take_append_drop]
def SInv (ok : World → Nat → Value → Prop) (K M : Nat) (n0 : World) (F : List Value) (listed : Array Bool) (a : Act) (w : World) : Prop :=
  ∃ mid, a = frm F mid [] ∧ mid.length = M ∧ listed.size = K ∧ Below n0.heap.size n0 w ∧ ∀ i, i < K → listed.getD i false = true → ok w i ((mid[i]?).getD undef)
theorem spec_region {ok : World → Nat → Value → Prop} (hmono : ∀ {w w' : World} {i : Nat} {v : Value}, Below w.heap.size w w' → ok w i v → ok w' i v) {n K M : Nat} {L : List Value} {n0 : World} {ops : Array Oper} {Q : Exit → Act → World → Prop} {id : Nat}
    (hL : L.length = n + M) (hKM : K ≤ M) (hsz : ops.size = K) (deps : List (List Nat))
    (hdst : (ops.toList.map (·.dst)) = (List.range K).map fun i => some (n + i))
    (hdeps : ((ops.toList.zip deps).all fun x => x.2.all fun d => x.1.after.any fun e => e.on == d && Region.binds .any e) = true) (hdl : deps.length = K)
    (hlow : (ops.toList.zipIdx.all fun x => x.1.after.all fun e => decide (e.on < x.2)) = true)
    (hstep : ∀ i o mid w, i < K → ops[i]? = some o → mid.length = M → Below n0.heap.size n0 w → (∀ ds, deps[i]? = some ds → ∀ j ∈ ds, ok w j ((frm (L.take n) mid []).eval (.tmp (n + j)))) →
      Region.wanted o (yielded ops (frm (L.take n) mid []).tmps) = true ∧ ∀ Kc : Act → World → Prop, (∀ v w', ok w' i v → Below w.heap.size w w' → Kc ((frm (L.take n) mid []).put o.dst v) w') → o.wp Tryz.prog (frm (L.take n) mid []) w Kc Q)
    (hK : ∀ mid W, mid.length = M → Below n0.heap.size n0 W → (∀ i, i < K → ok W i ((mid[i]?).getD undef)) → Q .normal (frm (L.take n) mid []) W) :
    (Code.region id ops true).wp Tryz.prog Q { tmps := L.toArray, defers := [] } n0 := by
  rw [← frm_splitN n L]
  have hF : (L.take n).length = n := by rw [List.length_take]; omega
  have hm : (L.drop n).length = M := by rw [List.length_drop]; omega
  refine wp_region_any (by kernel_rfl) (wpAny_inv (SInv ok K M n0 (L.take n)) (fun listed a w i hinv hi => ?_) (fun listed a w h hr => ?_) ops.size _ _ _ (by simp) ?_)
  · obtain ⟨mid, rfl, hm, hl, hb, hs⟩ := hinv
    obtain ⟨hi1, hun⟩ := ready_un hi
    obtain ⟨o, ho, haft⟩ := ready_after hi
    have hoL : ops.toList[i]? = some o := by rw [Array.getElem?_toList]; exact ho
    have hiK : i < K := by omega
    have hd : o.dst = some (n + i) := by
      have h4 := congrArg (fun l => l[i]?) hdst
      simp only [List.getElem?_map, hoL, Option.map_some, List.getElem?_range hiK] at h4
      exact Option.some.inj h4
    have hdep : ∀ ds, deps[i]? = some ds → ∀ x ∈ ds, x < K ∧ listed.getD x false = true := fun ds hds x hx => by
      have h5 := List.all_eq_true.1 hdeps (o, ds) (List.mem_of_getElem? (i := i) (by rw [List.getElem?_zip_eq_some]; exact ⟨hoL, hds⟩))
      have h6 := List.all_eq_true.1 h5 x hx
      rw [Array.any_eq_true] at h6
      obtain ⟨j, hj, h7⟩ := h6
      simp only [Bool.and_eq_true, beq_iff_eq] at h7
      have h8 : listed.getD x false = true := by rw [← h7.1]; exact haft _ (by simp) h7.2
      refine ⟨?_, h8⟩
      by_cases hx : x < listed.size
      · omega
      · rw [Array.getD_eq_getD_getElem?, Array.getElem?_eq_none (by omega)] at h8
        cases h8
    obtain ⟨h1, h2⟩ := hstep i o mid w hiK ho hm hb fun ds hds j hj => by
      obtain ⟨k1, k2⟩ := hdep ds hds j hj
      rw [frm_eval hF (by omega)]
      exact hs j k1 k2
    unfold wpOp
    rw [ho]
    simp only [h1, if_true]
    refine Or.inl (h2 _ fun v w' hv hw => ?_)
    rw [hd]
    refine ⟨mid.set i v, frm_put hF (by omega) v, by rw [List.length_set]; exact hm, by simpa using hl, below_t' hb hw, fun j hj hlj => ?_⟩
    by_cases hji : j = i
    · subst hji
      rw [List.getElem?_set_self (by omega)]
      exact hv
    · rw [List.getElem?_set_ne (fun e => hji e.symm)]
      refine hmono hw (hs j hj ?_)
      simpa [Array.getD_eq_getD_getElem?, Array.getElem?_setIfInBounds_ne (fun e => hji e.symm : i ≠ j)] using hlj
  · obtain ⟨mid, rfl, h1, h2, h3, h4⟩ := h
    have hall := ready_all hlow (by omega) hr
    exact hK mid w h1 h3 fun i hi => h4 i hi (hall i (by omega))
  · refine ⟨_, rfl, hm, by simp [hsz], (Below.refl _ n0).drew, fun j _ hj => ?_⟩
    rw [Array.getD_eq_getD_getElem?, Array.getElem?_replicate] at hj
    split at hj <;> cases hj

section
variable {o : Oper} {a : Act} {w : World} {K : Act → World → Prop} {Q : Exit → Act → World → Prop}
theorem doS_move (t : Nat) (v : Value) (ho : o.op = .move (.tmp t)) (hx : a.eval (.tmp t) = v) (h : K (a.put o.dst v) w) : o.wp Tryz.prog a w K Q := by
  unfold Oper.wp execOp
  simp only [ho, hx, Sem.run_pure]
  exact h
theorem doS_pick (t u : Nat) (v : Value) (ho : o.op = .pick (.tmp t) (.const (.bool true)) (.tmp u)) (ht : a.eval (.tmp t) = .bool false) (hx : a.eval (.tmp u) = v) (h : K (a.put o.dst v) w) : o.wp Tryz.prog a w K Q := by
  unfold Oper.wp execOp
  simp only [ho, ht, hx]
  go_simp
  exact h
theorem doS_neq (t : Nat) (e : Int) (ho : o.op = .binOp .neq 42 (.tmp t) (.const (.int .i64 e)) 42) (hx : a.eval (.tmp t) = .int .i64 e) (h : K (a.put o.dst (.bool false)) w) : o.wp Tryz.prog a w K Q := by
  unfold Oper.wp execOp
  simp only [ho, hx]
  go_simp
  have e1 : (e != e) = false := by simp
  first | exact h | (rw [e1]; exact h) | (simp only [bne_self_eq_false]; exact h)
theorem doS_check (t : Nat) (v : Value) (e : Int) (ho : o.op = .call { callee := .value (.func 15), args := #[.tmp t], argTypes := #[41] }) (hx : a.eval (.tmp t) = v) (hc : Calls Tryz.prog 15 #[v] w (CkPost w e)) (h : ∀ w', Below w.heap.size w w' → K (a.put o.dst (.int .i64 e)) w') : o.wp Tryz.prog a w K Q := by
  unfold Oper.wp execOp
  simp only [ho, resolve, Sem.run_bind, List.map_toArray, List.map_cons, List.map_nil, hx]
  go_simp
  refine hc.mono ?_
  rintro r w' ⟨rfl, hb⟩
  exact h w' hb
theorem doS_repo1 (t0 : Nat) (x y : Value) (ho : o.op = .buildSlice 39 1 #[(0, .tmp t0)]) (h0 : a.eval (.tmp t0) = .agg #[x, y])
    (hf : Instr.fill (fun i => some (i * 2, 2)) ((Array.range (1 * 2)).map ((#[.int .i64 0, nilV] : Array Value)[· % 2]!)) [(0, .agg #[x, y])] = some #[x, y])
    (h : K (a.put o.dst (.slice (some ⟨w.heap.size, 0, none⟩) 1 1)) (w.alloc (.cells #[x, y] 38))) : o.wp Tryz.prog a w K Q := by
  obtain ⟨i, hi, hz, hs, _⟩ := iRepoZ
  refine wp_buildSlice 39 38 1 _ ho _ i _ Tryz.underlying39 hi hz (by rw [hs]; omega) (by rw [hs]; omega) ?_ h
  rw [hs]
  have hv : (#[(0, Operand.tmp t0)].map fun (i, x) => (i, a.eval x)).toList = [(0, .agg #[x, y])] := by
    rw [Array.toList_map]
    show [(0, a.eval (.tmp t0))] = _
    rw [h0]
  rw [hv]
  exact hf
theorem doS_make {t : TypeId} {n : Int} {v : Value} {w' : World} (ho : o.op = .makeSlice t (.const (.int .i64 n)) (.const (.int .i64 n))) (hr : (Instr.makeSlice t (.int .i64 n) (.int .i64 n)).run Tryz.prog w = .ok v w') (h : K (a.put o.dst v) w') : o.wp Tryz.prog a w K Q := by
  unfold Oper.wp execOp
  simp only [ho, Sem.run_bind]
  have e1 : a.eval (.const (.int .i64 n)) = .int .i64 n := rfl
  rw [e1, hr]
  exact h
end
/-- What the slot of each operation of region 23 holds. -/
def ok23 (w : World) : Nat → Value → Prop
  | 0, v => v = .agg badC
  | 1, v => ∃ g, v = .slice (some ⟨g, 0, none⟩) 1 1 ∧ Blk w g 29 badC
  | 2, v => ∃ g, v = .agg #[.slice none 0 0, .slice (some ⟨g, 0, none⟩) 1 1] ∧ Blk w g 29 badC
  | 3, v => v = .int .i64 4
  | 4, v => v = .bool false
  | 5, v => v = .bool false
  | 6, v => v = .agg badC
  | 7, v => ∃ g, v = .slice (some ⟨g, 0, none⟩) 1 1 ∧ Blk w g 29 badC
  | 8, v => ∃ g, v = .agg #[.int .i64 1025, .slice (some ⟨g, 0, none⟩) 1 1] ∧ Blk w g 29 badC
  | 9, v => ∃ g2 g1, v = .slice (some ⟨g2, 0, none⟩) 1 1 ∧ Blk w g2 38 #[.int .i64 1025, .slice (some ⟨g1, 0, none⟩) 1 1] ∧ Blk w g1 29 badC
  | 10, v => ∃ g2 g1, v = .agg #[.slice (some ⟨g2, 0, none⟩) 1 1, .slice none 0 0] ∧ Blk w g2 38 #[.int .i64 1025, .slice (some ⟨g1, 0, none⟩) 1 1] ∧ Blk w g1 29 badC
  | 11, v => v = .int .i64 20
  | 12, v => v = .bool false
  | 13, v => v = .bool false
  | 14, v => v = .bool false
  | 15, v => v = .agg #[.int .i64 (-1), .slice none 0 0]
  | 16, v => ∃ g2, v = .slice (some ⟨g2, 0, none⟩) 1 1 ∧ Blk w g2 38 #[.int .i64 (-1), .slice none 0 0]
  | 17, v => ∃ g2, v = .agg #[.slice (some ⟨g2, 0, none⟩) 1 1, .slice none 0 0] ∧ Blk w g2 38 #[.int .i64 (-1), .slice none 0 0]
  | 18, v => v = .int .i64 20
  | 19, v => v = .bool false
  | 20, v => v = .bool false
  | 21, v => v = .bool false
  | 22, v => ∃ g, v = .slice (some ⟨g, 0, none⟩) 17 17 ∧ Blk w g 38 (madeCells zRepo 34)
  | 23, v => ∃ g, v = .agg #[.slice (some ⟨g, 0, none⟩) 17 17, .slice none 0 0] ∧ Blk w g 38 (madeCells zRepo 34)
  | 24, v => v = .int .i64 40
  | 25, v => v = .bool false
  | 26, v => v = .bool false
  | 27, v => v = .bool false
  | 28, v => ∃ g, v = .slice (some ⟨g, 0, none⟩) 200 200 ∧ Blk w g 29 (madeCells zPkg 3000)
  | 29, v => ∃ g, v = .agg #[.int .i64 0, .slice (some ⟨g, 0, none⟩) 200 200] ∧ Blk w g 29 (madeCells zPkg 3000)
  | 30, v => ∃ g2 g1, v = .slice (some ⟨g2, 0, none⟩) 1 1 ∧ Blk w g2 38 #[.int .i64 0, .slice (some ⟨g1, 0, none⟩) 200 200] ∧ Blk w g1 29 (madeCells zPkg 3000)
  | 31, v => ∃ g, v = .slice (some ⟨g, 0, none⟩) 57 57 ∧ Blk w g 29 (madeCells zPkg 855)
  | 32, v => ∃ g2 g1 g3, v = .agg #[.slice (some ⟨g2, 0, none⟩) 1 1, .slice (some ⟨g3, 0, none⟩) 57 57] ∧ Blk w g2 38 #[.int .i64 0, .slice (some ⟨g1, 0, none⟩) 200 200] ∧ Blk w g1 29 (madeCells zPkg 3000) ∧ Blk w g3 29 (madeCells zPkg 855)
  | 33, v => v = .int .i64 40
  | 34, v => v = .bool false
  | 35, v => v = .bool false
  | _, _ => True
theorem ok23_mono {w w' : World} (hb : Below w.heap.size w w') : ∀ {i : Nat} {v : Value}, ok23 w i v → ok23 w' i v
  | 0, _, h => h
  | 1, _, ⟨g, e, k0⟩ => ⟨g, e, k0.bel' hb⟩
  | 2, _, ⟨g, e, k0⟩ => ⟨g, e, k0.bel' hb⟩
  | 3, _, h => h
  | 4, _, h => h
  | 5, _, h => h
  | 6, _, h => h
  | 7, _, ⟨g, e, k0⟩ => ⟨g, e, k0.bel' hb⟩
  | 8, _, ⟨g, e, k0⟩ => ⟨g, e, k0.bel' hb⟩
  | 9, _, ⟨g2, g1, e, k0, k1⟩ => ⟨g2, g1, e, k0.bel' hb, k1.bel' hb⟩
  | 10, _, ⟨g2, g1, e, k0, k1⟩ => ⟨g2, g1, e, k0.bel' hb, k1.bel' hb⟩
  | 11, _, h => h
  | 12, _, h => h
  | 13, _, h => h
  | 14, _, h => h
  | 15, _, h => h
  | 16, _, ⟨g2, e, k0⟩ => ⟨g2, e, k0.bel' hb⟩
  | 17, _, ⟨g2, e, k0⟩ => ⟨g2, e, k0.bel' hb⟩
  | 18, _, h => h
  | 19, _, h => h
  | 20, _, h => h
  | 21, _, h => h
  | 22, _, ⟨g, e, k0⟩ => ⟨g, e, k0.bel' hb⟩
  | 23, _, ⟨g, e, k0⟩ => ⟨g, e, k0.bel' hb⟩
  | 24, _, h => h
  | 25, _, h => h
  | 26, _, h => h
  | 27, _, h => h
  | 28, _, ⟨g, e, k0⟩ => ⟨g, e, k0.bel' hb⟩
  | 29, _, ⟨g, e, k0⟩ => ⟨g, e, k0.bel' hb⟩
  | 30, _, ⟨g2, g1, e, k0, k1⟩ => ⟨g2, g1, e, k0.bel' hb, k1.bel' hb⟩
  | 31, _, ⟨g, e, k0⟩ => ⟨g, e, k0.bel' hb⟩
  | 32, _, ⟨g2, g1, g3, e, k0, k1, k2⟩ => ⟨g2, g1, g3, e, k0.bel' hb, k1.bel' hb, k2.bel' hb⟩
  | 33, _, h => h
  | 34, _, h => h
  | 35, _, h => h
  | _ + 36, _, _ => trivial
abbrev ops23 : List (Op × Option (Nat × Bool)) := [(.load 29 (.tmp 7), none), (.buildSlice 36 1 #[(0, .tmp 107)], none), (.build 41 #[(1, .tmp 108)], none), (.call { callee := .value (.func 15), args := #[.tmp 109], argTypes := #[41] }, none), (.binOp .neq 42 (.tmp 110) (.const (.int .i64 4)) 42, none), (.move (.tmp 111), none), (.load 29 (.tmp 7), some (5, false)), (.buildSlice 36 1 #[(0, .tmp 113)], some (5, false)), (.build 38 #[(0, .const (.int .i64 1025)), (1, .tmp 114)], some (5, false)), (.buildSlice 39 1 #[(0, .tmp 115)], some (5, false)), (.build 41 #[(0, .tmp 116)], some (5, false)), (.call { callee := .value (.func 15), args := #[.tmp 117], argTypes := #[41] }, some (5, false)), (.binOp .neq 42 (.tmp 118) (.const (.int .i64 20)) 42, some (5, false)), (.pick (.tmp 112) (.const (.bool true)) (.tmp 119), none), (.move (.tmp 120), none), (.build 38 #[(0, .const (.int .i64 (-1)))], some (14, false)), (.buildSlice 39 1 #[(0, .tmp 122)], some (14, false)), (.build 41 #[(0, .tmp 123)], some (14, false)), (.call { callee := .value (.func 15), args := #[.tmp 124], argTypes := #[41] }, some (14, false)), (.binOp .neq 42 (.tmp 125) (.const (.int .i64 20)) 42, some (14, false)), (.pick (.tmp 121) (.const (.bool true)) (.tmp 126), none), (.move (.tmp 127), none), (.makeSlice 39 (.const (.int .i64 17)) (.const (.int .i64 17)), some (21, false)), (.build 41 #[(0, .tmp 129)], some (21, false)), (.call { callee := .value (.func 15), args := #[.tmp 130], argTypes := #[41] }, some (21, false)), (.binOp .neq 42 (.tmp 131) (.const (.int .i64 40)) 42, some (21, false)), (.pick (.tmp 128) (.const (.bool true)) (.tmp 132), none), (.move (.tmp 133), none), (.makeSlice 36 (.const (.int .i64 200)) (.const (.int .i64 200)), some (27, false)), (.build 38 #[(1, .tmp 135)], some (27, false)), (.buildSlice 39 1 #[(0, .tmp 136)], some (27, false)), (.makeSlice 36 (.const (.int .i64 57)) (.const (.int .i64 57)), some (27, false)), (.build 41 #[(0, .tmp 137), (1, .tmp 138)], some (27, false)), (.call { callee := .value (.func 15), args := #[.tmp 139], argTypes := #[41] }, some (27, false)), (.binOp .neq 42 (.tmp 140) (.const (.int .i64 40)) 42, some (27, false)), (.pick (.tmp 134) (.const (.bool true)) (.tmp 141), none)]
abbrev deps23 : List (List Nat) := [[], [0], [1], [2], [3], [4], [5], [6, 5], [7, 5], [8, 5], [9, 5], [10, 5], [11, 5], [5, 12], [13], [14], [15, 14], [16, 14], [17, 14], [18, 14], [14, 19], [20], [21], [22, 21], [23, 21], [24, 21], [21, 25], [26], [27], [28, 27], [29, 27], [27], [30, 31, 27], [32, 27], [33, 27], [27, 34]]
theorem guard_no {o : Oper} {y : Nat → Option Bool} (h : o.guard = none) : Region.wanted o y = true := by unfold Region.wanted; rw [h]
theorem guard_yes {o : Oper} {ops : Array Oper} {F mid : List Value} {k : Nat} (h : o.guard = some (k, false)) (hd : ((ops[k]?).bind (·.dst)) = some (107 + k)) (hv : (frm F mid []).eval (.tmp (107 + k)) = .bool false) : Region.wanted o (yielded ops (frm F mid []).tmps) = true := by
  unfold Region.wanted
  rw [h]
  have hy : yielded ops (frm F mid []).tmps k = some false := by
    unfold yielded
    rw [hd]
    have hv2 : ((frm F mid []).tmps[107 + k]?).getD undef = .bool false := by simpa [Act.eval] using hv
    cases hc : (frm F mid []).tmps[107 + k]? with
    | none => rw [hc] at hv2; cases hv2
    | some x =>
      rw [hc] at hv2
      simp only [Option.bind_some, hc]
      rw [show x = .bool false from hv2]
  simp only
  rw [hy]
  rfl
theorem dst_at {ops : Array Oper} (hdst : (ops.toList.map (·.dst)) = (List.range 36).map fun i => some (107 + i)) {k : Nat} (hk : k < 36) : ((ops[k]?).bind (·.dst)) = some (107 + k) := by
  have h4 := congrArg (fun l => l[k]?) hdst
  simp only [List.getElem?_map, List.getElem?_range hk, Option.map_some] at h4
  rw [Array.getElem?_toList] at h4
  cases ho : ops[k]? with
  | none => rw [ho] at h4; cases h4
  | some o =>
    rw [ho] at h4
    exact Option.some.inj h4
set_option maxHeartbeats 8000000 in
theorem region23 {L : List Value} {n0 : World} {bb : Nat} {ops : Array Oper} {Q : Exit → Act → World → Prop} {id : Nat} (hL : L.length = 234) (hsz : ops.size = 36) (hF7 : (L[7]?).getD undef = .pointer (some ⟨bb, 0, none⟩))
    (hbb : ∀ W, Below n0.heap.size n0 W → Blk W bb 29 badC) (hT : ∀ W, Below n0.heap.size n0 W → Words W ∧ Ops W)
    (hops : (ops.toList.map fun o => (o.op, o.guard)) = ops23) (hdst : (ops.toList.map (·.dst)) = (List.range 36).map fun i => some (107 + i))
    (hdeps : ((ops.toList.zip deps23).all fun x => x.2.all fun d => x.1.after.any fun e => e.on == d && Region.binds .any e) = true)
    (hlow : (ops.toList.zipIdx.all fun x => x.1.after.all fun e => decide (e.on < x.2)) = true)
    (hK : ∀ a' W, Below n0.heap.size n0 W → ExN 127 (fun l => ((l[35]?).getD undef = .bool false) ∧ a' = frm (L.take 107) l []) → Q .normal a' W) :
    (Code.region id ops true).wp Tryz.prog Q { tmps := L.toArray, defers := [] } n0 := by
  refine spec_region (ok := ok23) (n := 107) (K := 36) (M := 127) (fun hb h => ok23_mono hb h) (by omega) (by omega) hsz deps23 hdst hdeps rfl hlow (fun i o mid w hi ho hm hb hdp => ?_) (fun mid W hm hb hall => hK _ W hb (exN_of 127 _ mid hm ⟨hall 35 (by omega), rfl⟩))
  have hoL : ops.toList[i]? = some o := by rw [Array.getElem?_toList]; exact ho
  have h3 : some (o.op, o.guard) = ops23[i]? := by
    have h4 := congrArg (fun l => l[i]?) hops
    simp only [List.getElem?_map, hoL, Option.map_some] at h4
    exact h4
  have hfront : (frm (L.take 107) mid []).eval (.tmp 7) = ((L.take 107)[7]?).getD undef := frm_front (by rw [List.length_take]; omega)
  replace hF7 : ((L.take 107)[7]?).getD undef = .pointer (some ⟨bb, 0, none⟩) := by rw [List.getElem?_take_of_lt (by omega)]; exact hF7
  have hcases : i = 0 ∨ i = 1 ∨ i = 2 ∨ i = 3 ∨ i = 4 ∨ i = 5 ∨ i = 6 ∨ i = 7 ∨ i = 8 ∨ i = 9 ∨ i = 10 ∨ i = 11 ∨ i = 12 ∨ i = 13 ∨ i = 14 ∨ i = 15 ∨ i = 16 ∨ i = 17 ∨ i = 18 ∨ i = 19 ∨ i = 20 ∨ i = 21 ∨ i = 22 ∨ i = 23 ∨ i = 24 ∨ i = 25 ∨ i = 26 ∨ i = 27 ∨ i = 28 ∨ i = 29 ∨ i = 30 ∨ i = 31 ∨ i = 32 ∨ i = 33 ∨ i = 34 ∨ i = 35 := by omega
  rcases hcases with rfl | rfl | rfl | rfl | rfl | rfl | rfl | rfl | rfl | rfl | rfl | rfl | rfl | rfl | rfl | rfl | rfl | rfl | rfl | rfl | rfl | rfl | rfl | rfl | rfl | rfl | rfl | rfl | rfl | rfl | rfl | rfl | rfl | rfl | rfl | rfl
  all_goals
    obtain ⟨hop, hgd⟩ := Prod.mk.inj (Option.some.inj h3)
    have hd := hdp _ rfl
    clear hdp h3 hoL
  · refine ⟨guard_no hgd, fun Kc hKc => wp_load_row 29 (.tmp 7) hop bb (hfront.trans hF7) 29 badC (0, 0) _ (hbb w hb) Tryz.underlying29 rfl (by kernel_rfl) (hKc _ _ rfl (Below.refl _ _))⟩
  · refine ⟨guard_no hgd, fun Kc hKc => doR_pkgs 107 badC hop (hd 0 (by simp)) rfl (by kernel_rfl) (hKc _ _ ⟨w.heap.size, rfl, Blk.new _ _ _⟩ (new_b _ _))⟩
  · obtain ⟨g, e1, e2⟩ := hd 1 (by simp)
    refine ⟨guard_no hgd, fun Kc hKc => doR_build hop [(1, .slice (some ⟨g, 0, none⟩) 1 1)] (by show [(1, (frm (L.take 107) mid []).eval (.tmp 108))] = _; rw [e1]) #[.slice none 0 0, .slice (some ⟨g, 0, none⟩) 1 1] (by kernel_rfl) (hKc _ _ ⟨g, rfl, e2⟩ (Below.refl _ _))⟩
  · obtain ⟨g, e1, e2⟩ := hd 2 (by simp)
    exact ⟨guard_no hgd, fun Kc hKc => doS_check 109 _ 4 hop e1 (ck1 (hT w hb) e2) fun w' hw => hKc _ _ rfl hw⟩
  · exact ⟨guard_no hgd, fun Kc hKc => doS_neq 110 4 hop (hd 3 (by simp)) (hKc _ _ rfl (Below.refl _ _))⟩
  · exact ⟨guard_no hgd, fun Kc hKc => doS_move 111 _ hop (hd 4 (by simp)) (hKc _ _ rfl (Below.refl _ _))⟩
  · refine ⟨guard_yes hgd (dst_at hdst (by omega)) (hd 5 (by simp)), fun Kc hKc => wp_load_row 29 (.tmp 7) hop bb (hfront.trans hF7) 29 badC (0, 0) _ (hbb w hb) Tryz.underlying29 rfl (by kernel_rfl) (hKc _ _ rfl (Below.refl _ _))⟩
  · refine ⟨guard_yes hgd (dst_at hdst (by omega)) (hd 5 (by simp)), fun Kc hKc => doR_pkgs 113 badC hop (hd 6 (by simp)) rfl (by kernel_rfl) (hKc _ _ ⟨w.heap.size, rfl, Blk.new _ _ _⟩ (new_b _ _))⟩
  · obtain ⟨g, e1, e2⟩ := hd 7 (by simp)
    refine ⟨guard_yes hgd (dst_at hdst (by omega)) (hd 5 (by simp)), fun Kc hKc => doR_build hop [(0, .int .i64 1025), (1, .slice (some ⟨g, 0, none⟩) 1 1)] (by show [(0, .int .i64 1025), (1, (frm (L.take 107) mid []).eval (.tmp 114))] = _; rw [e1]) #[.int .i64 1025, .slice (some ⟨g, 0, none⟩) 1 1] (by kernel_rfl) (hKc _ _ ⟨g, rfl, e2⟩ (Below.refl _ _))⟩
  · obtain ⟨g, e1, e2⟩ := hd 8 (by simp)
    exact ⟨guard_yes hgd (dst_at hdst (by omega)) (hd 5 (by simp)), fun Kc hKc => doS_repo1 115 _ _ hop e1 (by kernel_rfl) (hKc _ _ ⟨w.heap.size, g, rfl, Blk.new _ _ _, e2.bel' (new_b _ _)⟩ (new_b _ _))⟩
  · obtain ⟨g2, g1, e1, e2, e3⟩ := hd 9 (by simp)
    refine ⟨guard_yes hgd (dst_at hdst (by omega)) (hd 5 (by simp)), fun Kc hKc => doR_build hop [(0, .slice (some ⟨g2, 0, none⟩) 1 1)] (by show [(0, (frm (L.take 107) mid []).eval (.tmp 116))] = _; rw [e1]) #[.slice (some ⟨g2, 0, none⟩) 1 1, .slice none 0 0] (by kernel_rfl) (hKc _ _ ⟨g2, g1, rfl, e2, e3⟩ (Below.refl _ _))⟩
  · obtain ⟨g2, g1, e1, e2, e3⟩ := hd 10 (by simp)
    exact ⟨guard_yes hgd (dst_at hdst (by omega)) (hd 5 (by simp)), fun Kc hKc => doS_check 117 _ 20 hop e1 (ck2 (hT w hb) e2 e3) fun w' hw => hKc _ _ rfl hw⟩
  · exact ⟨guard_yes hgd (dst_at hdst (by omega)) (hd 5 (by simp)), fun Kc hKc => doS_neq 118 20 hop (hd 11 (by simp)) (hKc _ _ rfl (Below.refl _ _))⟩
  · exact ⟨guard_no hgd, fun Kc hKc => doS_pick 112 119 _ hop (hd 5 (by simp)) (hd 12 (by simp)) (hKc _ _ rfl (Below.refl _ _))⟩
  · exact ⟨guard_no hgd, fun Kc hKc => doS_move 120 _ hop (hd 13 (by simp)) (hKc _ _ rfl (Below.refl _ _))⟩
  · exact ⟨guard_yes hgd (dst_at hdst (by omega)) (hd 14 (by simp)), fun Kc hKc => doR_build hop [(0, .int .i64 (-1))] rfl #[.int .i64 (-1), .slice none 0 0] (by kernel_rfl) (hKc _ _ rfl (Below.refl _ _))⟩
  · exact ⟨guard_yes hgd (dst_at hdst (by omega)) (hd 14 (by simp)), fun Kc hKc => doS_repo1 122 _ _ hop (hd 15 (by simp)) (by kernel_rfl) (hKc _ _ ⟨w.heap.size, rfl, Blk.new _ _ _⟩ (new_b _ _))⟩
  · obtain ⟨g2, e1, e2⟩ := hd 16 (by simp)
    refine ⟨guard_yes hgd (dst_at hdst (by omega)) (hd 14 (by simp)), fun Kc hKc => doR_build hop [(0, .slice (some ⟨g2, 0, none⟩) 1 1)] (by show [(0, (frm (L.take 107) mid []).eval (.tmp 123))] = _; rw [e1]) #[.slice (some ⟨g2, 0, none⟩) 1 1, .slice none 0 0] (by kernel_rfl) (hKc _ _ ⟨g2, rfl, e2⟩ (Below.refl _ _))⟩
  · obtain ⟨g2, e1, e2⟩ := hd 17 (by simp)
    exact ⟨guard_yes hgd (dst_at hdst (by omega)) (hd 14 (by simp)), fun Kc hKc => doS_check 124 _ 20 hop e1 (ck3 (hT w hb) e2) fun w' hw => hKc _ _ rfl hw⟩
  · exact ⟨guard_yes hgd (dst_at hdst (by omega)) (hd 14 (by simp)), fun Kc hKc => doS_neq 125 20 hop (hd 18 (by simp)) (hKc _ _ rfl (Below.refl _ _))⟩
  · exact ⟨guard_no hgd, fun Kc hKc => doS_pick 121 126 _ hop (hd 14 (by simp)) (hd 19 (by simp)) (hKc _ _ rfl (Below.refl _ _))⟩
  · exact ⟨guard_no hgd, fun Kc hKc => doS_move 127 _ hop (hd 20 (by simp)) (hKc _ _ rfl (Below.refl _ _))⟩
  · exact ⟨guard_yes hgd (dst_at hdst (by omega)) (hd 21 (by simp)), fun Kc hKc => doS_make hop (mk17 w) (hKc _ _ ⟨w.heap.size, rfl, Blk.new _ _ _⟩ (new_b _ _))⟩
  · obtain ⟨g2, e1, e2⟩ := hd 22 (by simp)
    refine ⟨guard_yes hgd (dst_at hdst (by omega)) (hd 21 (by simp)), fun Kc hKc => doR_build hop [(0, .slice (some ⟨g2, 0, none⟩) 17 17)] (by show [(0, (frm (L.take 107) mid []).eval (.tmp 129))] = _; rw [e1]) #[.slice (some ⟨g2, 0, none⟩) 17 17, .slice none 0 0] (by kernel_rfl) (hKc _ _ ⟨g2, rfl, e2⟩ (Below.refl _ _))⟩
  · obtain ⟨g2, e1, e2⟩ := hd 23 (by simp)
    exact ⟨guard_yes hgd (dst_at hdst (by omega)) (hd 21 (by simp)), fun Kc hKc => doS_check 130 _ 40 hop e1 (ck4 (hT w hb) e2) fun w' hw => hKc _ _ rfl hw⟩
  · exact ⟨guard_yes hgd (dst_at hdst (by omega)) (hd 21 (by simp)), fun Kc hKc => doS_neq 131 40 hop (hd 24 (by simp)) (hKc _ _ rfl (Below.refl _ _))⟩
  · exact ⟨guard_no hgd, fun Kc hKc => doS_pick 128 132 _ hop (hd 21 (by simp)) (hd 25 (by simp)) (hKc _ _ rfl (Below.refl _ _))⟩
  · exact ⟨guard_no hgd, fun Kc hKc => doS_move 133 _ hop (hd 26 (by simp)) (hKc _ _ rfl (Below.refl _ _))⟩
  · exact ⟨guard_yes hgd (dst_at hdst (by omega)) (hd 27 (by simp)), fun Kc hKc => doS_make hop (mk200 w) (hKc _ _ ⟨w.heap.size, rfl, Blk.new _ _ _⟩ (new_b _ _))⟩
  · obtain ⟨g2, e1, e2⟩ := hd 28 (by simp)
    refine ⟨guard_yes hgd (dst_at hdst (by omega)) (hd 27 (by simp)), fun Kc hKc => doR_build hop [(1, .slice (some ⟨g2, 0, none⟩) 200 200)] (by show [(1, (frm (L.take 107) mid []).eval (.tmp 135))] = _; rw [e1]) #[.int .i64 0, .slice (some ⟨g2, 0, none⟩) 200 200] (by kernel_rfl) (hKc _ _ ⟨g2, rfl, e2⟩ (Below.refl _ _))⟩
  · obtain ⟨g, e1, e2⟩ := hd 29 (by simp)
    exact ⟨guard_yes hgd (dst_at hdst (by omega)) (hd 27 (by simp)), fun Kc hKc => doS_repo1 136 _ _ hop e1 (by kernel_rfl) (hKc _ _ ⟨w.heap.size, g, rfl, Blk.new _ _ _, e2.bel' (new_b _ _)⟩ (new_b _ _))⟩
  · exact ⟨guard_yes hgd (dst_at hdst (by omega)) (hd 27 (by simp)), fun Kc hKc => doS_make hop (mk57 w) (hKc _ _ ⟨w.heap.size, rfl, Blk.new _ _ _⟩ (new_b _ _))⟩
  · obtain ⟨g2, g1, e1, e2, e3⟩ := hd 30 (by simp)
    obtain ⟨g3, e4, e5⟩ := hd 31 (by simp)
    refine ⟨guard_yes hgd (dst_at hdst (by omega)) (hd 27 (by simp)), fun Kc hKc => doR_build hop [(0, .slice (some ⟨g2, 0, none⟩) 1 1), (1, .slice (some ⟨g3, 0, none⟩) 57 57)] (by show [(0, (frm (L.take 107) mid []).eval (.tmp 137)), (1, (frm (L.take 107) mid []).eval (.tmp 138))] = _; rw [e1, e4]) #[.slice (some ⟨g2, 0, none⟩) 1 1, .slice (some ⟨g3, 0, none⟩) 57 57] (by kernel_rfl) (hKc _ _ ⟨g2, g1, g3, rfl, e2, e3, e5⟩ (Below.refl _ _))⟩
  · obtain ⟨g2, g1, g3, e1, e2, e3, e4⟩ := hd 32 (by simp)
    exact ⟨guard_yes hgd (dst_at hdst (by omega)) (hd 27 (by simp)), fun Kc hKc => doS_check 139 _ 40 hop e1 (ck5 (hT w hb) e2 e3 e4) fun w' hw => hKc _ _ rfl hw⟩
  · exact ⟨guard_yes hgd (dst_at hdst (by omega)) (hd 27 (by simp)), fun Kc hKc => doS_neq 140 40 hop (hd 33 (by simp)) (hKc _ _ rfl (Below.refl _ _))⟩
  · exact ⟨guard_no hgd, fun Kc hKc => doS_pick 134 141 _ hop (hd 27 (by simp)) (hd 34 (by simp)) (hKc _ _ rfl (Below.refl _ _))⟩
end Go.Proofs.YtdpjjnbelgaagaaGreatDoor

namespace Go.Proofs.YtdpjjnbelgaagaaGreatDoor
open Go.ChangeShapes Go.WideShapes Go.ChangeAt Go.RowKit Go.Deep
set_option maxRecDepth 100000

theorem nn0 : noE ({ data := #[] } : ByteArray) 0 8 = true := by decide +kernel
theorem nn1 : noE ({ data := #[1, 129, 8] } : ByteArray) 1 20 = true := by decide +kernel
theorem nn2 : noE ({ data := #[1, 0, 129, 2] } : ByteArray) 2 20 = true := by decide +kernel
theorem nn3 : noE ({ data := #[0, 1, 65] } : ByteArray) 2 20 = true := by decide +kernel
theorem nn4 : noE ({ data := #[0, 1, 5, 97, 98] } : ByteArray) 3 8 = true := by decide +kernel
theorem nn5 : noE (({ data := #[0, 1, 1, 97, 0, 1, 49, 1, 50] } : ByteArray) ++ { data := #[0] }) 9 20 = true := by decide +kernel
theorem nn6 : noE (({ data := #[0, 1, 1, 97, 0, 1, 49, 1, 50] } : ByteArray) ++ { data := #[5] }) 9 20 = true := by decide +kernel
theorem nn7 : noE (({ data := #[0, 1, 1, 97, 0, 1, 49, 1, 50] } : ByteArray) ++ { data := #[1, 0, 33] }) 11 20 = true := by decide +kernel
theorem nn8 : noE (({ data := #[0, 1, 1, 97, 0, 1, 49, 1, 50] } : ByteArray) ++ { data := #[1, 0, 1, 1, 98, 7] }) 14 20 = true := by decide +kernel
theorem nn9 : noE (({ data := #[0, 1, 1, 97, 0, 1, 49, 1, 50] } : ByteArray) ++ { data := #[1, 0, 0, 1, 8] }) 13 20 = true := by decide +kernel
theorem nn10 : noE (({ data := #[0, 1, 1, 97, 0, 1, 49, 1, 50] } : ByteArray) ++ { data := #[1, 0, 0, 1, 2, 1] }) 14 20 = true := by decide +kernel
theorem nn11 : noE ({ data := #[0, 0, 0] } : ByteArray) 2 10 = true := by decide +kernel
theorem nn12 : noE ({ data := #[128, 0] } : ByteArray) 0 11 = true := by decide +kernel
def deepN : Nat → ByteArray
  | 0 => ({ data := #[0, 1, 1, 97, 0, 1, 49, 1, 50] } : ByteArray) ++ { data := #[1, 0, 0, 1] }
  | k + 1 => deepN k ++ { data := #[2, 2] }
theorem deepN_size : ∀ k, (deepN k).size = 13 + 2 * k
  | 0 => by decide +kernel
  | k + 1 => by
    show (deepN k ++ _).size = _
    rw [ByteArray.size_append, deepN_size k]
    show 13 + 2 * k + 2 = _
    omega
theorem nd1 : noE (deepN 8 ++ { data := #[2, 2] }) ((deepN 8).size : Int) 21 = true := by decide +kernel
theorem nd2 : noE (deepN 8) ((deepN 8).size : Int) 8 = true := by decide +kernel
theorem nor : noE (({ data := #[0, 2] } ++ (⟨(bytesL [97]).toArray⟩ : ByteArray)) ++ ⟨(bytesL [111, 114]).toArray⟩) (2 + (((⟨(bytesL [97]).toArray⟩ : ByteArray).size : Nat) : Int)) 4 = true := by decide +kernel
end Go.Proofs.YtdpjjnbelgaagaaGreatDoor
