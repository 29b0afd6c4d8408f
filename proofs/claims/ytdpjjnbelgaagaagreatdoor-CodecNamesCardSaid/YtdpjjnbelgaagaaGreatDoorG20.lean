/- CodecNames: a region that draws its order (data are put together), by one invariant. Conditions: as each theorem names them. -/
import Derived.Test.YtdpjjnbelgaagaaGreatDoorG19
import Derived.Great.BuildSlice
import Derived.Laws.Tables
import Derived.OwnWalk
namespace Go.Proofs.YtdpjjnbelgaagaaGreatDoor
open Go.ChangeShapes Go.WideShapes Go.ChangeAt Go.RowKit Go.Deep
set_option maxRecDepth 100000

theorem ready_un {md : Region.Mode} {ops : Array Oper} {listed : Array Bool} {i : Nat} (h : i ∈ Region.ready md ops listed) : i < listed.size ∧ listed[i]? = some false := by
  unfold Region.ready at h
  have h2 := (List.mem_filter.1 h).2
  simp only [Bool.and_eq_true, Bool.not_eq_true'] at h2
  have h3 := h2.1
  cases h4 : listed[i]? with
  | none => simp [Array.getD_eq_getD_getElem?, h4] at h3
  | some b =>
    simp [Array.getD_eq_getD_getElem?, h4] at h3
    subst h3
    exact ⟨(Array.getElem?_eq_some_iff.1 h4).1, rfl⟩
theorem ready_after {md : Region.Mode} {ops : Array Oper} {listed : Array Bool} {i : Nat} (h : i ∈ Region.ready md ops listed) : ∃ o, ops[i]? = some o ∧ ∀ e ∈ o.after.toList, Region.binds md e = true → listed.getD e.on false = true := by
  unfold Region.ready at h
  have h2 := (List.mem_filter.1 h).2
  simp only [Bool.and_eq_true] at h2
  have h3 := h2.2
  cases ho : ops[i]? with
  | none => rw [ho] at h3; simp at h3
  | some o =>
    rw [ho] at h3
    simp only [Option.map_some, Option.getD_some] at h3
    refine ⟨o, rfl, fun e he hb => ?_⟩
    rw [Array.all_eq_true_iff_forall_mem] at h3
    have h4 := h3 e (by simpa using he)
    simpa [hb] using h4
theorem count_set {l : List Bool} {i : Nat} (h : l[i]? = some false) : (l.set i true).count false + 1 = l.count false := by
  induction l generalizing i with
  | nil => simp at h
  | cons b l ih =>
    cases i with
    | zero =>
      simp at h
      subst h
      simp
    | succ i =>
      simp only [List.getElem?_cons_succ] at h
      have := ih h
      simp only [List.set_cons_succ, List.count_cons]
      omega
theorem wpAny_inv {P : Program} {md : Region.Mode} {ops : Array Oper} {Q : Exit → Act → World → Prop} (Inv : Array Bool → Act → World → Prop)
    (hstep : ∀ listed a w i, Inv listed a w → i ∈ Region.ready md ops listed → wpOp P ops Q i (fun a' w' => Inv (listed.setIfInBounds i true) a' w') a w)
    (hdone : ∀ listed a w, Inv listed a w → Region.ready md ops listed = [] → Q .normal a w) :
    ∀ (fuel : Nat) (listed : Array Bool) (a : Act) (w : World), listed.toList.count false ≤ fuel → Inv listed a w → wpAny P md ops Q fuel listed a w
  | 0, listed, a, w, hc, h => by
    have hr : Region.ready md ops listed = [] := by
      cases hr : Region.ready md ops listed with
      | nil => rfl
      | cons i l =>
        have h1 := ready_un (show i ∈ Region.ready md ops listed by rw [hr]; exact List.mem_cons_self)
        have h2 : false ∈ listed.toList := by
          have := h1.2
          rw [← Array.getElem?_toList] at this
          exact List.mem_of_getElem? this
        have := List.count_pos_iff.2 h2
        omega
    exact ⟨hr, hdone _ _ _ h hr⟩
  | fuel + 1, listed, a, w, hc, h => by
    refine ⟨fun hr => hdone _ _ _ h hr, fun i hi => ?_⟩
    refine wpOp_mono (fun a' w' h' => wpAny_inv Inv hstep hdone fuel _ a' w' ?_ h') (hstep _ _ _ i h hi)
    have h1 := ready_un hi
    have h2 : listed.toList[i]? = some false := by rw [Array.getElem?_toList]; exact h1.2
    have h3 := count_set h2
    rw [Array.toList_setIfInBounds]
    omega

/-! A frame whose midst, from slot 38 on, is written. -/
abbrev frm (F mid B : List Value) : Act := { tmps := (F ++ mid ++ B).toArray, defers := [] }
theorem frm_eval {F mid B : List Value} {n d : Nat} (hF : F.length = n) (hd : d < mid.length) : (frm F mid B).eval (.tmp (n + d)) = (mid[d]?).getD undef := by
  have h : ¬ n + d < n := by omega
  simp [Act.eval, List.getElem?_append, hF, hd, h]
theorem frm_put {F mid B : List Value} {n d : Nat} (hF : F.length = n) (hd : d < mid.length) (v : Value) : (frm F mid B).put (some (n + d)) v = frm F (mid.set d v) B := by
  simp only [Act.put, frm, Act.mk.injEq, and_true]
  apply Array.toList_inj.1
  simp only [Array.toList_setIfInBounds, List.set_append, hF, List.length_append]
  rw [if_pos (by omega), if_neg (by omega), Nat.add_sub_cancel_left]
theorem frm_front {F mid B : List Value} {t : Nat} (ht : t < F.length) : (frm F mid B).eval (.tmp t) = (F[t]?).getD undef := by
  simp [Act.eval, List.getElem?_append, ht]
theorem ready_all {ops : Array Oper} {listed : Array Bool} (hlow : (ops.toList.zipIdx.all fun x => x.1.after.all fun e => decide (e.on < x.2)) = true) (hsz : listed.size = ops.size) (hr : Region.ready .any ops listed = []) : ∀ i, i < ops.size → listed.getD i false = true := by
  intro i
  induction i using Nat.strongRecOn with
  | _ i ih =>
    intro hi
    have hi2 : i < listed.size := by omega
    cases hb : listed[i] with
    | true => simp [Array.getD_eq_getD_getElem?, hi2, hb]
    | false =>
      exfalso
      have hmem : i ∈ Region.ready .any ops listed := by
        unfold Region.ready
        refine List.mem_filter.2 ⟨List.mem_range.2 hi, ?_⟩
        rw [Bool.and_eq_true]
        refine ⟨by simp [Array.getD_eq_getD_getElem?, hi2, hb], ?_⟩
        rw [Array.getElem?_eq_getElem hi]
        simp only [Option.map_some, Option.getD_some]
        rw [Array.all_eq_true_iff_forall_mem]
        intro e he
        rw [List.all_eq_true] at hlow
        have h1 := hlow (ops[i], i) (by
          refine List.mem_of_getElem? (i := i) ?_
          rw [List.getElem?_zipIdx, Array.getElem?_toList, Array.getElem?_eq_getElem hi]
          simp)
        rw [Array.all_eq_true_iff_forall_mem] at h1
        have h2 : e.on < i := by simpa using h1 e he
        rw [ih e.on h2 (by omega)]
        simp
      rw [hr] at hmem
      cases hmem
/-- There are so many values of which p holds, one behind the other. -/
def ExN : Nat → (List Value → Prop) → Prop
  | 0, p => p []
  | n + 1, p => ∃ x, ExN n fun l => p (x :: l)
theorem exN_of : ∀ (n : Nat) (p : List Value → Prop) (l : List Value), l.length = n → p l → ExN n p
  | 0, p, l, h, hp => by
    obtain rfl := List.eq_nil_of_length_eq_zero h
    exact hp
  | n + 1, p, l, h, hp => by
    cases l with
    | nil => cases h
    | cons x t => exact ⟨x, exN_of n (fun l => p (x :: l)) t (by simpa using h) hp⟩
theorem ExN.imp : ∀ {n : Nat} {p q : List Value → Prop}, (∀ l, p l → q l) → ExN n p → ExN n q
  | 0, _, _, h, hp => h [] hp
  | _ + 1, _, _, h, ⟨x, hp⟩ => ⟨x, ExN.imp (fun l => h (x :: l)) hp⟩

/-! ### The region -/
abbrev zC (s : ByteArray) : Array Value := #[.string s, .int .i64 0, .string { data := #[49] }, .string { data := #[50] }, .int .u8 2, .string ⟨#[]⟩, nilV, nilV, nilV, nilV, nilV, nilV, nilV, nilV, nilV]
abbrev pC (p : PkgD) (r : PkgR) : Array Value := #[.string p.name, .int .i64 p.ep, .string p.ver, .string p.rel, .int .u8 p.arch, .string p.vendor, r.prov, r.req, r.con, r.obs, r.reco, r.sup, r.sug, r.enh, r.files]
abbrev oC (gp : Nat) : Array Value := #[.int .i64 200, .slice (some ⟨gp, 0, none⟩) 1 1, .int .i64 0, .slice none 0 0]
abbrev nZ : ByteArray := { data := #[122] }
/-- What the slot of each operation holds. -/
def okR (n0 : World) (p : PkgD) (r : PkgR) (w : World) : Nat → Value → Prop
  | 0, v => v = p.val r
  | 1, v => ∃ gp, v = .slice (some ⟨gp, 0, none⟩) 1 1 ∧ Blk w gp 29 (pC p r)
  | 2, v => ∃ gp, v = .agg #[.int .i64 200, .slice (some ⟨gp, 0, none⟩) 1 1] ∧ Blk w gp 29 (pC p r)
  | 3, v => v = .agg #[.int .i64 0, .slice none 0 0]
  | 4, v => ∃ go gp, v = .slice (some ⟨go, 0, none⟩) 2 2 ∧ Blk w go 38 (oC gp) ∧ Blk w gp 29 (pC p r)
  | 5, v => v = .agg (zC nZ)
  | 6, v => ∃ gz, v = .slice (some ⟨gz, 0, none⟩) 1 1 ∧ Blk w gz 29 (zC nZ)
  | 7, v => ∃ go gp gz, v = .agg #[.slice (some ⟨go, 0, none⟩) 2 2, .slice (some ⟨gz, 0, none⟩) 1 1] ∧ Blk w go 38 (oC gp) ∧ Blk w gp 29 (pC p r) ∧ Blk w gz 29 (zC nZ)
  | 8, v => ∃ gd, v = .pointer (some ⟨gd, 0, none⟩) ∧ Blk w gd 41 #[.slice none 0 0, .slice none 0 0] ∧ n0.heap.size ≤ gd
  | _, _ => True
theorem Blk.bel' {w w' : World} {g : Nat} {t : TypeId} {cs : Array Value} (h : Blk w g t cs) (hb : Below w.heap.size w w') : Blk w' g t cs := h.below hb h.lt
theorem okR.bel {n0 : World} {p : PkgD} {r : PkgR} {w w' : World} (hb : Below w.heap.size w w') : ∀ {i : Nat} {v : Value}, okR n0 p r w i v → okR n0 p r w' i v
  | 0, _, h => h
  | 1, _, ⟨gp, h1, h2⟩ => ⟨gp, h1, h2.bel' hb⟩
  | 2, _, ⟨gp, h1, h2⟩ => ⟨gp, h1, h2.bel' hb⟩
  | 3, _, h => h
  | 4, _, ⟨go, gp, h1, h2, h3⟩ => ⟨go, gp, h1, h2.bel' hb, h3.bel' hb⟩
  | 5, _, h => h
  | 6, _, ⟨gz, h1, h2⟩ => ⟨gz, h1, h2.bel' hb⟩
  | 7, _, ⟨go, gp, gz, h1, h2, h3, h4⟩ => ⟨go, gp, gz, h1, h2.bel' hb, h3.bel' hb, h4.bel' hb⟩
  | 8, _, ⟨gd, h1, h2, h3⟩ => ⟨gd, h1, h2.bel' hb, h3⟩
  | _ + 9, _, _ => trivial
def slR (i : Nat) : Nat := if i = 8 then 0 else 57 + i
def finR (p : PkgD) (r : PkgR) (w : World) (v : Value) : Prop :=
  ∃ gd go gp gz, v = .pointer (some ⟨gd, 0, none⟩) ∧ Blk w gd 41 #[.slice (some ⟨go, 0, none⟩) 2 2, .slice (some ⟨gz, 0, none⟩) 1 1] ∧ Blk w go 38 (oC gp) ∧ Blk w gp 29 (pC p r) ∧ Blk w gz 29 (zC nZ)
def RInv (p : PkgD) (r : PkgR) (n0 : World) (F : List Value) (listed : Array Bool) (a : Act) (w : World) : Prop :=
  ∃ mid, a = frm F mid [] ∧ mid.length = 232 ∧ listed.size = 10 ∧ Below n0.heap.size n0 w ∧
    (listed.getD 9 false = false → ∀ i, i < 9 → listed.getD i false = true → okR n0 p r w i ((mid[slR i]?).getD undef)) ∧
    (listed.getD 9 false = true → (∀ i, i < 9 → listed.getD i false = true) ∧ finR p r w ((mid[0]?).getD undef))
abbrev opsR : List (Op × Option Nat × Option (Nat × Bool)) :=
  [(.load 29 (.tmp 1), some 59, none), (.buildSlice 36 1 #[(0, .tmp 59)], some 60, none), (.build 38 #[(0, .const (.int .i64 200)), (1, .tmp 60)], some 61, none), (.build 38 #[], some 62, none),
   (.buildSlice 39 2 #[(0, .tmp 61), (1, .tmp 62)], some 63, none), (.call { callee := .value (.func 9), args := #[.const (.string { data := #[122] })], argTypes := #[9] }, some 64, none),
   (.buildSlice 36 1 #[(0, .tmp 64)], some 65, none), (.build 41 #[(0, .tmp 63), (1, .tmp 65)], some 66, none), (.alloc 41, some 2, none), (.store 41 (.tmp 2) (.tmp 66), none, none)]
abbrev depsR : List (List Nat) := [[], [0], [1], [], [2, 3], [], [5], [4, 6], [], [0, 1, 2, 3, 4, 5, 6, 7, 8]]
theorem iPkgZ : ∃ i, Tryz.prog.info? 29 = some i ∧ i.zero = some (.agg #[.string ⟨#[]⟩, .int .i64 0, .string ⟨#[]⟩, .string ⟨#[]⟩, .int .u8 0, .string ⟨#[]⟩, nilV, nilV, nilV, nilV, nilV, nilV, nilV, nilV, nilV]) ∧ i.size = 15 ∧ i.bytes = 296 :=
  info_parts (P := Tryz.prog) (e := 29) (z := .agg #[.string ⟨#[]⟩, .int .i64 0, .string ⟨#[]⟩, .string ⟨#[]⟩, .int .u8 0, .string ⟨#[]⟩, nilV, nilV, nilV, nilV, nilV, nilV, nilV, nilV, nilV]) (size := 15) (bytes := 296) (by kernel_rfl)
theorem iRepoZ : ∃ i, Tryz.prog.info? 38 = some i ∧ i.zero = some (.agg #[.int .i64 0, nilV]) ∧ i.size = 2 ∧ i.bytes = 32 :=
  info_parts (P := Tryz.prog) (e := 38) (z := .agg #[.int .i64 0, nilV]) (size := 2) (bytes := 32) (by kernel_rfl)
section
variable {o : Oper} {a : Act} {w : World} {K : Act → World → Prop} {Q : Exit → Act → World → Prop}
theorem doR_alloc (ho : o.op = .alloc 41) (h : K (a.put o.dst (.pointer (some ⟨w.heap.size, 0, none⟩))) (w.alloc (.cells #[.slice none 0 0, .slice none 0 0] 41))) : o.wp Tryz.prog a w K Q := by
  unfold Oper.wp execOp
  simp only [ho]
  go_simp
  exact h
theorem doR_bare (ho : o.op = .call { callee := .value (.func 9), args := #[.const (.string { data := #[122] })], argTypes := #[9] })
    (hc : Calls Tryz.prog 9 #[.string { data := #[122] }] w fun e w' => ∃ u, e = .returned u ∧ K (a.put o.dst u) w') : o.wp Tryz.prog a w K Q := by
  unfold Oper.wp execOp
  simp only [ho, resolve, Sem.run_bind, List.map_toArray, List.map_cons, List.map_nil]
  go_simp
  refine hc.mono ?_
  rintro e w' ⟨u, rfl, hk⟩
  exact hk
theorem doR_build {t : TypeId} {parts : Array (Nat × Operand)} (ho : o.op = .build t parts) (vs : List (Nat × Value)) (hv : parts.toList.map (fun (i, x) => (i, a.eval x)) = vs) (cells : Array Value) (hf : Tryz.prog.built t vs = some cells) (h : K (a.put o.dst (.agg cells)) w) : o.wp Tryz.prog a w K Q := by
  rw [← Array.toList_map] at hv
  refine wp_build t parts ho (by rw [hv, hf]; rfl) ?_
  rw [hv, hf]
  exact h
theorem doR_pkgs (t0 : Nat) (cs : Array Value) (ho : o.op = .buildSlice 36 1 #[(0, .tmp t0)]) (h0 : a.eval (.tmp t0) = .agg cs) (_hcs : cs.size = 15)
    (hf : Instr.fill (fun i => some (i * 15, 15)) ((Array.range (1 * 15)).map ((#[.string ⟨#[]⟩, .int .i64 0, .string ⟨#[]⟩, .string ⟨#[]⟩, .int .u8 0, .string ⟨#[]⟩, nilV, nilV, nilV, nilV, nilV, nilV, nilV, nilV, nilV] : Array Value)[· % 15]!)) [(0, .agg cs)] = some cs)
    (h : K (a.put o.dst (.slice (some ⟨w.heap.size, 0, none⟩) 1 1)) (w.alloc (.cells cs 29))) : o.wp Tryz.prog a w K Q := by
  obtain ⟨i, hi, hz, hs, _⟩ := iPkgZ
  refine wp_buildSlice 36 29 1 _ ho cs i _ Tryz.underlying36 hi hz (by rw [hs]; omega) (by rw [hs]; omega) ?_ h
  rw [hs]
  have hv : (#[(0, Operand.tmp t0)].map fun (i, x) => (i, a.eval x)).toList = [(0, .agg cs)] := by
    rw [Array.toList_map]
    show [(0, a.eval (.tmp t0))] = _
    rw [h0]
  rw [hv]
  exact hf
theorem doR_repos (t0 t1 : Nat) (u v : Value) (ho : o.op = .buildSlice 39 2 #[(0, .tmp t0), (1, .tmp t1)]) (h0 : a.eval (.tmp t0) = .agg #[.int .i64 200, u]) (h1 : a.eval (.tmp t1) = .agg #[.int .i64 0, v])
    (hf : Instr.fill (fun i => some (i * 2, 2)) ((Array.range (2 * 2)).map ((#[.int .i64 0, nilV] : Array Value)[· % 2]!)) [(0, .agg #[.int .i64 200, u]), (1, .agg #[.int .i64 0, v])] = some #[.int .i64 200, u, .int .i64 0, v])
    (h : K (a.put o.dst (.slice (some ⟨w.heap.size, 0, none⟩) 2 2)) (w.alloc (.cells #[.int .i64 200, u, .int .i64 0, v] 38))) : o.wp Tryz.prog a w K Q := by
  obtain ⟨i, hi, hz, hs, _⟩ := iRepoZ
  refine wp_buildSlice 39 38 2 _ ho _ i _ Tryz.underlying39 hi hz (by rw [hs]; omega) (by rw [hs]; omega) ?_ h
  rw [hs]
  have hv : (#[(0, Operand.tmp t0), (1, Operand.tmp t1)].map fun (i, x) => (i, a.eval x)).toList = [(0, .agg #[.int .i64 200, u]), (1, .agg #[.int .i64 0, v])] := by
    rw [Array.toList_map]
    show [(0, a.eval (.tmp t0)), (1, a.eval (.tmp t1))] = _
    rw [h0, h1]
  rw [hv]
  exact hf
end
theorem RInv.close {n0 : World} {p : PkgD} {r : PkgR} {F mid : List Value} {w w' : World} {listed : Array Bool} (hF : F.length = 2) (hm : mid.length = 232) (hl : listed.size = 10) (hb : Below n0.heap.size n0 w) (h9 : listed.getD 9 false = false)
    (hs : ∀ i, i < 9 → listed.getD i false = true → okR n0 p r w i ((mid[slR i]?).getD undef)) {i : Nat} (hi : i < 9) (v : Value) (hv : okR n0 p r w' i v) (hw : Below w.heap.size w w') :
    RInv p r n0 F (listed.setIfInBounds i true) ((frm F mid []).put (some (2 + slR i)) v) w' := by
  have hsl : ∀ j, j < 9 → slR j < 232 := fun j hj => by unfold slR; split <;> omega
  have hne : ∀ j k, j < 9 → k < 9 → j ≠ k → slR j ≠ slR k := fun j k hj hk h => by unfold slR; split <;> split <;> omega
  refine ⟨mid.set (slR i) v, frm_put hF (by have := hsl i hi; omega) v, by rw [List.length_set]; exact hm, by simpa using hl, below_t' hb hw, fun _ j hj hlj => ?_, fun h => ?_⟩
  · by_cases hji : j = i
    · subst hji
      rw [List.getElem?_set_self (by have := hsl j hj; omega)]
      exact hv
    · rw [List.getElem?_set_ne (hne i j hi hj fun e => hji e.symm)]
      refine okR.bel hw (hs j hj ?_)
      simpa [Array.getD_eq_getD_getElem?, Array.getElem?_setIfInBounds_ne (fun e => hji e.symm : i ≠ j)] using hlj
  · exfalso
    have h10 : (listed.setIfInBounds i true).getD 9 false = listed.getD 9 false := by
      simp [Array.getD_eq_getD_getElem?, Array.getElem?_setIfInBounds_ne (by omega : i ≠ 9)]
    rw [h10, h9] at h
    cases h
theorem rinv_step {n0 : World} {p : PkgD} {r : PkgR} {F : List Value} {bp : Nat} {ops : Array Oper} {Q : Exit → Act → World → Prop} (hF : F.length = 2) (hF1 : (F[1]?).getD undef = .pointer (some ⟨bp, 0, none⟩)) (hbp : ∀ W, Below n0.heap.size n0 W → Blk W bp 29 (pC p r)) (_hone : (pC p r).all (·.oneCell') = true)
    (hfill : Instr.fill (fun i => some (i * 15, 15)) ((Array.range (1 * 15)).map ((#[.string ⟨#[]⟩, .int .i64 0, .string ⟨#[]⟩, .string ⟨#[]⟩, .int .u8 0, .string ⟨#[]⟩, nilV, nilV, nilV, nilV, nilV, nilV, nilV, nilV, nilV] : Array Value)[· % 15]!)) [(0, .agg (pC p r))] = some (pC p r))
    (hops : (ops.toList.map fun o => (o.op, o.dst, o.guard)) = opsR)
    (hdeps : ((ops.toList.zip depsR).all fun x => x.2.all fun d => x.1.after.any fun e => e.on == d && Region.binds .any e) = true)
    (listed : Array Bool) (a : Act) (w : World) (i : Nat) (hinv : RInv p r n0 F listed a w) (hi : i ∈ Region.ready .any ops listed) :
    wpOp Tryz.prog ops Q i (fun a' w' => RInv p r n0 F (listed.setIfInBounds i true) a' w') a w := by
  obtain ⟨mid, rfl, hm, hl, hb, hs, hlast⟩ := hinv
  obtain ⟨hi1, hun⟩ := ready_un hi
  obtain ⟨o, ho, haft⟩ := ready_after hi
  have hoL : ops.toList[i]? = some o := by rw [Array.getElem?_toList]; exact ho
  have h3 : some (o.op, o.dst, o.guard) = opsR[i]? := by
    have h4 := congrArg (fun l => l[i]?) hops
    simp only [List.getElem?_map, hoL, Option.map_some] at h4
    exact h4
  have hi10 : i < 10 := by omega
  have hdep : ∀ ds, depsR[i]? = some ds → ∀ x ∈ ds, listed.getD x false = true := fun ds hds x hx => by
    rw [List.all_eq_true] at hdeps
    have h5 := hdeps (o, ds) (List.mem_of_getElem? (i := i) (by rw [List.getElem?_zip_eq_some]; exact ⟨hoL, hds⟩))
    rw [List.all_eq_true] at h5
    have h6 := h5 x hx
    rw [Array.any_eq_true] at h6
    obtain ⟨j, hj, h7⟩ := h6
    simp only [Bool.and_eq_true, beq_iff_eq] at h7
    rw [← h7.1]
    exact haft _ (by simp) h7.2
  have hiF : listed.getD i false = false := by rw [Array.getD_eq_getD_getElem?, hun]; rfl
  have h9 : listed.getD 9 false = false := by
    cases hc : listed.getD 9 false with
    | false => rfl
    | true =>
      by_cases e : i = 9
      · rw [e] at hiF; rw [hiF] at hc; cases hc
      · have := (hlast hc).1 i (by omega)
        rw [hiF] at this
        cases this
  replace hs := hs h9
  have hev : ∀ j, j < 9 → (frm F mid []).eval (.tmp (2 + slR j)) = (mid[slR j]?).getD undef := fun j hj => frm_eval hF (by unfold slR; split <;> omega)
  have hcl := fun (hi9 : i < 9) (v : Value) (w' : World) (h1 : okR n0 p r w' i v) (h2 : Below w.heap.size w w') => RInv.close hF hm hl hb h9 hs hi9 v h1 h2
  unfold wpOp
  rw [ho]
  have hcases : i = 0 ∨ i = 1 ∨ i = 2 ∨ i = 3 ∨ i = 4 ∨ i = 5 ∨ i = 6 ∨ i = 7 ∨ i = 8 ∨ i = 9 := by omega
  rcases hcases with rfl | rfl | rfl | rfl | rfl | rfl | rfl | rfl | rfl | rfl
  all_goals
    obtain ⟨hop, hrest⟩ := Prod.mk.inj (Option.some.inj h3)
    obtain ⟨hdst, hgd⟩ := Prod.mk.inj hrest
    simp only [Region.wanted, hgd, if_true]
    refine Or.inl ?_
  · replace hcl := hcl (by omega)
    rw [show (some (2 + slR 0) : Option Nat) = o.dst from hdst.symm] at hcl
    refine wp_load_row 29 (.tmp 1) hop bp ((frm_front (by omega)).trans hF1) 29 (pC p r) (0, 0) _ (hbp w hb) Tryz.underlying29 rfl (by kernel_rfl) (hcl _ _ rfl (Below.refl _ _))
  · replace hcl := hcl (by omega)
    rw [show (some (2 + slR 1) : Option Nat) = o.dst from hdst.symm] at hcl
    have h0 := hs 0 (by omega) (hdep _ rfl 0 (by simp))
    exact doR_pkgs 59 (pC p r) hop ((hev 0 (by omega)).trans h0) rfl hfill (hcl _ _ ⟨w.heap.size, rfl, Blk.new _ _ _⟩ (new_b _ _))
  · replace hcl := hcl (by omega)
    rw [show (some (2 + slR 2) : Option Nat) = o.dst from hdst.symm] at hcl
    obtain ⟨gp, h1, h2⟩ := hs 1 (by omega) (hdep _ rfl 1 (by simp))
    refine doR_build hop [(0, .int .i64 200), (1, .slice (some ⟨gp, 0, none⟩) 1 1)] ?_ #[.int .i64 200, .slice (some ⟨gp, 0, none⟩) 1 1] (by kernel_rfl) (hcl _ _ ⟨gp, rfl, h2⟩ (Below.refl _ _))
    show [(0, .int .i64 200), (1, (frm F mid []).eval (.tmp (2 + slR 1)))] = _
    rw [hev 1 (by omega), h1]
  · replace hcl := hcl (by omega)
    rw [show (some (2 + slR 3) : Option Nat) = o.dst from hdst.symm] at hcl
    exact doR_build hop [] rfl #[.int .i64 0, .slice none 0 0] (by kernel_rfl) (hcl _ _ rfl (Below.refl _ _))
  · replace hcl := hcl (by omega)
    rw [show (some (2 + slR 4) : Option Nat) = o.dst from hdst.symm] at hcl
    obtain ⟨gp, h1, h2⟩ := hs 2 (by omega) (hdep _ rfl 2 (by simp))
    have h3 := hs 3 (by omega) (hdep _ rfl 3 (by simp))
    exact doR_repos 61 62 _ _ hop ((hev 2 (by omega)).trans h1) ((hev 3 (by omega)).trans h3) (by kernel_rfl) (hcl _ _ ⟨w.heap.size, gp, rfl, Blk.new _ _ _, h2.bel' (new_b _ _)⟩ (new_b _ _))
  · replace hcl := hcl (by omega)
    rw [show (some (2 + slR 5) : Option Nat) = o.dst from hdst.symm] at hcl
    refine doR_bare hop ((bare_any { data := #[122] } w).mono ?_)
    rintro e w' ⟨rfl, hb5⟩
    exact ⟨_, rfl, hcl _ _ rfl hb5⟩
  · replace hcl := hcl (by omega)
    rw [show (some (2 + slR 6) : Option Nat) = o.dst from hdst.symm] at hcl
    have h0 := hs 5 (by omega) (hdep _ rfl 5 (by simp))
    exact doR_pkgs 64 (zC nZ) hop ((hev 5 (by omega)).trans h0) rfl (by kernel_rfl) (hcl _ _ ⟨w.heap.size, rfl, Blk.new _ _ _⟩ (new_b _ _))
  · replace hcl := hcl (by omega)
    rw [show (some (2 + slR 7) : Option Nat) = o.dst from hdst.symm] at hcl
    obtain ⟨go, gp, h1, h2, h3⟩ := hs 4 (by omega) (hdep _ rfl 4 (by simp))
    obtain ⟨gz, h4, h5⟩ := hs 6 (by omega) (hdep _ rfl 6 (by simp))
    refine doR_build hop [(0, .slice (some ⟨go, 0, none⟩) 2 2), (1, .slice (some ⟨gz, 0, none⟩) 1 1)] ?_ #[.slice (some ⟨go, 0, none⟩) 2 2, .slice (some ⟨gz, 0, none⟩) 1 1] (by kernel_rfl) (hcl _ _ ⟨go, gp, gz, rfl, h2, h3, h5⟩ (Below.refl _ _))
    show [(0, (frm F mid []).eval (.tmp (2 + slR 4))), (1, (frm F mid []).eval (.tmp (2 + slR 6)))] = _
    rw [hev 4 (by omega), h1, hev 6 (by omega), h4]
  · replace hcl := hcl (by omega)
    rw [show (some (2 + slR 8) : Option Nat) = o.dst from hdst.symm] at hcl
    exact doR_alloc hop (hcl _ _ ⟨w.heap.size, rfl, Blk.new _ _ _, hb.size⟩ (new_b _ _))
  · obtain ⟨gd, h1, h2, h2'⟩ := hs 8 (by omega) (hdep _ rfl 8 (by simp))
    obtain ⟨go, gp, gz, h3, h4, h5, h6⟩ := hs 7 (by omega) (hdep _ rfl 7 (by simp))
    refine wp_store_row 41 (.tmp 2) (.tmp 66) hop gd #[.slice (some ⟨go, 0, none⟩) 2 2, .slice (some ⟨gz, 0, none⟩) 1 1] ((hev 8 (by omega)).trans h1) ((hev 7 (by omega)).trans h3) 41 _ h2 (by kernel_rfl) rfl (by simp [Value.oneCell']) ?_
    have hput : (frm F mid []).put o.dst undef = frm F mid [] := by
      rw [show o.dst = none from hdst]
      rfl
    rw [hput]
    have hfar : ∀ {g : Nat} {t : TypeId} {cs : Array Value}, Blk w g t cs → 41 ≠ t → Blk (w.setRow gd #[.slice (some ⟨go, 0, none⟩) 2 2, .slice (some ⟨gz, 0, none⟩) 1 1]) g t cs := fun {g t cs} hg hne => hg.keep (setRow_other w gd g _ fun e => h2.ne_ hg hne e.symm)
    refine ⟨mid, rfl, hm, by simpa using hl, bel_setRow hb h2' _, fun h => ?_, fun _ => ⟨fun j hj => ?_, gd, go, gp, gz, h1, h2.row _, hfar h4 (by decide), hfar h5 (by decide), hfar h6 (by decide)⟩⟩
    · exfalso
      simp [Array.getD_eq_getD_getElem?, hl] at h
    · have hj2 := hdep _ rfl j (by simp; omega)
      simpa [Array.getD_eq_getD_getElem?, Array.getElem?_setIfInBounds_ne (by omega : (9 : Nat) ≠ j)] using hj2
theorem frm_split2 (L : List Value) : frm (L.take 2) (L.drop 2) [] = { tmps := L.toArray, defers := [] } := by
  unfold frm
  rw [List.append_nil, List.take_append_drop]
theorem data_region {L : List Value} {n0 : World} {p : PkgD} {r : PkgR} {bp : Nat} {ops : Array Oper} {Q : Exit → Act → World → Prop} {id : Nat} (hL : L.length = 234) (hsz : ops.size = 10) (hF1 : (L[1]?).getD undef = .pointer (some ⟨bp, 0, none⟩))
    (hbp : ∀ W, Below n0.heap.size n0 W → Blk W bp 29 (pC p r)) (hone : (pC p r).all (·.oneCell') = true)
    (hfill : Instr.fill (fun i => some (i * 15, 15)) ((Array.range (1 * 15)).map ((#[.string ⟨#[]⟩, .int .i64 0, .string ⟨#[]⟩, .string ⟨#[]⟩, .int .u8 0, .string ⟨#[]⟩, nilV, nilV, nilV, nilV, nilV, nilV, nilV, nilV, nilV] : Array Value)[· % 15]!)) [(0, .agg (pC p r))] = some (pC p r))
    (hops : (ops.toList.map fun o => (o.op, o.dst, o.guard)) = opsR)
    (hdeps : ((ops.toList.zip depsR).all fun x => x.2.all fun d => x.1.after.any fun e => e.on == d && Region.binds .any e) = true)
    (hlow : (ops.toList.zipIdx.all fun x => x.1.after.all fun e => decide (e.on < x.2)) = true)
    (hK : ∀ a' W v, Below n0.heap.size n0 W → finR p r W v → ExN 232 (fun l => ((l[0]?).getD undef = v) ∧ a' = frm (L.take 2) l []) → Q .normal a' W) :
    (Code.region id ops true).wp Tryz.prog Q { tmps := L.toArray, defers := [] } n0 := by
  rw [← frm_split2 L]
  have hF : (L.take 2).length = 2 := by rw [List.length_take]; omega
  have hF1' : ((L.take 2)[1]?).getD undef = .pointer (some ⟨bp, 0, none⟩) := by rw [List.getElem?_take_of_lt (by omega)]; exact hF1
  have hm : (L.drop 2).length = 232 := by rw [List.length_drop]; omega
  refine wp_region_any (by kernel_rfl) (wpAny_inv (RInv p r n0 (L.take 2)) (fun listed a w i h hi => rinv_step hF hF1' hbp hone hfill hops hdeps listed a w i h hi) (fun listed a w h hr => ?_) ops.size _ _ _ (by simp) ?_)
  · obtain ⟨mid, rfl, h1, h2, h3, _, h5⟩ := h
    have hall := ready_all hlow (by omega) hr
    obtain ⟨_, h6⟩ := h5 (hall 9 (by omega))
    exact hK _ w _ h3 h6 (exN_of 232 _ mid h1 ⟨rfl, rfl⟩)
  · have hrep : ∀ j, (Array.replicate ops.size false).getD j false = false := fun j => by
      rw [Array.getD_eq_getD_getElem?, Array.getElem?_replicate]
      split <;> rfl
    refine ⟨_, rfl, hm, by simp [hsz], (Below.refl _ n0).drew, fun _ j _ hj => ?_, fun h => ?_⟩
    · rw [hrep] at hj; cases hj
    · rw [hrep] at h; cases h
end Go.Proofs.YtdpjjnbelgaagaaGreatDoor

namespace Go.Proofs.YtdpjjnbelgaagaaGreatDoor
open Go.ChangeShapes Go.WideShapes Go.ChangeAt Go.RowKit Go.Deep
set_option maxRecDepth 100000

/-- A list in a block of its own. -/
theorem LIn.blk {α : Type} {K : Kd α} {B : World → Nat → Prop} {w : World} {g : Nat} {t : TypeId} {l : List α} (ps : List (α × K.R)) (hl : ps.map Prod.fst = l) {n : Nat} (hn : ps.length = n) (hn2 : n ≤ 4611686018427387904) {cs : List Value} (hcs : enL K ps = cs) (hb : Blk w g t cs.toArray) (hh : ∀ p ∈ ps, K.holds B w p.1 p.2) (hB : B w g) :
    LIn K B w l (.slice (some ⟨g, 0, none⟩) n n) := by
  subst hl hn hcs
  refine ⟨some ⟨g, 0, none⟩, ps.length, by rw [List.length_map], by rw [List.length_map]; exact hn2, fun j hj => ?_⟩
  have hj' : j < ps.length := by rwa [List.length_map] at hj
  refine ⟨g, 0, ps[j].2, rfl, hB, ⟨hb.lt, fun i hi => ?_⟩, ?_⟩
  · rw [K.len] at hi
    rw [hb.cell, Nat.zero_add, List.getElem_map]
    have := enL_at K ps j hj' i hi
    simpa using this
  · rw [List.getElem_map]
    exact hh ps[j] (List.getElem_mem _)
theorem Blk.newAt {w : World} {g : Nat} {t : TypeId} {cs : Array Value} (h : g = w.heap.size) : Blk (w.alloc (.cells cs t)) g t cs := h ▸ Blk.new w t cs
abbrev badC : Array Value := #[.string { data := #[97] }, .int .i64 0, .string { data := #[49] }, .string { data := #[50] }, .int .u8 9, .string ⟨#[]⟩, nilV, nilV, nilV, nilV, nilV, nilV, nilV, nilV, nilV]
def badP : PkgD := ⟨{ data := #[97] }, 0, { data := #[49] }, { data := #[50] }, 9, ⟨#[]⟩, [], nilR, nilR, [], nilR, nilR, nilR, nilR, []⟩
theorem bad_in (B : World → Nat → Prop) (w : World) : PkgIn B w badP nilPR := by
  have h := bare_in B { data := #[97] } (by show (1 : Nat) ≤ _; omega) w
  exact ⟨h.s1, h.s2, h.s3, h.s4, by show (0 : Int) ≤ 9 ∧ (9 : Int) < 256; omega, h.ep, h.prov, h.req, h.con, h.obs, h.reco, h.sup, h.sug, h.enh, h.files⟩
def zeroP : PkgD := ⟨⟨#[]⟩, 0, ⟨#[]⟩, ⟨#[]⟩, 0, ⟨#[]⟩, [], nilR, nilR, [], nilR, nilR, nilR, nilR, []⟩
theorem zeroP_in (B : World → Nat → Prop) (w : World) : PkgIn B w zeroP nilPR := by
  have h := bare_in B ⟨#[]⟩ (Nat.zero_le _) w
  exact ⟨h.s1, Nat.zero_le _, Nat.zero_le _, h.s4, by show (0 : Int) ≤ 0 ∧ (0 : Int) < 256; omega, h.ep, h.prov, h.req, h.con, h.obs, h.reco, h.sup, h.sug, h.enh, h.files⟩
def d1 : DataD := ⟨[], [badP]⟩
def d2 : DataD := ⟨[⟨1025, [badP]⟩], []⟩
def d3 : DataD := ⟨[⟨-1, []⟩], []⟩
def d4 : DataD := ⟨List.replicate 17 ⟨0, []⟩, []⟩
def d5 : DataD := ⟨[⟨0, List.replicate 200 zeroP⟩], List.replicate 57 zeroP⟩
theorem cd1 : checkE d1 = 4 := by decide +kernel
theorem cd2 : checkE d2 = 20 := by decide +kernel
theorem cd3 : checkE d3 = 20 := by decide +kernel
theorem cd4 : checkE d4 = 40 := by decide +kernel
theorem cd5 : checkE d5 = 40 := by decide +kernel
theorem wd1 : wtA d1 ≤ 100000 := by decide +kernel
theorem wd2 : wtA d2 ≤ 100000 := by decide +kernel
theorem wd3 : wtA d3 ≤ 100000 := by decide +kernel
theorem wd4 : wtA d4 ≤ 100000 := by decide +kernel
theorem wd5 : wtA d5 ≤ 100000 := by decide +kernel
section
variable {X : World} {g g1 g2 g3 : Nat}
abbrev CkPost (X : World) (e : Int) : Ending → World → Prop := fun r w' => r = .returned (.int .i64 e) ∧ Below X.heap.size X w'
theorem ck1 (hT : Words X ∧ Ops X) (h : Blk X g 29 badC) : Calls Tryz.prog 15 #[.agg #[.slice none 0 0, .slice (some ⟨g, 0, none⟩) 1 1]] X (CkPost X 4) :=
  check_call cd1 (data_few (by have := wd1; omega)) X ⟨LIn.nil _ _ _, LIn.one1 (K := pkgK) (r := nilPR) (x := badP) (t := 29) h (bad_in _ _)⟩ hT.1 hT.2
theorem ck2 (hT : Words X ∧ Ops X) (h2 : Blk X g2 38 #[.int .i64 1025, .slice (some ⟨g1, 0, none⟩) 1 1]) (h1 : Blk X g1 29 badC) : Calls Tryz.prog 15 #[.agg #[.slice (some ⟨g2, 0, none⟩) 1 1, .slice none 0 0]] X (CkPost X 20) :=
  check_call cd2 (data_few (by have := wd2; omega)) X ⟨LIn.one1 (K := repoK) (r := .slice (some ⟨g1, 0, none⟩) 1 1) (x := ⟨1025, [badP]⟩) (t := 38) h2 ⟨by show -9223372036854775808 ≤ (1025 : Int) ∧ (1025 : Int) ≤ 9223372036854775807; omega, LIn.one1 (K := pkgK) (r := nilPR) (x := badP) (t := 29) h1 (bad_in _ _)⟩, LIn.nil _ _ _⟩ hT.1 hT.2
theorem ck3 (hT : Words X ∧ Ops X) (h2 : Blk X g2 38 #[.int .i64 (-1), .slice none 0 0]) : Calls Tryz.prog 15 #[.agg #[.slice (some ⟨g2, 0, none⟩) 1 1, .slice none 0 0]] X (CkPost X 20) :=
  check_call cd3 (data_few (by have := wd3; omega)) X ⟨LIn.one1 (K := repoK) (r := .slice none 0 0) (x := ⟨-1, []⟩) (t := 38) h2 ⟨by show -9223372036854775808 ≤ (-1 : Int) ∧ (-1 : Int) ≤ 9223372036854775807; omega, LIn.nil _ _ _⟩, LIn.nil _ _ _⟩ hT.1 hT.2
abbrev zRepo : Array Value := #[.int .i64 0, .slice none 0 0]
abbrev zPkg : Array Value := #[.string ⟨#[]⟩, .int .i64 0, .string ⟨#[]⟩, .string ⟨#[]⟩, .int .u8 0, .string ⟨#[]⟩, nilV, nilV, nilV, nilV, nilV, nilV, nilV, nilV, nilV]
theorem LIn.made {α : Type} {K : Kd α} {X : World} {g : Nat} {t : TypeId} {n N : Nat} {x : α} {r : K.R} {z : Array Value} (hz : z = (K.cells x r).toArray) (_hK : 0 < K.size) (hN : N = n * K.size) (hn : n ≤ 4611686018427387904) (h : Blk X g t (madeCells z N)) (hx : K.holds anyB X x r) :
    LIn K anyB X (List.replicate n x) (.slice (some ⟨g, 0, none⟩) n n) := by
  subst hz hN
  refine ⟨some ⟨g, 0, none⟩, n, by rw [List.length_replicate], by rw [List.length_replicate]; exact hn, fun j hj => ?_⟩
  rw [List.length_replicate] at hj
  refine ⟨g, 0, r, rfl, trivial, ⟨h.lt, fun i hi => ?_⟩, ?_⟩
  · rw [K.len] at hi
    rw [List.getElem_replicate]
    have hlt : j * K.size + i < n * K.size := by
      have := Nat.mul_le_mul_right K.size (show j + 1 ≤ n by omega)
      rw [Nat.add_mul] at this
      omega
    have hmod : (j * K.size + i) % K.size = i := by rw [Nat.mul_comm, Nat.mul_add_mod, Nat.mod_eq_of_lt hi]
    have hsz : (K.cells x r).toArray.size = K.size := by rw [List.size_toArray, K.len]
    have hlen : i < (K.cells x r).length := by rw [K.len]; exact hi
    rw [h.cell, Nat.zero_add]
    unfold madeCells
    rw [Array.getElem?_map, Array.getElem?_range, if_pos hlt]
    simp [hsz, hmod, hlen]
  · rw [List.getElem_replicate]
    exact hx
theorem repos17 (h : Blk X g 38 (madeCells zRepo 34)) : LIn repoK anyB X (List.replicate 17 ⟨0, []⟩) (.slice (some ⟨g, 0, none⟩) 17 17) :=
  LIn.made (K := repoK) (x := ⟨0, []⟩) (r := .slice none 0 0) rfl (by show 0 < 2; omega) rfl (by decide) h ⟨by show -9223372036854775808 ≤ (0 : Int) ∧ (0 : Int) ≤ 9223372036854775807; omega, LIn.nil _ _ _⟩
theorem pkgs200 (h : Blk X g 29 (madeCells zPkg 3000)) : LIn pkgK anyB X (List.replicate 200 zeroP) (.slice (some ⟨g, 0, none⟩) 200 200) :=
  LIn.made (K := pkgK) (x := zeroP) (r := nilPR) rfl (by show 0 < 15; omega) rfl (by decide) h (zeroP_in _ _)
theorem pkgs57 (h : Blk X g 29 (madeCells zPkg 855)) : LIn pkgK anyB X (List.replicate 57 zeroP) (.slice (some ⟨g, 0, none⟩) 57 57) :=
  LIn.made (K := pkgK) (x := zeroP) (r := nilPR) rfl (by show 0 < 15; omega) rfl (by decide) h (zeroP_in _ _)
theorem ck4 (hT : Words X ∧ Ops X) (h : Blk X g 38 (madeCells zRepo 34)) : Calls Tryz.prog 15 #[.agg #[.slice (some ⟨g, 0, none⟩) 17 17, .slice none 0 0]] X (CkPost X 40) :=
  check_call cd4 (data_few (by have := wd4; omega)) X ⟨repos17 h, LIn.nil _ _ _⟩ hT.1 hT.2
theorem ck5 (hT : Words X ∧ Ops X) (h2 : Blk X g2 38 #[.int .i64 0, .slice (some ⟨g1, 0, none⟩) 200 200]) (h1 : Blk X g1 29 (madeCells zPkg 3000)) (h3 : Blk X g3 29 (madeCells zPkg 855)) : Calls Tryz.prog 15 #[.agg #[.slice (some ⟨g2, 0, none⟩) 1 1, .slice (some ⟨g3, 0, none⟩) 57 57]] X (CkPost X 40) :=
  check_call cd5 (data_few (by have := wd5; omega)) X ⟨LIn.one1 (K := repoK) (r := .slice (some ⟨g1, 0, none⟩) 200 200) (x := ⟨0, List.replicate 200 zeroP⟩) (t := 38) h2 ⟨by show -9223372036854775808 ≤ (0 : Int) ∧ (0 : Int) ≤ 9223372036854775807; omega, pkgs200 h1⟩, pkgs57 h3⟩ hT.1 hT.2
end
theorem mk17 (u : World) : (Instr.makeSlice 39 (.int .i64 17) (.int .i64 17)).run Tryz.prog u = .ok (.slice (some ⟨u.heap.size, 0, none⟩) 17 17) (u.alloc (.cells (madeCells zRepo 34) 38)) := by
  obtain ⟨i, hi, hz, hs, hb⟩ := iRepoZ
  have h := run_make (P := Tryz.prog) u 39 38 i _ Tryz.underlying39 hi hz .i64 .i64 17 17 (by omega) (Int.le_refl _) (by rw [hb]; omega) (by omega)
  rw [hs] at h
  exact h
theorem mk200 (u : World) : (Instr.makeSlice 36 (.int .i64 200) (.int .i64 200)).run Tryz.prog u = .ok (.slice (some ⟨u.heap.size, 0, none⟩) 200 200) (u.alloc (.cells (madeCells zPkg 3000) 29)) := by
  obtain ⟨i, hi, hz, hs, hb⟩ := iPkgZ
  have h := run_make (P := Tryz.prog) u 36 29 i _ Tryz.underlying36 hi hz .i64 .i64 200 200 (by omega) (Int.le_refl _) (by rw [hb]; omega) (by omega)
  rw [hs] at h
  exact h
theorem mk57 (u : World) : (Instr.makeSlice 36 (.int .i64 57) (.int .i64 57)).run Tryz.prog u = .ok (.slice (some ⟨u.heap.size, 0, none⟩) 57 57) (u.alloc (.cells (madeCells zPkg 855) 29)) := by
  obtain ⟨i, hi, hz, hs, hb⟩ := iPkgZ
  have h := run_make (P := Tryz.prog) u 36 29 i _ Tryz.underlying36 hi hz .i64 .i64 57 57 (by omega) (Int.le_refl _) (by rw [hb]; omega) (by omega)
  rw [hs] at h
  exact h
end Go.Proofs.YtdpjjnbelgaagaaGreatDoor
