/- Lists of Deps in memory; appends inside a fence; shape.Atoms. Conditions: as each theorem names them. -/
import Derived.Test.YtadogjnoklabdaaDoorH16
namespace Go.Proofs.YtadogjnoklabdaaDoor
open Go.ChangeShapes Go.WideShapes Go.ChangeAt Go.RowKit Go.Deep Go.Shelf
set_option maxRecDepth 100000
attribute [local go_sem] Oper.semAt_some

abbrev DepD.cs (d : DepD) : List Value := [.string d.name, .int .u8 d.op, .int .i64 d.ep, .string d.ver, .string d.rel]
def enD : List DepD → List Value | [] => [] | d :: l => d.cs ++ enD l
theorem enD_app : (a b : List DepD) → enD (a ++ b) = enD a ++ enD b
  | [], _ => rfl
  | d :: a, b => by
    show d.cs ++ enD (a ++ b) = (d.cs ++ enD a) ++ enD b
    rw [enD_app a b, List.append_assoc]
theorem enD_len : (l : List DepD) → (enD l).length = l.length * 5
  | [] => rfl
  | d :: l => by
    show (d.cs ++ enD l).length = _
    rw [List.length_append, enD_len l]
    show 5 + l.length * 5 = (l.length + 1) * 5
    omega
theorem enD_one : (l : List DepD) → ∀ u ∈ enD l, u.oneCell' = true
  | [], u, h => by cases h
  | d :: l, u, h => by
    rcases List.mem_append.1 h with h | h
    · simp only [List.mem_cons, List.not_mem_nil, or_false] at h
      rcases h with rfl | rfl | rfl | rfl | rfl <;> rfl
    · exact enD_one l u h
theorem enD_at : (l : List DepD) → (j : Nat) → (hj : j < l.length) → ∀ i, i < 5 → (enD l)[j * 5 + i]? = l[j].cs[i]?
  | d :: l, 0, _, i, hi => by
    show (d.cs ++ enD l)[0 * 5 + i]? = d.cs[i]?
    rw [Nat.zero_mul, Nat.zero_add, List.getElem?_append_left hi]
  | d :: l, j + 1, hj, i, hi => by
    show (d.cs ++ enD l)[(j + 1) * 5 + i]? = _
    rw [List.getElem?_append_right (by show 5 ≤ _; omega), show (j + 1) * 5 + i - d.cs.length = j * 5 + i from by show (j + 1) * 5 + i - 5 = _; omega, enD_at l j (by simpa using hj) i hi]
    rfl

/-- The Deps of a list of parts. -/
def keyA (l : List KeyD) : List DepD := l.filterMap fun x => if x.1 = 1 then some x.2.1 else none
def RichD.atoms : RichD → List DepD
  | .nil => []
  | .node k d n f => (if k = 1 then [d] else []) ++ catN (fun j => (f j).atoms) n
theorem keyA_cat (f : Nat → List KeyD) : ∀ n, keyA (catN f n) = catN (fun j => keyA (f j)) n
  | 0 => rfl
  | n + 1 => by
    show keyA (catN f n ++ f n) = _
    unfold keyA
    rw [List.filterMap_append]
    exact congrArg (· ++ keyA (f n)) (keyA_cat f n)
theorem catN_congr {α : Type} {f g : Nat → List α} : ∀ n, (∀ j, j < n → f j = g j) → catN f n = catN g n
  | 0, _ => rfl
  | n + 1, h => by
    simp only [catN]
    rw [catN_congr n (fun j hj => h j (by omega)), h n (by omega)]
theorem keyA_cons (k : Int) (d : DepD) (n : Nat) (al : Bool) (l : List KeyD) : keyA ((k, d, n, al) :: l) = (if k = 1 then [d] else []) ++ keyA l := by
  unfold keyA
  by_cases h : k = 1
  · simp [h]
  · simp [h]
theorem parts_atoms : (r : RichD) → (al : Bool) → keyA (r.parts al) = r.atoms
  | .nil, al => rfl
  | .node k d n f, al => by
    rw [parts_eq]
    simp only [RichD.kind, RichD.dep, RichD.n, RichD.args]
    rw [keyA_cons, keyA_cat]
    show _ = (if k = 1 then [d] else []) ++ catN (fun j => (f j).atoms) n
    rw [catN_congr n (fun j _ => parts_atoms (f j) _)]
theorem atoms_eq (r : RichD) : r.atoms = (if r.kind = 1 then [r.dep] else []) ++ catN (fun j => (r.args j).atoms) r.n := by
  cases r <;> rfl
theorem keyA_len (l : List KeyD) : (keyA l).length ≤ l.length := List.length_filterMap_le _ _
theorem atoms_len (r : RichD) : r.atoms.length ≤ r.count := by
  rw [← parts_atoms r false, ← parts_len r false]
  exact keyA_len _

/-! Appends inside a fence. -/
theorem wpListIn_append_S {F : Fence} {nn : Nat} {P : Program} {w : World} {ops : Array Oper} {rest : List Oper} {o : Oper} {a : Act} {Q : Exit → Act → World → Prop} (hgd : o.guard = none) (s sx : Operand) (t tx : TypeId)
    (ho : o.op = .call { callee := .builtin .append, args := #[s, sx], argTypes := #[t, tx] })
    (e : TypeId) (i : TypeInfo) (z : Value) (size bytes : Nat) (ht : P.underlying t = some (.slice e)) (hi : P.info? e = some i) (hz : i.zero = some z)
    (hsize : i.size = size) (hby : i.bytes = bytes) (hzs : z.cells.size = size) (hsz : 0 < size)
    (v : Value) (n : Nat) (xs : List Value) (hv : a.eval s = v) (hown : Own w e size v n xs) (h0 : ∀ u ∈ xs, u.oneCell' = true)
    (x : Value) (m : Nat) (news : List Value) (hx : a.eval sx = x) (hs : Src P size tx x m news w)
    (h63 : n + m ≤ maxLen) (hbytes : (n + m) * bytes ≤ 140737488355328)
    (h : ∀ ao' cap' w', n + m ≤ cap' → cap' ≤ maxLen → Own w' e size (.slice ao' (n + m) cap') (n + m) (xs ++ news) → w.grownBy w' v.ownBlock → ((Value.slice ao' (n + m) cap').ownBlock = v.ownBlock ∨ (Value.slice ao' (n + m) cap').ownBlock = some w.heap.size) → (∀ k, (Value.slice ao' (n + m) cap').ownBlock = some k → k < w'.heap.size) → wpListIn F nn P ops Q rest (a.put o.dst (.slice ao' (n + m) cap')) w') :
    wpListIn F nn P ops Q (o :: rest) a w := by
  refine wpListIn_plain hgd fun K hK' => ?_
  obtain ⟨v', w', hrun, h2, h3, h4, h5⟩ := run_append_O (P := P) w t tx o.type e i z size bytes ht hi hz hsize hby hzs hsz v n xs hown h0 x m news hs h63 hbytes
  obtain ⟨ao', cap', rfl, h6, h7, _⟩ := h2.form
  unfold Oper.wpIn
  refine ⟨?_, ?_⟩
  · simp [Oper.about, ho, resolve, Target.leads, Sem.run_pure]
  · rw [Oper.semAt_plain F _ _ (by rw [ho]; intro c hc'; cases hc')]
    simp [execOp, ho, resolve, invoke, builtin, hv, hx, hrun, Result.andThen]
    exact hK' _ _ (h ao' cap' w' h6 h7 h2 h3 h4 h5)
theorem own_walk {A B : World} {row : Option Nat} {e : TypeId} {size : Nat} {v : Value} {n : Nat} {xs : List Value} {n0 : Nat} (h : Own A e size v n xs) (hg : A.grownBy B row) (hr : ∀ r, row = some r → n0 ≤ r ∧ ∃ o : Obj, A.heap[r]? = some o ∧ o.isCells = false) : Own B e size v n xs :=
  h.keep fun k hk => by
    obtain ⟨cur, hb⟩ := h.blk hk
    exact (blk_walk hb hg hr).trans hb.symm
theorem keeps_own {W W' : World} {e : TypeId} {size : Nat} {v : Value} {n : Nat} {xs : List Value} (h : Own W e size v n xs) (hg : W.grownBy W' v.ownBlock) : KeepsOthers W W' :=
  ⟨hg.size, fun k o hk ho => (hg.block k (Array.getElem?_eq_some_iff.1 hk).1 (fun e => by
    obtain ⟨cur, hb⟩ := h.blk e.symm
    unfold Blk at hb
    rw [hb] at hk
    injection hk with hk
    rw [← hk] at ho
    cases ho)).trans hk⟩
theorem kp_own {W W' : World} {size : Nat} {v : Value} {n : Nat} {xs : List Value} {B n0 : Nat} (h : Own W 25 size v n xs) (hg : W.grownBy W' v.ownBlock) (hn : n0 ≤ W.heap.size) (hv : ∀ k, v.ownBlock = some k → n0 ≤ k) : Kp B n0 W W' :=
  ⟨⟨hg.size, fun k o _ hk hc hd => (hg.block k (Array.getElem?_eq_some_iff.1 hk).1 (fun e => by
    obtain ⟨cur, hb⟩ := h.blk e.symm
    unfold Blk at hb
    rw [hb] at hk
    injection hk with hk
    rw [← hk] at hd
    cases hd)).trans hk⟩, hg.os, hg.tape, hg.output, hg.size, fun k hk => hg.block k (by omega) (fun e => by have := hv k e.symm; omega)⟩
theorem src_dep (w : World) (d : DepD) : Src Tryd.prog 5 38 (.slice (some ⟨w.heap.size, 0, none⟩) 1 1) 1 d.cs (w.alloc (.cells #[.string d.name, .int .u8 d.op, .int .i64 d.ep, .string d.ver, .string d.rel] 25)) :=
  (Own.made w 25 5 #[.string d.name, .int .u8 d.op, .int .i64 d.ep, .string d.ver, .string d.rel] 1 rfl (by simp [maxLen])).src Tryd.underlying38 (fun u hu => enD_one [d] u (by
    show u ∈ d.cs ++ []
    rw [List.append_nil]
    exact hu))
theorem iDep : ∃ i, Tryd.prog.info? 25 = some i ∧ i.zero = some (.agg #[.string ⟨#[]⟩, .int .u8 0, .int .i64 0, .string ⟨#[]⟩, .string ⟨#[]⟩]) ∧ i.size = 5 ∧ i.bytes = 64 :=
  info_parts (P := Tryd.prog) (e := 25) (z := .agg #[.string ⟨#[]⟩, .int .u8 0, .int .i64 0, .string ⟨#[]⟩, .string ⟨#[]⟩]) (size := 5) (bytes := 64) (by kernel_rfl)

/-- shape.Atoms' own blocks, and what it has gathered. -/
structure ASt (w : World) (g : Nat) (ds : List DepD) (v : Value) (W : World) : Prop where
  bl : Below w.heap.size w W
  bv : Blk W g 38 #[v]
  ow : Own W 25 5 v ds.length (enD ds)
  hi : ∀ k, v.ownBlock = some k → w.heap.size ≤ k
theorem ASt.walk {w : World} {g : Nat} {ds : List DepD} {v : Value} {A B : World} {row : Option Nat} {n0 : Nat} (h : ASt w g ds v A) (hg : A.grownBy B row) (hr : ∀ r, row = some r → n0 ≤ r ∧ ∃ o : Obj, A.heap[r]? = some o ∧ o.isCells = false) (hn : w.heap.size ≤ n0) : ASt w g ds v B :=
  ⟨h.bl.trans ⟨hg.os, hg.tape, hg.output, hg.size, fun k h1 => hg.block k (Nat.lt_of_lt_of_le h1 h.bl.size) (fun e => by have := (hr k e.symm).1; omega)⟩, blk_walk h.bv hg hr, own_walk h.ow hg hr, h.hi⟩
theorem ASt.new_ {w : World} {g : Nat} {ds : List DepD} {v : Value} {W W' : World} (h : ASt w g ds v W) (hb : Below W.heap.size W W') : ASt w g ds v W' :=
  ⟨h.bl.trans (hb.mono h.bl.size), h.bv.below hb h.bv.lt, h.ow.new hb, h.hi⟩
/-- What an append and the store behind it leave. -/
theorem ASt.put {w : World} {g : Nat} {ds : List DepD} {v v' : Value} {W W' : World} {d : DepD} (h : ASt w g ds v W) (hgw : w.heap.size ≤ g) (hO : Own W' 25 5 v' (ds.length + 1) (enD ds ++ d.cs)) (hg : W.grownBy W' v.ownBlock) (hat : v'.ownBlock = v.ownBlock ∨ v'.ownBlock = some W.heap.size) (_hlt : ∀ k, v'.ownBlock = some k → k < W'.heap.size) :
    ASt w g (ds ++ [d]) v' (W'.setCell ⟨g, 0, none⟩ v') ∧ KeepsOthers W (W'.setCell ⟨g, 0, none⟩ v') ∧ Kp g w.heap.size W (W'.setCell ⟨g, 0, none⟩ v') := by
  have hkp := kp_own (B := g) h.ow hg h.bl.size h.hi
  have hne : v.ownBlock ≠ some g := h.ow.ne_blk h.bv (by decide)
  have hbv : Blk W' g 38 #[v] := h.bv.grown hg (fun e => hne e.symm)
  have hne' : v'.ownBlock ≠ some g := hO.ne_blk hbv (by decide)
  refine ⟨⟨(h.bl.trans hkp.bl).setCell (p := ⟨g, 0, none⟩) hgw _, hbv.set_ 0 v', ?_, ?_⟩, (keeps_own h.ow hg).trans (KeepsOthers.setCell _ _ _), hkp.t (Kp.set hgw _ _ _)⟩
  · have h2 := hO.far (p := ⟨g, 0, none⟩) hne' v'
    rw [enD_app, List.length_append]
    have h3 : enD [d] = d.cs := List.append_nil _
    rw [h3]
    exact h2
  · intro k hk
    rcases hat with e | e
    · exact h.hi k (e ▸ hk)
    · rw [e] at hk
      injection hk with hk
      have := h.bl.size
      omega
end Go.Proofs.YtadogjnoklabdaaDoor
