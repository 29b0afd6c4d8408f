/- Rich dependencies in memory of their own (what a copy makes). Conditions: as each theorem names them. -/
import Derived.Test.YtadogjnoklabdaaDoorH27
import Derived.Test.YtadogjnoklabdaaDoorH32
namespace Go.Proofs.YtadogjnoklabdaaDoor
open Go.ChangeShapes Go.WideShapes Go.ChangeAt Go.RowKit Go.Deep
set_option maxRecDepth 100000

/-- A slice's value holds a rich dependency's Args, all in blocks of which B holds, and which may be written. -/
inductive ArgsIn (B : Nat → Prop) (w : World) : RichD → Value → Prop
  | mk (r : RichD) (a : Option Addr) (c : Nat) (S : Nat → Value) (hd : fitR r.kind r.dep) (hn : r.n ≤ 9223372036854775807)
      (hA : ∀ j, j < r.n → ∃ b o, a = some ⟨b, o, none⟩ ∧ B b ∧ (∀ i, w.frozen? ⟨b, i, none⟩ = false) ∧ RichAt w b (o + j * 7) (r.args j) (S j))
      (hS : ∀ j, j < r.n → ArgsIn B w (r.args j) (S j)) : ArgsIn B w r (.slice a r.n c)
theorem ArgsIn.is {B : Nat → Prop} {w : World} {r : RichD} {s : Value} (h : ArgsIn B w r s) : IsArgs w r s := by
  induction h with
  | mk r a c S hd hn hA hS ih =>
    refine .mk r a c S hd hn (fun j hj => ?_) ih
    obtain ⟨b, o, h1, _, _, h2⟩ := hA j hj
    exact ⟨b, o, h1, h2⟩
theorem RichAt.same {w w' : World} {b o : Nat} {r : RichD} {s : Value} (h : RichAt w b o r s) (hb : w'.heap[b]? = w.heap[b]?) (hs : w.heap.size ≤ w'.heap.size) : RichAt w' b o r s := by
  have k : ∀ c, w'.cell? ⟨b, c, none⟩ = w.cell? ⟨b, c, none⟩ := fun c => World.cell?_of_block (w := w) hb
  exact ⟨(k _).trans h.c0, (k _).trans h.c1, (k _).trans h.c2, (k _).trans h.c3, (k _).trans h.c4, (k _).trans h.c5, (k _).trans h.c6, Nat.lt_of_lt_of_le h.lt hs⟩
theorem ArgsIn.keep {B B' : Nat → Prop} {w w' : World} {r : RichD} {s : Value} (h : ArgsIn B w r s) (hs : w.heap.size ≤ w'.heap.size) (hk : ∀ b, B b → b < w.heap.size → w'.heap[b]? = w.heap[b]? ∧ B' b) : ArgsIn B' w' r s := by
  induction h with
  | mk r a c S hd hn hA hS ih =>
    refine .mk r a c S hd hn (fun j hj => ?_) ih
    obtain ⟨b, o, h1, h2, h3, h4⟩ := hA j hj
    obtain ⟨h5, h6⟩ := hk b h2 h4.lt
    exact ⟨b, o, h1, h6, fun i => (World.frozen?_of_block (w := w) h5).trans (h3 i), h4.same h5 hs⟩
theorem ArgsIn.new_ {B : Nat → Prop} {w w' : World} {r : RichD} {s : Value} (h : ArgsIn B w r s) (hb : Below w.heap.size w w') : ArgsIn B w' r s :=
  h.keep hb.size fun b h1 h2 => ⟨hb.block b h2, h1⟩
theorem ArgsIn.one {B : Nat → Prop} {w : World} {r : RichD} {s : Value} (h : ArgsIn B w r s) : s.oneCell' = true := by
  cases h
  rfl

def richCs (r : RichD) (s : Value) : List Value := [.int .u8 r.kind, .string r.dep.name, .int .u8 r.dep.op, .int .i64 r.dep.ep, .string r.dep.ver, .string r.dep.rel, s]
def enR (f : Nat → RichD) (S : Nat → Value) (k : Nat) : List Value := catN (fun j => richCs (f j) (S j)) k
theorem enR_len (f : Nat → RichD) (S : Nat → Value) : ∀ k, (enR f S k).length = k * 7
  | 0 => rfl
  | k + 1 => by
    show (enR f S k ++ richCs (f k) (S k)).length = _
    rw [List.length_append, enR_len f S k]
    show k * 7 + 7 = (k + 1) * 7
    omega
theorem enR_at (f : Nat → RichD) (S : Nat → Value) : ∀ k j, j < k → ∀ i, i < 7 → (enR f S k)[j * 7 + i]? = (richCs (f j) (S j))[i]?
  | 0, _, h, _, _ => by omega
  | k + 1, j, h, i, hi => by
    show (enR f S k ++ richCs (f k) (S k))[j * 7 + i]? = _
    have hl := enR_len f S k
    by_cases e : j = k
    · subst e
      rw [List.getElem?_append_right (by omega), hl, Nat.add_sub_cancel_left]
    · rw [List.getElem?_append_left (by omega)]
      exact enR_at f S k j (by omega) i hi
theorem enR_one {f : Nat → RichD} {S : Nat → Value} : ∀ k, (∀ j, j < k → (S j).oneCell' = true) → ∀ u ∈ enR f S k, u.oneCell' = true
  | 0, _, u, h => by cases h
  | k + 1, hS, u, h => by
    rcases List.mem_append.1 (show u ∈ enR f S k ++ richCs (f k) (S k) from h) with h | h
    · exact enR_one k (fun j hj => hS j (by omega)) u h
    · simp only [richCs, List.mem_cons, List.not_mem_nil, or_false] at h
      rcases h with rfl | rfl | rfl | rfl | rfl | rfl | rfl
      all_goals first | rfl | exact hS k (by omega)
theorem enR_congr {f : Nat → RichD} {S S' : Nat → Value} (k : Nat) (h : ∀ j, j < k → S j = S' j) : enR f S k = enR f S' k :=
  cat_congr k fun j hj => by rw [h j hj]

/-- A copy's Args: in blocks of its own, from n0 on. -/
structure NewArgs (n0 : Nat) (w : World) (r : RichD) (s : Value) : Prop where
  hd : fitR r.kind r.dep
  hn : r.n ≤ 9223372036854775807
  ar : ∃ S, Own w 28 7 s r.n (enR r.args S r.n) ∧ (∀ k, s.ownBlock = some k → n0 ≤ k) ∧ ∀ j, j < r.n → ArgsIn (fun b => n0 ≤ b ∧ s.ownBlock ≠ some b) w (r.args j) (S j)
theorem Own.rich {w : World} {ao : Option Addr} {c n : Nat} {f : Nat → RichD} {S : Nat → Value} (h : Own w 28 7 (.slice ao n c) n (enR f S n)) (j : Nat) (hj : j < n) : ∃ b o, ao = some ⟨b, o, none⟩ ∧ (Value.slice ao n c).ownBlock = some b ∧ (∀ i, w.frozen? ⟨b, i, none⟩ = false) ∧ RichAt w b (o + j * 7) (f j) (S j) := by
  obtain ⟨ao', c', he, _, _, hc⟩ := h.form
  injection he with he _ _
  subst he
  obtain ⟨g, off, rfl, hcells, hf, hlt⟩ := hc (by omega)
  have k : ∀ i, i < 7 → w.cell? ⟨g, off + j * 7 + i, none⟩ = (richCs (f j) (S j))[i]? := fun i hi => by
    rw [Nat.add_assoc, hcells (j * 7 + i) (by rw [enR_len]; omega), enR_at f S n j hj i hi]
  exact ⟨g, off, rfl, rfl, hf, k 0 (by omega), k 1 (by omega), k 2 (by omega), k 3 (by omega), k 4 (by omega), k 5 (by omega), k 6 (by omega), hlt⟩
theorem NewArgs.in_ {n0 : Nat} {w : World} {r : RichD} {s : Value} (h : NewArgs n0 w r s) : ArgsIn (fun b => n0 ≤ b) w r s := by
  obtain ⟨hd, hn, S, hO, hi, hA⟩ := h
  obtain ⟨ao, c, rfl, _⟩ := hO.form
  refine .mk r ao c S hd hn (fun j hj => ?_) (fun j hj => (hA j hj).keep (Nat.le_refl _) fun b h1 _ => ⟨rfl, h1.1⟩)
  obtain ⟨b, o, h1, h2, h3, h4⟩ := hO.rich j hj
  exact ⟨b, o, h1, hi b h2, h3, h4⟩
theorem iRich : ∃ i, Tryd.prog.info? 28 = some i ∧ i.zero = some (.agg #[.int .u8 0, .string ⟨#[]⟩, .int .u8 0, .int .i64 0, .string ⟨#[]⟩, .string ⟨#[]⟩, .slice none 0 0]) ∧ i.size = 7 ∧ i.bytes = 96 :=
  info_parts (P := Tryd.prog) (e := 28) (z := .agg #[.int .u8 0, .string ⟨#[]⟩, .int .u8 0, .int .i64 0, .string ⟨#[]⟩, .string ⟨#[]⟩, .slice none 0 0]) (size := 7) (bytes := 96) (by kernel_rfl)

abbrev zeroR : Array Value := #[.int .u8 0, .string ⟨#[]⟩, .int .u8 0, .int .i64 0, .string ⟨#[]⟩, .string ⟨#[]⟩, .slice none 0 0]
/-- A copy under way: k Args are copied. -/
structure CpSt (w : World) (g : Nat) (r : RichD) (s : Value) (k : Nat) (S : Nat → Value) (v : Value) (W : World) : Prop where
  bl : Below w.heap.size w W
  ri : RichB W g r s
  rz : Blk W (g + 1) 28 zeroR
  ou : RichB W (g + 2) r v
  ow : Own W 28 7 v k (enR r.args S k)
  hi : ∀ b, v.ownBlock = some b → g + 3 ≤ b
  ar : ∀ j, j < k → ArgsIn (fun b => g + 3 ≤ b ∧ v.ownBlock ≠ some b) W (r.args j) (S j)
theorem CpSt.below {w W W' : World} {g : Nat} {r : RichD} {s : Value} {k : Nat} {S : Nat → Value} {v : Value} (h : CpSt w g r s k S v W) (hb : Below W.heap.size W W') : CpSt w g r s k S v W' :=
  ⟨h.bl.trans (hb.mono h.bl.size), h.ri.below hb, Blk.below h.rz hb h.rz.lt, h.ou.below hb, h.ow.new hb, h.hi, fun j hj => (h.ar j hj).new_ hb⟩
theorem CpSt.one {w W : World} {g : Nat} {r : RichD} {s : Value} {k : Nat} {S : Nat → Value} {v : Value} (h : CpSt w g r s k S v W) : ∀ u ∈ enR r.args S k, u.oneCell' = true := enR_one k fun j hj => (h.ar j hj).one
/-- Behind the append and the store of a further Arg. -/
theorem CpSt.put {w W W6 W' : World} {g : Nat} {r : RichD} {s : Value} {k : Nat} {S : Nat → Value} {v v' sk : Value} (h : CpSt w g r s k S v W) (hgw : w.heap.size ≤ g) (h6 : Below W.heap.size W W6) (hk : ArgsIn (fun b => W.heap.size ≤ b) W6 (r.args k) sk)
    (hO : Own W' 28 7 v' (k + 1) (enR r.args S k ++ richCs (r.args k) sk)) (o : Obj) (hg : (W6.alloc o).grownBy W' v.ownBlock) (hat : v'.ownBlock = v.ownBlock ∨ v'.ownBlock = some (W6.alloc o).heap.size) :
    CpSt w g r s (k + 1) (fun j => if j < k then S j else sk) v' (W'.setCell ⟨g + 2, 6, none⟩ v') ∧ RichB W' (g + 2) r v := by
  have h7 : CpSt w g r s k S v (W6.alloc o) := h.below (below_t' h6 (new_b _ _))
  have hz : (W6.alloc o).heap.size = W6.heap.size + 1 := by simp
  have hlv : ∀ b, v.ownBlock = some b → b < W.heap.size := h.ow.lt
  have hWz := h6.size
  have hkb : ∀ b, v.ownBlock ≠ some b → b < (W6.alloc o).heap.size → W'.heap[b]? = (W6.alloc o).heap[b]? := fun b h1 h2 => hg.block b h2 (fun e => h1 e.symm)
  have hne : ∀ b, b < g + 3 → v.ownBlock ≠ some b := fun b h1 h2 => by have := h.hi b h2; omega
  have hne' : ∀ b, b < g + 3 → v'.ownBlock ≠ some b := fun b h1 h2 => by
    rcases hat with e | e
    · exact hne b h1 (e ▸ h2)
    · rw [e] at h2
      injection h2 with h2
      have : g + 2 < (W6.alloc o).heap.size := h7.ou.lt
      omega
  have hou : RichB W' (g + 2) r v := Blk.keep h7.ou (hkb (g + 2) (hne (g + 2) (by omega)) h7.ou.lt)
  have hset : ∀ b, b ≠ g + 2 → (W'.setCell ⟨g + 2, 6, none⟩ v').heap[b]? = W'.heap[b]? := fun b h1 => Below.heap_setCell W' ⟨g + 2, 6, none⟩ v' b h1
  refine ⟨⟨?_, ?_, ?_, ?_, ?_, ?_, ?_⟩, hou⟩
  · have hb7 : Below w.heap.size (W6.alloc o) W' := ⟨hg.os, hg.tape, hg.output, hg.size, fun b h1 => hkb b (hne b (by omega)) (Nat.lt_of_lt_of_le h1 h7.bl.size)⟩
    exact (h7.bl.trans hb7).setCell (p := ⟨g + 2, 6, none⟩) (by show _ ≤ g + 2; omega) _
  · exact Blk.keep (Blk.keep h7.ri (hkb g (hne g (by omega)) h7.ri.lt)) (hset g (by omega))
  · exact Blk.keep (Blk.keep h7.rz (hkb (g + 1) (hne (g + 1) (by omega)) h7.rz.lt)) (hset (g + 1) (by omega))
  · exact Blk.set_ hou 6 v'
  · have hfar := hO.far (p := ⟨g + 2, 6, none⟩) (hne' (g + 2) (by omega)) v'
    have : enR r.args (fun j => if j < k then S j else sk) (k + 1) = enR r.args S k ++ richCs (r.args k) sk := by
      show enR r.args _ k ++ richCs (r.args k) (if k < k then S k else sk) = _
      rw [if_neg (by omega), enR_congr k (fun j hj => if_pos hj)]
    rw [this]
    exact hfar
  · intro b hb
    rcases hat with e | e
    · exact h.hi b (e ▸ hb)
    · rw [e] at hb
      injection hb with hb
      have : g + 2 < (W6.alloc o).heap.size := h7.ou.lt
      omega
  · intro j hj
    have hsz : (W6.alloc o).heap.size ≤ (W'.setCell ⟨g + 2, 6, none⟩ v').heap.size := by simpa using hg.size
    by_cases hjk : j < k
    · rw [if_pos hjk]
      refine (h.ar j hjk).keep (by omega) fun b ⟨h1, h2⟩ h3 => ⟨?_, h1, fun e => ?_⟩
      · rw [hset b (by omega), hkb b h2 (by omega), (Below.trans h6 ((new_b W6 o).mono hWz)).block b h3]
      · rcases hat with e2 | e2
        · exact h2 (e2 ▸ e)
        · rw [e2] at e
          injection e with e
          omega
    · obtain rfl : j = k := by omega
      rw [if_neg hjk]
      have hgW : g + 2 < W.heap.size := h.ou.lt
      refine hk.keep (by omega) fun b h1 h3 => ?_
      have hvb : v.ownBlock ≠ some b := fun e => by have := hlv b e; omega
      refine ⟨?_, by omega, fun e => ?_⟩
      · rw [hset b (by omega), hkb b hvb (by omega)]
        exact Below.heap_alloc W6 o b h3
      · rcases hat with e2 | e2
        · exact hvb (e2 ▸ e)
        · rw [e2] at e
          injection e with e
          omega
theorem CpSt.done {w W : World} {g : Nat} {r : RichD} {s : Value} {S : Nat → Value} {v : Value} (h : CpSt w g r s r.n S v W) (hgw : w.heap.size ≤ g) (hd : fitR r.kind r.dep) (hn : r.n ≤ 9223372036854775807) : NewArgs w.heap.size W r v :=
  ⟨hd, hn, S, h.ow, fun b hb => by have := h.hi b hb; omega, fun j hj => (h.ar j hj).keep (Nat.le_refl _) fun b h1 _ => ⟨rfl, by have := h1.1; omega, h1.2⟩⟩
end Go.Proofs.YtadogjnoklabdaaDoor
