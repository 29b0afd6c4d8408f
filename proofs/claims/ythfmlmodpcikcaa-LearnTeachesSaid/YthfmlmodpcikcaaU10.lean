/- Contracts of the law's own functions: teaches, no; rows that the program lays out. -/
import Derived.Test.YthfmlmodpcikcaaU8
namespace Go.Proofs.Ythfmlmodpcikcaa
open Go.ChangeShapes Go.WideShapes Go.ChangeAt Go.RowKit Go.Maps
set_option maxRecDepth 100000

/-- Learn, its slices as rows of numbers. -/
theorem learn_ints {w0 w : World} {X : Nat → Prop} {L : List (Nat × TrD)} {g n : Nat} {es : List En} (cls : List (List Int)) (ao : Option Addr) (cap : Nat) (conflict : Int) (hT : Trails w0 w X L) (i : Nat) (hL : L[i]? = some (g, trE n es)) (hg : Good n es) (hn : n ≤ 5000)
    (hc : IsCls w ao cls) (hcl : ∀ c ∈ cls, c.length ≤ 1000) (hln : cls.length ≤ 1000000) (R : Taught) (hR : learnE n es cls conflict = R) :
    Calls Try.prog 18 #[.pointer (some ⟨g, 0, none⟩), .slice ao cls.length cap, .int .i64 conflict] w fun e w' => ∃ a1 c1 a2 c2, e = .returned (.tuple #[.slice a1 R.1.length c1, .int .i64 R.2.1, .slice a2 R.2.2.1.length c2, .int .i64 R.2.2.2]) ∧
      Ints w' a1 R.1 ∧ Ints w' a2 R.2.2.1 ∧ Below w.heap.size w w' := by
  subst hR
  refine (learn_any cls ao cap conflict hT i hL hg hn hc hcl hln).mono ?_
  rintro e w' ⟨hb, vc, vs, rfl, o1, o2, _, _⟩
  obtain ⟨a1, c1, rfl, i1⟩ := o1.ints
  obtain ⟨a2, c2, rfl, i2⟩ := o2.ints
  exact ⟨a1, c1, a2, c2, rfl, i1, i2, hb⟩

theorem learn_nil (v : Value) (c : Int) (w : World) :
    Calls Try.prog 18 #[.pointer none, v, .int .i64 c] w fun e w' => e = .returned (.tuple #[.slice none 0 0, .int .i64 0, .slice none 0 0, .int .i64 2]) ∧ w = w' := by
  go_enter Try.func18, Try.ntmps18
  go_wp2_with fail
  (try simp only [Exit.inBlock, Exit.then])
  refine bodyPost_ret (results_tmp4 rfl _ _ _) rfl ?_
  exact ⟨rfl, rfl⟩

theorem numbers_same (a : List Int) (ao bo : Option Addr) (ca cb : Nat) (w : World) (ha : Ints w ao a) (hb : Ints w bo a) (hl : a.length ≤ 1000000) :
    Calls Try.prog 20 #[.slice ao a.length ca, .slice bo a.length cb] w fun e w' => e = .returned (.bool true) ∧ Below w.heap.size w w' := by
  have h := numbers_any a a ao bo ca cb w ha hb hl
  simpa using h

theorem teaches_eq {w0 w : World} {X : Nat → Prop} {L : List (Nat × TrD)} {g n : Nat} {es : List En} (cls : List (List Int)) (ao : Option Addr) (cap : Nat) (conflict : Int) (hT : Trails w0 w X L) (i : Nat) (hL : L[i]? = some (g, trE n es)) (hg : Good n es) (hn : n ≤ 5000)
    (hc : IsCls w ao cls) (hcl : ∀ c ∈ cls, c.length ≤ 1000) (hln : cls.length ≤ 1000000) (clause : List Int) (back : Int) (bonds : List Int) (hR : learnE n es cls conflict = (clause, back, bonds, 0)) (ca cb : Option Addr) (cc cd : Nat)
    (h1 : Ints w ca clause) (h2 : Ints w cb bonds) (hl1 : clause.length ≤ 1000000) (hl2 : bonds.length ≤ 1000000) :
    Calls Try.prog 10 #[.pointer (some ⟨g, 0, none⟩), .slice ao cls.length cap, .int .i64 conflict, .slice ca clause.length cc, .int .i64 back, .slice cb bonds.length cd] w fun e w' => e = .returned (.bool true) ∧ Below w.heap.size w w' := by
  have HL := Lib.hid (learn_ints cls ao cap conflict hT i hL hg hn hc hcl hln _ hR)
  have H1 := Lib.hid h1
  have H2 := Lib.hid h2
  clear hR h1 h2 hT hc hcl
  go_enter Try.func10, Try.ntmps10
  go_wp2_with (first
    | (go_at_call 18; refine HL.out.mono ?_; rintro e w1 ⟨a1, c1, a2, c2, rfl, i1, i2, hb1⟩)
    | (go_at_call 20; (with_reducible refine (numbers_same clause _ _ _ _ _ i1 (H1.out.below hb1) hl1).mono ?_); rintro e w2 ⟨rfl, hb2⟩; clear i1)
    | (go_at_call 20; (with_reducible refine (numbers_same bonds _ _ _ _ _ (i2.below hb2) ((H2.out.below hb1).below hb2) hl2).mono ?_); rintro e w3 ⟨rfl, hb3⟩))
  go_ret
  exact ⟨rfl, bel_trans (bel_trans hb1 hb2) hb3⟩

theorem no_eq {w0 w : World} {X : Nat → Prop} {L : List (Nat × TrD)} {g n : Nat} {es : List En} (cls : List (List Int)) (ao : Option Addr) (cap : Nat) (conflict : Int) (hT : Trails w0 w X L) (i : Nat) (hL : L[i]? = some (g, trE n es)) (hg : Good n es) (hn : n ≤ 5000)
    (hc : IsCls w ao cls) (hcl : ∀ c ∈ cls, c.length ≤ 1000) (hln : cls.length ≤ 1000000) (want : Int) (hR : learnE n es cls conflict = ([], 0, [], want)) :
    Calls Try.prog 8 #[.pointer (some ⟨g, 0, none⟩), .slice ao cls.length cap, .int .i64 conflict, .int .i64 want] w fun e w' => e = .returned (.bool true) ∧ Below w.heap.size w w' := by
  have HL := Lib.hid (learn_ints cls ao cap conflict hT i hL hg hn hc hcl hln _ hR)
  clear hR hT hc hcl
  go_enter Try.func8, Try.ntmps8
  go_wp2_with (go_at_call 18; refine HL.out.mono ?_; rintro e w1 ⟨a1, c1, a2, c2, rfl, i1, i2, hb1⟩; simp only [List.length_nil])
  go_ret
  exact ⟨rfl, hb1⟩

theorem no_nil (v : Value) (c : Int) (w : World) :
    Calls Try.prog 8 #[.pointer none, v, .int .i64 c, .int .i64 2] w fun e w' => e = .returned (.bool true) ∧ w = w' := by
  have HL := Lib.hid (learn_nil v c w)
  go_enter Try.func8, Try.ntmps8
  go_wp2_with (go_at_call 18; refine HL.out.mono ?_; rintro e w1 ⟨rfl, rfl⟩)
  go_ret
  exact ⟨rfl, rfl⟩

/-! ### Rows that the program lays out -/
theorem heap_allocs : ∀ (os : List Obj) (w : World) (i : Nat) (o : Obj), os[i]? = some o → (os.foldl World.alloc w).heap[w.heap.size + i]? = some o ∧ Below w.heap.size w (os.foldl World.alloc w)
  | [], _, _, _, h => by simp at h
  | a :: os, w, 0, o, h => by
    simp only [List.getElem?_cons_zero, Option.some.injEq] at h
    subst h
    have hb : ∀ (os : List Obj) (w : World), Below w.heap.size w (os.foldl World.alloc w) := by
      intro os
      induction os with
      | nil => intro w; exact Below.refl _ _
      | cons b os ih => intro w; exact bel_trans ((Below.refl _ w).alloc (Nat.le_refl _) b) (ih (w.alloc b))
    refine ⟨?_, hb (a :: os) w⟩
    have h1 := (hb os (w.alloc a)).block w.heap.size (by simp)
    exact h1.trans (heap_alloc_new w a)
  | a :: os, w, i + 1, o, h => by
    obtain ⟨h1, h2⟩ := heap_allocs os (w.alloc a) i o (by simpa using h)
    refine ⟨?_, bel_trans ((Below.refl _ w).alloc (Nat.le_refl _) a) h2⟩
    have e : w.heap.size + (i + 1) = (w.alloc a).heap.size + i := by simp; omega
    rw [e]
    exact h1

theorem ints_allocs (w : World) (os : List Obj) (k : Nat) (l : List Int) (h : os[k]? = some (.cells (inC l).toArray 3)) : Ints (os.foldl World.alloc w) (some ⟨w.heap.size + k, 0, none⟩) l := fun _ => by
  obtain ⟨h1, _⟩ := heap_allocs os w k _ h
  have hb : Blk (os.foldl World.alloc w) (w.heap.size + k) 3 (inC l).toArray := h1
  refine ⟨_, _, rfl, hb.lt, fun j hj => ?_⟩
  rw [Nat.zero_add, hb.cell]
  simp [inC, hj]

def rowsIn (os : List Obj) : List (Nat × List Int) → Prop
  | [] => True
  | x :: cs => os[x.1]? = some (.cells (inC x.2).toArray 3) ∧ rowsIn os cs
theorem rowsIn_get {os : List Obj} : ∀ {cs : List (Nat × List Int)}, rowsIn os cs → ∀ x ∈ cs, os[x.1]? = some (.cells (inC x.2).toArray 3)
  | [], _, x, hx => by cases hx
  | y :: cs, h, x, hx => by
    rcases List.mem_cons.1 hx with rfl | hx
    · exact h.1
    · exact rowsIn_get h.2 x hx

theorem cls_allocs (w : World) (os : List Obj) (g : Nat) (t : TypeId) (cs : List (Nat × List Int)) (hg : os[g]? = some (.cells (cs.map fun x => Value.slice (some ⟨w.heap.size + x.1, 0, none⟩) x.2.length x.2.length).toArray t)) (h : rowsIn os cs) :
    IsCls (os.foldl World.alloc w) (some ⟨w.heap.size + g, 0, none⟩) (cs.map (·.2)) := fun _ => by
  obtain ⟨h1, _⟩ := heap_allocs os w g _ hg
  have hb : Blk (os.foldl World.alloc w) (w.heap.size + g) t _ := h1
  refine ⟨_, _, rfl, hb.lt, fun j hj => ?_⟩
  have hj' : j < cs.length := by simpa using hj
  have hm := rowsIn_get h cs[j] (List.getElem_mem _)
  refine ⟨some ⟨w.heap.size + (cs[j]).1, 0, none⟩, (cs[j]).2.length, ?_, ?_⟩
  · rw [Nat.zero_add, hb.cell]
    simp [hj']
  · have h2 := ints_allocs w os _ _ hm
    simp only [List.getElem_map]
    exact h2

theorem below_allocs : ∀ (os : List Obj) (w : World), Below w.heap.size w (os.foldl World.alloc w)
  | [], _ => Below.refl _ _
  | o :: os, w => bel_trans ((Below.refl _ w).alloc (Nat.le_refl _) o) (below_allocs os (w.alloc o))

def oI (l : List Int) : Obj := .cells (inC l).toArray 3
def oC (w : World) (cs : List (Nat × Nat)) : Obj := .cells (cs.map fun x => Value.slice (some ⟨w.heap.size + x.1, 0, none⟩) x.2 x.2).toArray 30
def stC (l : List Step2D) : List Value := l.flatMap fun s => [.int .i64 s.lit, .int .i64 s.reason]
def oS (l : List Step2D) : Obj := .cells (stC l).toArray 28

theorem stC_get : ∀ (l : List Step2D) (i : Nat) (h : i < l.length), (stC l)[i * 2]? = some (.int .i64 l[i].lit) ∧ (stC l)[i * 2 + 1]? = some (.int .i64 l[i].reason)
  | [], _, h => by simp at h
  | s :: l, 0, _ => ⟨rfl, rfl⟩
  | s :: l, i + 1, h => by
    have e : (i + 1) * 2 = i * 2 + 1 + 1 := by omega
    have h2 : i < l.length := by simpa using h
    have e2 : stC (s :: l) = .int .i64 s.lit :: .int .i64 s.reason :: stC l := rfl
    rw [e, e2]
    simp only [List.getElem?_cons_succ, List.getElem_cons_succ]
    exact stC_get l i h2

theorem steps_allocs (w : World) (os : List Obj) (k : Nat) (l : List Step2D) (h : os[k]? = some (oS l)) (hw : (l.all fun s => decide (-9223372036854775808 ≤ s.lit ∧ s.lit ≤ 9223372036854775807 ∧ -9223372036854775808 ≤ s.reason ∧ s.reason ≤ 9223372036854775807)) = true) :
    IsSteps2 (os.foldl World.alloc w) (os.foldl World.alloc w).heap.size (some ⟨w.heap.size + k, 0, none⟩) (w.heap.size + k) 0 l := by
  obtain ⟨h1, _⟩ := heap_allocs os w k _ h
  have hb : Blk (os.foldl World.alloc w) (w.heap.size + k) 28 (stC l).toArray := h1
  refine ⟨fun _ => ⟨rfl, hb.lt⟩, fun i hi => ?_, fun i hi => ?_, fun i hi => ?_⟩
  · have h2 := List.all_eq_true.1 hw l[i] (List.getElem_mem _)
    simp only [decide_eq_true_eq] at h2
    exact ⟨⟨h2.1, h2.2.1⟩, ⟨h2.2.2.1, h2.2.2.2⟩⟩
  · rw [Nat.zero_add, hb.cell]
    simpa using (stC_get l i hi).1
  · rw [Nat.zero_add, hb.cell]
    simpa using (stC_get l i hi).2
theorem steps_none (w : World) : IsSteps2 w w.heap.size none 0 0 [] :=
  ⟨fun h => absurd h (by simp), fun i h => absurd h (by simp), fun i h => absurd h (by simp), fun i h => absurd h (by simp)⟩

theorem made_eq (n : Nat) (l : List Step2D) (x : Int) (hx : (n : Int) = x) (ao : Option Addr) (cap b off : Nat) (w : World) (hl : IsSteps2 w w.heap.size ao b off l) (hn : n ≤ 5000) (hll : l.length ≤ 300) :
    Calls Try.prog 9 #[.int .i64 x, .slice ao l.length cap] w fun e w' => ∃ g, e = .returned (.pointer (some ⟨g, 0, none⟩)) ∧ Trails w w' (fun _ => False) [(g, trE n (madeE n [] l))] ∧ Below w.heap.size w w' := by
  subst hx
  refine (made_any n ao l cap b off w w (Below.refl _ _) hl hn hll).mono ?_
  rintro e w' ⟨g, rfl, hT⟩
  exact ⟨g, rfl, hT, hT.bel⟩

end Go.Proofs.Ythfmlmodpcikcaa
