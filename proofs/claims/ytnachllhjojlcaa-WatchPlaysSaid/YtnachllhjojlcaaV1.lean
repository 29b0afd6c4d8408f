/- A watcher in memory: its parts, each in blocks of its own; what stays when some parts are written. -/
import Derived.Test.YtnachllhjojlcaaWT
import Derived.Test.YtnachllhjojlcaaT14
import Derived.Maps.Own
import Derived.Maps.Views
namespace Go.Proofs.Ytnachllhjojlcaa
open Go.ChangeShapes Go.WideShapes Go.ChangeAt Go.RowKit Go.Maps
set_option maxRecDepth 100000

/-! ### A map from numbers to slices -/
def nilV : Value := .slice none 0 0
def rdV (v : Value) : Option (DataW Value × List MemPlace) := some (.held v, [])
theorem keyed3 : Keyed Try.prog 3 := int_keyed Try.underlying3
theorem zeroI (w : World) : (zeroValue 23).run Try.prog w = .ok nilV w := by kernel_rfl
theorem keyI {x : Int} (h : I64 x) : keyOf Try.prog 3 (.int .i64 x) = some (.int .i64 x) := keyOf_int_mk Try.underlying3 (by
  unfold I64 at h
  simp [Lit.wf, IntKind.min, IntKind.max, IntKind.signed, IntKind.bits]
  omega)

def updV (f : Int → Value) (x : Int) (v : Value) : Int → Value := fun y => if y = x then v else f y

/-- Block b is a map of n entries at most; f: what is read. -/
def MapV (w : World) (b n : Nat) (f : Int → Value) : Prop :=
  ∃ D, w.ownsMap Try.prog 3 rdV b n D ∧ ∀ x, D.atKey (.int .i64 x) (.held nilV) = .held (f x)

theorem MapV.made (w : World) : MapV (w.alloc (.map #[] 0)) w.heap.size 0 fun _ => nilV := ⟨_, World.ownsMap_made w Try.prog 3 rdV, fun _ => rfl⟩
theorem MapV.lt {w : World} {b n : Nat} {f : Int → Value} (h : MapV w b n f) : b < w.heap.size := by
  obtain ⟨D, h1, _⟩ := h
  exact h1.lt
theorem MapV.keep {w w' : World} {b n : Nat} {f : Int → Value} (h : MapV w b n f) (hk : w'.heap[b]? = w.heap[b]?) : MapV w' b n f := by
  obtain ⟨D, ⟨es, clock, hb, F, hs, hD⟩, h2⟩ := h
  exact ⟨D, ⟨es, clock, hk.trans hb, F, hs, hD⟩, h2⟩
theorem MapV.look {w : World} {b n : Nat} {f : Int → Value} (h : MapV w b n f) {x : Int} (hx : I64 x) : (Instr.lookup 63 (.map (some b)) (.int .i64 x) false).run Try.prog w = .ok (f x) w := by
  obtain ⟨D, h1, h2⟩ := h
  obtain ⟨v, ps, hrun, hv⟩ := h1.lookup keyed3 Try.underlying63 (zeroI w) (zd := .held nilV) (zp := []) rfl (keyI hx)
  rw [h2] at hv
  unfold rdV at hv
  simp only [Option.some.injEq, Prod.mk.injEq, DataW.held.injEq] at hv
  rw [hrun, hv.1]
theorem MapV.put {w : World} {b n : Nat} {f : Int → Value} (h : MapV w b n f) {x : Int} (hx : I64 x) (hn : n < maxLen) (v : Value) :
    ∃ w', (Instr.mapUpdate 63 (.map (some b)) (.int .i64 x) v).run Try.prog w = .ok () w' ∧ MapV w' b (n + 1) (updV f x v) ∧ w.grownBy w' (some b) := by
  obtain ⟨D, h1, h2⟩ := h
  obtain ⟨w', hrun, h3, h4⟩ := h1.update keyed3 Try.underlying63 hn (keyI hx) (val := v) (d := .held v) (ps := []) rfl
  refine ⟨w', hrun, ⟨_, h3, fun y => ?_⟩, h4⟩
  obtain ⟨es, clock, _, _, _, hD⟩ := h1
  unfold updV
  by_cases hyx : y = x
  · subst hyx
    rw [if_pos rfl, atKey_put_same (by rw [hD]; exact ⟨_, rfl⟩) (by exact keyed3.key (keyI hx))]
  · rw [if_neg hyx, atKey_put_other (by intro e; injection e with _ e; exact hyx e)]
    exact h2 y

/-! ### The parts -/
inductive Tag where
  | self | cls | lits | map | fresh | trail
  | cl (i : Nat) | li (i : Nat) | by_ (x : Int)

/-- Where a watcher's parts lie. -/
structure WM where
  x : Nat
  g : Nat
  F : Nat → Prop
  vC : Value
  vL : Value
  mb : Nat
  nB : Nat
  B : Int → Value
  vF : Value
  C : Nat → Value
  L : Nat → Value

def natC (l : List Nat) : List Value := l.map fun (i : Nat) => Value.int .i64 (i : Int)
def rowV (n : Nat) (f : Nat → Value) : List Value := (List.range n).map f

/-- Whose a block is. -/
def WM.own (M : WM) (S : WS) : Tag → Nat → Prop
  | .self, k => k = M.x
  | .trail, k => M.F k
  | .cls, k => M.vC.ownBlock = some k
  | .lits, k => M.vL.ownBlock = some k
  | .map, k => k = M.mb
  | .fresh, k => M.vF.ownBlock = some k
  | .cl i, k => i < S.cl.length ∧ (M.C i).ownBlock = some k
  | .li i, k => i < S.ls.length ∧ (M.L i).ownBlock = some k
  | .by_ x, k => (M.B x).ownBlock = some k

def WM.part (M : WM) (S : WS) (w : World) : Tag → Prop
  | .self => Blk w M.x 65 #[.pointer (some ⟨M.g, 0, none⟩), M.vC, M.vL, .map (some M.mb), .int .i64 S.done, M.vF]
  | .trail => TrA w M.F M.g (trE S.n S.es)
  | .cls => Own w 23 1 M.vC S.cl.length (rowV S.cl.length M.C)
  | .lits => Own w 23 1 M.vL S.ls.length (rowV S.ls.length M.L)
  | .map => MapV w M.mb M.nB M.B
  | .fresh => Own w 3 1 M.vF S.fresh.length (natC S.fresh)
  | .cl i => i < S.cl.length → Own w 3 1 (M.C i) (S.cl.getD i []).length (inC (S.cl.getD i []))
  | .li i => i < S.ls.length → Own w 3 1 (M.L i) (S.ls.getD i []).length (inC (S.ls.getD i []))
  | .by_ x => Own w 3 1 (M.B x) (S.by_ x).length (natC (S.by_ x))

structure WAt (w : World) (M : WM) (S : WS) : Prop where
  part : ∀ t, M.part S w t
  lt : ∀ t k, M.own S t k → k < w.heap.size
  dis : ∀ t t' k, M.own S t k → M.own S t' k → t = t'

def WM.all (M : WM) (S : WS) (k : Nat) : Prop := ∃ t, M.own S t k

theorem part_stay {w w' : World} {M : WM} {S : WS} {G : Nat → Prop} (t : Tag) (h : M.part S w t) (ht : Touch G w w') (hG : ∀ k, M.own S t k → ¬ G k) : M.part S w' t := by
  cases t with
  | self => exact Blk.touch h ht (hG _ rfl)
  | trail => exact TrA.other h ht hG
  | cls => exact Own.touch h ht hG
  | lits => exact Own.touch h ht hG
  | map =>
    have h' : MapV w M.mb M.nB M.B := h
    exact h'.keep (ht.block _ h'.lt (hG _ rfl))
  | fresh => exact Own.touch h ht hG
  | cl i => exact fun hi => Own.touch (h hi) ht fun k hk => hG k ⟨hi, hk⟩
  | li i => exact fun hi => Own.touch (h hi) ht fun k hk => hG k ⟨hi, hk⟩
  | by_ x => exact Own.touch h ht hG

theorem WAt.touch {w w' : World} {M : WM} {S : WS} {G : Nat → Prop} (h : WAt w M S) (ht : Touch G w w') (hG : ∀ k, M.all S k → ¬ G k) : WAt w' M S :=
  ⟨fun t => part_stay t (h.part t) ht fun k hk => hG k ⟨t, hk⟩, fun t k hk => Nat.lt_of_lt_of_le (h.lt t k hk) ht.size, h.dis⟩
theorem WAt.below {w w' : World} {M : WM} {S : WS} (h : WAt w M S) (hb : Below w.heap.size w w') : WAt w' M S :=
  h.touch (Touch.of_below hb fun _ => False) fun _ _ hf => hf

/-- Some parts are written anew; N: blocks that are no part of it yet. -/
theorem WAt.updN {w w' : World} {M M' : WM} {S S' : WS} (T : Tag → Prop) (N : Nat → Prop) (h : WAt w M S) (hN : ∀ k, N k → ¬ M.all S k) (ht : Touch (fun k => ∃ t, T t ∧ M.own S t k) w w')
    (hp : ∀ t, ¬ T t → M.part S w' t → M'.part S' w' t) (hp0 : ∀ t, T t → M'.part S' w' t)
    (ho : ∀ t, ¬ T t → ∀ k, M'.own S' t k → M.own S t k) (ho0 : ∀ t, T t → ∀ k, M'.own S' t k → (∃ t, T t ∧ M.own S t k) ∨ N k)
    (hl : ∀ t, T t → ∀ k, M'.own S' t k → k < w'.heap.size) (hd : ∀ t t', T t → T t' → ∀ k, M'.own S' t k → M'.own S' t' k → t = t') :
    WAt w' M' S' ∧ Touch (M.all S) w w' ∧ ∀ k, M'.all S' k → M.all S k ∨ N k := by
  have hst : ∀ t, ¬ T t → M.part S w' t := fun t hT => part_stay t (h.part t) ht fun k hk ⟨t', h1, h2⟩ => hT (h.dis t t' k hk h2 ▸ h1)
  refine ⟨⟨fun t => ?_, fun t k hk => ?_, fun t t' k h1 h2 => ?_⟩, ht.mono fun k _ ⟨t, _, hk⟩ => ⟨t, hk⟩, fun k ⟨t, hk⟩ => ?_⟩
  · by_cases hT : T t
    · exact hp0 t hT
    · exact hp t hT (hst t hT)
  · by_cases hT : T t
    · exact hl t hT k hk
    · exact Nat.lt_of_lt_of_le (h.lt t k (ho t hT k hk)) ht.size
  · by_cases hT : T t <;> by_cases hT' : T t'
    · exact hd t t' hT hT' k h1 h2
    · rcases ho0 t hT k h1 with ⟨t1, h3, h4⟩ | h3
      · exact absurd (h.dis t1 t' k h4 (ho t' hT' k h2) ▸ h3) hT'
      · exact absurd ⟨t', ho t' hT' k h2⟩ (hN k h3)
    · rcases ho0 t' hT' k h2 with ⟨t1, h3, h4⟩ | h3
      · exact absurd (h.dis t1 t k h4 (ho t hT k h1) ▸ h3) hT
      · exact absurd ⟨t, ho t hT k h1⟩ (hN k h3)
    · exact h.dis t t' k (ho t hT k h1) (ho t' hT' k h2)
  · by_cases hT : T t
    · rcases ho0 t hT k hk with ⟨t1, _, h4⟩ | h3
      · exact .inl ⟨t1, h4⟩
      · exact .inr h3
    · exact .inl ⟨t, ho t hT k hk⟩
theorem WAt.upd {w w' : World} {M M' : WM} {S S' : WS} (T : Tag → Prop) (h : WAt w M S) (ht : Touch (fun k => ∃ t, T t ∧ M.own S t k) w w')
    (hp : ∀ t, ¬ T t → M.part S w' t → M'.part S' w' t) (hp0 : ∀ t, T t → M'.part S' w' t)
    (ho : ∀ t, ¬ T t → ∀ k, M'.own S' t k → M.own S t k) (ho0 : ∀ t, T t → ∀ k, M'.own S' t k → (∃ t, T t ∧ M.own S t k) ∨ w.heap.size ≤ k)
    (hl : ∀ t, T t → ∀ k, M'.own S' t k → k < w'.heap.size) (hd : ∀ t t', T t → T t' → ∀ k, M'.own S' t k → M'.own S' t' k → t = t') :
    WAt w' M' S' ∧ Touch (M.all S) w w' ∧ ∀ k, M'.all S' k → M.all S k ∨ w.heap.size ≤ k :=
  WAt.updN T (fun k => w.heap.size ≤ k) h (fun k hk ⟨t, ht⟩ => by have := h.lt t k ht; omega) ht hp hp0 ho ho0 hl hd

/-- What a writing call leaves; d: how many entries more the map has at most. -/
def WUp (d : Nat) (w w' : World) (M : WM) (S S' : WS) : Prop := ∃ M', WAt w' M' S' ∧ M'.x = M.x ∧ M'.nB ≤ M.nB + d ∧ Touch (M.all S) w w' ∧ (∀ k, M'.all S' k → M.all S k ∨ w.heap.size ≤ k) ∧ (d = 0 → M'.B = M.B)
theorem WAt.up {w : World} {M : WM} {S : WS} (h : WAt w M S) : WUp 0 w w M S S := ⟨M, h, rfl, Nat.le_refl _, Touch.refl _ _, fun _ hk => .inl hk, fun _ => rfl⟩
theorem touch_trans {w w1 w2 : World} {F G : Nat → Prop} (ht : Touch F w w1) (h1 : ∀ k, G k → F k ∨ w.heap.size ≤ k) (h2 : Touch G w1 w2) : Touch F w w2 := ht.trans h2 fun x hxl hf => by
  rcases h1 x hf with h | h
  · exact h
  · omega
theorem all_trans {w w1 : World} {F G H : Nat → Prop} (hs : w.heap.size ≤ w1.heap.size) (h1 : ∀ k, G k → F k ∨ w.heap.size ≤ k) (h2 : ∀ k, H k → G k ∨ w1.heap.size ≤ k) : ∀ k, H k → F k ∨ w.heap.size ≤ k := fun k hk => by
  rcases h2 k hk with h | h
  · exact h1 k h
  · exact .inr (by omega)
theorem WUp.trans {d d' : Nat} {w w1 w2 : World} {M M1 : WM} {S S1 S2 : WS} (hx : M1.x = M.x) (hn : M1.nB ≤ M.nB + d) (ht : Touch (M.all S) w w1) (h1 : ∀ k, M1.all S1 k → M.all S k ∨ w.heap.size ≤ k) (hB : d = 0 → M1.B = M.B) (h : WUp d' w1 w2 M1 S1 S2) : WUp (d + d') w w2 M S S2 := by
  obtain ⟨M', h2, h3, h4, h5, h6, h7⟩ := h
  exact ⟨M', h2, h3.trans hx, by omega, touch_trans ht h1 h5, all_trans ht.size h1 h6, fun h0 => (h7 (by omega)).trans (hB (by omega))⟩
theorem WUp.mono {d d' : Nat} {w w' : World} {M : WM} {S S' : WS} (h : WUp d w w' M S S') (hd : d ≤ d') : WUp d' w w' M S S' := by
  obtain ⟨M', h2, h3, h4, h5, h6, h7⟩ := h
  exact ⟨M', h2, h3, by omega, h5, h6, fun h0 => h7 (by omega)⟩

/-! ### What is read -/
theorem WAt.cells {w : World} {M : WM} {S : WS} (h : WAt w M S) : w.cell? ⟨M.x, 0, none⟩ = some (.pointer (some ⟨M.g, 0, none⟩)) ∧ w.cell? ⟨M.x, 1, none⟩ = some M.vC ∧ w.cell? ⟨M.x, 2, none⟩ = some M.vL ∧
    w.cell? ⟨M.x, 3, none⟩ = some (.map (some M.mb)) ∧ w.cell? ⟨M.x, 4, none⟩ = some (.int .i64 S.done) ∧ w.cell? ⟨M.x, 5, none⟩ = some M.vF ∧ ∀ i, w.frozen? ⟨M.x, i, none⟩ = false := by
  have hb : Blk w M.x 65 _ := h.part .self
  have h0 := hb.cell 0
  have h1 := hb.cell 1
  have h2 := hb.cell 2
  have h3 := hb.cell 3
  have h4 := hb.cell 4
  have h5 := hb.cell 5
  simp at h0 h1 h2 h3 h4 h5
  exact ⟨h0, h1, h2, h3, h4, h5, fun i => hb.frozen i⟩

end Go.Proofs.Ytnachllhjojlcaa
