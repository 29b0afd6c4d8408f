/- A watcher in memory: its parts, each in blocks of its own; what stays when some parts are written. -/
import Derived.Test.YthinopiobihmaaaGd
import Derived.Test.YthinopiobihmaaaGc
import Derived.Maps.Own
import Derived.Maps.Views
import Derived.Deep.RegionHeld3
import Derived.Deep.QuietTactic
import Derived.BigQuiet
import Derived.StillTailTactics
namespace Go.Proofs.Ythinopiobihmaaa
open Go.ChangeShapes Go.WideShapes Go.ChangeAt Go.RowKit Go.Maps
set_option maxRecDepth 100000

/-! ### A map from numbers to slices -/
def nilV : Value := .slice none 0 0
def rdV (v : Value) : Option (DataW Value × List MemPlace) := some (.held v, [])
theorem keyed3 : Keyed Try.prog 3 := int_keyed Try.underlying3
theorem zeroI (w : World) : (zeroValue 26).run Try.prog w = .ok nilV w := by kernel_rfl
theorem keyI {x : Int} (h : I64 x) : keyOf Try.prog 3 (.int .i64 x) = some (.int .i64 x) := keyOf_int_mk Try.underlying3 (by
  unfold I64 at h
  simp [Lit.wf, IntKind.min, IntKind.max, IntKind.signed, IntKind.bits]
  omega)

def updV (f : Int → Value) (x : Int) (v : Value) : Int → Value := fun y => if y = x then v else f y

/-- Block b is a map of n entries at most; f: what is read. -/
def MapV (w : World) (b n : Nat) (f : Int → Value) : Prop :=
  ∃ D, w.ownsMap Try.prog 3 rdV b n D ∧ ∀ x, D.atKey (.int .i64 x) (.held nilV) = .held (f x)

theorem MapV.made (w : World) : MapV (w.alloc (.map #[] 0)) w.heap.size 0 fun _ => nilV := ⟨_, World.ownsMap_made w Try.prog 3 rdV, fun _ => rfl⟩
theorem MapV.lt {w : World} {b n : Nat} {f : Int → Value} (h : MapV w b n f) : b < w.heap.size := by
  obtain ⟨D, h1, _⟩ := h
  exact h1.lt
theorem MapV.keep {w w' : World} {b n : Nat} {f : Int → Value} (h : MapV w b n f) (hk : w'.heap[b]? = w.heap[b]?) : MapV w' b n f := by
  obtain ⟨D, ⟨es, clock, hb, F, hs, hD⟩, h2⟩ := h
  exact ⟨D, ⟨es, clock, hk.trans hb, F, hs, hD⟩, h2⟩
theorem MapV.look {w : World} {b n : Nat} {f : Int → Value} (h : MapV w b n f) {x : Int} (hx : I64 x) : (Instr.lookup 79 (.map (some b)) (.int .i64 x) false).run Try.prog w = .ok (f x) w := by
  obtain ⟨D, h1, h2⟩ := h
  obtain ⟨v, ps, hrun, hv⟩ := h1.lookup keyed3 Try.underlying79 (zeroI w) (zd := .held nilV) (zp := []) rfl (keyI hx)
  rw [h2] at hv
  unfold rdV at hv
  simp only [Option.some.injEq, Prod.mk.injEq, DataW.held.injEq] at hv
  rw [hrun, hv.1]
theorem MapV.put {w : World} {b n : Nat} {f : Int → Value} (h : MapV w b n f) {x : Int} (hx : I64 x) (hn : n < maxLen) (v : Value) :
    ∃ w', (Instr.mapUpdate 79 (.map (some b)) (.int .i64 x) v).run Try.prog w = .ok () w' ∧ MapV w' b (n + 1) (updV f x v) ∧ w.grownBy w' (some b) := by
  obtain ⟨D, h1, h2⟩ := h
  obtain ⟨w', hrun, h3, h4⟩ := h1.update keyed3 Try.underlying79 hn (keyI hx) (val := v) (d := .held v) (ps := []) rfl
  refine ⟨w', hrun, ⟨_, h3, fun y => ?_⟩, h4⟩
  obtain ⟨es, clock, _, _, _, hD⟩ := h1
  unfold updV
  by_cases hyx : y = x
  · subst hyx
    rw [if_pos rfl, atKey_put_same (by rw [hD]; exact ⟨_, rfl⟩) (by exact keyed3.key (keyI hx))]
  · rw [if_neg hyx, atKey_put_other (by intro e; injection e with _ e; exact hyx e)]
    exact h2 y

/-! ### The parts -/
inductive Tag where
  | self | cls | lits | map | fresh | trail
  | cl (i : Nat) | li (i : Nat) | by_ (x : Int)

/-- Where a watcher's parts lie. -/
structure WM where
  x : Nat
  g : Nat
  F : Nat → Prop
  vC : Value
  vL : Value
  mb : Nat
  nB : Nat
  B : Int → Value
  vF : Value
  C : Nat → Value
  L : Nat → Value

def natC (l : List Nat) : List Value := l.map fun (i : Nat) => Value.int .i64 (i : Int)
def rowV (n : Nat) (f : Nat → Value) : List Value := (List.range n).map f

/-- Whose a block is. -/
def WM.own (M : WM) (S : WS) : Tag → Nat → Prop
  | .self, k => k = M.x
  | .trail, k => M.F k
  | .cls, k => M.vC.ownBlock = some k
  | .lits, k => M.vL.ownBlock = some k
  | .map, k => k = M.mb
  | .fresh, k => M.vF.ownBlock = some k
  | .cl i, k => i < S.cl.length ∧ (M.C i).ownBlock = some k
  | .li i, k => i < S.ls.length ∧ (M.L i).ownBlock = some k
  | .by_ x, k => (M.B x).ownBlock = some k

def WM.part (M : WM) (S : WS) (w : World) : Tag → Prop
  | .self => Blk w M.x 81 #[.pointer (some ⟨M.g, 0, none⟩), M.vC, M.vL, .map (some M.mb), .int .i64 S.done, M.vF]
  | .trail => TrA w M.F M.g (trE S.n S.es)
  | .cls => Own w 26 1 M.vC S.cl.length (rowV S.cl.length M.C)
  | .lits => Own w 26 1 M.vL S.ls.length (rowV S.ls.length M.L)
  | .map => MapV w M.mb M.nB M.B
  | .fresh => Own w 3 1 M.vF S.fresh.length (natC S.fresh)
  | .cl i => i < S.cl.length → Own w 3 1 (M.C i) (S.cl.getD i []).length (inC (S.cl.getD i []))
  | .li i => i < S.ls.length → Own w 3 1 (M.L i) (S.ls.getD i []).length (inC (S.ls.getD i []))
  | .by_ x => Own w 3 1 (M.B x) (S.by_ x).length (natC (S.by_ x))

structure WAt (w : World) (M : WM) (S : WS) : Prop where
  part : ∀ t, M.part S w t
  lt : ∀ t k, M.own S t k → k < w.heap.size
  dis : ∀ t t' k, M.own S t k → M.own S t' k → t = t'

def WM.all (M : WM) (S : WS) (k : Nat) : Prop := ∃ t, M.own S t k

theorem part_stay {w w' : World} {M : WM} {S : WS} {G : Nat → Prop} (t : Tag) (h : M.part S w t) (ht : Touch G w w') (hG : ∀ k, M.own S t k → ¬ G k) : M.part S w' t := by
  cases t with
  | self => exact Blk.touch h ht (hG _ rfl)
  | trail => exact TrA.other h ht hG
  | cls => exact Own.touch h ht hG
  | lits => exact Own.touch h ht hG
  | map =>
    have h' : MapV w M.mb M.nB M.B := h
    exact h'.keep (ht.block _ h'.lt (hG _ rfl))
  | fresh => exact Own.touch h ht hG
  | cl i => exact fun hi => Own.touch (h hi) ht fun k hk => hG k ⟨hi, hk⟩
  | li i => exact fun hi => Own.touch (h hi) ht fun k hk => hG k ⟨hi, hk⟩
  | by_ x => exact Own.touch h ht hG

theorem WAt.touch {w w' : World} {M : WM} {S : WS} {G : Nat → Prop} (h : WAt w M S) (ht : Touch G w w') (hG : ∀ k, M.all S k → ¬ G k) : WAt w' M S :=
  ⟨fun t => part_stay t (h.part t) ht fun k hk => hG k ⟨t, hk⟩, fun t k hk => Nat.lt_of_lt_of_le (h.lt t k hk) ht.size, h.dis⟩
theorem WAt.below {w w' : World} {M : WM} {S : WS} (h : WAt w M S) (hb : Below w.heap.size w w') : WAt w' M S :=
  h.touch (Touch.of_below hb fun _ => False) fun _ _ hf => hf

/-- Some parts are written anew; N: blocks that are no part of it yet. -/
theorem WAt.updN {w w' : World} {M M' : WM} {S S' : WS} (T : Tag → Prop) (N : Nat → Prop) (h : WAt w M S) (hN : ∀ k, N k → ¬ M.all S k) (ht : Touch (fun k => ∃ t, T t ∧ M.own S t k) w w')
    (hp : ∀ t, ¬ T t → M.part S w' t → M'.part S' w' t) (hp0 : ∀ t, T t → M'.part S' w' t)
    (ho : ∀ t, ¬ T t → ∀ k, M'.own S' t k → M.own S t k) (ho0 : ∀ t, T t → ∀ k, M'.own S' t k → (∃ t, T t ∧ M.own S t k) ∨ N k)
    (hl : ∀ t, T t → ∀ k, M'.own S' t k → k < w'.heap.size) (hd : ∀ t t', T t → T t' → ∀ k, M'.own S' t k → M'.own S' t' k → t = t') :
    WAt w' M' S' ∧ Touch (M.all S) w w' ∧ ∀ k, M'.all S' k → M.all S k ∨ N k := by
  have hst : ∀ t, ¬ T t → M.part S w' t := fun t hT => part_stay t (h.part t) ht fun k hk ⟨t', h1, h2⟩ => hT (h.dis t t' k hk h2 ▸ h1)
  refine ⟨⟨fun t => ?_, fun t k hk => ?_, fun t t' k h1 h2 => ?_⟩, ht.mono fun k _ ⟨t, _, hk⟩ => ⟨t, hk⟩, fun k ⟨t, hk⟩ => ?_⟩
  · by_cases hT : T t
    · exact hp0 t hT
    · exact hp t hT (hst t hT)
  · by_cases hT : T t
    · exact hl t hT k hk
    · exact Nat.lt_of_lt_of_le (h.lt t k (ho t hT k hk)) ht.size
  · by_cases hT : T t <;> by_cases hT' : T t'
    · exact hd t t' hT hT' k h1 h2
    · rcases ho0 t hT k h1 with ⟨t1, h3, h4⟩ | h3
      · exact absurd (h.dis t1 t' k h4 (ho t' hT' k h2) ▸ h3) hT'
      · exact absurd ⟨t', ho t' hT' k h2⟩ (hN k h3)
    · rcases ho0 t' hT' k h2 with ⟨t1, h3, h4⟩ | h3
      · exact absurd (h.dis t1 t k h4 (ho t hT k h1) ▸ h3) hT
      · exact absurd ⟨t, ho t hT k h1⟩ (hN k h3)
    · exact h.dis t t' k (ho t hT k h1) (ho t' hT' k h2)
  · by_cases hT : T t
    · rcases ho0 t hT k hk with ⟨t1, _, h4⟩ | h3
      · exact .inl ⟨t1, h4⟩
      · exact .inr h3
    · exact .inl ⟨t, ho t hT k hk⟩
theorem WAt.upd {w w' : World} {M M' : WM} {S S' : WS} (T : Tag → Prop) (h : WAt w M S) (ht : Touch (fun k => ∃ t, T t ∧ M.own S t k) w w')
    (hp : ∀ t, ¬ T t → M.part S w' t → M'.part S' w' t) (hp0 : ∀ t, T t → M'.part S' w' t)
    (ho : ∀ t, ¬ T t → ∀ k, M'.own S' t k → M.own S t k) (ho0 : ∀ t, T t → ∀ k, M'.own S' t k → (∃ t, T t ∧ M.own S t k) ∨ w.heap.size ≤ k)
    (hl : ∀ t, T t → ∀ k, M'.own S' t k → k < w'.heap.size) (hd : ∀ t t', T t → T t' → ∀ k, M'.own S' t k → M'.own S' t' k → t = t') :
    WAt w' M' S' ∧ Touch (M.all S) w w' ∧ ∀ k, M'.all S' k → M.all S k ∨ w.heap.size ≤ k :=
  WAt.updN T (fun k => w.heap.size ≤ k) h (fun k hk ⟨t, ht⟩ => by have := h.lt t k ht; omega) ht hp hp0 ho ho0 hl hd

/-- What a writing call leaves; d: how many entries more the map has at most. -/
def WUp (d : Nat) (w w' : World) (M : WM) (S S' : WS) : Prop := ∃ M', WAt w' M' S' ∧ M'.x = M.x ∧ M'.nB ≤ M.nB + d ∧ Touch (M.all S) w w' ∧ (∀ k, M'.all S' k → M.all S k ∨ w.heap.size ≤ k) ∧ (d = 0 → M'.B = M.B)
theorem WAt.up {w : World} {M : WM} {S : WS} (h : WAt w M S) : WUp 0 w w M S S := ⟨M, h, rfl, Nat.le_refl _, Touch.refl _ _, fun _ hk => .inl hk, fun _ => rfl⟩
theorem touch_trans {w w1 w2 : World} {F G : Nat → Prop} (ht : Touch F w w1) (h1 : ∀ k, G k → F k ∨ w.heap.size ≤ k) (h2 : Touch G w1 w2) : Touch F w w2 := ht.trans h2 fun x hxl hf => by
  rcases h1 x hf with h | h
  · exact h
  · omega
theorem all_trans {w w1 : World} {F G H : Nat → Prop} (hs : w.heap.size ≤ w1.heap.size) (h1 : ∀ k, G k → F k ∨ w.heap.size ≤ k) (h2 : ∀ k, H k → G k ∨ w1.heap.size ≤ k) : ∀ k, H k → F k ∨ w.heap.size ≤ k := fun k hk => by
  rcases h2 k hk with h | h
  · exact h1 k h
  · exact .inr (by omega)
theorem WUp.trans {d d' : Nat} {w w1 w2 : World} {M M1 : WM} {S S1 S2 : WS} (hx : M1.x = M.x) (hn : M1.nB ≤ M.nB + d) (ht : Touch (M.all S) w w1) (h1 : ∀ k, M1.all S1 k → M.all S k ∨ w.heap.size ≤ k) (hB : d = 0 → M1.B = M.B) (h : WUp d' w1 w2 M1 S1 S2) : WUp (d + d') w w2 M S S2 := by
  obtain ⟨M', h2, h3, h4, h5, h6, h7⟩ := h
  exact ⟨M', h2, h3.trans hx, by omega, touch_trans ht h1 h5, all_trans ht.size h1 h6, fun h0 => (h7 (by omega)).trans (hB (by omega))⟩
theorem WUp.mono {d d' : Nat} {w w' : World} {M : WM} {S S' : WS} (h : WUp d w w' M S S') (hd : d ≤ d') : WUp d' w w' M S S' := by
  obtain ⟨M', h2, h3, h4, h5, h6, h7⟩ := h
  exact ⟨M', h2, h3, by omega, h5, h6, fun h0 => h7 (by omega)⟩

/-! ### What is read -/
theorem WAt.cells {w : World} {M : WM} {S : WS} (h : WAt w M S) : w.cell? ⟨M.x, 0, none⟩ = some (.pointer (some ⟨M.g, 0, none⟩)) ∧ w.cell? ⟨M.x, 1, none⟩ = some M.vC ∧ w.cell? ⟨M.x, 2, none⟩ = some M.vL ∧
    w.cell? ⟨M.x, 3, none⟩ = some (.map (some M.mb)) ∧ w.cell? ⟨M.x, 4, none⟩ = some (.int .i64 S.done) ∧ w.cell? ⟨M.x, 5, none⟩ = some M.vF ∧ ∀ i, w.frozen? ⟨M.x, i, none⟩ = false := by
  have hb : Blk w M.x 81 _ := h.part .self
  have h0 := hb.cell 0
  have h1 := hb.cell 1
  have h2 := hb.cell 2
  have h3 := hb.cell 3
  have h4 := hb.cell 4
  have h5 := hb.cell 5
  simp at h0 h1 h2 h3 h4 h5
  exact ⟨h0, h1, h2, h3, h4, h5, fun i => hb.frozen i⟩

end Go.Proofs.Ythinopiobihmaaa

namespace Go.Proofs.Ythinopiobihmaaa
open Go.ChangeShapes Go.WideShapes Go.ChangeAt Go.RowKit Go.Maps
set_option maxRecDepth 100000

section
variable {w : World} {F : Nat → Prop} {g n : Nat} {es : List En}
theorem tr_value (h : TrA w F g (trE n es)) (hn : n ≤ 5000) (x : Int) (hx : I64 x) :
    Calls Try.prog 51 #[.pointer (some ⟨g, 0, none⟩), .int .i64 x] w fun e w' => e = .returned (.int .i64 (valE n es x)) ∧ w = w' := by
  obtain ⟨a, b, c, k1, _⟩ := h
  have hl : (trE n es).vars.length = n := varsE_len n es
  have := value_any g a b c _ x w k1 (by omega) hx.1 hx.2 knAt_range
  rwa [valT_trE] at this
theorem tr_levelOf (h : TrA w F g (trE n es)) (hn : n ≤ 5000) (v : Int) :
    Calls Try.prog 48 #[.pointer (some ⟨g, 0, none⟩), .int .i64 v] w fun e w' => e = .returned (.int .i64 (ofE n es v).level) ∧ Below w.heap.size w w' := by
  obtain ⟨a, b, c, k1, _⟩ := h
  have hl : (trE n es).vars.length = n := varsE_len n es
  have := levelOf_any g a b c _ v w k1 (by omega)
  rwa [ofT_trE] at this
theorem tr_level (h : TrA w F g (trE n es)) (hg : Good n es) :
    Calls Try.prog 46 #[.pointer (some ⟨g, 0, none⟩)] w fun e w' => e = .returned (.int .i64 (hi es)) ∧ w = w' := by
  obtain ⟨a, b, c, k1, _⟩ := h
  have := level_any g a b c _ w k1
  rwa [show ((trE n es).begins.length : Int) = hi es from begs_len hg] at this
theorem tr_vars (h : TrA w F g (trE n es)) :
    Calls Try.prog 40 #[.pointer (some ⟨g, 0, none⟩)] w fun e w' => e = .returned (.int .i64 n) ∧ w = w' := by
  obtain ⟨a, b, c, k1, _⟩ := h
  have := vars_any g a b c _ w k1
  rwa [show (trE n es).vars.length = n from varsE_len n es] at this
theorem tr_len (h : TrA w F g (trE n es)) :
    Calls Try.prog 41 #[.pointer (some ⟨g, 0, none⟩)] w fun e w' => e = .returned (.int .i64 es.length) ∧ w = w' := by
  obtain ⟨a, b, c, k1, _⟩ := h
  have := len_any g a b c _ w k1
  rwa [show (trE n es).lits.length = es.length by simp [trE]] at this
theorem tr_at (h : TrA w F g (trE n es)) (j : Int) :
    Calls Try.prog 43 #[.pointer (some ⟨g, 0, none⟩), .int .i64 j] w fun e w' => e = .returned (.int .i64 (atE es j)) ∧ w = w' := by
  obtain ⟨a, b, c, k1, _⟩ := h
  exact at_any g a b c _ j w k1
end

section
variable {w : World} {M : WM} {S : WS}

/-- The trail is written. -/
theorem WAt.trail {w' : World} {es' : List En} (h : WAt w M S) (hT : TrUp w w' M.F M.g (trE S.n es')) : WUp 0 w w' M S (S.wEs es') := by
  obtain ⟨F', h1, h2, h3⟩ := hT
  obtain ⟨k1, k2, k3⟩ := WAt.upd (M' := { M with F := F' }) (S' := S.wEs es') (fun t => t = .trail) h (h2.mono fun k _ hk => ⟨.trail, rfl, hk⟩)
    (fun t ht hp => by cases t <;> first | exact hp | exact absurd rfl ht) (fun t ht => by subst ht; exact h1)
    (fun t ht k hk => by cases t <;> first | exact hk | exact absurd rfl ht) (fun t ht k hk => by
      subst ht
      rcases h3 k hk with h | h
      · exact .inl ⟨.trail, rfl, h⟩
      · exact .inr h) (fun t ht k hk => by subst ht; exact h1.lt k hk) (fun t t' ht ht' _ _ _ => by subst ht ht'; rfl)
  exact ⟨_, k1, rfl, Nat.le_refl _, k2, k3, fun _ => rfl⟩

theorem wvalue (h : WAt w M S) (hn : S.n ≤ 5000) (x : Int) (hx : I64 x) :
    Calls Try.prog 32 #[.pointer (some ⟨M.x, 0, none⟩), .int .i64 x] w fun e w' => e = .returned (.int .i64 (valE S.n S.es x)) ∧ w = w' := by
  have HV := Lib.hid (tr_value (h.part .trail) hn x hx)
  obtain ⟨c0, _⟩ := h.cells
  clear h
  go_enter Try.func32, Try.ntmps32
  go_wp2_with (go_at_call 51; (with_reducible refine HV.out.mono ?_); rintro e w' ⟨rfl, rfl⟩)
  go_ret
  exact ⟨rfl, rfl⟩
theorem wvalue_nil (x : Int) : Calls Try.prog 32 #[.pointer none, .int .i64 x] w fun e w' => e = .returned (.int .i64 0) ∧ w = w' := by
  go_enter Try.func32, Try.ntmps32
  go_wp2_with fail
  go_ret
  exact ⟨rfl, rfl⟩



theorem wdecide (h : WAt w M S) (hg : Good S.n S.es) (hn : S.n ≤ 5000) (x : Int) (hx : I64 x) :
    Calls Try.prog 28 #[.pointer (some ⟨M.x, 0, none⟩), .int .i64 x] w fun e w' => e = .returned (.int .i64 (decS S x).2) ∧ WUp 0 w w' M S (decS S x).1 := by
  have HV := Lib.hid (decide_any M.F M.g S.n S.es x w (h.part .trail) hg hn hx.1 hx.2)
  have HT : Hid (∀ w', TrUp w w' M.F M.g (trE S.n (decC S.n S.es x).2) → WUp 0 w w' M S (S.wEs (decC S.n S.es x).2)) := Lib.hid fun w' hT => h.trail hT
  obtain ⟨c0, _⟩ := h.cells
  clear h
  unfold decS
  generalize decC S.n S.es x = r at *
  obtain ⟨r1, r2⟩ := r
  simp only at HV HT ⊢
  go_enter Try.func28, Try.ntmps28
  go_wp2_with (go_at_call 39; (with_reducible refine HV.out.mono ?_); rintro e w' ⟨rfl, hT⟩)
  go_ret
  exact ⟨rfl, HT.out _ hT⟩
theorem wdecide_nil (x : Int) : Calls Try.prog 28 #[.pointer none, .int .i64 x] w fun e w' => e = .returned (.int .i64 2) ∧ w = w' := by
  go_enter Try.func28, Try.ntmps28
  go_wp2_with fail
  go_ret
  exact ⟨rfl, rfl⟩

theorem wrank (h : WAt w M S) (hn : S.n ≤ 5000) (x : Int) (hx : 1 ≤ x.natAbs ∧ x.natAbs ≤ S.n) :
    Calls Try.prog 75 #[.pointer (some ⟨M.x, 0, none⟩), .int .i64 x] w fun e w' => e = .returned (.int .i64 (rankE S.n S.es x)) ∧ Below w.heap.size w w' := by
  have HV := Lib.hid (wvalue h hn x ⟨by omega, by omega⟩)
  have HN := Lib.hid (tr_vars (h.part .trail))
  have HL := Lib.hid (tr_levelOf (h.part .trail) hn ((x.natAbs : Int) - 1))
  obtain ⟨c0, _⟩ := h.cells
  clear h
  obtain ⟨R, hR⟩ : ∃ R, R = rankE S.n S.es x := ⟨_, rfl⟩
  rw [← hR]
  unfold rankE at hR
  generalize valE S.n S.es x = v at *
  generalize (ofE S.n S.es ((x.natAbs : Int) - 1)).level = lv at *
  obtain ⟨n, hnn⟩ : ∃ n, n = S.n := ⟨_, rfl⟩
  rw [← hnn] at *
  clear hnn
  by_cases hv : 0 ≤ v
  · rw [if_pos hv] at hR
    subst hR
    go_enter Try.func75, Try.ntmps75
    go_wp2_with (first
      | (go_at_call 32; (with_reducible refine HV.out.mono ?_); rintro e w' ⟨rfl, rfl⟩)
      | (go_at_call 40; (with_reducible refine HN.out.mono ?_); rintro e w' ⟨rfl, rfl⟩))
    go_ret
    exact ⟨rfl, Below.refl _ _⟩
  · rw [if_neg hv] at hR
    subst hR
    have hv2 : decide (0 ≤ v) = false := by simpa using hv
    by_cases hp : 0 < x
    · obtain ⟨k, rfl⟩ := Int.eq_ofNat_of_zero_le (by omega : 0 ≤ x)
      have hab : ((k : Int).natAbs : Int) = (k : Int) := by omega
      rw [hab] at HL
      have hm : max (k : Int) (-(k : Int)) = (k : Int) := by omega
      clear hab
      go_enter Try.func75, Try.ntmps75
      go_wp2_with (first
        | (go_at_call 32; (with_reducible refine HV.out.mono ?_); rintro e w' ⟨rfl, rfl⟩)
        | (go_at_call 48; (with_reducible refine HL.out.mono ?_); rintro e w' ⟨rfl, hb⟩))
      go_ret
      exact ⟨rfl, hb⟩
    · obtain ⟨k, rfl⟩ : ∃ k : Nat, x = -(k : Int) := ⟨x.natAbs, by omega⟩
      have hab : ((-(k : Int)).natAbs : Int) = (k : Int) := by omega
      rw [hab] at HL
      have hm : max (-(k : Int)) (k : Int) = (k : Int) := by omega
      clear hab
      go_enter Try.func75, Try.ntmps75
      go_wp2_with (first
        | (go_at_call 32; (with_reducible refine HV.out.mono ?_); rintro e w' ⟨rfl, rfl⟩)
        | (go_at_call 48; (with_reducible refine HL.out.mono ?_); rintro e w' ⟨rfl, hb⟩))
      go_ret
      exact ⟨rfl, hb⟩
end

theorem wnew_any (n : Nat) (w : World) (hn : n ≤ 5000) :
    Calls Try.prog 25 #[.int .i64 n] w fun e w' => ∃ M, e = .returned (.tuple #[.pointer (some ⟨M.x, 0, none⟩), .int .i64 0]) ∧ WAt w' M (newS n) ∧ Below w.heap.size w w' ∧ ∀ k, M.all (newS n) k → w.heap.size ≤ k := by
  have HN := Lib.hid (new_any n w hn)
  have hmm := @run_makeMap Try.prog
  go_enter Try.func25, Try.ntmps25
  go_wp2_with (go_at_call 36; refine HN.out.mono ?_; rintro e w1 ⟨g, rfl, hb1, F, hT, hF⟩)
  go_ret2
  have b2 : Below w1.heap.size w1 ((w1.alloc (.map #[] 0)).alloc (.cells #[.pointer (some ⟨g, 0, none⟩), .slice none 0 0, .slice none 0 0, .map (some w1.heap.size), .int .i64 0, .slice none 0 0] 81)) := ((Below.refl _ _).alloc (Nat.le_refl _) _).alloc (by simp) _
  have hs := hb1.size
  refine ⟨⟨w1.heap.size + 1, g, F, nilV, nilV, w1.heap.size, 0, fun _ => nilV, nilV, fun _ => nilV, fun _ => nilV⟩, rfl, ⟨fun t => ?_, fun t k hk => ?_, fun t t' k h1 h2 => ?_⟩, bel_new hb1 hb1.size b2, fun k ⟨t, hk⟩ => ?_⟩
  · cases t with
    | self =>
      have := Blk.new (w1.alloc (.map #[] 0)) 81 #[.pointer (some ⟨g, 0, none⟩), .slice none 0 0, .slice none 0 0, .map (some w1.heap.size), .int .i64 0, .slice none 0 0]
      rw [show (w1.alloc (.map #[] 0)).heap.size = w1.heap.size + 1 by simp] at this
      exact this
    | trail => exact hT.below b2
    | map => exact (MapV.made w1).keep (Below.heap_alloc _ _ _ (by simp))
    | cls => exact Own.nil _ _ _
    | lits => exact Own.nil _ _ _
    | fresh => exact Own.nil _ _ _
    | cl i => exact fun hi => absurd hi (by simp [newS])
    | li i => exact fun hi => absurd hi (by simp [newS])
    | by_ x => exact Own.nil _ _ _
  · cases t with
    | self => cases hk; simp
    | map => cases hk; simp; omega
    | trail => have := hT.lt k hk; simp; omega
    | cl i => simp [WM.own, newS] at hk
    | li i => simp [WM.own, newS] at hk
    | _ => simp [WM.own, nilV, Value.ownBlock] at hk
  · have hlt := hT.lt k
    cases t <;> cases t' <;> simp [WM.own, nilV, newS, Value.ownBlock] at h1 h2 ⊢
    · omega
    · have := hlt h2; omega
    · omega
    · have := hlt h2; omega
    · have := hlt h1; omega
    · have := hlt h1; omega
  · cases t with
    | self => cases hk; show w.heap.size ≤ w1.heap.size + 1; omega
    | map => cases hk; show w.heap.size ≤ w1.heap.size; omega
    | trail => exact hF k hk
    | cl i => simp [WM.own, newS] at hk
    | li i => simp [WM.own, newS] at hk
    | _ => simp [WM.own, nilV, Value.ownBlock] at hk

theorem wnew_bad (n : Int) (w : World) (hn : n < 0 ∨ 2097152 < n) :
    Calls Try.prog 25 #[.int .i64 n] w fun e w' => e = .returned (.tuple #[.pointer none, .int .i64 1]) ∧ w = w' := by
  have HN := Lib.hid (new_bad n w hn)
  go_enter Try.func25, Try.ntmps25
  go_wp2_with (go_at_call 36; refine HN.out.mono ?_; rintro e w1 ⟨rfl, rfl⟩)
  go_ret2
  exact ⟨rfl, rfl⟩

end Go.Proofs.Ythinopiobihmaaa

namespace Go.Proofs.Ythinopiobihmaaa
open Go.ChangeShapes Go.WideShapes Go.ChangeAt Go.RowKit Go.Maps
set_option maxRecDepth 100000

theorem inC_getD (l : List Int) (i : Nat) (h : i < l.length) : (inC l)[i]? = some (.int .i64 (l.getD i 0)) := by
  simp [inC, h, List.getD]
theorem inC_set (l : List Int) (i : Nat) (x : Int) : (inC l).set i (.int .i64 x) = inC (l.set i x) := by
  simp [inC, List.map_set]
theorem inC_len (l : List Int) : (inC l).length = l.length := by simp [inC]
theorem natC_snoc (l : List Nat) (c : Nat) : natC (l ++ [c]) = natC l ++ [.int .i64 (c : Int)] := by simp [natC]
theorem natC_len (l : List Nat) : (natC l).length = l.length := by simp [natC]
theorem natC_one (l : List Nat) : ∀ u ∈ natC l, u.oneCell' = true := fun u hu => by
  obtain ⟨i, _, rfl⟩ := List.mem_map.1 hu
  rfl
theorem natC_get (l : List Nat) (i : Nat) (h : i < l.length) : (natC l)[i]? = some (.int .i64 ((l[i] : Nat) : Int)) := by
  simp [natC, h]
theorem rowV_len (n : Nat) (f : Nat → Value) : (rowV n f).length = n := by simp [rowV]
theorem rowV_get (n : Nat) (f : Nat → Value) (i : Nat) (h : i < n) : (rowV n f)[i]? = some (f i) := by simp [rowV, h]

section
variable {w : World} {M : WM} {S : WS}

/-- One row's literals are written anew. -/
theorem WAt.setLi {w' : World} (h : WAt w M S) {c : Nat} (hc : c < S.ls.length) (l' : List Int) (ht : Touch (fun k => (M.L c).ownBlock = some k) w w') (ho : Own w' 3 1 (M.L c) l'.length (inC l')) :
    WAt w' M (S.wLs (S.ls.set c l')) ∧ Touch (M.all S) w w' ∧ ∀ k, M.all (S.wLs (S.ls.set c l')) k → M.all S k ∨ w.heap.size ≤ k := by
  have hg := getD_setL S.ls c l' hc
  have hl : (S.ls.set c l').length = S.ls.length := by simp
  refine WAt.upd (M' := M) (S' := S.wLs (S.ls.set c l')) (fun t => t = .li c) h (ht.mono fun k _ hk => ⟨.li c, rfl, hc, hk⟩) (fun t ht hp => ?_) (fun t ht => ?_) (fun t ht k hk => ?_) (fun t ht k hk => ?_) (fun t ht k hk => ?_) (fun t t' ht ht' _ _ _ => by subst ht ht'; rfl)
  · cases t with
    | lits =>
      show Own w' 26 1 M.vL (S.ls.set c l').length (rowV (S.ls.set c l').length M.L)
      rw [hl]
      exact hp
    | li i =>
      intro hi
      show Own w' 3 1 (M.L i) ((S.ls.set c l').getD i []).length (inC ((S.ls.set c l').getD i []))
      have hic : i ≠ c := fun e => ht (by rw [e])
      rw [hg, if_neg hic]
      have hi' : i < (S.ls.set c l').length := hi
      rw [hl] at hi'
      exact hp hi'
    | _ => exact hp
  · subst ht
    intro _
    show Own w' 3 1 (M.L c) ((S.ls.set c l').getD c []).length (inC ((S.ls.set c l').getD c []))
    rw [hg, if_pos rfl]
    exact ho
  · cases t with
    | li i =>
      obtain ⟨h1, h2⟩ := hk
      have hi' : i < (S.ls.set c l').length := h1
      rw [hl] at hi'
      exact ⟨hi', h2⟩
    | _ => exact hk
  · subst ht
    exact .inl ⟨.li c, rfl, hc, hk.2⟩
  · subst ht
    exact Nat.lt_of_lt_of_le (h.lt (.li c) k ⟨hc, hk.2⟩) (Touch.size (F := fun k => (M.L c).ownBlock = some k) (by assumption))

/-- What a literal's watchers become. -/
theorem WAt.byPutN (N : Nat → Prop) (hN : ∀ k, N k → ¬ M.all S k) (h : WAt w M S) {y : Int} (hy : I64 y) (hn : M.nB < maxLen) (L : List Nat) {w1 : World} {v' : Value} (ht : Touch (fun k => (M.B y).ownBlock = some k) w w1) (ho : Own w1 3 1 v' L.length (natC L))
    (hat : ∀ k, v'.ownBlock = some k → (M.B y).ownBlock = some k ∨ N k) :
    ∃ w2, (Instr.mapUpdate 79 (.map (some M.mb)) (.int .i64 y) v').run Try.prog w1 = .ok () w2 ∧ w1.grownBy w2 (some M.mb) ∧ WAt w2 { M with B := updV M.B y v', nB := M.nB + 1 } (S.wBy (updF S.by_ y L)) ∧
      Touch (M.all S) w w2 ∧ ∀ k, WM.all { M with B := updV M.B y v', nB := M.nB + 1 } (S.wBy (updF S.by_ y L)) k → M.all S k ∨ N k := by
  have hm : MapV w M.mb M.nB M.B := h.part .map
  have hmb : ¬ (M.B y).ownBlock = some M.mb := fun e => by
    have := h.dis (.by_ y) .map M.mb e rfl
    cases this
  have hm1 : MapV w1 M.mb M.nB M.B := hm.keep (ht.block _ hm.lt hmb)
  obtain ⟨w2, hrun, hm2, hg2⟩ := hm1.put hy hn v'
  have hvm : v'.ownBlock ≠ some M.mb := fun e => by
    rcases hat _ e with h1 | h1
    · exact hmb h1
    · exact hN _ h1 ⟨.map, rfl⟩
  have ht2 : Touch (fun k => ∃ t, (t = Tag.map ∨ t = Tag.by_ y) ∧ M.own S t k) w w2 :=
    (ht.mono (G := fun k => ∃ t, (t = Tag.map ∨ t = Tag.by_ y) ∧ M.own S t k) fun k _ hk => ⟨.by_ y, .inr rfl, hk⟩).trans (Touch.of_grown (F := fun k => k = M.mb) hg2 fun k hk => by injection hk with hk; exact hk.symm) fun k _ hk => ⟨.map, .inl rfl, hk⟩
  have ho2 : Own w2 3 1 v' L.length (natC L) := ho.grown hg2 (.inr hvm)
  refine ⟨w2, hrun, hg2, ?_⟩
  refine WAt.updN (M' := { M with B := updV M.B y v', nB := M.nB + 1 }) (S' := S.wBy (updF S.by_ y L)) (fun t => t = .map ∨ t = .by_ y) N h hN ht2 (fun t ht hp => ?_) (fun t ht => ?_) (fun t ht k hk => ?_) (fun t ht k hk => ?_) (fun t ht k hk => ?_) (fun t t' ht ht' k h1 h2 => ?_)
  · cases t with
    | map => exact absurd (.inl rfl) ht
    | by_ x =>
      have hxy : x ≠ y := fun e => ht (.inr (by rw [e]))
      show Own w2 3 1 (updV M.B y v' x) (updF S.by_ y L x).length (natC (updF S.by_ y L x))
      unfold updV
      rw [if_neg hxy, updF_ne _ _ hxy]
      exact hp
    | _ => exact hp
  · rcases ht with rfl | rfl
    · exact hm2
    · show Own w2 3 1 (updV M.B y v' y) (updF S.by_ y L y).length (natC (updF S.by_ y L y))
      unfold updV
      rw [if_pos rfl, updF_same]
      exact ho2
  · cases t with
    | by_ x =>
      have hxy : x ≠ y := fun e => ht (.inr (by rw [e]))
      have hk' : (updV M.B y v' x).ownBlock = some k := hk
      unfold updV at hk'
      rw [if_neg hxy] at hk'
      exact hk'
    | _ => exact hk
  · rcases ht with rfl | rfl
    · exact .inl ⟨.map, .inl rfl, hk⟩
    · have hk' : (updV M.B y v' y).ownBlock = some k := hk
      unfold updV at hk'
      rw [if_pos rfl] at hk'
      rcases hat k hk' with h1 | h1
      · exact .inl ⟨.by_ y, .inr rfl, h1⟩
      · exact .inr h1
  · rcases ht with rfl | rfl
    · cases hk
      exact hm2.lt
    · have hk' : (updV M.B y v' y).ownBlock = some k := hk
      unfold updV at hk'
      rw [if_pos rfl] at hk'
      exact ho2.lt k hk'
  · rcases ht with rfl | rfl <;> rcases ht' with rfl | rfl
    · rfl
    · exfalso
      cases h1
      have hk' : (updV M.B y v' y).ownBlock = some M.mb := h2
      unfold updV at hk'
      rw [if_pos rfl] at hk'
      exact hvm hk'
    · exfalso
      cases h2
      have hk' : (updV M.B y v' y).ownBlock = some M.mb := h1
      unfold updV at hk'
      rw [if_pos rfl] at hk'
      exact hvm hk'
    · rfl

theorem WAt.byPut (h : WAt w M S) {y : Int} (hy : I64 y) (hn : M.nB < maxLen) (L : List Nat) {w1 : World} {v' : Value} (ht : Touch (fun k => (M.B y).ownBlock = some k) w w1) (ho : Own w1 3 1 v' L.length (natC L))
    (hat : ∀ k, v'.ownBlock = some k → (M.B y).ownBlock = some k ∨ w.heap.size ≤ k) :
    ∃ w2, (Instr.mapUpdate 79 (.map (some M.mb)) (.int .i64 y) v').run Try.prog w1 = .ok () w2 ∧ w1.grownBy w2 (some M.mb) ∧ WAt w2 { M with B := updV M.B y v', nB := M.nB + 1 } (S.wBy (updF S.by_ y L)) ∧
      Touch (M.all S) w w2 ∧ ∀ k, WM.all { M with B := updV M.B y v', nB := M.nB + 1 } (S.wBy (updF S.by_ y L)) k → M.all S k ∨ w.heap.size ≤ k :=
  WAt.byPutN (fun k => w.heap.size ≤ k) (fun k hk ⟨t, ht⟩ => by have := h.lt t k ht; omega) h hy hn L ht ho hat

/-- One more watches a literal. -/
theorem WAt.byPush (h : WAt w M S) {y : Int} (hy : I64 y) (hn : M.nB < maxLen) (c : Nat) {wA w1 : World} {v' : Value} (hA : Below w.heap.size w wA)
    (ho : Own w1 3 1 v' ((S.by_ y).length + 1) (natC (S.by_ y) ++ [.int .i64 (c : Int)])) (hg : wA.grownBy w1 (M.B y).ownBlock) (hat : v'.ownBlock = (M.B y).ownBlock ∨ v'.ownBlock = some wA.heap.size) :
    ∃ w2, (Instr.mapUpdate 79 (.map (some M.mb)) (.int .i64 y) v').run Try.prog w1 = .ok () w2 ∧ w1.grownBy w2 (some M.mb) ∧ WAt w2 { M with B := updV M.B y v', nB := M.nB + 1 } (S.wBy (updF S.by_ y (S.by_ y ++ [c]))) ∧
      Touch (M.all S) w w2 ∧ ∀ k, WM.all { M with B := updV M.B y v', nB := M.nB + 1 } (S.wBy (updF S.by_ y (S.by_ y ++ [c]))) k → M.all S k ∨ w.heap.size ≤ k := by
  have ht : Touch (fun k => (M.B y).ownBlock = some k) w w1 := (Touch.of_below hA fun k => (M.B y).ownBlock = some k).trans (Touch.of_grown (F := fun k => (M.B y).ownBlock = some k) hg fun k hk => hk) fun _ _ hk => hk
  obtain ⟨w2, h1, h2⟩ := h.byPut hy hn (S.by_ y ++ [c]) ht (by rw [natC_snoc, List.length_append]; exact ho) (fun k hk => by
    rcases hat with e | e
    · exact .inl (e ▸ hk)
    · rw [e] at hk
      injection hk with hk
      exact .inr (by have := hA.size; omega))
  exact ⟨w2, h1, h2⟩

/-- A row's cells. -/
theorem WAt.row (h : WAt w M S) {c : Nat} (hc : c < S.ls.length) (h0 : 0 < (S.ls.getD c []).length) : ∃ b off cap, M.L c = .slice (some ⟨b, off, none⟩) (S.ls.getD c []).length cap ∧ (S.ls.getD c []).length ≤ cap ∧
    (∀ i, i < (S.ls.getD c []).length → w.cell? ⟨b, off + i, none⟩ = some (.int .i64 ((S.ls.getD c []).getD i 0))) ∧ (∀ i, w.frozen? ⟨b, i, none⟩ = false) ∧ b < w.heap.size := by
  have ho : Own w 3 1 (M.L c) _ _ := h.part (.li c) hc
  obtain ⟨ao, cap, e, h1, h2, hf⟩ := ho.form
  obtain ⟨b, off, rfl, hc2, h3, h4⟩ := hf h0
  exact ⟨b, off, cap, e, h1, fun i hi => by rw [hc2 i (by rw [inC_len]; exact hi), inC_getD _ _ hi], h3, h4⟩

/-- Two of them change places. -/
theorem WAt.swap (h : WAt w M S) {c : Nat} (hc : c < S.ls.length) {b off cap : Nat} (hL : M.L c = .slice (some ⟨b, off, none⟩) (S.ls.getD c []).length cap) (i j : Nat) :
    WAt ((w.setCell ⟨b, off + i, none⟩ (.int .i64 ((S.ls.getD c []).getD j 0))).setCell ⟨b, off + j, none⟩ (.int .i64 ((S.ls.getD c []).getD i 0))) M (S.wLs (S.ls.set c (swapL (S.ls.getD c []) i j))) ∧
    Touch (M.all S) w ((w.setCell ⟨b, off + i, none⟩ (.int .i64 ((S.ls.getD c []).getD j 0))).setCell ⟨b, off + j, none⟩ (.int .i64 ((S.ls.getD c []).getD i 0))) ∧
    ∀ k, M.all (S.wLs (S.ls.set c (swapL (S.ls.getD c []) i j))) k → M.all S k ∨ w.heap.size ≤ k := by
  have ho : Own w 3 1 (M.L c) _ _ := h.part (.li c) hc
  have hlt := h.lt (.li c) b ⟨hc, by rw [hL]; rfl⟩
  refine h.setLi hc _ (((Touch.refl _ w).setCell (fun _ => by rw [hL]; rfl) _).setCell (fun _ => by rw [hL]; rfl) _) ?_
  rw [hL] at ho ⊢
  have h2 := (ho.stored i (.int .i64 ((S.ls.getD c []).getD j 0))).stored j (.int .i64 ((S.ls.getD c []).getD i 0))
  rw [inC_set, inC_set] at h2
  rw [swapL_len]
  exact h2
end

end Go.Proofs.Ythinopiobihmaaa

namespace Go.Proofs.Ythinopiobihmaaa
open Go.ChangeShapes Go.WideShapes Go.ChangeAt Go.RowKit Go.Maps Go.Deep
set_option maxRecDepth 100000

/-- The state while choose goes on. -/
abbrev chS (S : WS) (c : Nat) (q : List Int × (Int → List Nat)) : WS := (S.wLs (S.ls.set c q.1)).wBy q.2
theorem chS_row (S : WS) (c : Nat) (q : List Int × (Int → List Nat)) (hc : c < S.ls.length) : (chS S c q).ls.getD c [] = q.1 := by
  show (S.ls.set c q.1).getD c [] = q.1
  rw [getD_setL _ _ _ hc, if_pos rfl]
theorem chS_len (S : WS) (c : Nat) (q : List Int × (Int → List Nat)) : (chS S c q).ls.length = S.ls.length := by
  show (S.ls.set c q.1).length = _
  simp
theorem chS_start (S : WS) (c : Nat) : chS S c (S.ls.getD c [], S.by_) = S := by
  have e : S.ls.set c (S.ls.getD c []) = S.ls := by
    apply List.ext_getElem?
    intro i
    by_cases h : c = i
    · subst h
      rw [List.getElem?_set]
      simp only [if_true, List.getD_eq_getElem?_getD]
      split
      · next hl => rw [List.getElem?_eq_getElem hl]; rfl
      · next hl => rw [List.getElem?_eq_none (by omega)]
    · rw [List.getElem?_set_ne h]
  show WS.mk S.n S.es S.cl (S.ls.set c (S.ls.getD c [])) S.by_ S.done S.fresh = S
  rw [e]
theorem chS_swap (S : WS) (c : Nat) (l : List Int) (b : Int → List Nat) (l' : List Int) : (chS S c (l, b)).wLs ((chS S c (l, b)).ls.set c l') = chS S c (l', b) := by
  show WS.mk S.n S.es S.cl ((S.ls.set c l).set c l') b S.done S.fresh = WS.mk S.n S.es S.cl (S.ls.set c l') b S.done S.fresh
  rw [List.set_set]

theorem ch_pre (r : Int → Int) (c : Nat) (l : List Int) (b : Int → List Nat) : ∀ i, i ≤ l.length → ((List.range i).foldl (chStep r c) (l, b)).1.Perm l ∧ ∀ x, (((List.range i).foldl (chStep r c) (l, b)).2 x).length ≤ (b x).length + i
  | 0, _ => ⟨List.Perm.refl _, fun _ => Nat.le_refl _⟩
  | i + 1, h => by
    obtain ⟨h1, h2⟩ := ch_pre r c l b i (by omega)
    rw [List.range_succ, List.foldl_append]
    generalize (List.range i).foldl (chStep r c) (l, b) = q at *
    have hq := h1.length_eq
    refine ⟨(best_spec r q.1 i (by omega)).1.trans h1, fun x => ?_⟩
    have h3 := h2 x
    show (updF q.2 ((bestC r q.1 i).getD i 0) (q.2 ((bestC r q.1 i).getD i 0) ++ [c]) x).length ≤ _
    unfold updF
    split
    · next e => rw [← e, List.length_append]; simp; omega
    · omega
theorem inner_next (r : Int → Int) (i : Nat) (l : List Int) (j : Nat) (hj : i + 1 ≤ j) : innerC r i l (List.range' (i + 1) (j + 1 - (i + 1))) =
    if r ((innerC r i l (List.range' (i + 1) (j - (i + 1)))).getD i 0) < r ((innerC r i l (List.range' (i + 1) (j - (i + 1)))).getD j 0) then swapL (innerC r i l (List.range' (i + 1) (j - (i + 1)))) i j else innerC r i l (List.range' (i + 1) (j - (i + 1))) := by
  have e : j + 1 - (i + 1) = (j - (i + 1)) + 1 := by omega
  have e2 : i + 1 + (j - (i + 1)) = j := by omega
  rw [e, List.range'_1_concat, e2]
  unfold innerC
  rw [List.foldl_append]
  rfl

set_option maxHeartbeats 4000000 in
theorem wchoose_any (w : World) (M : WM) (S : WS) (h : WAt w M S) (hn : S.n ≤ 5000) (c : Nat) (hc : c < S.ls.length) (hk : ∀ x ∈ S.ls.getD c [], 1 ≤ x.natAbs ∧ x.natAbs ≤ S.n) (hl : (S.ls.getD c []).length ≤ 1000000)
    (hby : ∀ x, (S.by_ x).length ≤ 1000000) (hnB : M.nB ≤ 1000000000000) :
    Calls Try.prog 61 #[.pointer (some ⟨M.x, 0, none⟩), .int .i64 c] w fun e w' => e = .returned (.tuple #[]) ∧ WUp 2 w w' M S (chS S c (chooseE (rankE S.n S.es) c (S.ls.getD c []) S.by_)) := by
  obtain ⟨i3, hi3, hz0, hz1, hz2⟩ := info_parts (P := Try.prog) (e := 3) (z := .int .i64 0) (size := 1) (bytes := 8) (by kernel_rfl)
  obtain ⟨l, hll⟩ : ∃ l, l = S.ls.getD c [] := ⟨_, rfl⟩
  obtain ⟨r, hr⟩ : ∃ r, r = rankE S.n S.es := ⟨_, rfl⟩
  have hoR : Own w 3 1 (M.L c) _ _ := h.part (.li c) hc
  obtain ⟨aoR, capR, eL, hcapR, hcapM, _⟩ := hoR.form
  have hoL : Own w 26 1 M.vL S.ls.length _ := h.part .lits
  obtain ⟨aoL, capL, eLL, _, _, hfL⟩ := hoL.form
  obtain ⟨bL, oL, rfl, hcL, _, _⟩ := hfL (by omega)
  have hcl := hcL c (by rw [rowV_len]; exact hc)
  rw [rowV_get _ _ _ hc, eL] at hcl
  obtain ⟨_, _, c2, c3, _, _, _⟩ := h.cells
  rw [eLL] at c2
  rw [← hll] at hk hl eL hcapR hcl ⊢
  rw [← hr]
  have hci : (c : Int) < (S.ls.length : Int) := by omega
  obtain ⟨m, hm⟩ : ∃ m, m = min 2 l.length := ⟨_, rfl⟩
  have hmin : min (2 : Int) (l.length : Int) = (m : Int) := by omega
  have hm2 : m ≤ 2 := by omega
  have hml : m ≤ l.length := by omega
  have HM := Lib.hid hm
  have HW0 : Hid (WAt w M (chS S c (l, S.by_))) := Lib.hid (by rw [hll, chS_start]; exact h)
  have HWo := Lib.hid h
  have HAll : Hid (∀ k, M.all (chS S c (l, S.by_)) k → M.all S k ∨ w.heap.size ≤ k) := Lib.hid (by rw [hll, chS_start]; exact fun k hk => .inl hk)
  have HK := Lib.hid hk
  have HR := Lib.hid hr
  have HBy := Lib.hid hby
  have HL := Lib.hid eL
  clear h hoR hoL hcL hfL hk hr hby hm hll eL eLL
  go_enter Try.func61, Try.ntmps61
  go_wp2_with fail
  all_goals
    go_loopw [17] (fun s wr => ∃ (i : Nat) (M1 : WM) (q : List Int × (Int → List Nat)), i ≤ m ∧ s = .int .i64 i ∧ Hid (q = (List.range i).foldl (chStep r c) (l, S.by_)) ∧ Hid (WAt wr M1 (chS S c q)) ∧ Hid (M1.x = M.x) ∧ Hid (M1.L c = M.L c) ∧ Hid (M1.nB ≤ M.nB + i) ∧
      Hid (Touch (M.all S) w wr) ∧ Hid (∀ k, M1.all (chS S c q) k → M.all S k ∨ w.heap.size ≤ k)) (fun s _ => m - (intOf s).toNat)
    case atStart => exact ⟨0, M, (l, S.by_), by omega, rfl, Lib.hid rfl, HW0, Lib.hid rfl, Lib.hid rfl, Lib.hid (Nat.le_refl _), Lib.hid (Touch.refl _ _), HAll⟩
    case round =>
      obtain ⟨i, M1, q, him, rfl, HQ, HW, HX, HLc, HNb, HT, HA⟩ := hrel
      by_cases hlt : i < m
      · have hti : (i : Int) < (l.length : Int) := by omega
        have hti2 : (i : Int) < 2 := by omega
        have hrow := HW.out.row (c := c) (by rw [chS_len]; exact hc)
        have hpre := ch_pre r c l S.by_ i (by omega)
        rw [← HQ.out] at hpre
        obtain ⟨hper, hqb⟩ := hpre
        have hql := hper.length_eq
        have HPer := Lib.hid hper
        have HQb := Lib.hid hqb
        rw [chS_row _ _ _ hc, HLc.out, HL.out, hql] at hrow
        obtain ⟨b, off, cap', eLc, _, _, _, hbl⟩ := hrow (by omega)
        injection eLc with e1 _ e3
        subst e1
        obtain ⟨wo, rfl⟩ : ∃ wo : World, wo = wr := ⟨_, rfl⟩
        clear hper hqb hrow e3
        go_wp2_with fail
        go_loopw [6] (fun s wq => ∃ (j : Nat) (l2 : List Int), i + 1 ≤ j ∧ j ≤ l.length ∧ s = .int .i64 j ∧ Hid (l2 = innerC r i q.1 (List.range' (i + 1) (j - (i + 1)))) ∧ Hid (WAt wq M1 (chS S c (l2, q.2))) ∧
          Hid (Touch (M.all S) w wq) ∧ Hid (∀ k, M1.all (chS S c (l2, q.2)) k → M.all S k ∨ w.heap.size ≤ k)) (fun s _ => l.length - (intOf s).toNat)
        case atStart => exact ⟨i + 1, q.1, by omega, by omega, by go_num, Lib.hid (by rw [Nat.sub_self]; rfl), HW, HT, HA⟩
        case round =>
          obtain ⟨j, l2, hj1, hj2, rfl, HI, HW2, HT2, HA2⟩ := hrel
          have hq1 : q.1.length = l.length := HPer.out.length_eq
          obtain ⟨hp1, _, _⟩ := inner_spec r i q.1 (by omega) (j - (i + 1)) (by omega)
          rw [← HI.out] at hp1
          have hl2 : l2.length = l.length := by rw [hp1.length_eq, hq1]
          have HP2 := Lib.hid (hp1.trans HPer.out)
          have hrow := HW2.out.row (c := c) (by rw [chS_len]; exact hc)
          rw [chS_row _ _ _ hc, HLc.out, HL.out, hl2] at hrow
          obtain ⟨b', off', cap2, eLc, _, hcell, hfro, _⟩ := hrow (by omega)
          injection eLc with e1 _ e3
          injection e1 with e1
          injection e1 with e1 e2
          subst e1 e2
          clear e3
          have hyi : l2.getD i 0 ∈ l := HP2.out.mem_iff.1 (by rw [List.getD_eq_getElem?_getD, List.getElem?_eq_getElem (by omega : i < l2.length)]; exact List.getElem_mem _)
          have hki := HK.out _ hyi
          have HRk : Hid (∀ w' y, Below wr.heap.size wr w' → 1 ≤ y.natAbs ∧ y.natAbs ≤ S.n → Calls Try.prog 75 #[.pointer (some ⟨M.x, 0, none⟩), .int .i64 y] w' fun e w'' => e = .returned (.int .i64 (r y)) ∧ Below w'.heap.size w' w'') := Lib.hid fun w' y hb hy => by
            have h := wrank (HW2.out.below hb) hn y hy
            rw [HX.out] at h
            rw [HR.out]
            exact h
          by_cases hjl : j < l.length
          · have hji : (j : Int) < (l.length : Int) := by omega
            have hyj : l2.getD j 0 ∈ l := HP2.out.mem_iff.1 (by rw [List.getD_eq_getElem?_getD, List.getElem?_eq_getElem (by omega : j < l2.length)]; exact List.getElem_mem _)
            have hkj := HK.out _ hyj
            have hnx := inner_next r i q.1 j hj1
            rw [← HI.out] at hnx
            have HSw : Hid (∀ w', Below wr.heap.size wr w' → WAt ((w'.setCell ⟨b, off + i, none⟩ (.int .i64 (l2.getD j 0))).setCell ⟨b, off + j, none⟩ (.int .i64 (l2.getD i 0))) M1 (chS S c (swapL l2 i j, q.2)) ∧
              Touch (M.all S) w ((w'.setCell ⟨b, off + i, none⟩ (.int .i64 (l2.getD j 0))).setCell ⟨b, off + j, none⟩ (.int .i64 (l2.getD i 0))) ∧ ∀ k, M1.all (chS S c (swapL l2 i j, q.2)) k → M.all S k ∨ w.heap.size ≤ k) := Lib.hid fun w' hb => by
              have h := (HW2.out.below hb).swap (c := c) (by rw [chS_len]; exact hc) (b := b) (off := off) (cap := capR) (by rw [chS_row _ _ _ hc, HLc.out, HL.out, hl2]) i j
              rw [chS_row _ _ _ hc, chS_swap] at h
              obtain ⟨k1, k2, k3⟩ := h
              have ht := HT2.out.trans (Touch.of_below hb fun _ => False) fun _ _ hf => hf.elim
              exact ⟨k1, touch_trans ht HA2.out k2, all_trans ht.size HA2.out k3⟩
            have hcj := hcell j hjl
            have hcii := hcell i (by omega)
            have hbw : b < wr.heap.size := World.block_lt_of_cell? _ _ hcj
            have HC : Hid (∀ w', Below wr.heap.size wr w' → w'.cell? ⟨b, off + j, none⟩ = some (.int .i64 (l2.getD j 0)) ∧ w'.cell? ⟨b, off + i, none⟩ = some (.int .i64 (l2.getD i 0))) := Lib.hid fun w' hb =>
              ⟨(World.cell?_of_block (w := wr) (hb.block b hbw)).trans hcj, (World.cell?_of_block (w := wr) (hb.block b hbw)).trans hcii⟩
            have HF : Hid (∀ w', Below wr.heap.size wr w' → ∀ i, w'.frozen? ⟨b, i, none⟩ = false) := Lib.hid fun w' hb i => (hb.frozen (p := ⟨b, i, none⟩) hbw).trans (hfro i)
            generalize hyj' : l2.getD j 0 = yj at *
            generalize hyi' : l2.getD i 0 = yi at *
            have hbd : Below wr.heap.size wr wr.drew := bel_drewN (Below.refl _ _) 1
            by_cases hcmp : r yi < r yj
            · have hcmp2 : decide (r yi < r yj) = true := by simpa using hcmp
              rw [if_pos hcmp] at hnx
              have HNx := Lib.hid hnx
              clear hnx hcell hfro hp1 hl2 HI HT2 HA2 HW2 hyi hyj hyi' hyj' hcmp
              go_wp2_with fail
              go_region_held3 (fun w' => w'.cell? ⟨b, off + j, none⟩ = some (.int .i64 yj) ∧ w'.cell? ⟨b, off + i, none⟩ = some (.int .i64 yi)) (first | exact HC.out _ (by assumption)) ((first
                | (go_at_call 75; (with_reducible refine (HRk.out _ yj hbd hkj).mono ?_); rintro e w5 ⟨rfl, hb5⟩; have hb5' := bel_new hbd hbd.size hb5)
                | (go_at_call 75; (with_reducible refine (HRk.out _ yi hbd hki).mono ?_); rintro e w5 ⟨rfl, hb5⟩; have hb5' := bel_new hbd hbd.size hb5)
                | (go_at_call 75; (with_reducible refine (HRk.out _ yi hb5' hki).mono ?_); rintro e w6 ⟨rfl, hb6⟩; have hb6' := bel_new hb5' hb5'.size hb6)
                | (go_at_call 75; (with_reducible refine (HRk.out _ yj hb5' hkj).mono ?_); rintro e w6 ⟨rfl, hb6⟩; have hb6' := bel_new hb5' hb5'.size hb6)))
              all_goals
                obtain ⟨hc6, hc7⟩ := HC.out _ hb6'
                have hf6 := HF.out _ hb6'
                go_wp2_with fail
                go_region
                all_goals
                  go_wp2_with fail
                  go_roundw
                  case rel =>
                    obtain ⟨k1, k2, k3⟩ := HSw.out _ hb6'
                    exact ⟨j + 1, swapL l2 i j, by omega, by omega, by go_num, Lib.hid HNx.out.symm, Lib.hid (k1.below (bel_drewN (Below.refl _ _) 1)), Lib.hid k2.drew, Lib.hid k3⟩
                  case measure => simp [intOf]; omega
            · have hcmp2 : decide (r yi < r yj) = false := by simpa using hcmp
              rw [if_neg hcmp] at hnx
              have HNx := Lib.hid hnx
              clear hnx hcell hfro hp1 hl2 HI hyi hyj hyi' hyj' hcmp HSw
              go_wp2_with fail
              go_region_held3 (fun w' => w'.cell? ⟨b, off + j, none⟩ = some (.int .i64 yj) ∧ w'.cell? ⟨b, off + i, none⟩ = some (.int .i64 yi)) (first | exact HC.out _ (by assumption)) ((first
                | (go_at_call 75; (with_reducible refine (HRk.out _ yj hbd hkj).mono ?_); rintro e w5 ⟨rfl, hb5⟩; have hb5' := bel_new hbd hbd.size hb5)
                | (go_at_call 75; (with_reducible refine (HRk.out _ yi hbd hki).mono ?_); rintro e w5 ⟨rfl, hb5⟩; have hb5' := bel_new hbd hbd.size hb5)
                | (go_at_call 75; (with_reducible refine (HRk.out _ yi hb5' hki).mono ?_); rintro e w6 ⟨rfl, hb6⟩; have hb6' := bel_new hb5' hb5'.size hb6)
                | (go_at_call 75; (with_reducible refine (HRk.out _ yj hb5' hkj).mono ?_); rintro e w6 ⟨rfl, hb6⟩; have hb6' := bel_new hb5' hb5'.size hb6)))
              all_goals
                go_wp2_with fail
                go_roundw
                case rel => exact ⟨j + 1, l2, by omega, by omega, by go_num, Lib.hid HNx.out.symm, Lib.hid (HW2.out.below hb6'), Lib.hid (HT2.out.trans (Touch.of_below hb6' fun _ => False) fun _ _ hf => hf.elim), HA2⟩
                case measure => simp [intOf]; omega
          · obtain rfl : j = l.length := by omega
            have hbest : l2 = bestC r q.1 i := by
              rw [HI.out]
              unfold bestC
              rw [hq1]
            have hcii := hcell i (by omega)
            have hyI : I64 (l2.getD i 0) := ⟨by omega, by omega⟩
            have hqn : (((List.range i).foldl (chStep r c) (l, S.by_)).2 (l2.getD i 0)).length ≤ 1000002 := by
              rw [← HQ.out]
              have := HQb.out (l2.getD i 0)
              have := HBy.out (l2.getD i 0)
              omega
            rw [← HQ.out] at hqn
            have HStep : Hid ((l2, updF q.2 (l2.getD i 0) (q.2 (l2.getD i 0) ++ [c])) = (List.range (i + 1)).foldl (chStep r c) (l, S.by_)) := Lib.hid (by
              rw [List.range_succ, List.foldl_append, ← HQ.out, hbest]
              rfl)
            have hOB : Own wr 3 1 (M1.B (l2.getD i 0)) (q.2 (l2.getD i 0)).length (natC (q.2 (l2.getD i 0))) := HW2.out.part (.by_ (l2.getD i 0))
            obtain ⟨aoB, capB, eB, _, _, _⟩ := hOB.form
            obtain ⟨_, _, _, k3, _, _, _⟩ := HW2.out.cells
            rw [HX.out] at k3
            have hnb : M1.nB < maxLen := by have := HNb.out; simp only [maxLen]; omega
            have hbw : b < wr.heap.size := World.block_lt_of_cell? _ _ hcii
            have hm : MapV wr M1.mb M1.nB M1.B := HW2.out.part .map
            have HSt : Hid (∀ w', Touch (fun k => (M1.B (l2.getD i 0)).ownBlock = some k ∨ k = M1.mb) wr w' → w'.cell? ⟨M.x, 3, none⟩ = some (.map (some M1.mb)) ∧ w'.cell? ⟨b, off + i, none⟩ = some (.int .i64 (l2.getD i 0))) := Lib.hid fun w' ht => by
              have d1 := HW2.out.dis (.by_ (l2.getD i 0)) .self M1.x
              have d2 := HW2.out.dis (.by_ (l2.getD i 0)) (.li c) b
              have d3 := HW2.out.dis .map .self M1.x
              have d4 := HW2.out.dis .map (.li c) b
              have hxw : M1.x < wr.heap.size := HW2.out.lt .self _ rfl
              have hbo : (chS S c (l2, q.2)).ls.length > c ∧ (M1.L c).ownBlock = some b := ⟨by rw [chS_len]; exact hc, by rw [HLc.out, HL.out]; rfl⟩
              refine ⟨(ht.cell (p := ⟨M.x, 3, none⟩) (by rw [← HX.out]; exact hxw) (fun e => ?_)).trans k3, (ht.cell (p := ⟨b, off + i, none⟩) hbw (fun e => ?_)).trans hcii⟩
              · have e' : (M1.B (l2.getD i 0)).ownBlock = some M1.x ∨ M1.x = M1.mb := by rw [HX.out]; exact e
                rcases e' with e | e
                · have := d1 e rfl
                  cases this
                · have := d3 e rfl
                  cases this
              · have e' : (M1.B (l2.getD i 0)).ownBlock = some b ∨ b = M1.mb := e
                rcases e' with e | e
                · have := d2 e hbo
                  cases this
                · have := d4 e hbo
                  cases this
            have hlk1 : (Instr.lookup 79 (.map (some M1.mb)) (.int .i64 (l2.getD i 0)) false).run Try.prog wr.drew = .ok (M1.B (l2.getD i 0)) wr.drew := MapV.look (w := wr.drew) (hm.keep rfl) hyI
            have hlk2 : (Instr.lookup 79 (.map (some M1.mb)) (.int .i64 (l2.getD i 0)) false).run Try.prog (wr.alloc (.cells #[.int .i64 (c : Int)] 3)).drew = .ok (M1.B (l2.getD i 0)) (wr.alloc (.cells #[.int .i64 (c : Int)] 3)).drew :=
              MapV.look (w := (wr.alloc (.cells #[.int .i64 (c : Int)] 3)).drew) (hm.keep (Below.heap_alloc _ _ _ hm.lt)) hyI
            have HPut : Hid (∀ w10 v', Own w10 3 1 v' ((q.2 (l2.getD i 0)).length + 1) (natC (q.2 (l2.getD i 0)) ++ [.int .i64 (c : Int)]) → (wr.alloc (.cells #[.int .i64 (c : Int)] 3)).drew.grownBy w10 (M1.B (l2.getD i 0)).ownBlock → (v'.ownBlock = (M1.B (l2.getD i 0)).ownBlock ∨ v'.ownBlock = some (wr.alloc (.cells #[.int .i64 (c : Int)] 3)).drew.heap.size) →
                ∃ w2, (Instr.mapUpdate 79 (.map (some M1.mb)) (.int .i64 (l2.getD i 0)) v').run Try.prog w10 = .ok () w2 ∧ (w10.cell? ⟨M.x, 3, none⟩ = some (.map (some M1.mb)) ∧ w10.cell? ⟨b, off + i, none⟩ = some (.int .i64 (l2.getD i 0))) ∧
                  (w2.cell? ⟨M.x, 3, none⟩ = some (.map (some M1.mb)) ∧ w2.cell? ⟨b, off + i, none⟩ = some (.int .i64 (l2.getD i 0))) ∧
                  Hid (∃ M', WAt w2 M' (chS S c (l2, updF q.2 (l2.getD i 0) (q.2 (l2.getD i 0) ++ [c]))) ∧ M'.x = M.x ∧ M'.L c = M.L c ∧ M'.nB ≤ M.nB + (i + 1) ∧ Touch (M.all S) w w2 ∧ ∀ k, M'.all (chS S c (l2, updF q.2 (l2.getD i 0) (q.2 (l2.getD i 0) ++ [c]))) k → M.all S k ∨ w.heap.size ≤ k)) := Lib.hid fun w10 v' ho hg hat => by
              have hA : Below wr.heap.size wr (wr.alloc (.cells #[.int .i64 (c : Int)] 3)).drew := bel_drewN ((Below.refl _ wr).alloc (Nat.le_refl _) _) 1
              obtain ⟨w2, r1, r5, r2, r3, r4⟩ := HW2.out.byPush hyI hnb c hA ho hg hat
              have t1 : Touch (fun k => (M1.B (l2.getD i 0)).ownBlock = some k ∨ k = M1.mb) wr w10 := (Touch.of_below hA fun k => (M1.B (l2.getD i 0)).ownBlock = some k ∨ k = M1.mb).trans (Touch.of_grown (F := fun k => (M1.B (l2.getD i 0)).ownBlock = some k) hg fun k hk => hk) fun _ _ hk => .inl hk
              exact ⟨w2, r1, HSt.out _ t1, HSt.out _ (t1.trans (Touch.of_grown (F := fun k => k = M1.mb) r5 fun k hk => by injection hk with hk; exact hk.symm) fun _ _ hk => .inr hk), Lib.hid ⟨_, r2, HX.out, HLc.out, (by have := HNb.out; show M1.nB + 1 ≤ _; omega), touch_trans HT2.out HA2.out r3, all_trans HT2.out.size HA2.out r4⟩⟩
            rw [eB] at HPut hlk1 hlk2 hOB
            have HOB := Lib.hid hOB
            generalize l2.getD i 0 = yi at *
            generalize hQ : q.2 yi = Lq at *
            clear hbest hyI hOB eB hnb hcell hfro hp1 hl2 HI hyi hki hQ HRk
            go_wp2_with fail
            go_region_held3 (fun w' => w'.cell? ⟨M.x, 3, none⟩ = some (.map (some M1.mb)) ∧ w'.cell? ⟨b, off + i, none⟩ = some (.int .i64 yi))
              (first | exact HSt.out _ (((Touch.refl _ wr).alloc _).drew) | assumption | exact HSt.out _ ((Touch.refl _ wr).drew))
              ((refine step_append_S _ (by rfl) (.tmp 71) (.tmp 73) _ _ (by rfl) 3 i3 _ 1 8 Try.underlying26 hi3 hz0 hz1 hz2 rfl (by omega) (.slice aoB Lq.length capB) Lq.length (natC Lq) (by rfl) (HOB.out.alloc _).drew (natC_one _) _ 1 [_] (by rfl) (src_new wr.drew Try.underlying26 3 _ rfl) (by simp only [maxLen]; omega) (by omega) ?_; intro ao2 cap2 w10 hn1 hm1 hown1 hg1 hat1 hlt1; obtain ⟨w11, hrun, hs10, hs11, m1⟩ := HPut.out w10 _ hown1 hg1 hat1; clear hown1 hg1 hat1 hlt1 hn1 hm1))
            all_goals
              go_wp2_with fail
              go_roundw
              case rel =>
                obtain ⟨M', n1, n2, n3, n4, n5, n6⟩ := m1.out
                exact ⟨i + 1, M', (l2, updF q.2 yi (Lq ++ [c])), by omega, by go_num, HStep, Lib.hid n1, Lib.hid n2, Lib.hid n3, Lib.hid n4, Lib.hid n5, Lib.hid n6⟩
              case measure => simp [intOf]; omega
      · obtain rfl : i = m := by omega
        have hq : q = chooseE r c l S.by_ := by
          rw [HQ.out, HM.out]
          rfl
        have HQ2 := Lib.hid hq
        have HB : Hid (M1.nB ≤ M.nB + 2) := Lib.hid (by have := HNb.out; omega)
        clear hq
        go_wp2_with fail
        go_end0
        exact ⟨rfl, by rw [← HQ2.out]; exact ⟨M1, HW.out, HX.out, HB.out, HT.out, HA.out, fun h0 => absurd h0 (by decide)⟩⟩

end Go.Proofs.Ythinopiobihmaaa

namespace Go.Proofs.Ythinopiobihmaaa
open Go.ChangeShapes Go.WideShapes Go.ChangeAt Go.RowKit Go.Maps
set_option maxRecDepth 100000

theorem firstAt_any (f : Int → Bool) : ∀ (l : List Int) (k : Nat), decide (0 ≤ firstAt f l k) = l.any f
  | [], k => by simp [firstAt]
  | x :: xs, k => by
    unfold firstAt
    by_cases h : f x = true
    · rw [if_pos h]
      simp [h]
    · rw [if_neg h, firstAt_any f xs (k + 1)]
      simp [h]

theorem WAt.upBelow {w w' : World} {M : WM} {S : WS} (h : WAt w M S) (hb : Below w.heap.size w w') : WUp 0 w w' M S S :=
  ⟨M, h.below hb, rfl, Nat.le_refl _, Touch.of_below hb _, fun _ hk => .inl hk, fun _ => rfl⟩
theorem WUp.after {d : Nat} {w w1 w' : World} {M : WM} {S S' : WS} (hb : Below w.heap.size w w1) (h : WUp d w1 w' M S S') : WUp d w w' M S S' := by
  have := WUp.trans (d := 0) (M := M) rfl (Nat.le_refl _) (Touch.of_below hb (M.all S)) (fun k hk => .inl hk) (fun _ => rfl) h
  rwa [Nat.zero_add] at this

/-- The watcher lies at x: what its closures tell. -/
theorem wlook1_any {w : World} {M : WM} {S : WS} (h : WAt w M S) (hn : S.n ≤ 5000) {cp : Nat} (hcp : w.cell? ⟨cp, 0, none⟩ = some (.pointer (some ⟨M.x, 0, none⟩))) (x : Int) (hx : I64 x) :
    Calls Try.prog 76 #[.int .i64 x, .pointer (some ⟨cp, 0, none⟩)] w fun e w' => e = .returned (.bool (valE S.n S.es x == 1)) ∧ w = w' := by
  have HV := Lib.hid (wvalue h hn x hx)
  generalize valE S.n S.es x = v at *
  clear h
  go_enter Try.func76, Try.ntmps76
  go_wp2_with (go_at_call 32; (with_reducible refine HV.out.mono ?_); rintro e w' ⟨rfl, rfl⟩)
  go_ret
  exact ⟨rfl, rfl⟩
theorem wmoves1_any {w : World} {M : WM} {S : WS} (h : WAt w M S) (hn : S.n ≤ 5000) {cp : Nat} (hcp : w.cell? ⟨cp, 0, none⟩ = some (.pointer (some ⟨M.x, 0, none⟩))) (x : Int) (hx : I64 x) :
    Calls Try.prog 78 #[.int .i64 x, .pointer (some ⟨cp, 0, none⟩)] w fun e w' => e = .returned (.bool (decide (0 ≤ valE S.n S.es x))) ∧ w = w' := by
  have HV := Lib.hid (wvalue h hn x hx)
  generalize valE S.n S.es x = v at *
  clear h
  go_enter Try.func78, Try.ntmps78
  go_wp2_with (go_at_call 32; (with_reducible refine HV.out.mono ?_); rintro e w' ⟨rfl, rfl⟩)
  go_ret
  exact ⟨rfl, rfl⟩
theorem wAdd1_any {w : World} {M : WM} {S : WS} (h : WAt w M S) (hn : S.n ≤ 5000) {cp : Nat} (hcp : w.cell? ⟨cp, 0, none⟩ = some (.pointer (some ⟨M.x, 0, none⟩))) (x : Int) :
    Calls Try.prog 57 #[.int .i64 x, .pointer (some ⟨cp, 0, none⟩)] w fun e w' => e = .returned (.bool (!decide (1 ≤ x.natAbs ∧ x.natAbs ≤ S.n))) ∧ w = w' := by
  have HV := Lib.hid (tr_vars (h.part .trail))
  obtain ⟨c0, _⟩ := h.cells
  clear h
  generalize S.n = n at *
  by_cases h0 : x = 0
  · subst h0
    go_enter Try.func57, Try.ntmps57
    go_wp2_with (go_at_call 40; refine HV.out.mono ?_; rintro e w' ⟨rfl, rfl⟩)
    go_ret
    exact ⟨by simp, rfl⟩
  · have h0' : (x == 0) = false := by simpa using h0
    by_cases h1 : (n : Int) < x
    · have h5 : (!decide (1 ≤ x.natAbs ∧ x.natAbs ≤ n)) = true := by simp; omega
      rw [h5]
      go_enter Try.func57, Try.ntmps57
      go_wp2_with (go_at_call 40; refine HV.out.mono ?_; rintro e w' ⟨rfl, rfl⟩)
      go_ret
      exact ⟨rfl, rfl⟩
    · have h1' : decide ((n : Int) < x) = false := by simpa using h1
      by_cases h2 : x < -(n : Int)
      · have h5 : (!decide (1 ≤ x.natAbs ∧ x.natAbs ≤ n)) = true := by simp; omega
        rw [h5]
        go_enter Try.func57, Try.ntmps57
        go_wp2_with (go_at_call 40; refine HV.out.mono ?_; rintro e w' ⟨rfl, rfl⟩)
        go_ret
        exact ⟨rfl, rfl⟩
      · have h2' : decide (x < -(n : Int)) = false := by simpa using h2
        have h5 : (!decide (1 ≤ x.natAbs ∧ x.natAbs ≤ n)) = false := by simp; omega
        rw [h5]
        go_enter Try.func57, Try.ntmps57
        go_wp2_with (go_at_call 40; refine HV.out.mono ?_; rintro e w' ⟨rfl, rfl⟩)
        go_ret
        exact ⟨rfl, rfl⟩

theorem indexF_wlook1 (f : Int → Bool) (cp : Nat) (l : List Int) (ao : Option Addr) (cap : Nat) (w : World) (hl : l.length ≤ 4611686018427387904)
    (hc : 0 < l.length → ∃ b off, ao = some ⟨b, off, none⟩ ∧ ∀ j (h : j < l.length), w.cell? ⟨b, off + j, none⟩ = some (.int .i64 l[j]))
    (hf : ∀ x ∈ l, Calls Try.prog 76 #[.int .i64 x, .pointer (some ⟨cp, 0, none⟩)] w fun e w' => e = .returned (.bool (f x)) ∧ w = w') :
    Calls Try.prog 73 #[.slice ao l.length cap, .func (.func 76) #[] #[.pointer (some ⟨cp, 0, none⟩)]] w fun e w' => e = .returned (.int .i64 (firstAt f l 0)) ∧ w = w' := by
  obtain ⟨T, hT⟩ : ∃ T, T = firstAt f l 0 := ⟨_, rfl⟩
  have HT := Lib.hid hT
  have HF := Lib.hid hf
  rw [← hT]
  clear hT hf
  go_enter Try.func73, Try.ntmps73
  go_wp2_with fail
  go_loop [8] (fun i => ∃ k : Nat, k ≤ l.length ∧ i = .int .i64 k ∧ T = firstAt f (l.drop k) k) (fun i => l.length - (intOf i).toNat)
  case atStart => exact ⟨0, by omega, rfl, HT.out⟩
  case round =>
    obtain ⟨k, hk, rfl, hrest⟩ := hrel
    by_cases hlt : k < l.length
    · obtain ⟨b, off, rfl, hcell⟩ := hc (by omega)
      have hck := hcell k hlt
      have hki : (k : Int) < (l.length : Int) := by omega
      rw [List.drop_eq_getElem_cons hlt] at hrest
      unfold firstAt at hrest
      have HC := Lib.hid (HF.out l[k] (List.getElem_mem _))
      generalize l[k] = x at *
      generalize hfx : f x = b1 at *
      cases b1 with
      | true =>
        rw [if_pos rfl] at hrest
        subst hrest
        clear hfx hc hcell
        go_wp2_with (go_at_call 76; refine HC.out.mono ?_; rintro e w' ⟨rfl, rfl⟩)
        go_ret
        exact ⟨rfl, rfl⟩
      | false =>
        have HR := Lib.hid hrest
        clear hfx hc hcell hrest
        go_wp2_with (go_at_call 76; refine HC.out.mono ?_; rintro e w' ⟨rfl, rfl⟩)
        go_round
        case rel => exact ⟨k + 1, by omega, by go_num, by have h := HR.out; rw [if_neg (by simp)] at h; exact h⟩
        case measure => simp [intOf]; omega
    · obtain rfl : k = l.length := by omega
      have hT : T = -1 := by rw [hrest, List.drop_length]; rfl
      subst hT
      clear hrest hc
      go_wp2_with fail
      go_ret
      exact ⟨rfl, rfl⟩

theorem containsF_wlook1 (f : Int → Bool) (cp : Nat) (l : List Int) (ao : Option Addr) (cap : Nat) (w : World) (hl : l.length ≤ 4611686018427387904)
    (hc : 0 < l.length → ∃ b off, ao = some ⟨b, off, none⟩ ∧ ∀ j (h : j < l.length), w.cell? ⟨b, off + j, none⟩ = some (.int .i64 l[j]))
    (hf : ∀ x ∈ l, Calls Try.prog 76 #[.int .i64 x, .pointer (some ⟨cp, 0, none⟩)] w fun e w' => e = .returned (.bool (f x)) ∧ w = w') :
    Calls Try.prog 58 #[.slice ao l.length cap, .func (.func 76) #[] #[.pointer (some ⟨cp, 0, none⟩)]] w fun e w' => e = .returned (.bool (l.any f)) ∧ w = w' := by
  have HI := Lib.hid (indexF_wlook1 f cp l ao cap w hl hc hf)
  have h := firstAt_any f l 0
  generalize firstAt f l 0 = r at *
  rw [← h]
  clear h hf hc
  go_enter Try.func58, Try.ntmps58
  go_wp2_with (go_at_call 73; refine HI.out.mono ?_; rintro e w' ⟨rfl, rfl⟩)
  go_ret
  exact ⟨rfl, rfl⟩

theorem indexF_wmoves1 (f : Int → Bool) (cp : Nat) (l : List Int) (ao : Option Addr) (cap : Nat) (w : World) (hl : l.length ≤ 4611686018427387904)
    (hc : 0 < l.length → ∃ b off, ao = some ⟨b, off, none⟩ ∧ ∀ j (h : j < l.length), w.cell? ⟨b, off + j, none⟩ = some (.int .i64 l[j]))
    (hf : ∀ x ∈ l, Calls Try.prog 78 #[.int .i64 x, .pointer (some ⟨cp, 0, none⟩)] w fun e w' => e = .returned (.bool (f x)) ∧ w = w') :
    Calls Try.prog 73 #[.slice ao l.length cap, .func (.func 78) #[] #[.pointer (some ⟨cp, 0, none⟩)]] w fun e w' => e = .returned (.int .i64 (firstAt f l 0)) ∧ w = w' := by
  obtain ⟨T, hT⟩ : ∃ T, T = firstAt f l 0 := ⟨_, rfl⟩
  have HT := Lib.hid hT
  have HF := Lib.hid hf
  rw [← hT]
  clear hT hf
  go_enter Try.func73, Try.ntmps73
  go_wp2_with fail
  go_loop [8] (fun i => ∃ k : Nat, k ≤ l.length ∧ i = .int .i64 k ∧ T = firstAt f (l.drop k) k) (fun i => l.length - (intOf i).toNat)
  case atStart => exact ⟨0, by omega, rfl, HT.out⟩
  case round =>
    obtain ⟨k, hk, rfl, hrest⟩ := hrel
    by_cases hlt : k < l.length
    · obtain ⟨b, off, rfl, hcell⟩ := hc (by omega)
      have hck := hcell k hlt
      have hki : (k : Int) < (l.length : Int) := by omega
      rw [List.drop_eq_getElem_cons hlt] at hrest
      unfold firstAt at hrest
      have HC := Lib.hid (HF.out l[k] (List.getElem_mem _))
      generalize l[k] = x at *
      generalize hfx : f x = b1 at *
      cases b1 with
      | true =>
        rw [if_pos rfl] at hrest
        subst hrest
        clear hfx hc hcell
        go_wp2_with (go_at_call 78; refine HC.out.mono ?_; rintro e w' ⟨rfl, rfl⟩)
        go_ret
        exact ⟨rfl, rfl⟩
      | false =>
        have HR := Lib.hid hrest
        clear hfx hc hcell hrest
        go_wp2_with (go_at_call 78; refine HC.out.mono ?_; rintro e w' ⟨rfl, rfl⟩)
        go_round
        case rel => exact ⟨k + 1, by omega, by go_num, by have h := HR.out; rw [if_neg (by simp)] at h; exact h⟩
        case measure => simp [intOf]; omega
    · obtain rfl : k = l.length := by omega
      have hT : T = -1 := by rw [hrest, List.drop_length]; rfl
      subst hT
      clear hrest hc
      go_wp2_with fail
      go_ret
      exact ⟨rfl, rfl⟩

theorem indexF_wAdd1 (f : Int → Bool) (cp : Nat) (l : List Int) (ao : Option Addr) (cap : Nat) (w : World) (hl : l.length ≤ 4611686018427387904)
    (hc : 0 < l.length → ∃ b off, ao = some ⟨b, off, none⟩ ∧ ∀ j (h : j < l.length), w.cell? ⟨b, off + j, none⟩ = some (.int .i64 l[j]))
    (hf : ∀ x ∈ l, Calls Try.prog 57 #[.int .i64 x, .pointer (some ⟨cp, 0, none⟩)] w fun e w' => e = .returned (.bool (f x)) ∧ w = w') :
    Calls Try.prog 73 #[.slice ao l.length cap, .func (.func 57) #[] #[.pointer (some ⟨cp, 0, none⟩)]] w fun e w' => e = .returned (.int .i64 (firstAt f l 0)) ∧ w = w' := by
  obtain ⟨T, hT⟩ : ∃ T, T = firstAt f l 0 := ⟨_, rfl⟩
  have HT := Lib.hid hT
  have HF := Lib.hid hf
  rw [← hT]
  clear hT hf
  go_enter Try.func73, Try.ntmps73
  go_wp2_with fail
  go_loop [8] (fun i => ∃ k : Nat, k ≤ l.length ∧ i = .int .i64 k ∧ T = firstAt f (l.drop k) k) (fun i => l.length - (intOf i).toNat)
  case atStart => exact ⟨0, by omega, rfl, HT.out⟩
  case round =>
    obtain ⟨k, hk, rfl, hrest⟩ := hrel
    by_cases hlt : k < l.length
    · obtain ⟨b, off, rfl, hcell⟩ := hc (by omega)
      have hck := hcell k hlt
      have hki : (k : Int) < (l.length : Int) := by omega
      rw [List.drop_eq_getElem_cons hlt] at hrest
      unfold firstAt at hrest
      have HC := Lib.hid (HF.out l[k] (List.getElem_mem _))
      generalize l[k] = x at *
      generalize hfx : f x = b1 at *
      cases b1 with
      | true =>
        rw [if_pos rfl] at hrest
        subst hrest
        clear hfx hc hcell
        go_wp2_with (go_at_call 57; refine HC.out.mono ?_; rintro e w' ⟨rfl, rfl⟩)
        go_ret
        exact ⟨rfl, rfl⟩
      | false =>
        have HR := Lib.hid hrest
        clear hfx hc hcell hrest
        go_wp2_with (go_at_call 57; refine HC.out.mono ?_; rintro e w' ⟨rfl, rfl⟩)
        go_round
        case rel => exact ⟨k + 1, by omega, by go_num, by have h := HR.out; rw [if_neg (by simp)] at h; exact h⟩
        case measure => simp [intOf]; omega
    · obtain rfl : k = l.length := by omega
      have hT : T = -1 := by rw [hrest, List.drop_length]; rfl
      subst hT
      clear hrest hc
      go_wp2_with fail
      go_ret
      exact ⟨rfl, rfl⟩

theorem containsF_wAdd1 (f : Int → Bool) (cp : Nat) (l : List Int) (ao : Option Addr) (cap : Nat) (w : World) (hl : l.length ≤ 4611686018427387904)
    (hc : 0 < l.length → ∃ b off, ao = some ⟨b, off, none⟩ ∧ ∀ j (h : j < l.length), w.cell? ⟨b, off + j, none⟩ = some (.int .i64 l[j]))
    (hf : ∀ x ∈ l, Calls Try.prog 57 #[.int .i64 x, .pointer (some ⟨cp, 0, none⟩)] w fun e w' => e = .returned (.bool (f x)) ∧ w = w') :
    Calls Try.prog 58 #[.slice ao l.length cap, .func (.func 57) #[] #[.pointer (some ⟨cp, 0, none⟩)]] w fun e w' => e = .returned (.bool (l.any f)) ∧ w = w' := by
  have HI := Lib.hid (indexF_wAdd1 f cp l ao cap w hl hc hf)
  have h := firstAt_any f l 0
  generalize firstAt f l 0 = r at *
  rw [← h]
  clear h hf hc
  go_enter Try.func58, Try.ntmps58
  go_wp2_with (go_at_call 73; refine HI.out.mono ?_; rintro e w' ⟨rfl, rfl⟩)
  go_ret
  exact ⟨rfl, rfl⟩

end Go.Proofs.Ythinopiobihmaaa

namespace Go.Proofs.Ythinopiobihmaaa
open Go.ChangeShapes Go.WideShapes Go.ChangeAt Go.RowKit Go.Maps
set_option maxRecDepth 100000

theorem openL_take {n : Nat} {es : List En} {l : List Int} (k : Nat) (h : k < l.length) : openL n es (l.take (k + 1)) = openL n es (l.take k) ++ if valE n es l[k] = 0 then [l[k]] else [] := by
  unfold openL
  rw [List.take_succ_eq_append_getElem h, List.filter_append]
  congr 1
  by_cases hv : valE n es l[k] = 0 <;> simp [hv]
theorem openL_len {n : Nat} {es : List En} (l : List Int) : (openL n es l).length ≤ l.length := List.length_filter_le _ _

/-- Where the value behind an append lies, in a block that is new. -/
theorem own_above {B : Nat} {ao a : Option Addr} {n cap m c : Nat} {H : Nat} (h : ∀ k, (Value.slice a n c).ownBlock = some k → B ≤ k) (hat : (Value.slice ao m cap).ownBlock = (Value.slice a n c).ownBlock ∨ (Value.slice ao m cap).ownBlock = some H) (hH : B ≤ H) :
    ∀ k, (Value.slice ao m cap).ownBlock = some k → B ≤ k := fun k hk => by
  rcases hat with e | e
  · exact h k (e ▸ hk)
  · rw [e] at hk
    injection hk with hk
    omega
theorem grow_below2 {B : Nat} {a b c : World} {row : Option Nat} (h : Below B a b) (g : b.grownBy c row) (hr : ∀ k, row = some k → B ≤ k) (hB : B ≤ b.heap.size) : Below B a c :=
  h.trans ⟨g.os, g.tape, g.output, g.size, fun k hk => g.block k (by omega) (fun e => by have := hr k e.symm; omega)⟩

set_option maxHeartbeats 2000000 in
theorem wlook_any (w : World) (M : WM) (S : WS) (h : WAt w M S) (hn : S.n ≤ 5000) (hg : Good S.n S.es) (c : Nat) (hc : c < S.ls.length) (hk : ∀ x ∈ S.ls.getD c [], 1 ≤ x.natAbs ∧ x.natAbs ≤ S.n) (hl : (S.ls.getD c []).length ≤ 1000000) :
    Calls Try.prog 62 #[.pointer (some ⟨M.x, 0, none⟩), .int .i64 c] w fun e w' => e = .returned (.bool (lookS S c).2) ∧ WUp 0 w w' M S (lookS S c).1 := by
  obtain ⟨i3, hi3, hz0, hz1, hz2⟩ := info_parts (P := Try.prog) (e := 3) (z := .int .i64 0) (size := 1) (bytes := 8) (by kernel_rfl)
  have hmf : ∀ (fn : Fn) (first cap : Array Value) (w : World), (Instr.makeFunc fn first cap).run Try.prog w = .ok (.func fn first cap) w := fun _ _ _ _ => rfl
  obtain ⟨l, hll⟩ : ∃ l, l = S.ls.getD c [] := ⟨_, rfl⟩
  have hoR : Own w 3 1 (M.L c) _ _ := h.part (.li c) hc
  obtain ⟨aoR, capR, eL, _, _, hfR⟩ := hoR.form
  have hoL : Own w 26 1 M.vL S.ls.length _ := h.part .lits
  obtain ⟨aoL, capL, eLL, _, _, hfL⟩ := hoL.form
  obtain ⟨bL, oL, rfl, hcL, _, hbL⟩ := hfL (by omega)
  have hcl := hcL c (by rw [rowV_len]; exact hc)
  rw [rowV_get _ _ _ hc, eL] at hcl
  have hcs := h.cells
  rw [eLL] at hcs
  rw [← hll] at hk hl hfR hcl
  -- the world with the box
  obtain ⟨W, hW⟩ : ∃ W, W = w.alloc (.cells #[.pointer (some ⟨M.x, 0, none⟩)] 55) := ⟨_, rfl⟩
  have hb : Below w.heap.size w W := by rw [hW]; exact (Below.refl _ _).alloc (Nat.le_refl _) _
  have hcpW : W.cell? ⟨w.heap.size, 0, none⟩ = some (.pointer (some ⟨M.x, 0, none⟩)) := by rw [hW]; exact (Blk.new w _ _).cell 0
  have hlt : w.heap.size < W.heap.size := by rw [hW]; simp
  have hcells : 0 < l.length → ∃ b off, aoR = some ⟨b, off, none⟩ ∧ b < W.heap.size ∧ ∀ j (h : j < l.length), W.cell? ⟨b, off + j, none⟩ = some (.int .i64 l[j]) := fun h0 => by
    obtain ⟨b, off, e, hcc, _, hbl⟩ := hfR h0
    refine ⟨b, off, e, by omega, fun j hj => ?_⟩
    rw [World.cell?_of_block (w := w) (hb.block b hbl), hcc j (by rw [inC_len]; exact hj), inC_getD _ _ hj]
    simp [List.getD, hj]
  have HCF := containsF_wlook1 (fun x => valE S.n S.es x == 1) w.heap.size l aoR capR W (by omega) (fun h0 => by
    obtain ⟨b, off, e, _, hh⟩ := hcells h0
    exact ⟨b, off, e, hh⟩) (fun x hx => wlook1_any (h.below hb) hn hcpW x (by have := hk x hx; exact ⟨by omega, by omega⟩))
  have HAtW : Hid (∀ w', Below W.heap.size W w' → WAt w' M S) := Lib.hid fun w' hb' => h.below (bel_trans hb hb')
  have HCpW : Hid (∀ w', Below W.heap.size W w' → w'.cell? ⟨w.heap.size, 0, none⟩ = some (.pointer (some ⟨M.x, 0, none⟩)) ∧ w'.cell? ⟨M.x, 0, none⟩ = some (.pointer (some ⟨M.g, 0, none⟩))) := Lib.hid fun w' hb' =>
    ⟨(World.cell?_of_block (w := W) (hb'.block _ hlt)).trans hcpW, (h.below (bel_trans hb hb')).cells.1⟩
  have HC := Lib.hid hcells
  have HK := Lib.hid hk
  have hx2 : W.cell? ⟨M.x, 2, none⟩ = some (.slice (some ⟨bL, oL, none⟩) S.ls.length capL) := by
    have := (h.below hb).cells.2.2.1
    rwa [eLL] at this
  have hcl2 : W.cell? ⟨bL, oL + c, none⟩ = some (.slice aoR l.length capR) := (World.cell?_of_block (w := w) (hb.block _ hbL)).trans hcl
  have hci : (c : Int) < (S.ls.length : Int) := by omega
  have HBW := Lib.hid hb
  have HG := Lib.hid hg
  obtain ⟨R, hR⟩ : ∃ R, R = lookS S c := ⟨_, rfl⟩
  rw [← hR]
  unfold lookS at hR
  rw [← hll] at hR
  by_cases hany : (l.any fun x => valE S.n S.es x == 1) = true
  · rw [hany] at HCF
    have HCF2 := Lib.hid HCF
    have HU : Hid (WUp 0 w W M S S) := Lib.hid (h.upBelow hb)
    rw [if_pos hany] at hR
    subst hR
    rw [hW] at HCF2 hx2 hcl2 HU hcpW
    clear HCF hany hcells hk hfR hoR hoL hcL hfL hcs eL eLL hll h hW hg
    go_enter Try.func62, Try.ntmps62
    go_wp2_with (go_at_call 58; (with_reducible refine HCF2.out.mono ?_); rintro e w' ⟨rfl, rfl⟩)
    go_ret
    exact ⟨rfl, HU.out⟩
  · have hany2 : (l.any fun x => valE S.n S.es x == 1) = false := by simpa using hany
    rw [hany2] at HCF
    have HCF2 := Lib.hid HCF
    rw [if_neg hany] at hR
    obtain ⟨O, hO⟩ : ∃ O, O = openL S.n S.es l := ⟨_, rfl⟩
    have hOl : O.length ≤ l.length := by rw [hO]; exact openL_len l
    have HO := Lib.hid hO
    have hok : ∀ x ∈ O, 1 ≤ x.natAbs ∧ x.natAbs ≤ S.n := fun x hx => hk x (by rw [hO] at hx; unfold openL at hx; exact (List.mem_filter.1 hx).1)
    have HOk := Lib.hid hok
    have HUb : Hid (∀ w', Below W.heap.size W w' → WUp 0 w w' M S S) := Lib.hid fun w' hb' => h.upBelow (bel_trans hb hb')
    rw [← hO] at hR
    have HR := Lib.hid hR
    clear hR
    have HTr : Hid (∀ w' x, Below W.heap.size W w' → I64 x → Calls Try.prog 77 #[.pointer (some ⟨M.g, 0, none⟩), .int .i64 x, .int .i64 (c : Int)] w' fun e w'' => e = .returned (.int .i64 (asnC S.n S.es x c).1) ∧ WUp 0 w w'' M S (S.wEs (asnC S.n S.es x c).2)) := Lib.hid fun w' x hb' hx => by
      have h1 := h.below (bel_trans hb hb')
      refine (assign_any M.F M.g S.n S.es x c w' (h1.part .trail) hg hn hx.1 hx.2).mono ?_
      rintro e w'' ⟨rfl, hT⟩
      exact ⟨rfl, (h1.trail hT).after (bel_trans hb hb')⟩
    have HWs : Hid (W = w.alloc (.cells #[.pointer (some ⟨M.x, 0, none⟩)] 55)) := Lib.hid hW
    have hbW : Below W.heap.size W W := Below.refl _ _
    have HV : Hid (∀ w' x, Below W.heap.size W w' → x ∈ l → Calls Try.prog 32 #[.pointer (some ⟨M.x, 0, none⟩), .int .i64 x] w' fun e w'' => e = .returned (.int .i64 (valE S.n S.es x)) ∧ w' = w'') := Lib.hid fun w' x hb' hx =>
      wvalue (HAtW.out w' hb') hn x (by have := HK.out x hx; exact ⟨by omega, by omega⟩)
    clear HCF hany hany2 hcells hk hfR hoR hoL hcL hfL hcs eL eLL hll h hO hok hg hb
    go_enter Try.func62, Try.ntmps62
    go_upto_region 1 with fail
    rw [← hW]
    clear hW
    go_wp2_with (go_at_call 58; (with_reducible refine HCF2.out.mono ?_); rintro e w' ⟨rfl, rfl⟩)
    go_loopw [6, 21] (fun s6 s21 wr => ∃ (k : Nat) (acc : List Int) (a : Option Addr) (cp : Nat), k ≤ l.length ∧ s21 = .int .i64 k ∧ s6 = .slice a acc.length cp ∧ Hid (acc = openL S.n S.es (l.take k)) ∧ Hid (Own wr 3 1 (.slice a acc.length cp) acc.length (inC acc)) ∧
      Hid (∀ k, (Value.slice a acc.length cp).ownBlock = some k → W.heap.size ≤ k) ∧ Hid (Below W.heap.size W wr)) (fun _ s _ => l.length - (intOf s).toNat)
    case atStart => exact ⟨0, [], none, 0, by omega, rfl, rfl, Lib.hid rfl, Lib.hid (Own.nil _ _ _), Lib.hid fun k hk => by simp [Value.ownBlock] at hk, Lib.hid hbW⟩
    case round =>
      obtain ⟨k, acc, a, cp, hkl, rfl, rfl, HA, HOw, HNew, HB⟩ := hrel
      have hal : acc.length ≤ 1000000 := by
        rw [HA.out]
        have h1 := openL_len (n := S.n) (es := S.es) (l.take k)
        rw [List.length_take] at h1
        omega
      by_cases hlt : k < l.length
      · have hki : (k : Int) < (l.length : Int) := by omega
        obtain ⟨b, off, rfl, hbl, hcc⟩ := HC.out (by omega)
        have hck : wr.cell? ⟨b, off + k, none⟩ = some (.int .i64 l[k]) := (World.cell?_of_block (w := W) (HB.out.block b hbl)).trans (hcc k hlt)
        have htk := openL_take (n := S.n) (es := S.es) k hlt
        rw [← HA.out] at htk
        have HVk := Lib.hid (HV.out _ l[k] HB.out (List.getElem_mem _))
        obtain ⟨hcb1, hcb2⟩ := HCpW.out _ HB.out
        generalize l[k] = x at *
        generalize valE S.n S.es x = v at *
        by_cases hv : v = 0
        · subst hv
          rw [if_pos rfl] at htk
          have HT := Lib.hid htk
          have HOw2 := Lib.hid (HOw.out.alloc (.cells #[.int .i64 x] 3))
          have hbB : Below W.heap.size W (wr.alloc (.cells #[.int .i64 x] 3)) := HB.out.alloc HB.out.size _
          have HBB := Lib.hid hbB
          clear htk hcc hbB
          go_wp2_with (first
            | (go_at_call 32; (with_reducible refine HVk.out.mono ?_); rintro e w' ⟨rfl, rfl⟩)
            | (at_builtin; refine wpList_append_S _ rfl (.tmp 29) (.tmp 31) _ _ rfl 3 i3 _ 1 8 Try.underlying26 hi3 hz0 hz1 hz2 rfl (by omega) (.slice a acc.length cp) acc.length (inC acc) rfl HOw2.out (in_one _) _ 1 [_] rfl (src_new wr Try.underlying26 3 _ rfl) (by simp only [maxLen]; omega) (by omega) ?_; intro ao2 cap2 w10 hn1 hm1 hown1 hg1 hat1 hlt1; have H1 := Lib.hid hown1; have H2 := Lib.hid hg1; have H3 := Lib.hid hat1; clear hown1 hg1 hat1 hlt1 hn1 hm1))
          go_roundw
          case rel =>
            have hle : (acc ++ [x]).length = acc.length + 1 := by simp
            have hin : inC (acc ++ [x]) = inC acc ++ [.int .i64 x] := by simp [inC]
            refine ⟨k + 1, acc ++ [x], ao2, cap2, by omega, by go_num, by rw [hle], Lib.hid HT.out.symm, Lib.hid (by rw [hle, hin]; exact H1.out), Lib.hid ?_, Lib.hid (grow_below2 HBB.out H2.out HNew.out HBB.out.size)⟩
            rw [hle]
            exact own_above HNew.out H3.out HBB.out.size
          case measure => simp [intOf]; omega
        · have hv2 : (v == 0) = false := by simpa using hv
          rw [if_neg hv, List.append_nil] at htk
          have HT := Lib.hid htk
          clear htk hcc hv
          go_wp2_with (go_at_call 32; (with_reducible refine HVk.out.mono ?_); rintro e w' ⟨rfl, rfl⟩)
          go_roundw
          case rel => exact ⟨k + 1, acc, a, cp, by omega, by go_num, rfl, Lib.hid HT.out.symm, HOw, HNew, HB⟩
          case measure => simp [intOf]; omega
      · obtain rfl : k = l.length := by omega
        have hacc : acc = O := by rw [HA.out, List.take_length, HO.out]
        subst hacc
        obtain ⟨w5, rfl⟩ : ∃ w5 : World, w5 = wr := ⟨_, rfl⟩
        rcases acc with _ | ⟨x, _ | ⟨y, r⟩⟩
        · obtain rfl : R = (S, true) := HR.out
          have HUw := Lib.hid (HUb.out _ HB.out)
          clear HB HOw HNew HA HR
          go_wp2_with fail
          go_ret
          exact ⟨rfl, HUw.out⟩
        · obtain rfl : R = (S.wEs (asnC S.n S.es x c).2, false) := HR.out
          obtain ⟨hcb1, hcb2⟩ := HCpW.out _ HB.out
          obtain ⟨ao', cap', e, _, _, hf⟩ := HOw.out.form
          injection e with e1 _ _
          subst e1
          obtain ⟨b, off, rfl, hcc, _, _⟩ := hf (by simp)
          have hc0 := hcc 0 (by simp [inC])
          have hc0' : w5.cell? ⟨b, off, none⟩ = some (.int .i64 x) := hc0
          have hxk := HOk.out x (List.mem_cons_self ..)
          have hbd : Below W.heap.size W w5.drew := bel_drewN HB.out 1
          have HTx := Lib.hid (HTr.out _ x hbd ⟨by omega, by omega⟩)
          obtain ⟨hcd1, hcd2⟩ := HCpW.out _ hbd
          have hcd0 : w5.drew.cell? ⟨b, off, none⟩ = some (.int .i64 x) := hc0
          obtain ⟨wd, hwd⟩ : ∃ wd, wd = w5.drew := ⟨_, rfl⟩
          have h1l : ([x] : List Int).length = 1 := rfl
          rw [← hwd] at HTx hcd1 hcd2 hcd0
          simp only [List.length_cons, List.length_nil, Nat.zero_add]
          clear HB HOw HNew HA hf hcc hbd hc0 h1l hal HR
          go_upto_region 15 with fail
          refine wp_region_still_tail 9 (by kernel_rfl) (by kernel_rfl) ?_
          change wpStill _ _ (World.drew w5) (fun a' => wpList _ _ _ _ a' (World.drew w5)) _ _
          rw [← hwd]
          clear hwd
          simp only [List.take_succ_cons, List.take_zero, List.drop_succ_cons, List.drop_zero]
          repeat still_step
          refine wpStill_nil ?_
          go_wp2_with (go_at_call 77; (with_reducible refine HTx.out.mono ?_); rintro e w6 ⟨rfl, hU⟩)
          go_ret
          exact ⟨rfl, hU⟩
        · obtain rfl : R = (S, false) := HR.out
          have HUw := Lib.hid (HUb.out _ HB.out)
          have h2 : (((x :: y :: r).length : Int) == 0) = false := by simp; omega
          have h3 : (((x :: y :: r).length : Int) == 1) = false := by simp; omega
          simp only [List.length_cons] at h2 h3 hal ⊢
          clear HB HOw HNew HA HR
          go_wp2_with fail
          go_ret
          exact ⟨rfl, HUw.out⟩

end Go.Proofs.Ythinopiobihmaaa

namespace Go.Proofs.Ythinopiobihmaaa
open Go.ChangeShapes Go.WideShapes Go.ChangeAt Go.RowKit Go.Maps
set_option maxRecDepth 100000

/-! ### How long lists are -/
theorem int_nodup_len : ∀ (n : Nat) (l : List Int), l.Nodup → (∀ x ∈ l, 1 ≤ x.natAbs ∧ x.natAbs ≤ n) → l.length ≤ 2 * n
  | 0, l, _, h => by
    cases l with
    | nil => simp
    | cons x l => have := h x (List.mem_cons_self ..); omega
  | n + 1, l, hn, h => by
    have h1 : ((l.erase ((n : Int) + 1)).erase (-((n : Int) + 1))).Nodup := (hn.erase _).erase _
    have h2 := int_nodup_len n _ h1 (fun x hx => by
      obtain ⟨a1, a2⟩ := ((hn.erase _).mem_erase_iff).1 hx
      obtain ⟨b1, b2⟩ := (hn.mem_erase_iff).1 a2
      have := h x b2
      omega)
    have h3 := List.length_erase (a := -((n : Int) + 1)) (l := l.erase ((n : Int) + 1))
    have h4 := List.length_erase (a := (n : Int) + 1) (l := l)
    split at h3 <;> split at h4 <;> omega
theorem nat_nodup_len : ∀ (n : Nat) (l : List Nat), l.Nodup → (∀ x ∈ l, x < n) → l.length ≤ n
  | 0, l, _, h => by
    cases l with
    | nil => simp
    | cons x l => have := h x (List.mem_cons_self ..); omega
  | n + 1, l, hn, h => by
    have h2 := nat_nodup_len n (l.erase n) (hn.erase _) (fun x hx => by
      obtain ⟨b1, b2⟩ := (hn.mem_erase_iff).1 hx
      have := h x b2
      omega)
    have h4 := List.length_erase (a := n) (l := l)
    split at h4 <;> omega
theorem WInv.rowLen {S : WS} (h : WInv S) (i : Nat) : (S.ls.getD i []).length ≤ 2 * S.n := int_nodup_len _ _ (h.nodup i) fun _ hx => (h.lits hx).2
theorem WInv.byLen {S : WS} (h : WInv S) (x : Int) : (S.by_ x).length ≤ S.cl.length := nat_nodup_len _ _ (h.byN x) fun _ hi => ((h.byI x _).1 hi).1

/-! ### The state while moves goes on -/
structure MvSt (W wr : World) (M M1 : WM) (S S1 : WS) (x0 : Int) (vOld : Value) (d : Nat) (left : List Nat) (vLf : Value) : Prop where
  at_ : WAt wr M1 S1
  x : M1.x = M.x
  B0 : M1.B x0 = vOld
  nb : M1.nB ≤ M.nB + d
  touch : Touch (M.all S) W wr
  all : ∀ k, M1.all S1 k → M.all S k ∨ W.heap.size ≤ k
  lf : Own wr 3 1 vLf left.length (natC left)
  lfNew : ∀ k, vLf.ownBlock = some k → W.heap.size ≤ k ∧ ¬ M1.all S1 k

section
variable {W wr wr' : World} {M M1 : WM} {S S1 : WS} {x0 : Int} {vOld vLf : Value} {d : Nat} {left : List Nat}
theorem MvSt.lt (h : MvSt W wr M M1 S S1 x0 vOld d left vLf) : ∀ k, M1.all S1 k → k < wr.heap.size := fun k ⟨t, hk⟩ => h.at_.lt t k hk
theorem MvSt.below (h : MvSt W wr M M1 S S1 x0 vOld d left vLf) (hb : Below wr.heap.size wr wr') : MvSt W wr' M M1 S S1 x0 vOld d left vLf :=
  ⟨h.at_.below hb, h.x, h.B0, h.nb, h.touch.trans (Touch.of_below hb fun _ => False) fun _ _ hf => hf.elim, h.all, h.lf.new hb, h.lfNew⟩
/-- The watcher is written. -/
theorem MvSt.upd {M2 : WM} {S2 : WS} {d' : Nat} (h : MvSt W wr M M1 S S1 x0 vOld d left vLf) (ha : WAt wr' M2 S2) (ht : Touch (M1.all S1) wr wr') (hall : ∀ k, M2.all S2 k → M1.all S1 k ∨ wr.heap.size ≤ k) (hx : M2.x = M1.x) (hB : M2.B x0 = M1.B x0) (hn : M2.nB ≤ M1.nB + d') :
    MvSt W wr' M M2 S S2 x0 vOld (d + d') left vLf :=
  ⟨ha, hx.trans h.x, hB.trans h.B0, by have := h.nb; omega, touch_trans h.touch h.all ht, all_trans h.touch.size h.all hall, h.lf.touch ht fun k hk => (h.lfNew k hk).2, fun k hk => ⟨(h.lfNew k hk).1, fun hk2 => by
    rcases hall k hk2 with h1 | h1
    · exact (h.lfNew k hk).2 h1
    · have := h.lf.lt k hk; omega⟩⟩
/-- More is left. -/
theorem MvSt.app {wA : World} {v' : Value} {more : List Nat} (h : MvSt W wr M M1 S S1 x0 vOld d left vLf) (hA : Below wr.heap.size wr wA) (ho : Own wr' 3 1 v' (left.length + more.length) (natC left ++ natC more)) (hg : wA.grownBy wr' vLf.ownBlock)
    (hat : v'.ownBlock = vLf.ownBlock ∨ v'.ownBlock = some wA.heap.size) : MvSt W wr' M M1 S S1 x0 vOld d (left ++ more) v' := by
  have h1 := h.below hA
  have ht : Touch (fun k => vLf.ownBlock = some k) wA wr' := Touch.of_grown hg fun k hk => hk
  refine ⟨h1.at_.touch ht fun k hk hf => (h1.lfNew k hf).2 hk, h.x, h.B0, h.nb, h1.touch.trans ht fun k hk hf => ?_, h.all, ?_, fun k hk => ?_⟩
  · have := (h.lfNew k hf).1; omega
  · have e : natC (left ++ more) = natC left ++ natC more := by simp [natC]
    rw [List.length_append, e]
    exact ho
  · rcases hat with e | e
    · exact h.lfNew k (e ▸ hk)
    · rw [e] at hk
      injection hk with hk
      subst hk
      exact ⟨h1.touch.size, fun hk2 => by have := h1.lt _ hk2; omega⟩
theorem MvSt.push {wA : World} {v' : Value} {c : Nat} (h : MvSt W wr M M1 S S1 x0 vOld d left vLf) (hA : Below wr.heap.size wr wA) (ho : Own wr' 3 1 v' (left.length + 1) (natC left ++ [.int .i64 (c : Int)])) (hg : wA.grownBy wr' vLf.ownBlock)
    (hat : v'.ownBlock = vLf.ownBlock ∨ v'.ownBlock = some wA.heap.size) : MvSt W wr' M M1 S S1 x0 vOld d (left ++ [c]) v' := h.app (more := [c]) hA ho hg hat
/-- What is left is laid back. -/
theorem MvSt.done (h : MvSt W wr M M1 S S1 x0 vOld d left vLf) (hx0 : I64 x0) (hn : M1.nB < maxLen) :
    ∃ w2, (Instr.mapUpdate 79 (.map (some M1.mb)) (.int .i64 x0) vLf).run Try.prog wr = .ok () w2 ∧ wr.grownBy w2 (some M1.mb) ∧ WUp (d + 1) W w2 M S (S1.wBy (updF S1.by_ x0 left)) := by
  obtain ⟨w2, h1, h2, h3, h4, h5⟩ := WAt.byPutN (fun k => vLf.ownBlock = some k) (fun k hk => (h.lfNew k hk).2) h.at_ hx0 hn left (Touch.refl _ _) h.lf (fun k hk => .inr hk)
  refine ⟨w2, h1, h2, _, h3, h.x, by have := h.nb; show M1.nB + 1 ≤ _; omega, touch_trans h.touch h.all h4, fun k hk => ?_, fun h0 => by omega⟩
  rcases h5 k hk with h6 | h6
  · exact h.all k h6
  · exact .inr (h.lfNew k h6).1
end

end Go.Proofs.Ythinopiobihmaaa
