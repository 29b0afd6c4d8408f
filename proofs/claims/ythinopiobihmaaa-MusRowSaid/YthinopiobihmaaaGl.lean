/- What lies side by side in memory, each in blocks of its own; a watcher's contracts beside whatever else. -/
import Derived.Test.YthinopiobihmaaaGg
import Derived.Test.YthinopiobihmaaaGh
namespace Go.Proofs.Ythinopiobihmaaa
open Go.ChangeShapes Go.WideShapes Go.ChangeAt Go.RowKit Go.Maps Go.Deep
set_option maxRecDepth 100000

theorem wnew0 (n : Nat) (w : World) (hn : n ≤ 5000) :
    Calls Try.prog 25 #[.int .i64 n] w fun e w' => ∃ M, e = .returned (.tuple #[.pointer (some ⟨M.x, 0, none⟩), .int .i64 0]) ∧ WAt w' M (newS n) ∧ Below w.heap.size w w' ∧ (∀ k, M.all (newS n) k → w.heap.size ≤ k) ∧ M.nB = 0 := by
  have HN := Lib.hid (new_any n w hn)
  have hmm := @run_makeMap Try.prog
  go_enter Try.func25, Try.ntmps25
  go_wp2_with (go_at_call 36; refine HN.out.mono ?_; rintro e w1 ⟨g, rfl, hb1, F, hT, hF⟩)
  go_ret2
  have b2 : Below w1.heap.size w1 ((w1.alloc (.map #[] 0)).alloc (.cells #[.pointer (some ⟨g, 0, none⟩), .slice none 0 0, .slice none 0 0, .map (some w1.heap.size), .int .i64 0, .slice none 0 0] 81)) := ((Below.refl _ _).alloc (Nat.le_refl _) _).alloc (by simp) _
  have hs := hb1.size
  refine ⟨⟨w1.heap.size + 1, g, F, nilV, nilV, w1.heap.size, 0, fun _ => nilV, nilV, fun _ => nilV, fun _ => nilV⟩, rfl, ⟨fun t => ?_, fun t k hk => ?_, fun t t' k h1 h2 => ?_⟩, bel_new hb1 hb1.size b2, fun k ⟨t, hk⟩ => ?_, rfl⟩
  · cases t with
    | self =>
      have := Blk.new (w1.alloc (.map #[] 0)) 81 #[.pointer (some ⟨g, 0, none⟩), .slice none 0 0, .slice none 0 0, .map (some w1.heap.size), .int .i64 0, .slice none 0 0]
      rw [show (w1.alloc (.map #[] 0)).heap.size = w1.heap.size + 1 by simp] at this
      exact this
    | trail => exact hT.below b2
    | map => exact (MapV.made w1).keep (Below.heap_alloc _ _ _ (by simp))
    | cls => exact Own.nil _ _ _
    | lits => exact Own.nil _ _ _
    | fresh => exact Own.nil _ _ _
    | cl i => exact fun hi => absurd hi (by simp [newS])
    | li i => exact fun hi => absurd hi (by simp [newS])
    | by_ x => exact Own.nil _ _ _
  · cases t with
    | self => cases hk; simp
    | map => cases hk; simp; omega
    | trail => have := hT.lt k hk; simp; omega
    | cl i => simp [WM.own, newS] at hk
    | li i => simp [WM.own, newS] at hk
    | _ => simp [WM.own, nilV, Value.ownBlock] at hk
  · have hlt := hT.lt k
    cases t <;> cases t' <;> simp [WM.own, nilV, newS, Value.ownBlock] at h1 h2 ⊢
    · omega
    · have := hlt h2; omega
    · omega
    · have := hlt h2; omega
    · have := hlt h1; omega
    · have := hlt h1; omega
  · cases t with
    | self => cases hk; show w.heap.size ≤ w1.heap.size + 1; omega
    | map => cases hk; show w.heap.size ≤ w1.heap.size; omega
    | trail => exact hF k hk
    | cl i => simp [WM.own, newS] at hk
    | li i => simp [WM.own, newS] at hk
    | _ => simp [WM.own, nilV, Value.ownBlock] at hk

/-- Something in memory, and whose blocks are its own. -/
abbrev Ast := World → (Nat → Prop) → Prop
structure Solid (A : Ast) : Prop where
  stay : ∀ {w w' : World} {F G : Nat → Prop}, A w F → Touch G w w' → (∀ k, F k → ¬ G k) → A w' F
  lt : ∀ {w : World} {F : Nat → Prop}, A w F → ∀ k, F k → k < w.heap.size
def Emp : Ast := fun _ F => ∀ k, ¬ F k
def Ast.and (A B : Ast) : Ast := fun w F => ∃ Fa Fb, A w Fa ∧ B w Fb ∧ (∀ k, Fa k → ¬ Fb k) ∧ ∀ k, F k ↔ Fa k ∨ Fb k
/-- What a writing call leaves. -/
def Goes (w w' : World) (F : Nat → Prop) (A : Ast) : Prop := ∃ F', A w' F' ∧ Touch F w w' ∧ ∀ k, F' k → F k ∨ w.heap.size ≤ k
/-- It lies there, made since W; nothing older was turned. -/
def On (W w : World) (A : Ast) : Prop := ∃ F, A w F ∧ (∀ k, F k → W.heap.size ≤ k) ∧ Below W.heap.size W w

theorem Solid.emp : Solid Emp := ⟨fun h _ _ => h, fun h k hk => absurd hk (h k)⟩
theorem Solid.and {A B : Ast} (hA : Solid A) (hB : Solid B) : Solid (A.and B) where
  stay := fun ⟨Fa, Fb, a, b, d, e⟩ ht hG => ⟨Fa, Fb, hA.stay a ht fun k hk => hG k ((e k).2 (.inl hk)), hB.stay b ht fun k hk => hG k ((e k).2 (.inr hk)), d, e⟩
  lt := fun ⟨Fa, Fb, a, b, _, e⟩ k hk => by
    rcases (e k).1 hk with h | h
    · exact hA.lt a k h
    · exact hB.lt b k h

theorem On.bel {W w : World} {A : Ast} (h : On W w A) : Below W.heap.size W w := h.elim fun _ h => h.2.2
theorem On.start {W w : World} (hb : Below W.heap.size W w) : On W w Emp := ⟨fun _ => False, fun _ h => h, fun _ h => h.elim, hb⟩
theorem On.below {W w w' : World} {A : Ast} (hA : Solid A) (h : On W w A) (hb : Below w.heap.size w w') : On W w' A := by
  obtain ⟨F, a, f, b⟩ := h
  exact ⟨F, hA.stay a (Touch.of_below hb fun k => w.heap.size ≤ k) fun k hk hg => by have := hA.lt a k hk; omega, f, bel_new b b.size hb⟩
/-- Something new beside it. -/
theorem On.new {W w w' : World} {A B : Ast} (hA : Solid A) (h : On W w A) (hb : Below w.heap.size w w') {F' : Nat → Prop} (hB : B w' F') (hF : ∀ k, F' k → w.heap.size ≤ k) : On W w' (A.and B) := by
  obtain ⟨F, a, f, b⟩ := h
  have hlt := hA.lt a
  refine ⟨fun k => F k ∨ F' k, ⟨F, F', hA.stay a (Touch.of_below hb fun k => w.heap.size ≤ k) fun k hk hg => by have := hlt k hk; omega, hB, fun k h1 h2 => ?_, fun k => Iff.rfl⟩, fun k hk => ?_, bel_new b b.size hb⟩
  · have h3 := hlt k h1
    have h4 := hF k h2
    omega
  · rcases hk with h | h
    · exact f k h
    · exact Nat.le_trans b.size (hF k h)

/-- What may stand around something. -/
structure Ctx (C : Ast → Ast) : Prop where
  solid : ∀ {A : Ast}, Solid A → Solid (C A)
  use : ∀ {W w : World} {A : Ast}, On W w (C A) → ∃ F, A w F ∧ ∀ w' A', Goes w w' F A' → On W w' (C A')

theorem goes_on {W w w' : World} {A' : Ast} {F : Nat → Prop} (f : ∀ k, F k → W.heap.size ≤ k) (b : Below W.heap.size W w) (hg : Goes w w' F A') : On W w' A' := by
  obtain ⟨F', a', t, n⟩ := hg
  refine ⟨F', a', fun k hk => ?_, b.trans (t.below b.size fun x hx hf => by have := f x hf; omega)⟩
  rcases n k hk with h | h
  · exact f k h
  · exact Nat.le_trans b.size h
theorem Ctx.id : Ctx fun A => A := ⟨fun h => h, fun ⟨F, a, f, b⟩ => ⟨F, a, fun _ _ hg => goes_on f b hg⟩⟩

theorem goes_left {w w' : World} {A' B : Ast} {Fa Fb F : Nat → Prop} (hB : Solid B) (b : B w Fb) (d : ∀ k, Fa k → ¬ Fb k) (e : ∀ k, F k ↔ Fa k ∨ Fb k) (hg : Goes w w' Fa A') : Goes w w' F (A'.and B) := by
  obtain ⟨F', a', t, n⟩ := hg
  refine ⟨fun k => F' k ∨ Fb k, ⟨F', Fb, a', hB.stay b t fun k h1 h2 => d k h2 h1, fun k h1 h2 => ?_, fun k => Iff.rfl⟩, t.mono fun k _ hk => (e k).2 (.inl hk), fun k hk => ?_⟩
  · rcases n k h1 with h | h
    · exact d k h h2
    · have := hB.lt b k h2; omega
  · rcases hk with hk | hk
    · rcases n k hk with h | h
      · exact .inl ((e k).2 (.inl h))
      · exact .inr h
    · exact .inl ((e k).2 (.inr hk))
theorem goes_right {w w' : World} {A' B : Ast} {Fa Fb F : Nat → Prop} (hB : Solid B) (b : B w Fb) (d : ∀ k, Fb k → ¬ Fa k) (e : ∀ k, F k ↔ Fb k ∨ Fa k) (hg : Goes w w' Fa A') : Goes w w' F (B.and A') := by
  obtain ⟨F', ⟨G1, G2, g1, g2, d', e'⟩, t, n⟩ := goes_left hB b (fun k h1 h2 => d k h2 h1) (fun k => (e k).trans Or.comm) hg
  exact ⟨F', ⟨G2, G1, g2, g1, fun k h1 h2 => d' k h2 h1, fun k => (e' k).trans Or.comm⟩, t, n⟩
theorem Ctx.left {C : Ast → Ast} (hC : Ctx C) {B : Ast} (hB : Solid B) : Ctx fun A => C (A.and B) := ⟨fun h => hC.solid (h.and hB), fun h => by
  obtain ⟨F, ⟨Fa, Fb, a, b, d, e⟩, hg⟩ := hC.use h
  exact ⟨Fa, a, fun w' A' h' => hg _ _ (goes_left hB b d e h')⟩⟩
theorem Ctx.right {C : Ast → Ast} (hC : Ctx C) {B : Ast} (hB : Solid B) : Ctx fun A => C (B.and A) := ⟨fun h => hC.solid (hB.and h), fun h => by
  obtain ⟨F, ⟨Fb, Fa, b, a, d, e⟩, hg⟩ := hC.use h
  exact ⟨Fa, a, fun w' A' h' => hg _ _ (goes_right hB b d e h')⟩⟩

/-! ### What a watcher keeps -/
theorem look_fresh' (S : WS) (c : Nat) : (lookS S c).1.fresh = S.fresh := (look_fresh S c).1
theorem mv_fresh (x0 : Int) (S : WS) (left rest : List Nat) (c : Nat) : (mvStep x0 S left rest c).1.fresh = S.fresh := by
  unfold mvStep
  split
  · rfl
  · split
    · exact look_fresh' _ _
    · exact look_fresh' _ _
theorem moves_fresh (x0 : Int) : ∀ (rest : List Nat) (S : WS) (left : List Nat), (movesS x0 rest S left).1.fresh = S.fresh
  | [], _, _ => rfl
  | c :: rest, S, left => by
    unfold movesS
    split
    · exact mv_fresh ..
    · rw [moves_fresh x0 rest, mv_fresh]
theorem fresh_len : ∀ (l : List Nat) (S : WS), S.fresh = l → (freshS l S).1.fresh.length ≤ l.length
  | [], S, h => by unfold freshS; rw [h]; simp
  | c :: rest, S, h => by
    unfold freshS
    split
    · rw [look_fresh', h]; simp
    · have := fresh_len rest ((lookS S c).1.wFresh rest) rfl
      simp; omega
theorem done_fresh : ∀ (k : Nat) (S : WS), (doneS k S).1.fresh = S.fresh
  | 0, _ => rfl
  | k + 1, S => by
    unfold doneS
    split
    · split
      · exact moves_fresh ..
      · rw [done_fresh k]
        exact moves_fresh ..
    · rfl
theorem prop_fresh (S : WS) : (propS S).1.fresh.length ≤ S.fresh.length := by
  unfold propS
  split
  · exact fresh_len _ _ rfl
  · rw [done_fresh]
    exact fresh_len _ _ rfl

/-- A watcher of n variables, of t calls at most. -/
structure OkS (n t : Nat) (S : WS) : Prop where
  inv : WInv S
  n : S.n = n
  cl : S.cl.length ≤ t
  fresh : S.fresh.length ≤ 240001 * t
  lens : ∀ c ∈ S.cl, c.length ≤ 2000

section
variable {n t : Nat} {S : WS}
theorem OkS.new : OkS n 0 (newS n) := ⟨new_inv n, rfl, Nat.le_refl _, Nat.le_refl _, fun c hc => by simp [newS] at hc⟩
theorem OkS.more (h : OkS n t S) {t' : Nat} (ht : t ≤ t') : OkS n t' S := ⟨h.inv, h.n, Nat.le_trans h.cl ht, Nat.le_trans h.fresh (Nat.mul_le_mul_left _ ht), h.lens⟩
theorem OkS.add (h : OkS n t S) (c : List Int) (hc : c.length ≤ 2000) : OkS n (t + 1) (addS S c).1 := by
  have h1 := add_inv h.inv c
  have h2 := h.cl
  have h3 := h.fresh
  unfold addS at h1 ⊢
  split
  · next hk =>
    rw [if_pos hk] at h1
    exact ⟨h1, h.n, by simp; omega, by simp; omega, fun d hd => by
      rcases List.mem_append.1 hd with hd | hd
      · exact h.lens d hd
      · simp at hd; subst hd; exact hc⟩
  · exact h.more (by omega)
theorem OkS.dec (h : OkS n t S) (x : Int) : OkS n (t + 1) (decS S x).1 := by
  have h2 := h.cl
  have h3 := h.fresh
  exact ⟨dec_inv h.inv x, h.n, by show S.cl.length ≤ t + 1; omega, by show S.fresh.length ≤ _; omega, h.lens⟩
theorem OkS.back (h : OkS n t S) (x : Int) (ht : t ≤ 240001) : OkS n (t + 1) (backS S x).1 := by
  have h1 := back_inv h.inv x
  have h2 := h.cl
  have h3 := h.fresh
  have h4 := h.inv.len
  unfold backS at h1 ⊢
  split
  · next hk =>
    rw [if_pos hk] at h1
    have h5 : (singles S.ls).length ≤ S.ls.length := by
      unfold singles
      exact Nat.le_trans (List.length_filter_le _ _) (by simp)
    exact ⟨h1, h.n, by show S.cl.length ≤ t + 1; omega, by simp; omega, h.lens⟩
  · exact h.more (by omega)
theorem OkS.prop (h : OkS n t S) : OkS n (t + 1) (propS S).1 := by
  obtain ⟨k, _⟩ := prop_spec h.inv
  have h2 := h.cl
  have h3 := h.fresh
  have h4 := prop_fresh S
  exact ⟨k.inv, k.n.trans h.n, by rw [k.cl]; omega, by omega, by rw [k.cl]; exact h.lens⟩
end

/-! ### A watcher, a trail, numbers: as things -/
def wat (x n t : Nat) (S : WS) : Ast := fun w F => ∃ M, WAt w M S ∧ M.x = x ∧ M.nB ≤ 4000000 * t ∧ OkS n t S ∧ ∀ k, M.all S k ↔ F k
def trl (g n : Nat) (es : List En) : Ast := fun w F => TrA w F g (trE n es)
def nums (v : Value) (l : List Int) : Ast := fun w F => Own w 3 1 v l.length (inC l) ∧ ∀ k, F k ↔ v.ownBlock = some k
theorem Solid.wat (x n t : Nat) (S : WS) : Solid (wat x n t S) where
  stay := fun ⟨M, a, b, c, d, e⟩ ht hG => ⟨M, a.touch ht fun k hk => hG k ((e k).1 hk), b, c, d, e⟩
  lt := fun ⟨M, a, b, c, d, e⟩ k hk => by
    obtain ⟨t, ht⟩ := (e k).2 hk
    exact a.lt t k ht
theorem Solid.trl (g n : Nat) (es : List En) : Solid (trl g n es) := ⟨fun h ht hG => TrA.other h ht hG, fun h k hk => TrA.lt h k hk⟩
theorem Solid.nums (v : Value) (l : List Int) : Solid (nums v l) := ⟨fun ⟨a, e⟩ ht hG => ⟨a.touch ht fun k hk => hG k ((e k).2 hk), e⟩, fun ⟨a, e⟩ k hk => a.lt k ((e k).1 hk)⟩

section
variable {W w : World} {C : Ast → Ast} {x n t : Nat} {S : WS}

theorem goes_wat {M : WM} {F : Nat → Prop} {d t' : Nat} {S' : WS} {w' : World} (hx : M.x = x) (hb : M.nB + d ≤ 4000000 * t') (ok : OkS n t' S') (he : ∀ k, M.all S k ↔ F k) (hu : WUp d w w' M S S') : Goes w w' F (wat x n t' S') := by
  obtain ⟨M', a, b, c, e, f, _⟩ := hu
  refine ⟨M'.all S', ⟨M', a, b.trans hx, by omega, ok, fun k => Iff.rfl⟩, e.mono fun k _ hk => (he k).1 hk, fun k hk => ?_⟩
  rcases f k hk with h | h
  · exact .inl ((he k).1 h)
  · exact .inr h

theorem On.ok (hC : Ctx C) (h : On W w (C (Go.Proofs.Ythinopiobihmaaa.wat x n t S))) : OkS n t S := by
  obtain ⟨F, ⟨M, a, b, c, d, e⟩, _⟩ := hC.use h
  exact d

theorem on_new {A : Ast} (hA : Solid A) (h : On W w A) (hn : n ≤ 12) :
    Calls Try.prog 25 #[.int .i64 n] w fun e w' => ∃ x, e = .returned (.tuple #[.pointer (some ⟨x, 0, none⟩), .int .i64 0]) ∧ On W w' (A.and (wat x n 0 (newS n))) := by
  refine (wnew0 n w (by omega)).mono ?_
  rintro e w' ⟨M, rfl, a, b, c, h0⟩
  exact ⟨M.x, rfl, h.new hA b (B := wat M.x n 0 (newS n)) ⟨M, a, rfl, by omega, OkS.new, fun k => Iff.rfl⟩ c⟩

theorem on_add (hC : Ctx C) (h : On W w (C (wat x n t S))) (hn : n ≤ 12) (ht : t ≤ 240000) (ao : Option Addr) (c : List Int) (cap : Nat) (hc : Ints w ao c) (hl : c.length ≤ 2000) (hI : ∀ x ∈ c, I64 x) :
    Calls Try.prog 37 #[.pointer (some ⟨x, 0, none⟩), .slice ao c.length cap] w fun e w' => e = .returned (.tuple #[.int .i64 (addS S c).2.1, .int .i64 (addS S c).2.2]) ∧ On W w' (C (wat x n (t + 1) (addS S c).1)) := by
  obtain ⟨F, ⟨M, a, rfl, b, ok, e⟩, hg⟩ := hC.use h
  have h1 := ok.cl
  have h2 := ok.fresh
  refine (wAdd_any w M S a ok.inv (by rw [ok.n]; omega) (by omega) (by omega) (by omega) ao c cap hc (by omega) hI).mono ?_
  rintro e w' ⟨rfl, hu⟩
  exact ⟨rfl, hg _ _ (goes_wat rfl (by omega) (ok.add c hl) e hu)⟩
theorem on_decide (hC : Ctx C) (h : On W w (C (wat x n t S))) (hn : n ≤ 12) (i : Int) (hi : I64 i) :
    Calls Try.prog 28 #[.pointer (some ⟨x, 0, none⟩), .int .i64 i] w fun e w' => e = .returned (.int .i64 (decS S i).2) ∧ On W w' (C (wat x n (t + 1) (decS S i).1)) := by
  obtain ⟨F, ⟨M, a, rfl, b, ok, e⟩, hg⟩ := hC.use h
  refine (wdecide a ok.inv.good (by rw [ok.n]; omega) i hi).mono ?_
  rintro e w' ⟨rfl, hu⟩
  exact ⟨rfl, hg _ _ (goes_wat rfl (by omega) (ok.dec i) e hu)⟩
theorem on_back (hC : Ctx C) (h : On W w (C (wat x n t S))) (hn : n ≤ 12) (ht : t ≤ 240000) (i : Int) (hi : I64 i) :
    Calls Try.prog 31 #[.pointer (some ⟨x, 0, none⟩), .int .i64 i] w fun e w' => e = .returned (.int .i64 (backS S i).2) ∧ On W w' (C (wat x n (t + 1) (backS S i).1)) := by
  obtain ⟨F, ⟨M, a, rfl, b, ok, e⟩, hg⟩ := hC.use h
  have h1 := ok.cl
  have h2 := ok.fresh
  refine (wback_any w M S a ok.inv.good (by rw [ok.n]; omega) (by rw [ok.inv.len]; omega) (by omega) i hi).mono ?_
  rintro e w' ⟨rfl, hu⟩
  exact ⟨rfl, hg _ _ (goes_wat rfl (by omega) (ok.back i (by omega)) e hu)⟩
theorem on_prop (hC : Ctx C) (h : On W w (C (wat x n t S))) (hn : n ≤ 12) (ht : t ≤ 240000) :
    Calls Try.prog 38 #[.pointer (some ⟨x, 0, none⟩)] w fun e w' => e = .returned (.int .i64 (propS S).2) ∧ On W w' (C (wat x n (t + 1) (propS S).1)) := by
  obtain ⟨F, ⟨M, a, rfl, b, ok, e⟩, hg⟩ := hC.use h
  have h1 := ok.cl
  have h3 : (S.n + 1) * (S.cl.length + 1) ≤ 13 * 240001 := Nat.mul_le_mul (by rw [ok.n]; omega) (by omega)
  refine (wprop_any w M S a ok.inv (by rw [ok.n]; omega) (by omega) (by omega)).mono ?_
  rintro e w' ⟨rfl, hu⟩
  exact ⟨rfl, hg _ _ (goes_wat rfl (by omega) ok.prop e hu)⟩
theorem on_value (hC : Ctx C) (h : On W w (C (wat x n t S))) (hn : n ≤ 12) (i : Int) (hi : I64 i) :
    Calls Try.prog 32 #[.pointer (some ⟨x, 0, none⟩), .int .i64 i] w fun e w' => e = .returned (.int .i64 (valE n S.es i)) ∧ w = w' := by
  obtain ⟨F, ⟨M, a, rfl, b, ok, e⟩, hg⟩ := hC.use h
  have := wvalue a (by rw [ok.n]; omega) i hi
  rw [ok.n] at this
  exact this



theorem on_wtrail (hC : Ctx C) (h : On W w (C (wat x n t S))) (hn : n ≤ 12) :
    Calls Try.prog 30 #[.pointer (some ⟨x, 0, none⟩)] w fun e w' => ∃ g, e = .returned (.pointer (some ⟨g, 0, none⟩)) ∧ On W w' ((C (wat x n t S)).and (trl g n S.es)) := by
  have hs := hC.solid (Solid.wat x n t S)
  obtain ⟨F, ⟨M, a, rfl, b, ok, e⟩, hg⟩ := hC.use h
  refine (wtrail a ok.inv.good (by rw [ok.n]; omega)).mono ?_
  rintro e w' ⟨g, rfl, hb, F', hT, hF⟩
  rw [ok.n] at hT
  exact ⟨g, rfl, h.new hs hb (B := trl g n S.es) hT hF⟩
end

end Go.Proofs.Ythinopiobihmaaa

namespace Go.Proofs.Ythinopiobihmaaa
open Go.ChangeShapes Go.WideShapes Go.ChangeAt Go.RowKit Go.Maps Go.Deep
set_option maxRecDepth 100000

instance decI64 (x : Int) : Decidable (I64 x) := inferInstanceAs (Decidable (_ ∧ _))

/-- The blocks that came between two worlds are as they were. -/
def snap (a b : World) : Ast := fun w F => (∀ k, a.heap.size ≤ k → k < b.heap.size → w.heap[k]? = b.heap[k]?) ∧ b.heap.size ≤ w.heap.size ∧ ∀ k, F k ↔ a.heap.size ≤ k ∧ k < b.heap.size
theorem Solid.snap (a b : World) : Solid (snap a b) where
  stay := fun ⟨h, hs, e⟩ ht hG => ⟨fun k h1 h2 => (ht.block k (by omega) (hG k ((e k).2 ⟨h1, h2⟩))).trans (h k h1 h2), Nat.le_trans hs ht.size, e⟩
  lt := fun ⟨h, hs, e⟩ k hk => by have := (e k).1 hk; omega
theorem snap_new (a b : World) : snap a b b fun k => a.heap.size ≤ k ∧ k < b.heap.size := ⟨fun _ _ _ => rfl, Nat.le_refl _, fun _ => Iff.rfl⟩
theorem snap_cell {a b w : World} {F : Nat → Prop} (h : snap a b w F) (p : Addr) (h1 : a.heap.size ≤ p.block) (h2 : p.block < b.heap.size) : w.cell? p = b.cell? p :=
  World.cell?_of_block (w := b) (h.1 _ h1 h2)
theorem On.newSnap {W w w' : World} {A : Ast} (hA : Solid A) (h : On W w A) (hb : Below w.heap.size w w') : On W w' (A.and (snap w w')) :=
  h.new hA hb (snap_new w w') fun _ hk => hk.1
theorem snap_ints {a b w : World} {F : Nat → Prop} (h : snap a b w F) {k : Nat} {l : List Int} (h1 : a.heap.size ≤ k) (h2 : k < b.heap.size) (hc : ∀ j (h : j < l.length), b.cell? ⟨k, j, none⟩ = some (.int .i64 l[j])) : Ints w (some ⟨k, 0, none⟩) l := fun _ =>
  ⟨k, 0, rfl, by have := h.2.1; omega, fun j hj => (snap_cell h ⟨k, 0 + j, none⟩ h1 h2).trans (by rw [Nat.zero_add]; exact hc j hj)⟩

section
variable {W w : World} {C : Ast → Ast} {x n t : Nat} {S : WS}
theorem on_add' (hC : Ctx C) (h : On W w (C (wat x n t S))) (hn : n ≤ 12) (ht : t ≤ 240000) (ao : Option Addr) (c : List Int) (cap : Nat) (hc : Ints w ao c) (hl : c.length ≤ 2000) (hI : ∀ x ∈ c, I64 x) {S' : WS} {a b : Int} (hr : addS S c = (S', a, b)) :
    Calls Try.prog 37 #[.pointer (some ⟨x, 0, none⟩), .slice ao c.length cap] w fun e w' => e = .returned (.tuple #[.int .i64 a, .int .i64 b]) ∧ On W w' (C (wat x n (t + 1) S')) := by
  have := on_add hC h hn ht ao c cap hc hl hI
  rw [hr] at this
  exact this
theorem on_decide' (hC : Ctx C) (h : On W w (C (wat x n t S))) (hn : n ≤ 12) (i : Int) (hi : I64 i) {S' : WS} {r : Int} (hr : decS S i = (S', r)) :
    Calls Try.prog 28 #[.pointer (some ⟨x, 0, none⟩), .int .i64 i] w fun e w' => e = .returned (.int .i64 r) ∧ On W w' (C (wat x n (t + 1) S')) := by
  have := on_decide hC h hn i hi
  rw [hr] at this
  exact this
theorem on_back' (hC : Ctx C) (h : On W w (C (wat x n t S))) (hn : n ≤ 12) (ht : t ≤ 240000) (i : Int) (hi : I64 i) {S' : WS} {r : Int} (hr : backS S i = (S', r)) :
    Calls Try.prog 31 #[.pointer (some ⟨x, 0, none⟩), .int .i64 i] w fun e w' => e = .returned (.int .i64 r) ∧ On W w' (C (wat x n (t + 1) S')) := by
  have := on_back hC h hn ht i hi
  rw [hr] at this
  exact this
theorem on_prop' (hC : Ctx C) (h : On W w (C (wat x n t S))) (hn : n ≤ 12) (ht : t ≤ 240000) {S' : WS} {r : Int} (hr : propS S = (S', r)) :
    Calls Try.prog 38 #[.pointer (some ⟨x, 0, none⟩)] w fun e w' => e = .returned (.int .i64 r) ∧ On W w' (C (wat x n (t + 1) S')) := by
  have := on_prop hC h hn ht
  rw [hr] at this
  exact this
theorem on_value' (hC : Ctx C) (h : On W w (C (wat x n t S))) (hn : n ≤ 12) (i : Int) (hi : I64 i) {v : Int} (hr : valE n S.es i = v) :
    Calls Try.prog 32 #[.pointer (some ⟨x, 0, none⟩), .int .i64 i] w fun e w' => e = .returned (.int .i64 v) ∧ w = w' := by
  have := on_value hC h hn i hi
  rw [hr] at this
  exact this

end



/-- A clause of two that is written out and added at once. -/
theorem add_lit2 {W w : World} {C : Ast → Ast} {x n t : Nat} {S S' : WS} (hC : Ctx C) (h : On W w (C (wat x n t S))) (hn : n ≤ 12) (ht : t ≤ 240000) (p q : Int) (hp : I64 p) (hq : I64 q) {a b : Int} (hr : addS S [p, q] = (S', a, b)) :
    Calls Try.prog 37 #[.pointer (some ⟨x, 0, none⟩), .slice (some ⟨w.heap.size, 0, none⟩) 2 2] (w.alloc (.cells #[.int .i64 p, .int .i64 q] 3)) fun e w' => e = .returned (.tuple #[.int .i64 a, .int .i64 b]) ∧ On W w' (C (wat x n (t + 1) S')) := by
  have hb : Below w.heap.size w (w.alloc (.cells #[.int .i64 p, .int .i64 q] 3)) := (Below.refl _ _).alloc (Nat.le_refl _) _
  have hk := Blk.new w 3 #[.int .i64 p, .int .i64 q]
  exact on_add' hC (h.below (hC.solid (Solid.wat ..)) hb) hn ht _ [p, q] 2 (fun _ => ⟨w.heap.size, 0, rfl, by simp, fun j hj => by
    match j, hj with
    | 0, _ => exact hk.cell 0
    | 1, _ => exact hk.cell 1⟩) (by simp) (fun y hy => by
    simp at hy
    rcases hy with rfl | rfl
    · exact hp
    · exact hq) hr


end Go.Proofs.Ythinopiobihmaaa
