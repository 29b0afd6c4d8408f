/- Contracts of package trail: a trail in blocks of its own; Assign. -/
import Derived.Test.YtnachllhjojlcaaT5
namespace Go.Proofs.Ytnachllhjojlcaa
open Go.ChangeShapes Go.WideShapes Go.ChangeAt Go.RowKit
set_option maxRecDepth 100000

/-- The trail at g, its blocks among F. -/
def TrA (w : World) (F : Nat → Prop) (g : Nat) (T : TrD) : Prop :=
  ∃ a b c, IsT w g a b c T ∧ F g ∧ (∀ k, a.ownBlock = some k → F k) ∧ (∀ k, b.ownBlock = some k → F k) ∧ (∀ k, c.ownBlock = some k → F k) ∧ (b.ownBlock = none ∨ b.ownBlock ≠ c.ownBlock) ∧ ∀ k, F k → k < w.heap.size

/-- What a writing call leaves: its trail anew, among F or in new blocks. -/
def TrUp (w w' : World) (F : Nat → Prop) (g : Nat) (T : TrD) : Prop :=
  ∃ F', TrA w' F' g T ∧ Touch F w w' ∧ ∀ k, F' k → F k ∨ w.heap.size ≤ k

theorem TrA.below {w w' : World} {F : Nat → Prop} {g : Nat} {T : TrD} (h : TrA w F g T) (hb : Below w.heap.size w w') : TrA w' F g T := by
  obtain ⟨a, b, c, h1, h2, h3, h4, h5, h6, h7⟩ := h
  exact ⟨a, b, c, ⟨h1.blk.below hb (h7 g h2), h1.vars.new hb, h1.lits.new hb, h1.begins.new hb⟩, h2, h3, h4, h5, h6, fun k hk => Nat.lt_of_lt_of_le (h7 k hk) hb.size⟩

theorem TrA.other {w w' : World} {F G : Nat → Prop} {g : Nat} {T : TrD} (h : TrA w F g T) (ht : Touch G w w') (hd : ∀ k, F k → ¬ G k) : TrA w' F g T := by
  obtain ⟨a, b, c, h1, h2, h3, h4, h5, h6, h7⟩ := h
  exact ⟨a, b, c, ⟨h1.blk.touch ht (hd g h2), h1.vars.touch ht fun k hk => hd k (h3 k hk), h1.lits.touch ht fun k hk => hd k (h4 k hk), h1.begins.touch ht fun k hk => hd k (h5 k hk)⟩, h2, h3, h4, h5, h6, fun k hk => Nat.lt_of_lt_of_le (h7 k hk) ht.size⟩

theorem TrA.up {w : World} {F : Nat → Prop} {g : Nat} {T : TrD} (h : TrA w F g T) : TrUp w w F g T := ⟨F, h, Touch.refl _ _, fun _ hk => .inl hk⟩

theorem TrA.lt {w : World} {F : Nat → Prop} {g : Nat} {T : TrD} (h : TrA w F g T) : ∀ k, F k → k < w.heap.size := by
  obtain ⟨a, b, c, h1, h2, h3, h4, h5, h6, h7⟩ := h
  exact h7

theorem TrUp.trans {w w1 w2 : World} {F F1 : Nat → Prop} {g : Nat} {T : TrD} (hT : Touch F w w1) (h1 : ∀ k, F1 k → F k ∨ w.heap.size ≤ k) (h : TrUp w1 w2 F1 g T) : TrUp w w2 F g T := by
  obtain ⟨F', h2, h3, h4⟩ := h
  refine ⟨F', h2, hT.trans h3 fun x hx hf => ?_, fun k hk => ?_⟩
  · rcases h1 x hf with h | h
    · exact h
    · omega
  · rcases h4 k hk with h | h
    · exact h1 k h
    · exact .inr (Nat.le_trans hT.size h)

theorem push_up (F : Nat → Prop) (g : Nat) (T : TrD) (lit reason : Int) (v : Nat) (w : World) (hT : TrA w F g T) (hn : T.vars.length ≤ 5000) (hl : T.lits.length ≤ 5000)
    (h1 : -9223372036854775808 ≤ lit) (h2 : lit ≤ 9223372036854775807) (hv : varN T.vars.length lit = v) (hvl : v < T.vars.length) :
    Calls Try.prog 54 #[.pointer (some ⟨g, 0, none⟩), .int .i64 lit, .int .i64 reason] w fun e w' => e = .returned (.tuple #[]) ∧ TrUp w w' F g (pushT T lit reason v) := by
  obtain ⟨a, b, c, k1, k2, k3, k4, k5, k6, k7⟩ := hT
  refine (push_any g a b c T lit reason v w k1 k6 hn hl h1 h2 hv hvl).mono ?_
  rintro e w' ⟨he, b', i1, i2, i3⟩
  have hb' : ∀ k, b'.ownBlock = some k → F k ∨ w.heap.size ≤ k := fun k hk => by
    rcases i3 with h | h
    · exact .inl (k4 k (h ▸ hk))
    · exact .inr (h k hk)
  refine ⟨he, fun k => F k ∨ b'.ownBlock = some k, ⟨a, b', c, i1, .inl k2, fun k hk => .inl (k3 k hk), fun k hk => .inr hk, fun k hk => .inl (k5 k hk), ?_, fun k hk => ?_⟩, i2.mono fun x _ hx => ?_, fun k hk => ?_⟩
  · cases hk : b'.ownBlock with
    | none => exact .inl rfl
    | some k =>
      refine .inr fun e => ?_
      rcases i3 with h | h
      · rw [h] at hk
        rcases k6 with h6 | h6
        · rw [h6] at hk; cases hk
        · rw [← e] at h6
          exact h6 hk
      · have h1 := h k hk
        have h2 := k7 k (k5 k e.symm)
        omega
  · rcases hk with hk | hk
    · exact Nat.lt_of_lt_of_le (k7 k hk) i2.size
    · exact i1.lits.lt k hk
  · rcases hx with rfl | hx | hx
    · exact k2
    · exact k3 x hx
    · exact k4 x hx
  · rcases hk with hk | hk
    · exact .inl hk
    · exact hb' k hk

theorem varN_lit {n : Nat} {x : Int} (h : Lit n x) : varN n x = ((x.natAbs - 1 : Nat) : Int) := by
  unfold Lit at h
  unfold varN
  rw [if_neg (by omega)]
  by_cases hx : x < 0
  · simp only [if_pos hx]
    rw [if_pos (by omega)]
    omega
  · simp only [if_neg hx]
    rw [if_pos (by omega)]
    omega
theorem varN_not {n : Nat} {x : Int} (h : ¬ Lit n x) : varN n x = -1 := by
  unfold Lit at h
  unfold varN
  by_cases h0 : x = 0
  · rw [if_pos h0]
  · rw [if_neg h0]
    by_cases hx : x < 0
    · simp only [if_pos hx]
      rw [if_neg (by omega)]
    · simp only [if_neg hx]
      rw [if_neg (by omega)]

theorem knAt_trE (n : Nat) (es : List En) (v : Nat) (h : v < n) : knAt (trE n es) v = knE (look es v) := by
  unfold knAt trE
  rw [List.getD_eq_getElem?_getD]
  simp only [Int.toNat_natCast]
  rw [varsE_get n es v h]
  rfl

theorem openE_trE {n : Nat} {es : List En} (x : Int) : openE (trE n es) x = openC n es x := by
  have hl : (trE n es).vars.length = n := varsE_len n es
  unfold openE openC
  rw [hl]
  by_cases h : Lit n x
  · have hx := h
    unfold Lit at hx
    rw [varN_lit h, if_neg (by omega), if_pos hx, knAt_trE n es _ (by omega)]
    cases look es (x.natAbs - 1) with
    | none => rfl
    | some e =>
      have hv : (knE (some e)).value ≠ 0 := by simp only [knE]; split <;> decide
      rw [if_pos hv]
      rfl
  · rw [varN_not h]
    unfold Lit at h
    rw [if_pos (by omega), if_neg h]

theorem pushT_asn {n : Nat} {es : List En} {x reason : Int} (hg : Good n es) (hx : Lit n x) (hr : 0 ≤ reason) : pushT (trE n es) x reason (x.natAbs - 1) = trE n (⟨x, hi es, reason⟩ :: es) := by
  have h1 := push_vars n es x (hi es) reason hx
  have h2 := begs_len hg
  simp only [pushT, trE, h2, h1, begs, List.map_cons, List.reverse_cons]
  rw [if_neg (by omega)]

theorem pushT_dec {n : Nat} {es : List En} {x : Int} (hg : Good n es) (hx : Lit n x) : pushT ⟨varsE n es, (es.map (·.lit)).reverse, begs es ++ [(es.length : Int)]⟩ x (-1) (x.natAbs - 1) = trE n (⟨x, hi es + 1, -1⟩ :: es) := by
  have h1 := push_vars n es x (hi es + 1) (-1) hx
  have h2 := begs_len hg
  have h3 : (((begs es ++ [(es.length : Int)]).length : Nat) : Int) = hi es + 1 := by
    rw [List.length_append, List.length_singleton]
    omega
  simp only [pushT, trE, h3, h1, begs, List.map_cons, List.reverse_cons, if_true]

theorem assign_any (F : Nat → Prop) (g n : Nat) (es : List En) (lit reason : Int) (w : World) (hT : TrA w F g (trE n es)) (hg : Good n es) (hn : n ≤ 5000)
    (h1 : -9223372036854775808 ≤ lit) (h2 : lit ≤ 9223372036854775807) :
    Calls Try.prog 63 #[.pointer (some ⟨g, 0, none⟩), .int .i64 lit, .int .i64 reason] w fun e w' => e = .returned (.int .i64 (asnC n es lit reason).1) ∧ TrUp w w' F g (trE n (asnC n es lit reason).2) := by
  have hl : (trE n es).vars.length = n := varsE_len n es
  have hll : (trE n es).lits.length = es.length := by simp [trE]
  have hlen := hg.len_le
  by_cases hr : reason < 0
  · simp only [asnC, if_pos hr]
    go_enter Try.func63, Try.ntmps63
    go_wp2_with fail
    go_ret
    exact ⟨rfl, hT.up⟩
  · simp only [asnC, if_neg hr]
    have hr' : decide (reason < 0) = false := by simpa using hr
    have HO : Hid (Calls Try.prog 53 #[.pointer (some ⟨g, 0, none⟩), .int .i64 lit] w fun e w' => e = .returned (.int .i64 (openC n es lit)) ∧ w = w') := Lib.hid (by
      obtain ⟨a, b, c, k1, _⟩ := hT
      have h := open_any g a b c _ lit w k1 (by omega) h1 h2
      rwa [openE_trE] at h)
    by_cases ho : openC n es lit = 0
    · obtain ⟨hx, hlk⟩ := openC_zero ho
      have hx' := hx
      unfold Lit at hx'
      have HP := push_up F g (trE n es) lit reason (lit.natAbs - 1) w hT (by omega) (by omega) h1 h2 (by rw [hl]; exact varN_lit hx) (by omega)
      rw [pushT_asn hg hx (by omega)] at HP
      have HP := Lib.hid HP
      simp only [if_pos ho]
      rw [ho] at HO ⊢
      generalize trE n (⟨lit, hi es, reason⟩ :: es) = T1 at *
      go_enter Try.func63, Try.ntmps63
      go_wp2_with (first | (go_at_call 53; refine HO.out.mono ?_; rintro e w' ⟨rfl, rfl⟩) | (go_at_call 54; refine HP.out.mono ?_; rintro e w1 ⟨rfl, hu⟩))
      go_ret
      exact ⟨rfl, hu⟩
    · simp only [if_neg ho]
      have ho' : (openC n es lit == 0) = false := by simpa using ho
      generalize openC n es lit = q at *
      go_enter Try.func63, Try.ntmps63
      go_wp2_with (first | (go_at_call 53; refine HO.out.mono ?_; rintro e w' ⟨rfl, rfl⟩))
      go_ret
      exact ⟨rfl, hT.up⟩

end Go.Proofs.Ytnachllhjojlcaa
