/- A watcher's contracts: New, Value, Level, Count, Decide, rank. -/
import Derived.Test.YtnachllhjojlcaaV1
namespace Go.Proofs.Ytnachllhjojlcaa
open Go.ChangeShapes Go.WideShapes Go.ChangeAt Go.RowKit Go.Maps
set_option maxRecDepth 100000

section
variable {w : World} {F : Nat → Prop} {g n : Nat} {es : List En}
theorem tr_value (h : TrA w F g (trE n es)) (hn : n ≤ 5000) (x : Int) (hx : I64 x) :
    Calls Try.prog 46 #[.pointer (some ⟨g, 0, none⟩), .int .i64 x] w fun e w' => e = .returned (.int .i64 (valE n es x)) ∧ w = w' := by
  obtain ⟨a, b, c, k1, _⟩ := h
  have hl : (trE n es).vars.length = n := varsE_len n es
  have := value_any g a b c _ x w k1 (by omega) hx.1 hx.2 knAt_range
  rwa [valT_trE] at this
theorem tr_levelOf (h : TrA w F g (trE n es)) (hn : n ≤ 5000) (v : Int) :
    Calls Try.prog 68 #[.pointer (some ⟨g, 0, none⟩), .int .i64 v] w fun e w' => e = .returned (.int .i64 (ofE n es v).level) ∧ Below w.heap.size w w' := by
  obtain ⟨a, b, c, k1, _⟩ := h
  have hl : (trE n es).vars.length = n := varsE_len n es
  have := levelOf_any g a b c _ v w k1 (by omega)
  rwa [ofT_trE] at this
theorem tr_level (h : TrA w F g (trE n es)) (hg : Good n es) :
    Calls Try.prog 51 #[.pointer (some ⟨g, 0, none⟩)] w fun e w' => e = .returned (.int .i64 (hi es)) ∧ w = w' := by
  obtain ⟨a, b, c, k1, _⟩ := h
  have := level_any g a b c _ w k1
  rwa [show ((trE n es).begins.length : Int) = hi es from begs_len hg] at this
theorem tr_vars (h : TrA w F g (trE n es)) :
    Calls Try.prog 35 #[.pointer (some ⟨g, 0, none⟩)] w fun e w' => e = .returned (.int .i64 n) ∧ w = w' := by
  obtain ⟨a, b, c, k1, _⟩ := h
  have := vars_any g a b c _ w k1
  rwa [show (trE n es).vars.length = n from varsE_len n es] at this
theorem tr_len (h : TrA w F g (trE n es)) :
    Calls Try.prog 32 #[.pointer (some ⟨g, 0, none⟩)] w fun e w' => e = .returned (.int .i64 es.length) ∧ w = w' := by
  obtain ⟨a, b, c, k1, _⟩ := h
  have := len_any g a b c _ w k1
  rwa [show (trE n es).lits.length = es.length by simp [trE]] at this
theorem tr_at (h : TrA w F g (trE n es)) (j : Int) :
    Calls Try.prog 45 #[.pointer (some ⟨g, 0, none⟩), .int .i64 j] w fun e w' => e = .returned (.int .i64 (atE es j)) ∧ w = w' := by
  obtain ⟨a, b, c, k1, _⟩ := h
  exact at_any g a b c _ j w k1
end

section
variable {w : World} {M : WM} {S : WS}

/-- The trail is written. -/
theorem WAt.trail {w' : World} {es' : List En} (h : WAt w M S) (hT : TrUp w w' M.F M.g (trE S.n es')) : WUp 0 w w' M S (S.wEs es') := by
  obtain ⟨F', h1, h2, h3⟩ := hT
  obtain ⟨k1, k2, k3⟩ := WAt.upd (M' := { M with F := F' }) (S' := S.wEs es') (fun t => t = .trail) h (h2.mono fun k _ hk => ⟨.trail, rfl, hk⟩)
    (fun t ht hp => by cases t <;> first | exact hp | exact absurd rfl ht) (fun t ht => by subst ht; exact h1)
    (fun t ht k hk => by cases t <;> first | exact hk | exact absurd rfl ht) (fun t ht k hk => by
      subst ht
      rcases h3 k hk with h | h
      · exact .inl ⟨.trail, rfl, h⟩
      · exact .inr h) (fun t ht k hk => by subst ht; exact h1.lt k hk) (fun t t' ht ht' _ _ _ => by subst ht ht'; rfl)
  exact ⟨_, k1, rfl, Nat.le_refl _, k2, k3, fun _ => rfl⟩

theorem wvalue (h : WAt w M S) (hn : S.n ≤ 5000) (x : Int) (hx : I64 x) :
    Calls Try.prog 15 #[.pointer (some ⟨M.x, 0, none⟩), .int .i64 x] w fun e w' => e = .returned (.int .i64 (valE S.n S.es x)) ∧ w = w' := by
  have HV := Lib.hid (tr_value (h.part .trail) hn x hx)
  obtain ⟨c0, _⟩ := h.cells
  clear h
  go_enter Try.func15, Try.ntmps15
  go_wp2_with (go_at_call 46; (with_reducible refine HV.out.mono ?_); rintro e w' ⟨rfl, rfl⟩)
  go_ret
  exact ⟨rfl, rfl⟩
theorem wvalue_nil (x : Int) : Calls Try.prog 15 #[.pointer none, .int .i64 x] w fun e w' => e = .returned (.int .i64 0) ∧ w = w' := by
  go_enter Try.func15, Try.ntmps15
  go_wp2_with fail
  go_ret
  exact ⟨rfl, rfl⟩

theorem wlevel (h : WAt w M S) (hg : Good S.n S.es) :
    Calls Try.prog 25 #[.pointer (some ⟨M.x, 0, none⟩)] w fun e w' => e = .returned (.int .i64 (hi S.es)) ∧ w = w' := by
  have HV := Lib.hid (tr_level (h.part .trail) hg)
  obtain ⟨c0, _⟩ := h.cells
  clear h
  go_enter Try.func25, Try.ntmps25
  go_wp2_with (go_at_call 51; (with_reducible refine HV.out.mono ?_); rintro e w' ⟨rfl, rfl⟩)
  go_ret
  exact ⟨rfl, rfl⟩
theorem wlevel_nil : Calls Try.prog 25 #[.pointer none] w fun e w' => e = .returned (.int .i64 0) ∧ w = w' := by
  go_enter Try.func25, Try.ntmps25
  go_wp2_with fail
  go_ret
  exact ⟨rfl, rfl⟩

theorem wcount (h : WAt w M S) :
    Calls Try.prog 23 #[.pointer (some ⟨M.x, 0, none⟩)] w fun e w' => e = .returned (.int .i64 S.cl.length) ∧ w = w' := by
  obtain ⟨_, c1, _⟩ := h.cells
  have ho : Own w 23 1 M.vC S.cl.length _ := h.part .cls
  obtain ⟨ao, cap, e1, _, _, _⟩ := ho.form
  rw [e1] at c1
  clear h ho e1
  go_enter Try.func23, Try.ntmps23
  go_wp2_with fail
  go_ret
  exact ⟨rfl, rfl⟩
theorem wcount_nil : Calls Try.prog 23 #[.pointer none] w fun e w' => e = .returned (.int .i64 0) ∧ w = w' := by
  go_enter Try.func23, Try.ntmps23
  go_wp2_with fail
  go_ret
  exact ⟨rfl, rfl⟩

theorem wdecide (h : WAt w M S) (hg : Good S.n S.es) (hn : S.n ≤ 5000) (x : Int) (hx : I64 x) :
    Calls Try.prog 13 #[.pointer (some ⟨M.x, 0, none⟩), .int .i64 x] w fun e w' => e = .returned (.int .i64 (decS S x).2) ∧ WUp 0 w w' M S (decS S x).1 := by
  have HV := Lib.hid (decide_any M.F M.g S.n S.es x w (h.part .trail) hg hn hx.1 hx.2)
  have HT : Hid (∀ w', TrUp w w' M.F M.g (trE S.n (decC S.n S.es x).2) → WUp 0 w w' M S (S.wEs (decC S.n S.es x).2)) := Lib.hid fun w' hT => h.trail hT
  obtain ⟨c0, _⟩ := h.cells
  clear h
  unfold decS
  generalize decC S.n S.es x = r at *
  obtain ⟨r1, r2⟩ := r
  simp only at HV HT ⊢
  go_enter Try.func13, Try.ntmps13
  go_wp2_with (go_at_call 33; (with_reducible refine HV.out.mono ?_); rintro e w' ⟨rfl, hT⟩)
  go_ret
  exact ⟨rfl, HT.out _ hT⟩
theorem wdecide_nil (x : Int) : Calls Try.prog 13 #[.pointer none, .int .i64 x] w fun e w' => e = .returned (.int .i64 2) ∧ w = w' := by
  go_enter Try.func13, Try.ntmps13
  go_wp2_with fail
  go_ret
  exact ⟨rfl, rfl⟩

theorem wrank (h : WAt w M S) (hn : S.n ≤ 5000) (x : Int) (hx : 1 ≤ x.natAbs ∧ x.natAbs ≤ S.n) :
    Calls Try.prog 61 #[.pointer (some ⟨M.x, 0, none⟩), .int .i64 x] w fun e w' => e = .returned (.int .i64 (rankE S.n S.es x)) ∧ Below w.heap.size w w' := by
  have HV := Lib.hid (wvalue h hn x ⟨by omega, by omega⟩)
  have HN := Lib.hid (tr_vars (h.part .trail))
  have HL := Lib.hid (tr_levelOf (h.part .trail) hn ((x.natAbs : Int) - 1))
  obtain ⟨c0, _⟩ := h.cells
  clear h
  obtain ⟨R, hR⟩ : ∃ R, R = rankE S.n S.es x := ⟨_, rfl⟩
  rw [← hR]
  unfold rankE at hR
  generalize valE S.n S.es x = v at *
  generalize (ofE S.n S.es ((x.natAbs : Int) - 1)).level = lv at *
  obtain ⟨n, hnn⟩ : ∃ n, n = S.n := ⟨_, rfl⟩
  rw [← hnn] at *
  clear hnn
  by_cases hv : 0 ≤ v
  · rw [if_pos hv] at hR
    subst hR
    go_enter Try.func61, Try.ntmps61
    go_wp2_with (first
      | (go_at_call 15; (with_reducible refine HV.out.mono ?_); rintro e w' ⟨rfl, rfl⟩)
      | (go_at_call 35; (with_reducible refine HN.out.mono ?_); rintro e w' ⟨rfl, rfl⟩))
    go_ret
    exact ⟨rfl, Below.refl _ _⟩
  · rw [if_neg hv] at hR
    subst hR
    have hv2 : decide (0 ≤ v) = false := by simpa using hv
    by_cases hp : 0 < x
    · obtain ⟨k, rfl⟩ := Int.eq_ofNat_of_zero_le (by omega : 0 ≤ x)
      have hab : ((k : Int).natAbs : Int) = (k : Int) := by omega
      rw [hab] at HL
      have hm : max (k : Int) (-(k : Int)) = (k : Int) := by omega
      clear hab
      go_enter Try.func61, Try.ntmps61
      go_wp2_with (first
        | (go_at_call 15; (with_reducible refine HV.out.mono ?_); rintro e w' ⟨rfl, rfl⟩)
        | (go_at_call 68; (with_reducible refine HL.out.mono ?_); rintro e w' ⟨rfl, hb⟩))
      go_ret
      exact ⟨rfl, hb⟩
    · obtain ⟨k, rfl⟩ : ∃ k : Nat, x = -(k : Int) := ⟨x.natAbs, by omega⟩
      have hab : ((-(k : Int)).natAbs : Int) = (k : Int) := by omega
      rw [hab] at HL
      have hm : max (-(k : Int)) (k : Int) = (k : Int) := by omega
      clear hab
      go_enter Try.func61, Try.ntmps61
      go_wp2_with (first
        | (go_at_call 15; (with_reducible refine HV.out.mono ?_); rintro e w' ⟨rfl, rfl⟩)
        | (go_at_call 68; (with_reducible refine HL.out.mono ?_); rintro e w' ⟨rfl, hb⟩))
      go_ret
      exact ⟨rfl, hb⟩
end

theorem wnew_any (n : Nat) (w : World) (hn : n ≤ 5000) :
    Calls Try.prog 10 #[.int .i64 n] w fun e w' => ∃ M, e = .returned (.tuple #[.pointer (some ⟨M.x, 0, none⟩), .int .i64 0]) ∧ WAt w' M (newS n) ∧ Below w.heap.size w w' ∧ ∀ k, M.all (newS n) k → w.heap.size ≤ k := by
  have HN := Lib.hid (new_any n w hn)
  have hmm := @run_makeMap Try.prog
  go_enter Try.func10, Try.ntmps10
  go_wp2_with (go_at_call 37; refine HN.out.mono ?_; rintro e w1 ⟨g, rfl, hb1, F, hT, hF⟩)
  go_ret2
  have b2 : Below w1.heap.size w1 ((w1.alloc (.map #[] 0)).alloc (.cells #[.pointer (some ⟨g, 0, none⟩), .slice none 0 0, .slice none 0 0, .map (some w1.heap.size), .int .i64 0, .slice none 0 0] 65)) := ((Below.refl _ _).alloc (Nat.le_refl _) _).alloc (by simp) _
  have hs := hb1.size
  refine ⟨⟨w1.heap.size + 1, g, F, nilV, nilV, w1.heap.size, 0, fun _ => nilV, nilV, fun _ => nilV, fun _ => nilV⟩, rfl, ⟨fun t => ?_, fun t k hk => ?_, fun t t' k h1 h2 => ?_⟩, bel_new hb1 hb1.size b2, fun k ⟨t, hk⟩ => ?_⟩
  · cases t with
    | self =>
      have := Blk.new (w1.alloc (.map #[] 0)) 65 #[.pointer (some ⟨g, 0, none⟩), .slice none 0 0, .slice none 0 0, .map (some w1.heap.size), .int .i64 0, .slice none 0 0]
      rw [show (w1.alloc (.map #[] 0)).heap.size = w1.heap.size + 1 by simp] at this
      exact this
    | trail => exact hT.below b2
    | map => exact (MapV.made w1).keep (Below.heap_alloc _ _ _ (by simp))
    | cls => exact Own.nil _ _ _
    | lits => exact Own.nil _ _ _
    | fresh => exact Own.nil _ _ _
    | cl i => exact fun hi => absurd hi (by simp [newS])
    | li i => exact fun hi => absurd hi (by simp [newS])
    | by_ x => exact Own.nil _ _ _
  · cases t with
    | self => cases hk; simp
    | map => cases hk; simp; omega
    | trail => have := hT.lt k hk; simp; omega
    | cl i => simp [WM.own, newS] at hk
    | li i => simp [WM.own, newS] at hk
    | _ => simp [WM.own, nilV, Value.ownBlock] at hk
  · have hlt := hT.lt k
    cases t <;> cases t' <;> simp [WM.own, nilV, newS, Value.ownBlock] at h1 h2 ⊢
    · omega
    · have := hlt h2; omega
    · omega
    · have := hlt h2; omega
    · have := hlt h1; omega
    · have := hlt h1; omega
  · cases t with
    | self => cases hk; show w.heap.size ≤ w1.heap.size + 1; omega
    | map => cases hk; show w.heap.size ≤ w1.heap.size; omega
    | trail => exact hF k hk
    | cl i => simp [WM.own, newS] at hk
    | li i => simp [WM.own, newS] at hk
    | _ => simp [WM.own, nilV, Value.ownBlock] at hk

theorem wnew_bad (n : Int) (w : World) (hn : n < 0 ∨ 2097152 < n) :
    Calls Try.prog 10 #[.int .i64 n] w fun e w' => e = .returned (.tuple #[.pointer none, .int .i64 1]) ∧ w = w' := by
  have HN := Lib.hid (new_bad n w hn)
  go_enter Try.func10, Try.ntmps10
  go_wp2_with (go_at_call 37; refine HN.out.mono ?_; rintro e w1 ⟨rfl, rfl⟩)
  go_ret2
  exact ⟨rfl, rfl⟩

end Go.Proofs.Ytnachllhjojlcaa
