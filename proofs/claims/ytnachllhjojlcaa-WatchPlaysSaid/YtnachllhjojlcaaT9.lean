/- Contracts of package trail: slices.Clone, Copy. -/
import Derived.Test.YtnachllhjojlcaaT8
import Derived.Deep.RegionHeld3
namespace Go.Proofs.Ytnachllhjojlcaa
open Go.ChangeShapes Go.WideShapes Go.ChangeAt Go.RowKit
set_option maxRecDepth 100000

theorem kn_one (l : List Kn) : ∀ u ∈ knC l, u.oneCell' = true := by
  intro u hu
  obtain ⟨k, _, h⟩ := List.mem_flatMap.1 hu
  simp only [Kn.cells, List.mem_cons, List.not_mem_nil, or_false] at h
  rcases h with rfl | rfl | rfl <;> rfl

theorem cloneK_any (v : Value) (l : List Kn) (w : World) (hO : Own w 82 3 v l.length (knC l)) (hn : l.length ≤ 5000) :
    Calls Try.prog 65 #[v] w fun e w' => ∃ v', e = .returned v' ∧ Own w' 82 3 v' l.length (knC l) ∧ Below w.heap.size w w' ∧ ∀ k, v'.ownBlock = some k → w.heap.size ≤ k := by
  obtain ⟨i, hi, hz0, hz1, hz2⟩ := info_parts (P := Try.prog) (e := 82) (z := .agg #[.int .i64 0, .int .i64 0, .int .i64 0]) (size := 3) (bytes := 24) (by kernel_rfl)
  obtain ⟨ao, cap, rfl, hc, hm, hf⟩ := hO.form
  cases ao with
  | none =>
    have h0 : l.length = 0 := by
      rcases Nat.eq_zero_or_pos l.length with h | h
      · exact h
      · obtain ⟨_, _, e, _⟩ := hf h
        cases e
    have hcap : cap = 0 := by
      rcases hO.2 with ⟨e, _⟩ | ⟨_, _, _, _, e, _⟩
      · injection e
      · injection e with e
        cases e
    subst hcap
    obtain rfl : l = [] := List.eq_nil_of_length_eq_zero h0
    have hbo : ∀ W, Sem.run Try.prog (binOp BinOp.eql 77 (Value.slice none 0 0) (Value.slice none 0 0)) W = .ok (.bool true) W := fun W => by kernel_rfl
    go_enter Try.func65, Try.ntmps65
    go_wp2_with fail
    go_ret
    exact ⟨_, rfl, hO, Below.refl _ _, fun k hk => by simp [Value.ownBlock] at hk⟩
  | some ad =>
    have hE : Own (w.alloc (.cells #[] 82)) 82 3 (.slice (some ⟨w.heap.size, 0, none⟩) 0 0) 0 [] := Own.made w 82 3 #[] 0 rfl (by decide)
    have hS := (hO.alloc (.cells #[] 82)).src (P := Try.prog) (tx := 77) Try.underlying77 (kn_one l)
    have HO := Lib.hid hO
    have hbo : ∀ (n : Nat) W, Sem.run Try.prog (binOp BinOp.eql 77 (Value.slice (some ad) n cap) (Value.slice none 0 0)) W = .ok (.bool false) W := fun n W => by kernel_rfl
    clear hf hO
    go_enter Try.func65, Try.ntmps65
    go_wp2_with (at_builtin; go_loud (refine wpList_append_S _ rfl (.tmp 5) (.tmp 6) _ _ rfl 82 i _ 3 24 Try.underlying77 hi hz0 hz1 hz2 rfl (by omega) (.slice (some ⟨w.heap.size, 0, none⟩) 0 0) 0 [] rfl hE (by simp) _ l.length _ rfl hS (by simp only [maxLen]; omega) (by omega) ?_); intro ao2 cap2 w1 hn1 hm1 hown1 hg1 hat1 hlt1)
    go_ret
    have hb : Below w.heap.size w w1 := ((Below.refl w.heap.size w).alloc (Nat.le_refl _) _).trans ⟨hg1.os, hg1.tape, hg1.output, Nat.le_trans (by simp) hg1.size, fun k hk => hg1.block k (by simp; omega) (by simp [Value.ownBlock]; omega)⟩
    refine ⟨.slice ao2 l.length cap2, rfl, ?_, hb, fun k hk => ?_⟩
    · simpa using hown1
    · rcases hat1 with h | h
      · rw [Nat.zero_add] at h
        rw [h] at hk
        simp [Value.ownBlock] at hk
        omega
      · rw [Nat.zero_add] at h
        rw [h] at hk
        injection hk with hk
        simp at hk
        omega

theorem cloneI_any (v : Value) (l : List Int) (w : World) (hO : Own w 3 1 v l.length (inC l)) (hn : l.length ≤ 5000) :
    Calls Try.prog 41 #[v] w fun e w' => ∃ v', e = .returned v' ∧ Own w' 3 1 v' l.length (inC l) ∧ Below w.heap.size w w' ∧ ∀ k, v'.ownBlock = some k → w.heap.size ≤ k := by
  obtain ⟨i, hi, hz0, hz1, hz2⟩ := info_parts (P := Try.prog) (e := 3) (z := .int .i64 0) (size := 1) (bytes := 8) (by kernel_rfl)
  obtain ⟨ao, cap, rfl, hc, hm, hf⟩ := hO.form
  cases ao with
  | none =>
    have h0 : l.length = 0 := by
      rcases Nat.eq_zero_or_pos l.length with h | h
      · exact h
      · obtain ⟨_, _, e, _⟩ := hf h
        cases e
    have hcap : cap = 0 := by
      rcases hO.2 with ⟨e, _⟩ | ⟨_, _, _, _, e, _⟩
      · injection e
      · injection e with e
        cases e
    subst hcap
    obtain rfl : l = [] := List.eq_nil_of_length_eq_zero h0
    have hbo : ∀ W, Sem.run Try.prog (binOp BinOp.eql 23 (Value.slice none 0 0) (Value.slice none 0 0)) W = .ok (.bool true) W := fun W => by kernel_rfl
    go_enter Try.func41, Try.ntmps41
    go_wp2_with fail
    go_ret
    exact ⟨_, rfl, hO, Below.refl _ _, fun k hk => by simp [Value.ownBlock] at hk⟩
  | some ad =>
    have hE : Own (w.alloc (.cells #[] 3)) 3 1 (.slice (some ⟨w.heap.size, 0, none⟩) 0 0) 0 [] := Own.made w 3 1 #[] 0 rfl (by decide)
    have hS := (hO.alloc (.cells #[] 3)).src (P := Try.prog) (tx := 23) Try.underlying23 (in_one l)
    have HO := Lib.hid hO
    have hbo : ∀ (n : Nat) W, Sem.run Try.prog (binOp BinOp.eql 23 (Value.slice (some ad) n cap) (Value.slice none 0 0)) W = .ok (.bool false) W := fun n W => by kernel_rfl
    clear hf hO
    go_enter Try.func41, Try.ntmps41
    go_wp2_with (at_builtin; go_loud (refine wpList_append_S _ rfl (.tmp 5) (.tmp 6) _ _ rfl 3 i _ 1 8 Try.underlying23 hi hz0 hz1 hz2 rfl (by omega) (.slice (some ⟨w.heap.size, 0, none⟩) 0 0) 0 [] rfl hE (by simp) _ l.length _ rfl hS (by simp only [maxLen]; omega) (by omega) ?_); intro ao2 cap2 w1 hn1 hm1 hown1 hg1 hat1 hlt1)
    go_ret
    have hb : Below w.heap.size w w1 := ((Below.refl w.heap.size w).alloc (Nat.le_refl _) _).trans ⟨hg1.os, hg1.tape, hg1.output, Nat.le_trans (by simp) hg1.size, fun k hk => hg1.block k (by simp; omega) (by simp [Value.ownBlock]; omega)⟩
    refine ⟨.slice ao2 l.length cap2, rfl, ?_, hb, fun k hk => ?_⟩
    · simpa using hown1
    · rcases hat1 with h | h
      · rw [Nat.zero_add] at h
        rw [h] at hk
        simp [Value.ownBlock] at hk
        omega
      · rw [Nat.zero_add] at h
        rw [h] at hk
        injection hk with hk
        simp at hk
        omega

/-- What Copy makes: the same data, in new blocks. -/
theorem copy_any (F : Nat → Prop) (g : Nat) (T : TrD) (w : World) (hT : TrA w F g T) (hn : T.vars.length ≤ 5000) (hl : T.lits.length ≤ 5000) (hb : T.begins.length ≤ 5000) :
    Calls Try.prog 52 #[.pointer (some ⟨g, 0, none⟩)] w fun e w' => ∃ g', e = .returned (.pointer (some ⟨g', 0, none⟩)) ∧ Below w.heap.size w w' ∧ ∃ F', TrA w' F' g' T ∧ ∀ k, F' k → w.heap.size ≤ k := by
  obtain ⟨a, b, c, k1, k2, k3, k4, k5, k6, k7⟩ := hT
  obtain ⟨aoA, capA, rfl, _, _, _⟩ := k1.vars.form
  obtain ⟨aoB, capB, rfl, _, _, _⟩ := k1.lits.form
  obtain ⟨aoC, capC, rfl, _, _, _⟩ := k1.begins.form
  have hc0 := k1.blk.cell 0
  have hc1 := k1.blk.cell 1
  have hc2 := k1.blk.cell 2
  simp at hc0 hc1 hc2
  have hS : ∀ w', Below w.heap.size w w' → w'.cell? ⟨g, 0, none⟩ = some (.slice aoA T.vars.length capA) ∧ w'.cell? ⟨g, 1, none⟩ = some (.slice aoB T.lits.length capB) ∧ w'.cell? ⟨g, 2, none⟩ = some (.slice aoC T.begins.length capC) := fun w' h => by
    have hB := k1.blk.below h k1.blk.lt
    exact ⟨hB.cell 0, hB.cell 1, hB.cell 2⟩
  have HS := Lib.hid hS
  have HA : Hid (∀ w', Below w.heap.size w w' → Calls Try.prog 65 #[.slice aoA T.vars.length capA] w' fun e w2 => ∃ ao cap, e = .returned (.slice ao T.vars.length cap) ∧ Own w2 82 3 (.slice ao T.vars.length cap) T.vars.length (knC T.vars) ∧ Below w.heap.size w w2 ∧ ∀ k, (Value.slice ao T.vars.length cap).ownBlock = some k → w.heap.size ≤ k ∧ k < w2.heap.size) := Lib.hid fun w' h =>
    (cloneK_any _ _ w' (k1.vars.new h) hn).mono fun e w2 ⟨v, h1, h2, h3, h4⟩ => by
    obtain ⟨ao, cap, rfl, _, _, _⟩ := h2.form
    exact ⟨ao, cap, h1, h2, bel_new h h.size h3, fun k hk => ⟨Nat.le_trans h.size (h4 k hk), h2.lt k hk⟩⟩
  have HB : Hid (∀ w', Below w.heap.size w w' → Calls Try.prog 41 #[.slice aoB T.lits.length capB] w' fun e w2 => ∃ ao cap, e = .returned (.slice ao T.lits.length cap) ∧ Own w2 3 1 (.slice ao T.lits.length cap) T.lits.length (inC T.lits) ∧ Below w'.heap.size w' w2 ∧ Below w.heap.size w w2 ∧ ∀ k, (Value.slice ao T.lits.length cap).ownBlock = some k → w'.heap.size ≤ k ∧ k < w2.heap.size) := Lib.hid fun w' h =>
    (cloneI_any _ _ w' (k1.lits.new h) hl).mono fun e w2 ⟨v, h1, h2, h3, h4⟩ => by
    obtain ⟨ao, cap, rfl, _, _, _⟩ := h2.form
    exact ⟨ao, cap, h1, h2, h3, bel_new h h.size h3, fun k hk => ⟨h4 k hk, h2.lt k hk⟩⟩
  have HC : Hid (∀ w', Below w.heap.size w w' → Calls Try.prog 41 #[.slice aoC T.begins.length capC] w' fun e w2 => ∃ ao cap, e = .returned (.slice ao T.begins.length cap) ∧ Own w2 3 1 (.slice ao T.begins.length cap) T.begins.length (inC T.begins) ∧ Below w'.heap.size w' w2 ∧ Below w.heap.size w w2 ∧ ∀ k, (Value.slice ao T.begins.length cap).ownBlock = some k → w'.heap.size ≤ k ∧ k < w2.heap.size) := Lib.hid fun w' h =>
    (cloneI_any _ _ w' (k1.begins.new h) hb).mono fun e w2 ⟨v, h1, h2, h3, h4⟩ => by
    obtain ⟨ao, cap, rfl, _, _, _⟩ := h2.form
    exact ⟨ao, cap, h1, h2, h3, bel_new h h.size h3, fun k hk => ⟨h4 k hk, h2.lt k hk⟩⟩
  have hb0 : Below w.heap.size w w.drew := bel_drewN (Below.refl _ _) 1
  have K1 := Lib.hid k1
  have K7 := Lib.hid k7
  clear hS k1 k7
  go_enter Try.func52, Try.ntmps52
  go_wp2_with fail
  go_region_held3 (fun w' => w'.cell? ⟨g, 0, none⟩ = some (.slice aoA T.vars.length capA) ∧ w'.cell? ⟨g, 1, none⟩ = some (.slice aoB T.lits.length capB) ∧ w'.cell? ⟨g, 2, none⟩ = some (.slice aoC T.begins.length capC)) (first | exact HS.out _ (by assumption) | exact HS.out _ (Below.alloc (by assumption) (Below.size (by assumption)) _)) ((first | (go_at_call 65; refine (HA.out _ (by assumption)).mono ?_; rintro e w1 ⟨ao1, cap1, rfl, ho1, hb1, hv1⟩) | (go_at_call 41; (with_reducible refine (HB.out _ (by assumption)).mono ?_); rintro e w2 ⟨ao2, cap2, rfl, ho2, hx2, hb2, hv2⟩) | (go_at_call 41; (with_reducible refine (HC.out _ (by assumption)).mono ?_); rintro e w3 ⟨ao3, cap3, rfl, ho3, hx3, hb3, hv3⟩)))
  go_wp2_with fail
  go_ret
  have hB3 : Blk (w3.alloc (.cells #[.slice ao1 T.vars.length cap1, .slice ao2 T.lits.length cap2, .slice ao3 T.begins.length cap3] 79)) w3.heap.size 79 #[.slice ao1 T.vars.length cap1, .slice ao2 T.lits.length cap2, .slice ao3 T.begins.length cap3] := Blk.new w3 _ _
  refine ⟨w3.heap.size, rfl, hb3.alloc hb3.size _, fun k => k = w3.heap.size ∨ (Value.slice ao1 T.vars.length cap1).ownBlock = some k ∨ (Value.slice ao2 T.lits.length cap2).ownBlock = some k ∨ (Value.slice ao3 T.begins.length cap3).ownBlock = some k, ⟨_, _, _, ⟨hB3, ?_, ?_, ?_⟩, .inl rfl, fun k hk => .inr (.inl hk), fun k hk => .inr (.inr (.inl hk)), fun k hk => .inr (.inr (.inr hk)), ?_, ?_⟩, ?_⟩
  · exact ((ho1.below hx2 fun k hk => (hv1 k hk).2).below hx3 fun k hk => Nat.lt_of_lt_of_le (hv1 k hk).2 hx2.size).alloc _
  · exact (ho2.below hx3 fun k hk => (hv2 k hk).2).alloc _
  · exact ho3.alloc _
  · cases hk : (Value.slice ao2 T.lits.length cap2).ownBlock with
    | none => exact .inl rfl
    | some k =>
      refine .inr fun e => ?_
      have h1 := (hv2 k hk).2
      have h2 := (hv3 k e.symm).1
      omega
  · rintro k (rfl | hk | hk | hk)
    · simp
    · have := (hv1 k hk).2; have := hx2.size; have := hx3.size; simp; omega
    · have := (hv2 k hk).2; have := hx3.size; simp; omega
    · have := (hv3 k hk).2; simp; omega
  · rintro k (rfl | hk | hk | hk)
    · exact hb3.size
    · exact (hv1 k hk).1
    · exact Nat.le_trans hb1.size (hv2 k hk).1
    · exact Nat.le_trans hb2.size (hv3 k hk).1

end Go.Proofs.Ytnachllhjojlcaa
