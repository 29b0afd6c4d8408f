/- Contracts of package trail: slices.Clone, Copy. -/
import Derived.Test.YthinopiobihmaaaGb
import Derived.Deep.RegionHeld3
import Derived.Laws.CopyRow
namespace Go.Proofs.Ythinopiobihmaaa
open Go.ChangeShapes Go.WideShapes Go.ChangeAt Go.RowKit
set_option maxRecDepth 100000

theorem kn_one (l : List Kn) : ∀ u ∈ knC l, u.oneCell' = true := by
  intro u hu
  obtain ⟨k, _, h⟩ := List.mem_flatMap.1 hu
  simp only [Kn.cells, List.mem_cons, List.not_mem_nil, or_false] at h
  rcases h with rfl | rfl | rfl <;> rfl

theorem cloneK_any (v : Value) (l : List Kn) (w : World) (hO : Own w 98 3 v l.length (knC l)) (hn : l.length ≤ 5000) :
    Calls Try.prog 68 #[v] w fun e w' => ∃ v', e = .returned v' ∧ Own w' 98 3 v' l.length (knC l) ∧ Below w.heap.size w w' ∧ ∀ k, v'.ownBlock = some k → w.heap.size ≤ k := by
  obtain ⟨i, hi, hz0, hz1, hz2⟩ := info_parts (P := Try.prog) (e := 98) (z := .agg #[.int .i64 0, .int .i64 0, .int .i64 0]) (size := 3) (bytes := 24) (by kernel_rfl)
  obtain ⟨ao, cap, rfl, hc, hm, hf⟩ := hO.form
  cases ao with
  | none =>
    have h0 : l.length = 0 := by
      rcases Nat.eq_zero_or_pos l.length with h | h
      · exact h
      · obtain ⟨_, _, e, _⟩ := hf h
        cases e
    have hcap : cap = 0 := by
      rcases hO.2 with ⟨e, _⟩ | ⟨_, _, _, _, e, _⟩
      · injection e
      · injection e with e
        cases e
    subst hcap
    obtain rfl : l = [] := List.eq_nil_of_length_eq_zero h0
    have hbo : ∀ W, Sem.run Try.prog (binOp BinOp.eql 95 (Value.slice none 0 0) (Value.slice none 0 0)) W = .ok (.bool true) W := fun W => by kernel_rfl
    go_enter Try.func68, Try.ntmps68
    go_wp2_with fail
    go_ret
    exact ⟨_, rfl, hO, Below.refl _ _, fun k hk => by simp [Value.ownBlock] at hk⟩
  | some ad =>
    have hE : Own (w.alloc (.cells #[] 98)) 98 3 (.slice (some ⟨w.heap.size, 0, none⟩) 0 0) 0 [] := Own.made w 98 3 #[] 0 rfl (by decide)
    have hS := (hO.alloc (.cells #[] 98)).src (P := Try.prog) (tx := 95) Try.underlying95 (kn_one l)
    have HO := Lib.hid hO
    have hbo : ∀ (n : Nat) W, Sem.run Try.prog (binOp BinOp.eql 95 (Value.slice (some ad) n cap) (Value.slice none 0 0)) W = .ok (.bool false) W := fun n W => by kernel_rfl
    clear hf hO
    go_enter Try.func68, Try.ntmps68
    go_wp2_with (at_builtin; go_loud (refine wpList_append_S _ rfl (.tmp 5) (.tmp 6) _ _ rfl 98 i _ 3 24 Try.underlying95 hi hz0 hz1 hz2 rfl (by omega) (.slice (some ⟨w.heap.size, 0, none⟩) 0 0) 0 [] rfl hE (by simp) _ l.length _ rfl hS (by simp only [maxLen]; omega) (by omega) ?_); intro ao2 cap2 w1 hn1 hm1 hown1 hg1 hat1 hlt1)
    go_ret
    have hb : Below w.heap.size w w1 := ((Below.refl w.heap.size w).alloc (Nat.le_refl _) _).trans ⟨hg1.os, hg1.tape, hg1.output, Nat.le_trans (by simp) hg1.size, fun k hk => hg1.block k (by simp; omega) (by simp [Value.ownBlock]; omega)⟩
    refine ⟨.slice ao2 l.length cap2, rfl, ?_, hb, fun k hk => ?_⟩
    · simpa using hown1
    · rcases hat1 with h | h
      · rw [Nat.zero_add] at h
        rw [h] at hk
        simp [Value.ownBlock] at hk
        omega
      · rw [Nat.zero_add] at h
        rw [h] at hk
        injection hk with hk
        simp at hk
        omega

theorem cloneI_any (v : Value) (l : List Int) (w : World) (hO : Own w 3 1 v l.length (inC l)) (hn : l.length ≤ 5000) :
    Calls Try.prog 60 #[v] w fun e w' => ∃ v', e = .returned v' ∧ Own w' 3 1 v' l.length (inC l) ∧ Below w.heap.size w w' ∧ ∀ k, v'.ownBlock = some k → w.heap.size ≤ k := by
  obtain ⟨i, hi, hz0, hz1, hz2⟩ := info_parts (P := Try.prog) (e := 3) (z := .int .i64 0) (size := 1) (bytes := 8) (by kernel_rfl)
  obtain ⟨ao, cap, rfl, hc, hm, hf⟩ := hO.form
  cases ao with
  | none =>
    have h0 : l.length = 0 := by
      rcases Nat.eq_zero_or_pos l.length with h | h
      · exact h
      · obtain ⟨_, _, e, _⟩ := hf h
        cases e
    have hcap : cap = 0 := by
      rcases hO.2 with ⟨e, _⟩ | ⟨_, _, _, _, e, _⟩
      · injection e
      · injection e with e
        cases e
    subst hcap
    obtain rfl : l = [] := List.eq_nil_of_length_eq_zero h0
    have hbo : ∀ W, Sem.run Try.prog (binOp BinOp.eql 26 (Value.slice none 0 0) (Value.slice none 0 0)) W = .ok (.bool true) W := fun W => by kernel_rfl
    go_enter Try.func60, Try.ntmps60
    go_wp2_with fail
    go_ret
    exact ⟨_, rfl, hO, Below.refl _ _, fun k hk => by simp [Value.ownBlock] at hk⟩
  | some ad =>
    have hE : Own (w.alloc (.cells #[] 3)) 3 1 (.slice (some ⟨w.heap.size, 0, none⟩) 0 0) 0 [] := Own.made w 3 1 #[] 0 rfl (by decide)
    have hS := (hO.alloc (.cells #[] 3)).src (P := Try.prog) (tx := 26) Try.underlying26 (in_one l)
    have HO := Lib.hid hO
    have hbo : ∀ (n : Nat) W, Sem.run Try.prog (binOp BinOp.eql 26 (Value.slice (some ad) n cap) (Value.slice none 0 0)) W = .ok (.bool false) W := fun n W => by kernel_rfl
    clear hf hO
    go_enter Try.func60, Try.ntmps60
    go_wp2_with (at_builtin; go_loud (refine wpList_append_S _ rfl (.tmp 5) (.tmp 6) _ _ rfl 3 i _ 1 8 Try.underlying26 hi hz0 hz1 hz2 rfl (by omega) (.slice (some ⟨w.heap.size, 0, none⟩) 0 0) 0 [] rfl hE (by simp) _ l.length _ rfl hS (by simp only [maxLen]; omega) (by omega) ?_); intro ao2 cap2 w1 hn1 hm1 hown1 hg1 hat1 hlt1)
    go_ret
    have hb : Below w.heap.size w w1 := ((Below.refl w.heap.size w).alloc (Nat.le_refl _) _).trans ⟨hg1.os, hg1.tape, hg1.output, Nat.le_trans (by simp) hg1.size, fun k hk => hg1.block k (by simp; omega) (by simp [Value.ownBlock]; omega)⟩
    refine ⟨.slice ao2 l.length cap2, rfl, ?_, hb, fun k hk => ?_⟩
    · simpa using hown1
    · rcases hat1 with h | h
      · rw [Nat.zero_add] at h
        rw [h] at hk
        simp [Value.ownBlock] at hk
        omega
      · rw [Nat.zero_add] at h
        rw [h] at hk
        injection hk with hk
        simp at hk
        omega

/-- What Copy makes: the same data, in new blocks. -/
theorem copy_any (F : Nat → Prop) (g : Nat) (T : TrD) (w : World) (hT : TrA w F g T) (hn : T.vars.length ≤ 5000) (hl : T.lits.length ≤ 5000) (hb : T.begins.length ≤ 5000) :
    Calls Try.prog 49 #[.pointer (some ⟨g, 0, none⟩)] w fun e w' => ∃ g', e = .returned (.pointer (some ⟨g', 0, none⟩)) ∧ Below w.heap.size w w' ∧ ∃ F', TrA w' F' g' T ∧ ∀ k, F' k → w.heap.size ≤ k := by
  obtain ⟨a, b, c, k1, k2, k3, k4, k5, k6, k7⟩ := hT
  obtain ⟨aoA, capA, rfl, _, _, _⟩ := k1.vars.form
  obtain ⟨aoB, capB, rfl, _, _, _⟩ := k1.lits.form
  obtain ⟨aoC, capC, rfl, _, _, _⟩ := k1.begins.form
  have hc0 := k1.blk.cell 0
  have hc1 := k1.blk.cell 1
  have hc2 := k1.blk.cell 2
  simp at hc0 hc1 hc2
  have hS : ∀ w', Below w.heap.size w w' → w'.cell? ⟨g, 0, none⟩ = some (.slice aoA T.vars.length capA) ∧ w'.cell? ⟨g, 1, none⟩ = some (.slice aoB T.lits.length capB) ∧ w'.cell? ⟨g, 2, none⟩ = some (.slice aoC T.begins.length capC) := fun w' h => by
    have hB := k1.blk.below h k1.blk.lt
    exact ⟨hB.cell 0, hB.cell 1, hB.cell 2⟩
  have HS := Lib.hid hS
  have HA : Hid (∀ w', Below w.heap.size w w' → Calls Try.prog 68 #[.slice aoA T.vars.length capA] w' fun e w2 => ∃ ao cap, e = .returned (.slice ao T.vars.length cap) ∧ Own w2 98 3 (.slice ao T.vars.length cap) T.vars.length (knC T.vars) ∧ Below w.heap.size w w2 ∧ ∀ k, (Value.slice ao T.vars.length cap).ownBlock = some k → w.heap.size ≤ k ∧ k < w2.heap.size) := Lib.hid fun w' h =>
    (cloneK_any _ _ w' (k1.vars.new h) hn).mono fun e w2 ⟨v, h1, h2, h3, h4⟩ => by
    obtain ⟨ao, cap, rfl, _, _, _⟩ := h2.form
    exact ⟨ao, cap, h1, h2, bel_new h h.size h3, fun k hk => ⟨Nat.le_trans h.size (h4 k hk), h2.lt k hk⟩⟩
  have HB : Hid (∀ w', Below w.heap.size w w' → Calls Try.prog 60 #[.slice aoB T.lits.length capB] w' fun e w2 => ∃ ao cap, e = .returned (.slice ao T.lits.length cap) ∧ Own w2 3 1 (.slice ao T.lits.length cap) T.lits.length (inC T.lits) ∧ Below w'.heap.size w' w2 ∧ Below w.heap.size w w2 ∧ ∀ k, (Value.slice ao T.lits.length cap).ownBlock = some k → w'.heap.size ≤ k ∧ k < w2.heap.size) := Lib.hid fun w' h =>
    (cloneI_any _ _ w' (k1.lits.new h) hl).mono fun e w2 ⟨v, h1, h2, h3, h4⟩ => by
    obtain ⟨ao, cap, rfl, _, _, _⟩ := h2.form
    exact ⟨ao, cap, h1, h2, h3, bel_new h h.size h3, fun k hk => ⟨h4 k hk, h2.lt k hk⟩⟩
  have HC : Hid (∀ w', Below w.heap.size w w' → Calls Try.prog 60 #[.slice aoC T.begins.length capC] w' fun e w2 => ∃ ao cap, e = .returned (.slice ao T.begins.length cap) ∧ Own w2 3 1 (.slice ao T.begins.length cap) T.begins.length (inC T.begins) ∧ Below w'.heap.size w' w2 ∧ Below w.heap.size w w2 ∧ ∀ k, (Value.slice ao T.begins.length cap).ownBlock = some k → w'.heap.size ≤ k ∧ k < w2.heap.size) := Lib.hid fun w' h =>
    (cloneI_any _ _ w' (k1.begins.new h) hb).mono fun e w2 ⟨v, h1, h2, h3, h4⟩ => by
    obtain ⟨ao, cap, rfl, _, _, _⟩ := h2.form
    exact ⟨ao, cap, h1, h2, h3, bel_new h h.size h3, fun k hk => ⟨h4 k hk, h2.lt k hk⟩⟩
  have hb0 : Below w.heap.size w w.drew := bel_drewN (Below.refl _ _) 1
  have K1 := Lib.hid k1
  have K7 := Lib.hid k7
  clear hS k1 k7
  go_enter Try.func49, Try.ntmps49
  go_wp2_with fail
  go_region_held3 (fun w' => w'.cell? ⟨g, 0, none⟩ = some (.slice aoA T.vars.length capA) ∧ w'.cell? ⟨g, 1, none⟩ = some (.slice aoB T.lits.length capB) ∧ w'.cell? ⟨g, 2, none⟩ = some (.slice aoC T.begins.length capC)) (first | exact HS.out _ (by assumption) | exact HS.out _ (Below.alloc (by assumption) (Below.size (by assumption)) _)) ((first | (go_at_call 68; refine (HA.out _ (by assumption)).mono ?_; rintro e w1 ⟨ao1, cap1, rfl, ho1, hb1, hv1⟩) | (go_at_call 60; (with_reducible refine (HB.out _ (by assumption)).mono ?_); rintro e w2 ⟨ao2, cap2, rfl, ho2, hx2, hb2, hv2⟩) | (go_at_call 60; (with_reducible refine (HC.out _ (by assumption)).mono ?_); rintro e w3 ⟨ao3, cap3, rfl, ho3, hx3, hb3, hv3⟩)))
  go_wp2_with fail
  go_ret
  have hB3 : Blk (w3.alloc (.cells #[.slice ao1 T.vars.length cap1, .slice ao2 T.lits.length cap2, .slice ao3 T.begins.length cap3] 100)) w3.heap.size 100 #[.slice ao1 T.vars.length cap1, .slice ao2 T.lits.length cap2, .slice ao3 T.begins.length cap3] := Blk.new w3 _ _
  refine ⟨w3.heap.size, rfl, hb3.alloc hb3.size _, fun k => k = w3.heap.size ∨ (Value.slice ao1 T.vars.length cap1).ownBlock = some k ∨ (Value.slice ao2 T.lits.length cap2).ownBlock = some k ∨ (Value.slice ao3 T.begins.length cap3).ownBlock = some k, ⟨_, _, _, ⟨hB3, ?_, ?_, ?_⟩, .inl rfl, fun k hk => .inr (.inl hk), fun k hk => .inr (.inr (.inl hk)), fun k hk => .inr (.inr (.inr hk)), ?_, ?_⟩, ?_⟩
  · exact ((ho1.below hx2 fun k hk => (hv1 k hk).2).below hx3 fun k hk => Nat.lt_of_lt_of_le (hv1 k hk).2 hx2.size).alloc _
  · exact (ho2.below hx3 fun k hk => (hv2 k hk).2).alloc _
  · exact ho3.alloc _
  · cases hk : (Value.slice ao2 T.lits.length cap2).ownBlock with
    | none => exact .inl rfl
    | some k =>
      refine .inr fun e => ?_
      have h1 := (hv2 k hk).2
      have h2 := (hv3 k e.symm).1
      omega
  · rintro k (rfl | hk | hk | hk)
    · simp
    · have := (hv1 k hk).2; have := hx2.size; have := hx3.size; simp; omega
    · have := (hv2 k hk).2; have := hx3.size; simp; omega
    · have := (hv3 k hk).2; simp; omega
  · rintro k (rfl | hk | hk | hk)
    · exact hb3.size
    · exact (hv1 k hk).1
    · exact Nat.le_trans hb1.size (hv2 k hk).1
    · exact Nat.le_trans hb2.size (hv3 k hk).1

end Go.Proofs.Ythinopiobihmaaa

namespace Go.Proofs.Ythinopiobihmaaa
open Go.ChangeShapes Go.WideShapes Go.ChangeAt Go.RowKit
set_option maxRecDepth 100000

theorem mul64_one (n : Nat) (w : World) (hn : n ≤ 5000) :
    Calls Try.prog 81 #[.int .u64 1, .int .u64 n] w fun e w' => e = .returned (.tuple #[.int .u64 0, .int .u64 n]) ∧ w = w' := by
  have e1 : bits BinOp.and IntKind.u64 1 4294967295 = 1 := by decide +kernel
  have e2 : bits BinOp.and IntKind.u64 (n : Int) 4294967295 = n := by
    have h64 : (2 : Int) ^ 64 = 18446744073709551616 := rfl
    have h32 : (2 : Int) ^ 32 = 4294967296 := rfl
    have h := bits_mask .u64 64 (by decide) (fun m h0 h1 => by rw [IntKind.wrap_u64]; omega) 32 (by decide) n (by omega) (by omega)
    rw [h32] at h
    have h1 : (4294967296 : Int) - 1 = 4294967295 := rfl
    rw [h1] at h
    rw [h]
    omega
  have e3 : (n : Int) / 4294967296 = 0 := by omega
  have e4 : bits BinOp.and IntKind.u64 0 4294967295 = 0 := by decide +kernel
  have e5 : IntKind.u64.wrap (n : Int) = n := by rw [IntKind.wrap_u64]; omega
  go_enter Try.func81, Try.ntmps81
  go_wp2_with fail
  simp [bodyPost, results, Try.results81, go_sem]

theorem mul_one (n : Nat) (w : World) (hn : n ≤ 5000) :
    Calls Try.prog 72 #[.int .u64 1, .int .u64 n] w fun e w' => e = .returned (.tuple #[.int .u64 0, .int .u64 n]) ∧ w = w' := by
  have HM := Lib.hid (mul64_one n w hn)
  go_enter Try.func72, Try.ntmps72
  go_wp2_with (go_at_call 81; refine HM.out.mono ?_; rintro e w' ⟨rfl, rfl⟩)
  simp [bodyPost, results, Try.results72, go_sem]

end Go.Proofs.Ythinopiobihmaaa

namespace Go.Proofs.Ythinopiobihmaaa
open Go.ChangeShapes Go.WideShapes Go.ChangeAt Go.RowKit
set_option maxRecDepth 100000

section
variable {P : Program}

theorem run_copy_S (w : World) (dT sT ty e : TypeId) (i : TypeInfo) (hu : P.underlying dT = some (.slice e)) (hi : P.info? e = some i) (g o dLen dCap : Nat) (a : Addr) (sLen sCap : Nat) (cur : Array Value) (t : TypeId) (cs : List Value)
    (hg : Blk w g t cur) (hn : cs.length = Nat.min sLen dLen * i.size) (hsrc : ∀ j v, cs[j]? = some v → w.cell? (a.add j) = some v) (hfit : o + cs.length ≤ cur.size) (h1 : ∀ v ∈ cs, v.oneCell' = true) :
    (Builtin.copy_ #[dT, sT] ty #[.slice (some ⟨g, o, none⟩) dLen dCap, .slice (some a) sLen sCap]).run P w =
      .ok (goInt (Nat.min sLen dLen)) (w.setRow g (cur.toList.take o ++ cs ++ cur.toList.drop (o + cs.length)).toArray) := by
  have hl := run_loadCells_list (P := P) w a cs hsrc
  rw [hn] at hl
  have hst := run_storeCells_at P g o t cs 0 cur w hg (by simpa using hfit) h1
  simp [Builtin.copy_, run_underlying hu, Builtin.lenOf, Builtin.firstCells, sizeOf, typeInfo, hi, hl, hst]

theorem wp_copy_S {o : Oper} {a : Act} {w : World} {K : Act → World → Prop} {Q : Exit → Act → World → Prop} (d s : Operand) (dT sT : TypeId)
    (ho : o.op = .call { callee := .builtin .copy, args := #[d, s], argTypes := #[dT, sT] }) (e : TypeId) (i : TypeInfo) (hu : P.underlying dT = some (.slice e)) (hi : P.info? e = some i)
    (g off dLen dCap : Nat) (ad : Addr) (sLen sCap : Nat) (hd : a.eval d = .slice (some ⟨g, off, none⟩) dLen dCap) (hs : a.eval s = .slice (some ad) sLen sCap) (cur : Array Value) (t : TypeId) (cs : List Value)
    (hg : Blk w g t cur) (hn : cs.length = Nat.min sLen dLen * i.size) (hsrc : ∀ j v, cs[j]? = some v → w.cell? (ad.add j) = some v) (hfit : off + cs.length ≤ cur.size) (h1 : ∀ v ∈ cs, v.oneCell' = true)
    (h : ∀ w', Blk w' g t (cur.toList.take off ++ cs ++ cur.toList.drop (off + cs.length)).toArray → Touch (fun k => k = g) w w' → K (a.put o.dst (.int .i64 (Nat.min sLen dLen : Nat))) w') : o.wp P a w K Q := by
  have hrun := run_copy_S (P := P) w dT sT o.type e i hu hi g off dLen dCap ad sLen sCap cur t cs hg hn hsrc hfit h1
  unfold Oper.wp execOp
  simp only [ho, resolve, invoke, builtin, Sem.run_bind, Sem.run_pure, Result.andThen_ok, List.map_toArray, List.map_cons, List.map_nil, hd, hs, hrun]
  exact h _ (hg.row _) ((Touch.refl (fun k => k = g) w).setRow (fun _ => rfl) _)

theorem wpList_copy_S {ops : Array Oper} {rest : List Oper} {o : Oper} {a : Act} {w : World} {Q : Exit → Act → World → Prop} (hgd : o.guard = none) (d s : Operand) (dT sT : TypeId)
    (ho : o.op = .call { callee := .builtin .copy, args := #[d, s], argTypes := #[dT, sT] }) (e : TypeId) (i : TypeInfo) (hu : P.underlying dT = some (.slice e)) (hi : P.info? e = some i)
    (g off dLen dCap : Nat) (ad : Addr) (sLen sCap : Nat) (hd : a.eval d = .slice (some ⟨g, off, none⟩) dLen dCap) (hs : a.eval s = .slice (some ad) sLen sCap) (cur : Array Value) (t : TypeId) (cs : List Value)
    (hg : Blk w g t cur) (hn : cs.length = Nat.min sLen dLen * i.size) (hsrc : ∀ j v, cs[j]? = some v → w.cell? (ad.add j) = some v) (hfit : off + cs.length ≤ cur.size) (h1 : ∀ v ∈ cs, v.oneCell' = true)
    (h : ∀ w', Blk w' g t (cur.toList.take off ++ cs ++ cur.toList.drop (off + cs.length)).toArray → Touch (fun k => k = g) w w' → wpList P ops Q rest (a.put o.dst (.int .i64 (Nat.min sLen dLen : Nat))) w') : wpList P ops Q (o :: rest) a w :=
  wpList_plain hgd fun _ hK => wp_copy_S d s dT sT ho e i hu hi g off dLen dCap ad sLen sCap hd hs cur t cs hg hn hsrc hfit h1 fun w' h2 h3 => hK _ _ (h w' h2 h3)

theorem step_copy_S {ops : Array Oper} {o : Oper} {a : Act} {w : World} {K : Act → World → Prop} {Q : Exit → Act → World → Prop} {E : Prop} (hgd : o.guard = none) (d s : Operand) (dT sT : TypeId)
    (ho : o.op = .call { callee := .builtin .copy, args := #[d, s], argTypes := #[dT, sT] }) (e : TypeId) (i : TypeInfo) (hu : P.underlying dT = some (.slice e)) (hi : P.info? e = some i)
    (g off dLen dCap : Nat) (ad : Addr) (sLen sCap : Nat) (hd : a.eval d = .slice (some ⟨g, off, none⟩) dLen dCap) (hs : a.eval s = .slice (some ad) sLen sCap) (cur : Array Value) (t : TypeId) (cs : List Value)
    (hg : Blk w g t cur) (hn : cs.length = Nat.min sLen dLen * i.size) (hsrc : ∀ j v, cs[j]? = some v → w.cell? (ad.add j) = some v) (hfit : off + cs.length ≤ cur.size) (h1 : ∀ v ∈ cs, v.oneCell' = true)
    (h : ∀ w', Blk w' g t (cur.toList.take off ++ cs ++ cur.toList.drop (off + cs.length)).toArray → Touch (fun k => k = g) w w' → K (a.put o.dst (.int .i64 (Nat.min sLen dLen : Nat))) w') :
    if Region.wanted o (yielded ops a.tmps) = true then Oper.wp P o a w K Q else E := by
  have hw : Region.wanted o (yielded ops a.tmps) = true := by simp [Region.wanted, hgd]
  rw [if_pos hw]
  exact wp_copy_S d s dT sT ho e i hu hi g off dLen dCap ad sLen sCap hd hs cur t cs hg hn hsrc hfit h1 h
end

/-- The cells of variables without a value. -/
def pv (j : Nat) : Value := if j % 3 = 0 then .int .i64 0 else .int .i64 (-1)
theorem pv_one (j : Nat) : (pv j).oneCell' = true := by unfold pv; split <;> rfl
theorem pv_add (j c : Nat) : pv (c * 3 + j) = pv j := by unfold pv; rw [Nat.mul_add_mod_self_right]
theorem knC_rep (n : Nat) : knC (List.replicate n ⟨0, -1, -1⟩) = (List.range (n * 3)).map pv := by
  induction n with
  | zero => rfl
  | succ n ih =>
    rw [List.replicate_succ']
    have e : (n + 1) * 3 = n * 3 + 1 + 1 + 1 := by omega
    rw [e, List.range_succ, List.range_succ, List.range_succ]
    simp only [List.map_append, List.map_cons, List.map_nil, ← ih]
    have h0 := pv_add 0 n
    have h1 := pv_add 1 n
    have h2 := pv_add 2 n
    simp only [Nat.add_zero] at h0
    rw [Nat.add_assoc (n * 3) 1 1, h0, h1, h2]
    simp [knC, Kn.cells, pv]

end Go.Proofs.Ythinopiobihmaaa

namespace Go.Proofs.Ythinopiobihmaaa
open Go.ChangeShapes Go.WideShapes Go.ChangeAt Go.RowKit
set_option maxRecDepth 100000

def pvs (k : Nat) : List Value := (List.range k).map pv
theorem pvs_len (k : Nat) : (pvs k).length = k := by simp [pvs]
theorem pvs_get (k j : Nat) (h : j < k) : (pvs k)[j]? = some (pv j) := by simp [pvs, h]
theorem pvs_lt {k j : Nat} {v : Value} (h : (pvs k)[j]? = some v) : j < k ∧ v = pv j := by
  have hj : j < k := by
    have := (List.getElem?_eq_some_iff.1 h).1
    rwa [pvs_len] at this
  rw [pvs_get k j hj] at h
  exact ⟨hj, (Option.some.inj h).symm⟩
theorem pvs_one (k : Nat) : ∀ v ∈ pvs k, v.oneCell' = true := by
  intro v hv
  obtain ⟨j, _, rfl⟩ := List.mem_map.1 hv
  exact pv_one j

theorem splice_pv (cur : Array Value) (c k : Nat) (hs : (c + k) * 3 ≤ cur.size) (hc : ∀ j, j < c * 3 → cur[j]? = some (pv j)) :
    (cur.toList.take (c * 3) ++ pvs (k * 3) ++ cur.toList.drop (c * 3 + (pvs (k * 3)).length)).toArray.size = cur.size ∧
    ∀ j, j < (c + k) * 3 → (cur.toList.take (c * 3) ++ pvs (k * 3) ++ cur.toList.drop (c * 3 + (pvs (k * 3)).length)).toArray[j]? = some (pv j) := by
  have h1 : (cur.toList.take (c * 3)).length = c * 3 := by simp; omega
  constructor
  · simp [pvs_len]
    omega
  · intro j hj
    simp only [List.getElem?_toArray]
    by_cases h : j < c * 3
    · rw [List.getElem?_append_left (by simp [pvs_len]; omega), List.getElem?_append_left (by omega), List.getElem?_take, if_pos h]
      have := hc j h
      simpa using this
    · rw [List.getElem?_append_left (by rw [List.length_append, h1, pvs_len]; omega), List.getElem?_append_right (by omega), h1, pvs_get _ _ (by omega)]
      have e : j = c * 3 + (j - c * 3) := by omega
      rw [e, pv_add]
      congr 2
      omega

theorem made_blk {w : World} {e : TypeId} {g n : Nat} {xs : List Value} (h : Own w e 3 (.slice (some ⟨g, 0, none⟩) n n) n xs) : ∃ cur, Blk w g e cur ∧ n * 3 ≤ cur.size := by
  rcases h.2 with ⟨h, _⟩ | ⟨g', off, cap, cur, hv, hb, _, _, hs, _⟩
  · cases h
  · injection hv with h1 _ h3
    injection h1 with h1
    injection h1 with h1 h4
    subst h1 h3 h4
    exact ⟨cur, hb, by omega⟩

theorem repeat_any (bx n : Nat) (w : World) (hx : Blk w bx 98 #[.int .i64 0, .int .i64 (-1), .int .i64 (-1)]) (hn : n ≤ 5000) :
    Calls Try.prog 56 #[.slice (some ⟨bx, 0, none⟩) 1 1, .int .i64 n] w fun e w' => ∃ g, e = .returned (.slice (some ⟨g, 0, none⟩) n n) ∧ Own w' 98 3 (.slice (some ⟨g, 0, none⟩) n n) n (knC (List.replicate n ⟨0, -1, -1⟩)) ∧
      Below w.heap.size w w' ∧ w.heap.size ≤ g ∧ g < w'.heap.size := by
  obtain ⟨i, hi, hz0, hz1, hz2⟩ := info_parts (P := Try.prog) (e := 98) (z := .agg #[.int .i64 0, .int .i64 0, .int .i64 0]) (size := 3) (bytes := 24) (by kernel_rfl)
  have HM := Lib.hid (mul_one n w hn)
  have e5 : IntKind.u64.wrap (n : Int) = n := by rw [IntKind.wrap_u64]; omega
  have e6 : IntKind.i64.wrap (n : Int) = n := by rw [IntKind.wrap_i64]; omega
  have e7 : (n : Int) ≤ 9223372036854775807 := by omega
  have e8 : decide ((n : Int) < 0) = false := by simp
  have e9 : decide (9223372036854775807 < (n : Int)) = false := by simp; omega
  have hbl := hx.lt
  have hg0 : ∃ g, g = w.heap.size := ⟨_, rfl⟩
  obtain ⟨g, hg⟩ := hg0
  go_enter Try.func56, Try.ntmps56
  go_upto_region 7 with (first | (go_at_call 72; refine HM.out.mono ?_; rintro e w' ⟨rfl, rfl⟩) | (at_make; go_loud (refine wpList_make_full _ rfl (.tmp 29) (.tmp 29) _ rfl w.heap.size 98 i _ 3 Try.underlying95 hi hz0 hz1 .i64 .i64 _ _ n rfl rfl rfl rfl (by rw [hz2]; omega) (by simp only [maxLen]; omega) (Nat.le_refl _) ?_); intro w1 hown hgr; obtain ⟨cur, hb, hs⟩ := made_blk (Own.of_kit hown)))
  have hgb : w.grownBy w1 none := hgr
  have hB1 : Below w.heap.size w w1 := ⟨hgb.os, hgb.tape, hgb.output, hgb.size, fun k hk => hgb.block k hk (by simp)⟩
  rw [← hg] at hb hB1 hbl ⊢
  have hx1 := hx.below hB1 hbl
  obtain ⟨c0, hc0⟩ : ∃ c0, c0 = Nat.min 1 n := ⟨_, rfl⟩
  have hc1 : c0 ≤ 1 ∧ c0 ≤ n ∧ (0 < n → 0 < c0) := by rw [hc0]; simp only [Nat.min_def]; split <;> omega
  have Hg := Lib.hid hg
  clear hg
  have hgw : g ≤ w1.heap.size := by have := hB1.size; have := Hg.out; omega
  go_cut [8] from 31 (fun s8 wx => s8 = .int .i64 c0 ∧ ∃ cur, Blk wx g 98 cur ∧ n * 3 ≤ cur.size ∧ (∀ j, j < c0 * 3 → cur[j]? = some (pv j)) ∧ Below g w wx)
  case first =>
    have hsrc : ∀ j v, (pvs (c0 * 3))[j]? = some v → w1.cell? ((⟨bx, 0, none⟩ : Addr).add j) = some v := by
      intro j v hjv
      obtain ⟨hj, rfl⟩ := pvs_lt hjv
      rw [add_plain, Nat.zero_add, hx1.cell]
      have : j = 0 ∨ j = 1 ∨ j = 2 := by omega
      rcases this with rfl | rfl | rfl <;> rfl
    have hsp := splice_pv cur 0 c0 (by omega) (fun j hj => absurd hj (by omega))
    simp only [Nat.zero_add, Nat.zero_mul] at hsp
    go_wp2_with ((refine wpList_copy_S rfl (.tmp 31) (.tmp 32) _ _ rfl 98 i Try.underlying95 hi g 0 n n ⟨bx, 0, none⟩ 1 1 rfl rfl cur 98 (pvs (c0 * 3)) hb (by rw [pvs_len, hz1, hc0]) hsrc (by rw [pvs_len]; omega) (pvs_one _) ?_); intro w2 hb2 ht2)
    go_meet
    case rel =>
      rw [← hc0]
      refine ⟨rfl, _, hb2, by rw [Nat.zero_add, hsp.1]; exact hs, by simpa only [Nat.zero_add] using hsp.2, ?_⟩
      exact hB1.trans (ht2.below hgw fun x hx e => by omega)
  case rest =>
    obtain ⟨rfl, cur, hb, hs, hcells, hB⟩ := hcut
    go_wp2_with fail
    go_loopw [8] (fun x wr => ∃ (c : Nat) (cur : Array Value), x = .int .i64 c ∧ c ≤ n ∧ (0 < n → 0 < c) ∧ Blk wr g 98 cur ∧ n * 3 ≤ cur.size ∧ (∀ j, j < c * 3 → cur[j]? = some (pv j)) ∧ Below g w wr) (fun x _ => n - (intOf x).toNat)
    case atStart => exact ⟨c0, cur, rfl, hc1.2.1, hc1.2.2, hb, hs, hcells, hB⟩
    case round =>
      obtain ⟨c, cur, rfl, hcn, hc0', hb, hs, hcells, hB⟩ := hrel
      by_cases hlt : c < n
      · obtain ⟨k, hk⟩ : ∃ k, k = Nat.min c (n - c) := ⟨_, rfl⟩
        have hk1 : k ≤ c ∧ c + k ≤ n ∧ 0 < k := by rw [hk]; simp only [Nat.min_def]; split <;> omega
        obtain ⟨hsp1, hsp2⟩ := splice_pv cur c k (by omega) hcells
        have hsrc : ∀ j v, (pvs (k * 3))[j]? = some v → wr.drew.cell? ((⟨g, 0, none⟩ : Addr).add j) = some v := by
          intro j v hjv
          obtain ⟨hj, rfl⟩ := pvs_lt hjv
          rw [add_plain, Nat.zero_add, hb.drew.cell]
          exact hcells j (by omega)
        have hfi : c * 3 + (pvs (k * 3)).length ≤ cur.size := by rw [pvs_len]; omega
        have hnc : ¬ n - c = 0 := by omega
        have hnc' : ¬ n = c := by omega
        have hsz : (pvs (k * 3)).length = Nat.min c (n - c) * i.size := by rw [pvs_len, hz1, hk]
        have hci : (c : Int) ≤ (n : Int) := by omega
        have HK := Lib.hid hk
        have HS := Lib.hid hsp1
        have hw : IntKind.i64.wrap ((c : Int) + (k : Int)) = ((c + k : Nat) : Int) := by rw [IntKind.wrap_i64]; omega
        clear hk hsp1
        go_wp2_with fail
        go_region_law (refine step_copy_S rfl (.tmp 41) (.tmp 44) _ _ rfl 98 i Try.underlying95 hi g (c * 3) (n - c) (n - c) ⟨g, 0, none⟩ c n (by simp [Act.eval, Act.put]) (by simp [Act.eval, Act.put]) cur 98 (pvs (k * 3)) hb.drew hsz hsrc hfi (pvs_one _) ?_; intro w2 hb2 ht2)
        go_wp2_with fail
        go_roundw
        case rel =>
          repeat apply Exists.intro
          refine ⟨?_, rfl⟩
          refine ⟨c + k, _, by rw [← HK.out, hw], by omega, fun _ => by omega, hb2, by rw [HS.out]; exact hs, hsp2, ?_⟩
          exact (bel_drewN hB 1).trans (ht2.below (B := g) (by have h1 := hB.size; have h2 := Hg.out; show g ≤ wr.heap.size; omega) fun x hx e => by omega)
        case measure =>
          show n - (IntKind.i64.wrap ((c : Int) + ((Nat.min c (n - c) : Nat) : Int))).toNat < n - ((c : Int)).toNat
          rw [← HK.out, hw]
          omega
      · obtain rfl : c = n := by omega
        go_wp2_with fail
        go_ret
        have hO : Own wr 98 3 (.slice (some ⟨g, 0, none⟩) c c) c (knC (List.replicate c ⟨0, -1, -1⟩)) := by
          rw [knC_rep]
          refine ⟨by simp, .inr ⟨g, 0, c, cur, rfl, hb, Nat.le_refl _, by simp only [maxLen]; omega, by omega, fun j hj => ?_⟩⟩
          have hj' : j < c * 3 := by simpa using hj
          rw [Nat.zero_add, hcells j hj']
          simp [hj']
        exact ⟨g, rfl, hO, by rw [← Hg.out]; exact hB, by rw [← Hg.out]; exact Nat.le_refl _, hb.lt⟩

theorem rep_empty (n : Nat) : List.replicate n (⟨0, -1, -1⟩ : Kn) = varsE n [] := by
  unfold varsE
  simp only [look, knE, List.map_const', List.length_range]

/-- New: where there may be so many. -/
theorem new_any (n : Nat) (w : World) (hn : n ≤ 5000) :
    Calls Try.prog 36 #[.int .i64 n] w fun e w' => ∃ g, e = .returned (.tuple #[.pointer (some ⟨g, 0, none⟩), .int .i64 0]) ∧ Below w.heap.size w w' ∧ ∃ F, TrA w' F g (trE n []) ∧ ∀ k, F k → w.heap.size ≤ k := by
  obtain ⟨W, hW⟩ : ∃ W, W = w.alloc (.cells #[.int .i64 0, .int .i64 (-1), .int .i64 (-1)] 98) := ⟨_, rfl⟩
  have hWs : W.heap.size = w.heap.size + 1 := by rw [hW]; simp
  have hBW : Below w.heap.size w W := by rw [hW]; exact (Below.refl _ _).alloc (Nat.le_refl _) _
  have HR : Hid (Calls Try.prog 56 #[.slice (some ⟨w.heap.size, 0, none⟩) 1 1, .int .i64 n] (w.alloc (.cells #[.int .i64 0, .int .i64 (-1), .int .i64 (-1)] 98)) fun e w' => ∃ g, e = .returned (.slice (some ⟨g, 0, none⟩) n n) ∧ Own w' 98 3 (.slice (some ⟨g, 0, none⟩) n n) n (knC (List.replicate n ⟨0, -1, -1⟩)) ∧
      Below W.heap.size W w' ∧ W.heap.size ≤ g ∧ g < w'.heap.size) := Lib.hid (by rw [← hW]; exact repeat_any w.heap.size n W (by rw [hW]; exact Blk.new w _ _) hn)
  have h1 : ¬ (2097152 : Int) < (n : Int) := by omega
  have h2 : decide ((2097152 : Int) < (n : Int)) = false := by simpa using h1
  have h3 : decide ((n : Int) < 0) = false := by simp
  have H := Lib.hid (And.intro hWs hBW)
  clear hW hWs hBW
  go_enter Try.func36, Try.ntmps36
  go_wp2_with (go_at_call 56; refine HR.out.mono ?_; rintro e w1 ⟨g, rfl, hO, hb1, hg1, hg2⟩)
  obtain ⟨hWs, hBW⟩ := H.out
  go_ret2
  have hb3 : Below w.heap.size w w1 := bel_new hBW hBW.size hb1
  refine ⟨w1.heap.size, rfl, hb3.alloc hb3.size _, fun k => k = w1.heap.size ∨ k = g, ⟨.slice (some ⟨g, 0, none⟩) n n, .slice none 0 0, .slice none 0 0, ⟨Blk.new w1 _ _, ?_, Own.nil _ 3 1, Own.nil _ 3 1⟩, .inl rfl, fun k hk => ?_, fun k hk => ?_, fun k hk => ?_, .inl rfl, ?_⟩, ?_⟩
  · rw [rep_empty] at hO
    have h := hO.alloc (.cells #[.slice (some ⟨g, 0, none⟩) n n, .slice none 0 0, .slice none 0 0] 100)
    show Own _ 98 3 _ (varsE n []).length (knC (varsE n []))
    rw [varsE_len]
    exact h
  · simp only [Value.ownBlock, Option.some.injEq] at hk
    exact .inr hk.symm
  · simp [Value.ownBlock] at hk
  · simp [Value.ownBlock] at hk
  · rintro k (rfl | rfl)
    · simp
    · simp; omega
  · rintro k (rfl | rfl)
    · exact hb3.size
    · have := hBW.size; omega

theorem new_bad (n : Int) (w : World) (hn : n < 0 ∨ 2097152 < n) :
    Calls Try.prog 36 #[.int .i64 n] w fun e w' => e = .returned (.tuple #[.pointer none, .int .i64 1]) ∧ w = w' := by
  by_cases h : n < 0
  · go_enter Try.func36, Try.ntmps36
    go_wp2_with fail
    simp [bodyPost, results, Try.results36, go_sem]
  · have h' : decide (n < 0) = false := by simpa using h
    have h2 : 2097152 < n := by omega
    go_enter Try.func36, Try.ntmps36
    go_wp2_with fail
    simp [bodyPost, results, Try.results36, go_sem]

end Go.Proofs.Ythinopiobihmaaa

namespace Go.Proofs.Ythinopiobihmaaa
open Go.ChangeShapes Go.WideShapes Go.ChangeAt Go.RowKit
set_option maxRecDepth 100000

/-- Trails, made since w0; o: whose a block is; X: blocks of something else. -/
structure Trails (w0 w : World) (X : Nat → Prop) (L : List (Nat × TrD)) : Prop where
  bel : Below w0.heap.size w0 w
  xlt : ∀ k, X k → k < w.heap.size
  ex : ∃ o : Nat → Nat → Prop, (∀ (i g : Nat) (T : TrD), L[i]? = some (g, T) → TrA w (o i) g T) ∧ (∀ i j k, o i k → o j k → i = j) ∧ (∀ i k, o i k → w0.heap.size ≤ k) ∧ (∀ i k, o i k → k < w.heap.size) ∧ ∀ i k, o i k → ¬ X k

theorem Trails.none {w0 w : World} (hb : Below w0.heap.size w0 w) : Trails w0 w (fun _ => False) [] :=
  ⟨hb, fun _ h => h.elim, fun _ _ => False, fun i g T h => by simp at h, fun _ _ _ h => h.elim, fun _ _ h => h.elim, fun _ _ h => h.elim, fun _ _ h => h.elim⟩

theorem Trails.below {w0 w w' : World} {X : Nat → Prop} {L : List (Nat × TrD)} (h : Trails w0 w X L) (hb : Below w.heap.size w w') : Trails w0 w' X L := by
  obtain ⟨h1, h2, o, h3, h4, h5, h6, h7⟩ := h
  exact ⟨bel_new h1 h1.size hb, fun k hk => Nat.lt_of_lt_of_le (h2 k hk) hb.size, o, fun i g T hi => (h3 i g T hi).below hb, h4, h5, fun i k hk => Nat.lt_of_lt_of_le (h6 i k hk) hb.size, h7⟩

theorem Trails.get {w0 w : World} {X : Nat → Prop} {L : List (Nat × TrD)} (h : Trails w0 w X L) (i : Nat) {g : Nat} {T : TrD} (hi : L[i]? = some (g, T)) : ∃ F, TrA w F g T := by
  obtain ⟨_, _, o, h3, _⟩ := h
  exact ⟨_, h3 i g T hi⟩

/-- A call that writes one of them. -/
theorem Trails.op {f : FuncId} {args : Array Value} {Q : Ending → Prop} {w0 w : World} {X : Nat → Prop} {L : List (Nat × TrD)} (h : Trails w0 w X L) (i : Nat) {g : Nat} {T T' : TrD} (hi : L[i]? = some (g, T))
    (hc : ∀ F, TrA w F g T → Calls Try.prog f args w fun e w' => Q e ∧ TrUp w w' F g T') :
    Calls Try.prog f args w fun e w' => Q e ∧ Trails w0 w' X (L.set i (g, T')) ∧ Touch (fun k => ¬ X k) w w' := by
  obtain ⟨h1, h2, o, h3, h4, h5, h6, h7⟩ := h
  refine (hc _ (h3 i g T hi)).mono ?_
  rintro e w' ⟨hq, F', k1, k2, k3⟩
  have hs := k2.size
  refine ⟨hq, ⟨h1.trans (k2.below h1.size fun x hx hf => by have := h5 i x hf; omega), fun k hk => Nat.lt_of_lt_of_le (h2 k hk) hs, fun j k => if j = i then F' k else o j k, ?_, ?_, ?_, ?_, ?_⟩, k2.mono fun x hx hf => h7 i x hf⟩
  · intro j g' T1 hj
    have hL : i < L.length := (List.getElem?_eq_some_iff.1 hi).1
    by_cases hji : j = i
    · subst hji
      rw [List.getElem?_set_self hL] at hj
      simp only [Option.some.injEq, Prod.mk.injEq] at hj
      obtain ⟨rfl, rfl⟩ := hj
      simpa using k1
    · rw [List.getElem?_set_ne (fun e => hji e.symm)] at hj
      simp only [if_neg hji]
      exact (h3 j g' T1 hj).other k2 fun k hk hf => hji (h4 j i k hk hf)
  · intro j1 j2 k
    by_cases e1 : j1 = i <;> by_cases e2 : j2 = i
    · intro _ _; omega
    · simp only [if_pos e1, if_neg e2]
      intro hk hk2
      rcases k3 k hk with hk | hk
      · exact e1 ▸ h4 i j2 k hk hk2
      · have := h6 j2 k hk2; omega
    · simp only [if_neg e1, if_pos e2]
      intro hk2 hk
      rcases k3 k hk with hk | hk
      · exact e2 ▸ h4 j1 i k hk2 hk
      · have := h6 j1 k hk2; omega
    · simp only [if_neg e1, if_neg e2]
      exact h4 j1 j2 k
  · intro j k
    by_cases e1 : j = i
    · simp only [if_pos e1]
      intro hk
      rcases k3 k hk with hk | hk
      · exact h5 i k hk
      · exact Nat.le_trans h1.size hk
    · simp only [if_neg e1]
      exact h5 j k
  · intro j k
    by_cases e1 : j = i
    · simp only [if_pos e1]
      exact k1.lt k
    · simp only [if_neg e1]
      intro hk
      exact Nat.lt_of_lt_of_le (h6 j k hk) hs
  · intro j k
    by_cases e1 : j = i
    · simp only [if_pos e1]
      intro hk hx
      rcases k3 k hk with hk | hk
      · exact h7 i k hk hx
      · have := h2 k hx; omega
    · simp only [if_neg e1]
      exact h7 j k

/-- A new one. -/
theorem Trails.new {w0 w w' : World} {X F : Nat → Prop} {L : List (Nat × TrD)} {g : Nat} {T : TrD} (h : Trails w0 w X L) (hb : Below w.heap.size w w') (hT : TrA w' F g T) (hF : ∀ k, F k → w.heap.size ≤ k) : Trails w0 w' X (L ++ [(g, T)]) := by
  have hh := h.below hb
  have h1 := hh.bel
  have h2 := hh.xlt
  have h2' := h.xlt
  obtain ⟨a1, a2, o, a3, a4, a5, a6, a7⟩ := h
  refine ⟨h1, h2, fun j k => if j = L.length then F k else if j < L.length then o j k else False, ?_, ?_, ?_, ?_, ?_⟩
  · intro j g' T1 hj
    by_cases e : j = L.length
    · subst e
      simp at hj
      obtain ⟨rfl, rfl⟩ := hj
      simpa using hT
    · have hl : j < L.length := by
        have := (List.getElem?_eq_some_iff.1 hj).1
        simp at this
        omega
      rw [List.getElem?_append_left hl] at hj
      simp only [if_neg e, if_pos hl]
      exact (a3 j g' T1 hj).below hb
  · intro j1 j2 k
    by_cases e1 : j1 = L.length <;> by_cases e2 : j2 = L.length
    · intro _ _; omega
    · simp only [if_pos e1, if_neg e2]
      intro hk hk2
      split at hk2
      · have := hF k hk; have := a6 j2 k hk2; omega
      · exact hk2.elim
    · simp only [if_neg e1, if_pos e2]
      intro hk2 hk
      split at hk2
      · have := hF k hk; have := a6 j1 k hk2; omega
      · exact hk2.elim
    · simp only [if_neg e1, if_neg e2]
      intro h1 h2
      split at h1
      · split at h2
        · exact a4 j1 j2 k h1 h2
        · exact h2.elim
      · exact h1.elim
  · intro j k hk
    split at hk
    · exact Nat.le_trans a1.size (hF k hk)
    · split at hk
      · exact a5 j k hk
      · exact hk.elim
  · intro j k hk
    split at hk
    · exact hT.lt k hk
    · split at hk
      · exact Nat.lt_of_lt_of_le (a6 j k hk) hb.size
      · exact hk.elim
  · intro j k hk hx
    split at hk
    · have := hF k hk; have := h2' k hx; omega
    · split at hk
      · exact a7 j k hk hx
      · exact hk.elim

/-! ### What is read -/
theorem valT_trE {n : Nat} {es : List En} (x : Int) : valT (trE n es) x = valE n es x := by
  have hl : (trE n es).vars.length = n := varsE_len n es
  unfold valT valE
  rw [hl]
  by_cases h : Lit n x
  · have hx := h
    unfold Lit at hx
    rw [varN_lit h, if_neg (by omega), if_pos hx, knAt_trE n es _ (by omega)]
    cases hlk : look es (x.natAbs - 1) with
    | none => simp [knE]
    | some e =>
      have h2 := (look_some hlk).2
      simp only [knE]
      by_cases h1 : e.lit = x
      · subst h1
        by_cases h3 : e.lit < 0
        · rw [if_pos h3, if_pos rfl, if_pos h3]; rfl
        · rw [if_neg h3, if_pos rfl, if_neg h3]
      · rw [if_neg h1]
        by_cases h3 : x < 0
        · rw [if_pos h3, if_neg (by omega)]
        · rw [if_neg h3, if_pos (by omega)]
  · rw [varN_not h]
    unfold Lit at h
    rw [if_pos (by omega), if_neg h]

def ofE (n : Nat) (es : List En) (v : Int) : Kn := if v < 0 ∨ (n : Int) ≤ v then ⟨0, -1, -1⟩ else knE (look es v.toNat)
theorem ofT_trE {n : Nat} {es : List En} (v : Int) : ofT (trE n es) v = ofE n es v := by
  have hl : (trE n es).vars.length = n := varsE_len n es
  unfold ofT ofE
  rw [hl]
  by_cases h : v < 0 ∨ (n : Int) ≤ v
  · rw [if_pos h, if_pos h]
  · rw [if_neg h, if_neg h]
    obtain ⟨i, rfl⟩ := Int.eq_ofNat_of_zero_le (by omega : 0 ≤ v)
    exact knAt_trE n es i (by omega)

def atE (es : List En) (i : Int) : Int := if i < 0 then 0 else (es.map (·.lit)).reverse.getD i.toNat 0

theorem knAt_range {n : Nat} {es : List En} : ∀ v, -1 ≤ (knAt (trE n es) v).value ∧ (knAt (trE n es) v).value ≤ 1 := by
  intro v
  unfold knAt
  have hk : ∀ o : Option En, -1 ≤ (knE o).value ∧ (knE o).value ≤ 1 := by
    intro o
    cases o with
    | none => simp [knE]
    | some e => simp only [knE]; split <;> simp
  rcases hq : (trE n es).vars[v.toNat]? with _ | k
  · rw [List.getD_eq_getElem?_getD, hq]
    exact ⟨by decide, by decide⟩
  · rw [List.getD_eq_getElem?_getD, hq]
    have hm := List.mem_of_getElem? hq
    obtain ⟨j, _, rfl⟩ := List.mem_map.1 hm
    exact hk _

section
variable {w0 w : World} {X : Nat → Prop} {L : List (Nat × TrD)} {g n : Nat} {es : List En}

theorem value_tr (h : Trails w0 w X L) (i : Nat) (hL : L[i]? = some (g, trE n es)) (hn : n ≤ 5000) (x : Int) (h1 : -9223372036854775808 ≤ x) (h2 : x ≤ 9223372036854775807) :
    Calls Try.prog 51 #[.pointer (some ⟨g, 0, none⟩), .int .i64 x] w fun e w' => e = .returned (.int .i64 (valE n es x)) ∧ w = w' := by
  obtain ⟨F, a, b, c, k1, _⟩ := h.get i hL
  have hl : (trE n es).vars.length = n := varsE_len n es
  have := value_any g a b c _ x w k1 (by omega) h1 h2 knAt_range
  rwa [valT_trE] at this
theorem levelOf_tr (h : Trails w0 w X L) (i : Nat) (hL : L[i]? = some (g, trE n es)) (hn : n ≤ 5000) (v : Int) :
    Calls Try.prog 48 #[.pointer (some ⟨g, 0, none⟩), .int .i64 v] w fun e w' => e = .returned (.int .i64 (ofE n es v).level) ∧ Below w.heap.size w w' := by
  obtain ⟨F, a, b, c, k1, _⟩ := h.get i hL
  have hl : (trE n es).vars.length = n := varsE_len n es
  have := levelOf_any g a b c _ v w k1 (by omega)
  rwa [ofT_trE] at this
theorem reason_tr (h : Trails w0 w X L) (i : Nat) (hL : L[i]? = some (g, trE n es)) (hn : n ≤ 5000) (v : Int) :
    Calls Try.prog 47 #[.pointer (some ⟨g, 0, none⟩), .int .i64 v] w fun e w' => e = .returned (.int .i64 (ofE n es v).reason) ∧ Below w.heap.size w w' := by
  obtain ⟨F, a, b, c, k1, _⟩ := h.get i hL
  have hl : (trE n es).vars.length = n := varsE_len n es
  have := reason_any g a b c _ v w k1 (by omega)
  rwa [ofT_trE] at this
theorem level_tr (h : Trails w0 w X L) (i : Nat) (hL : L[i]? = some (g, trE n es)) (hg : Good n es) :
    Calls Try.prog 46 #[.pointer (some ⟨g, 0, none⟩)] w fun e w' => e = .returned (.int .i64 (hi es)) ∧ w = w' := by
  obtain ⟨F, a, b, c, k1, _⟩ := h.get i hL
  have := level_any g a b c _ w k1
  rwa [show ((trE n es).begins.length : Int) = hi es from begs_len hg] at this
theorem vars_tr (h : Trails w0 w X L) (i : Nat) (hL : L[i]? = some (g, trE n es)) :
    Calls Try.prog 40 #[.pointer (some ⟨g, 0, none⟩)] w fun e w' => e = .returned (.int .i64 n) ∧ w = w' := by
  obtain ⟨F, a, b, c, k1, _⟩ := h.get i hL
  have := vars_any g a b c _ w k1
  rwa [show (trE n es).vars.length = n from varsE_len n es] at this
theorem len_tr (h : Trails w0 w X L) (i : Nat) (hL : L[i]? = some (g, trE n es)) :
    Calls Try.prog 41 #[.pointer (some ⟨g, 0, none⟩)] w fun e w' => e = .returned (.int .i64 es.length) ∧ w = w' := by
  obtain ⟨F, a, b, c, k1, _⟩ := h.get i hL
  have := len_any g a b c _ w k1
  rwa [show (trE n es).lits.length = es.length by simp [trE]] at this
theorem at_tr (h : Trails w0 w X L) (i : Nat) (hL : L[i]? = some (g, trE n es)) (j : Int) :
    Calls Try.prog 43 #[.pointer (some ⟨g, 0, none⟩), .int .i64 j] w fun e w' => e = .returned (.int .i64 (atE es j)) ∧ w = w' := by
  obtain ⟨F, a, b, c, k1, _⟩ := h.get i hL
  exact at_any g a b c _ j w k1
theorem decide_tr (h : Trails w0 w X L) (i : Nat) (hL : L[i]? = some (g, trE n es)) (hg : Good n es) (hn : n ≤ 5000) (x : Int) (h1 : -9223372036854775808 ≤ x) (h2 : x ≤ 9223372036854775807) :
    Calls Try.prog 39 #[.pointer (some ⟨g, 0, none⟩), .int .i64 x] w fun e w' => e = .returned (.int .i64 (decC n es x).1) ∧ Trails w0 w' X (L.set i (g, trE n (decC n es x).2)) ∧ Touch (fun k => ¬ X k) w w' :=
  h.op i hL (Q := fun e => e = .returned (.int .i64 (decC n es x).1)) fun F hT => decide_any F g n es x w hT hg hn h1 h2
theorem assign_tr (h : Trails w0 w X L) (i : Nat) (hL : L[i]? = some (g, trE n es)) (hg : Good n es) (hn : n ≤ 5000) (x r : Int) (h1 : -9223372036854775808 ≤ x) (h2 : x ≤ 9223372036854775807) :
    Calls Try.prog 77 #[.pointer (some ⟨g, 0, none⟩), .int .i64 x, .int .i64 r] w fun e w' => e = .returned (.int .i64 (asnC n es x r).1) ∧ Trails w0 w' X (L.set i (g, trE n (asnC n es x r).2)) ∧ Touch (fun k => ¬ X k) w w' :=
  h.op i hL (Q := fun e => e = .returned (.int .i64 (asnC n es x r).1)) fun F hT => assign_any F g n es x r w hT hg hn h1 h2
theorem back_tr (h : Trails w0 w X L) (i : Nat) (hL : L[i]? = some (g, trE n es)) (hg : Good n es) (hn : n ≤ 5000) (x : Int) (h1 : -9223372036854775808 ≤ x) (h2 : x ≤ 9223372036854775807) :
    Calls Try.prog 50 #[.pointer (some ⟨g, 0, none⟩), .int .i64 x] w fun e w' => e = .returned (.int .i64 (backC es x).1) ∧ Trails w0 w' X (L.set i (g, trE n (backC es x).2)) ∧ Touch (fun k => ¬ X k) w w' :=
  h.op i hL (Q := fun e => e = .returned (.int .i64 (backC es x).1)) fun F hT => back_any F g n es x w hT hg hn h1 h2
theorem new_tr (h : Trails w0 w X L) (hn : n ≤ 5000) :
    Calls Try.prog 36 #[.int .i64 n] w fun e w' => ∃ g, e = .returned (.tuple #[.pointer (some ⟨g, 0, none⟩), .int .i64 0]) ∧ Trails w0 w' X (L ++ [(g, trE n [])]) ∧ Below w.heap.size w w' :=
  (new_any n w hn).mono fun _ _ ⟨g, h1, h2, _, h3, h4⟩ => ⟨g, h1, h.new h2 h3 h4, h2⟩
theorem copy_tr (h : Trails w0 w X L) (i : Nat) (hL : L[i]? = some (g, trE n es)) (hg : Good n es) (hn : n ≤ 5000) :
    Calls Try.prog 49 #[.pointer (some ⟨g, 0, none⟩)] w fun e w' => ∃ g', e = .returned (.pointer (some ⟨g', 0, none⟩)) ∧ Trails w0 w' X (L ++ [(g', trE n es)]) ∧ Below w.heap.size w w' := by
  obtain ⟨F, hF⟩ := h.get i hL
  have h1 : (trE n es).vars.length = n := varsE_len n es
  have h2 : (trE n es).lits.length = es.length := by simp [trE]
  have h3 := hg.len_le
  have h4 : ((trE n es).begins.length : Int) = hi es := begs_len hg
  have h5 := hi_le_len hg
  exact (copy_any F g _ w hF (by omega) (by omega) (by omega)).mono fun _ _ ⟨g', k1, k2, _, k3, k4⟩ => ⟨g', k1, h.new k2 k3 k4, k2⟩
end

end Go.Proofs.Ythinopiobihmaaa

namespace Go.Proofs.Ythinopiobihmaaa
open Go.ChangeShapes Go.WideShapes Go.ChangeAt Go.RowKit
set_option maxRecDepth 100000

section
variable {w0 w : World} {X : Nat → Prop} {L : List (Nat × TrD)} {g n : Nat} {es : List En}

/-- i64's numbers. -/
def I64 (x : Int) : Prop := -9223372036854775808 ≤ x ∧ x ≤ 9223372036854775807

theorem value_eq (h : Trails w0 w X L) (i : Nat) (hL : L[i]? = some (g, trE n es)) (hn : n ≤ 5000) (x : Int) (hx : I64 x) (v : Int) (hv : valE n es x = v) :
    Calls Try.prog 51 #[.pointer (some ⟨g, 0, none⟩), .int .i64 x] w fun e w' => e = .returned (.int .i64 v) ∧ w = w' := hv ▸ value_tr h i hL hn x hx.1 hx.2
theorem levelOf_eq (h : Trails w0 w X L) (i : Nat) (hL : L[i]? = some (g, trE n es)) (hn : n ≤ 5000) (v : Int) (x : Int) (hv : (ofE n es v).level = x) :
    Calls Try.prog 48 #[.pointer (some ⟨g, 0, none⟩), .int .i64 v] w fun e w' => e = .returned (.int .i64 x) ∧ Below w.heap.size w w' ∧ Trails w0 w' X L := by
  refine (levelOf_tr h i hL hn v).mono ?_
  rintro e w' ⟨rfl, hb⟩
  exact ⟨by rw [hv], hb, h.below hb⟩
theorem reason_eq (h : Trails w0 w X L) (i : Nat) (hL : L[i]? = some (g, trE n es)) (hn : n ≤ 5000) (v : Int) (x : Int) (hv : (ofE n es v).reason = x) :
    Calls Try.prog 47 #[.pointer (some ⟨g, 0, none⟩), .int .i64 v] w fun e w' => e = .returned (.int .i64 x) ∧ Below w.heap.size w w' ∧ Trails w0 w' X L := by
  refine (reason_tr h i hL hn v).mono ?_
  rintro e w' ⟨rfl, hb⟩
  exact ⟨by rw [hv], hb, h.below hb⟩
theorem level_eq (h : Trails w0 w X L) (i : Nat) (hL : L[i]? = some (g, trE n es)) (hg : Good n es) (x : Int) (hx : hi es = x) :
    Calls Try.prog 46 #[.pointer (some ⟨g, 0, none⟩)] w fun e w' => e = .returned (.int .i64 x) ∧ w = w' := hx ▸ level_tr h i hL hg
theorem len_eq (h : Trails w0 w X L) (i : Nat) (hL : L[i]? = some (g, trE n es)) (x : Int) (hx : (es.length : Int) = x) :
    Calls Try.prog 41 #[.pointer (some ⟨g, 0, none⟩)] w fun e w' => e = .returned (.int .i64 x) ∧ w = w' := hx ▸ len_tr h i hL
theorem at_eq (h : Trails w0 w X L) (i : Nat) (hL : L[i]? = some (g, trE n es)) (j : Int) (x : Int) (hx : atE es j = x) :
    Calls Try.prog 43 #[.pointer (some ⟨g, 0, none⟩), .int .i64 j] w fun e w' => e = .returned (.int .i64 x) ∧ w = w' := hx ▸ at_tr h i hL j
theorem decide_eq' (h : Trails w0 w X L) (i : Nat) (hL : L[i]? = some (g, trE n es)) (hg : Good n es) (hn : n ≤ 5000) (x : Int) (hx : I64 x) (c : Int) (es' : List En) (hc : decC n es x = (c, es')) :
    Calls Try.prog 39 #[.pointer (some ⟨g, 0, none⟩), .int .i64 x] w fun e w' => e = .returned (.int .i64 c) ∧ Trails w0 w' X (L.set i (g, trE n es')) ∧ Touch (fun k => ¬ X k) w w' := by
  have := decide_tr h i hL hg hn x hx.1 hx.2
  rwa [hc] at this
theorem assign_eq' (h : Trails w0 w X L) (i : Nat) (hL : L[i]? = some (g, trE n es)) (hg : Good n es) (hn : n ≤ 5000) (x r : Int) (hx : I64 x) (c : Int) (es' : List En) (hc : asnC n es x r = (c, es')) :
    Calls Try.prog 77 #[.pointer (some ⟨g, 0, none⟩), .int .i64 x, .int .i64 r] w fun e w' => e = .returned (.int .i64 c) ∧ Trails w0 w' X (L.set i (g, trE n es')) ∧ Touch (fun k => ¬ X k) w w' := by
  have := assign_tr h i hL hg hn x r hx.1 hx.2
  rwa [hc] at this
theorem back_eq' (h : Trails w0 w X L) (i : Nat) (hL : L[i]? = some (g, trE n es)) (hg : Good n es) (hn : n ≤ 5000) (x : Int) (hx : I64 x) (c : Int) (es' : List En) (hc : backC es x = (c, es')) :
    Calls Try.prog 50 #[.pointer (some ⟨g, 0, none⟩), .int .i64 x] w fun e w' => e = .returned (.int .i64 c) ∧ Trails w0 w' X (L.set i (g, trE n es')) ∧ Touch (fun k => ¬ X k) w w' := by
  have := back_tr h i hL hg hn x hx.1 hx.2
  rwa [hc] at this
theorem new_eq (h : Trails w0 w X L) (hn : n ≤ 5000) (x : Int) (hx : (n : Int) = x) :
    Calls Try.prog 36 #[.int .i64 x] w fun e w' => ∃ g, e = .returned (.tuple #[.pointer (some ⟨g, 0, none⟩), .int .i64 0]) ∧ Trails w0 w' X (L ++ [(g, trE n [])]) ∧ Below w.heap.size w w' := hx ▸ new_tr h hn
end

theorem good0 {n : Nat} : Good n [] := trivial

end Go.Proofs.Ythinopiobihmaaa
