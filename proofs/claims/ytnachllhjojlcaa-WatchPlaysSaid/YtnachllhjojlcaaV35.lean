/- The document's watcher: Add. -/
import Derived.Test.YtnachllhjojlcaaV34
namespace Go.Proofs.Ytnachllhjojlcaa
open Go.ChangeShapes Go.WideShapes Go.ChangeAt Go.RowKit Go.Maps Go.Deep
set_option maxRecDepth 100000

/-- One clause more in memory. -/
theorem rwt_add {w w6 wA w10 : World} {F : Nat → Prop} {xr xt : Nat} {cl : List (List Int)} {vL : Value} {C : Nat → Value} {v1 v' : Value} {c : List Int}
    (k1 : Blk w xr 45 #[.pointer (some ⟨xt, 0, none⟩), vL]) (k2 : Own w 23 1 vL cl.length (rowV cl.length C)) (k3 : ∀ i, i < cl.length → Own w 3 1 (C i) (cl.getD i []).length (inC (cl.getD i [])))
    (k4 : ∀ k, F k ↔ k = xr ∨ vL.ownBlock = some k ∨ ∃ i, i < cl.length ∧ (C i).ownBlock = some k)
    (h6 : Below w.heap.size w w6) (hv : Own w6 3 1 v1 c.length (inC c)) (hvn : ∀ k, v1.ownBlock = some k → w.heap.size ≤ k) (hA : Below w6.heap.size w6 wA)
    (ho : Own w10 23 1 v' (cl.length + 1) (rowV cl.length C ++ [v1])) (hg : wA.grownBy w10 vL.ownBlock) (hat : v'.ownBlock = vL.ownBlock ∨ v'.ownBlock = some wA.heap.size) :
    w10.cell? ⟨xr, 1, none⟩ = some vL ∧ w10.frozen? ⟨xr, 1, none⟩ = false ∧ Goes w (w10.setCell ⟨xr, 1, none⟩ v') F (rwt xr xt (cl ++ [c])) := by
  have hs6 := h6.size
  have hsA := hA.size
  have hx := k1.lt
  have T1 : Touch (fun k => vL.ownBlock = some k) w w10 := (Touch.of_below (bel_new h6 hs6 hA) _).trans (Touch.of_grown hg fun k hk => hk) fun _ _ h => h
  have hxL : vL.ownBlock ≠ some xr := k2.ne_blk k1 (by decide)
  have B10 := k1.touch T1 hxL
  have hxv : v'.ownBlock ≠ some xr := by
    rcases hat with h | h
    · rw [h]; exact hxL
    · rw [h]; intro e; injection e with e; omega
  have T2 : Touch F w (w10.setCell ⟨xr, 1, none⟩ v') := (T1.mono fun k _ hk => (k4 k).2 (.inr (.inl hk))).setCell (fun _ => (k4 xr).2 (.inl rfl)) v'
  have hgl : ∀ i, i < cl.length → (cl ++ [c]).getD i [] = cl.getD i [] := fun i hi => by rw [getD_snoc, if_pos hi]
  have hgn : (cl ++ [c]).getD cl.length [] = c := by rw [getD_snoc, if_neg (by omega), if_pos rfl]
  refine ⟨B10.cell 1, B10.frozen 1, fun k => k = xr ∨ v'.ownBlock = some k ∨ ∃ i, i < (cl ++ [c]).length ∧ (if i = cl.length then v1 else C i).ownBlock = some k, ⟨v', fun i => if i = cl.length then v1 else C i, ?_, ?_, fun i hi => ?_, fun k => Iff.rfl⟩, T2, fun k hk => ?_⟩
  · have := B10.set_ 1 v'
    simpa using this
  · have e : rowV (cl ++ [c]).length (fun i => if i = cl.length then v1 else C i) = rowV cl.length C ++ [v1] := by
      unfold rowV
      rw [List.length_append, List.length_singleton, List.range_succ, List.map_append]
      congr 1
      · exact List.map_congr_left fun j hj => by rw [if_neg (by have := List.mem_range.1 hj; omega)]
      · simp
    rw [e, List.length_append, List.length_singleton]
    exact ho.far hxv _
  · dsimp only
    by_cases hi2 : i = cl.length
    · subst hi2
      rw [if_pos rfl, hgn]
      have h1 : Own wA 3 1 v1 c.length (inC c) := hv.below hA hv.lt
      have h2 : Own w10 3 1 v1 c.length (inC c) := h1.grown hg (by
        rcases Option.eq_none_or_eq_some v1.ownBlock with h | ⟨k, h⟩
        · exact .inl h
        · refine .inr fun e => ?_
          rw [h] at e
          have q1 := hvn k h
          have q2 := k2.lt k e.symm
          omega)
      exact h2.far (fun e => by have := hvn xr e; omega) _
    · rw [if_neg hi2]
      have hi3 : i < cl.length := by simp at hi; omega
      rw [hgl i hi3]
      have o := k3 i hi3
      have h2 : Own w10 3 1 (C i) (cl.getD i []).length (inC (cl.getD i [])) := o.touch T1 fun k hk hk2 => by
        rcases o.ne_own k2 (by decide) with h | h
        · rw [h] at hk; cases hk
        · exact h (hk.trans hk2.symm)
      exact h2.far (o.ne_blk k1 (by decide)) _
  · rcases hk with rfl | h | ⟨i, hi, h⟩
    · exact .inl ((k4 _).2 (.inl rfl))
    · rcases hat with e | e
      · rw [e] at h; exact .inl ((k4 k).2 (.inr (.inl h)))
      · rw [e] at h; injection h with h; exact .inr (by omega)
    · by_cases hi2 : i = cl.length
      · rw [if_pos hi2] at h; exact .inr (hvn k h)
      · rw [if_neg hi2] at h
        exact .inl ((k4 k).2 (.inr (.inr ⟨i, by simp at hi; omega, h⟩)))

def addR (n : Nat) (cl : List (List Int)) (c : List Int) : Int × Int × List (List Int) := if knownS n c = true then ((cl.length : Int), 0, cl ++ [c]) else (0, 1, cl)
abbrev ldRL : Op := Op.load 22 (.tmp 50)

section
variable {W w : World} {A : Ast} {xr xt n : Nat} {es : List En} {cl : List (List Int)}
set_option maxHeartbeats 4000000 in
theorem on_radd (hA : Solid A) (h : On W w (Tri A xr xt n es cl)) (hn : n ≤ 60) (hcl : cl.length ≤ 1000) (ao : Option Addr) (c : List Int) (cap : Nat) (hc : Ints w ao c) (hl : c.length ≤ 40) (hI : ∀ x ∈ c, I64 x) :
    Calls Try.prog 18 #[.pointer (some ⟨xr, 0, none⟩), .slice ao c.length cap] w fun e w' => e = .returned (.tuple #[.int .i64 (addR n cl c).1, .int .i64 (addR n cl c).2.1]) ∧ On W w' (Tri A xr xt n es (addR n cl c).2.2) := by
  obtain ⟨i3, hi3, hz0, hz1, hz2⟩ := info_parts (P := Try.prog) (e := 3) (z := .int .i64 0) (size := 1) (bytes := 8) (by kernel_rfl)
  obtain ⟨iS, hiS, hs0, hs1, hs2⟩ := info_parts (P := Try.prog) (e := 23) (z := .slice none 0 0) (size := 1) (bytes := 24) (by kernel_rfl)
  obtain ⟨T, hT⟩ : ∃ T, T = addR n cl c := ⟨_, rfl⟩
  rw [← hT]
  obtain ⟨R, hR⟩ : ∃ R, R = knownS n c := ⟨_, rfl⟩
  unfold addR at hT
  rw [← hR] at hT
  have HT := Lib.hid hT
  have HR := Lib.hid hR
  have HC := Lib.hid hc
  have HI := Lib.hid hI
  have HOn : Hid (∀ w2, Below w.heap.size w w2 → On W w2 (Tri A xr xt n es cl)) := Lib.hid fun w2 hb => On.below (triSolid hA ..) h hb
  have HCells : Hid (∀ w2, Below w.heap.size w w2 → w2.cell? ⟨xr, 0, none⟩ = some (.pointer (some ⟨xt, 0, none⟩)) ∧ w2.cell? ⟨xt, 0, none⟩ = some (.int .i64 n)) := Lib.hid fun w2 hb => by
    have h2 := On.below (triSolid hA ..) h hb
    obtain ⟨F, ⟨⟨v, k1, _⟩, _⟩, _⟩ := (triT hA xr xt cl).use h2
    obtain ⟨F', ⟨vL, C, j1, _⟩, _⟩ := (triW hA xt n es).use h2
    exact ⟨j1.cell 0, k1.cell 0⟩
  have hwn : IntKind.i64.wrap (-(n : Int)) = -(n : Int) := by rw [IntKind.wrap_i64]; omega
  clear h hR hT hc hI
  go_enter Try.func18, Try.ntmps18
  go_wp2_with fail
  go_loopw [6] (fun s wr => ∃ k : Nat, k ≤ c.length ∧ s = .int .i64 k ∧ Hid (∀ x ∈ c.take k, 1 ≤ x.natAbs ∧ x.natAbs ≤ n) ∧ Hid (Below w.heap.size w wr)) (fun s _ => c.length - (intOf s).toNat)
  case atStart => exact ⟨0, by omega, rfl, Lib.hid (fun x hx => by simp at hx), Lib.hid (Below.refl _ _)⟩
  case round =>
    obtain ⟨k, hk, rfl, HK, HB⟩ := hrel
    obtain ⟨hcx, hct⟩ := HCells.out wr HB.out
    by_cases hlt : k < c.length
    · have hki : (k : Int) < (c.length : Int) := by omega
      obtain ⟨b, off, rfl, hbl, hcc⟩ := HC.out (by omega)
      have hck : wr.cell? ⟨b, off + k, none⟩ = some (.int .i64 c[k]) := (World.cell?_of_block (w := w) (HB.out.block b hbl)).trans (hcc k hlt)
      have hmem : c[k] ∈ c := List.getElem_mem hlt
      have hnext : (1 ≤ c[k].natAbs ∧ c[k].natAbs ≤ n) → ∀ x ∈ c.take (k + 1), 1 ≤ x.natAbs ∧ x.natAbs ≤ n := fun hh x hx => by
        rw [List.take_succ_eq_append_getElem hlt, List.mem_append] at hx
        rcases hx with hx | hx
        · exact HK.out x hx
        · simp at hx; subst hx; exact hh
      have hbad : ¬ (1 ≤ c[k].natAbs ∧ c[k].natAbs ≤ n) → R = false := fun hh => by
        rw [HR.out]
        cases he : knownS n c with
        | false => rfl
        | true =>
          have := List.all_eq_true.1 he _ hmem
          simp only [decide_eq_true_eq] at this
          exact absurd this hh
      have HN := Lib.hid hnext
      have HBad := Lib.hid hbad
      generalize c[k] = x at *
      clear hcc hmem hnext hbad
      by_cases hok : 1 ≤ x.natAbs ∧ x.natAbs ≤ n
      · have f1 : (x == 0) = false := by simp; omega
        have f2 : decide ((n : Int) < x) = false := by simp; omega
        have f3 : decide (x < -(n : Int)) = false := by simp; omega
        have HN2 := Lib.hid (HN.out hok)
        clear hok
        go_wp2_with fail
        go_quiet (fail)
        go_wp2_with fail
        go_roundw
        case rel => exact ⟨k + 1, by omega, by go_num, HN2, Lib.hid (bel_drewN HB.out nq)⟩
        case measure => simp [intOf]; omega
      · have hR0 := HBad.out hok
        obtain rfl : T = (0, 1, cl) := by rw [HT.out, hR0]; rfl
        have hOn := HOn.out wr HB.out
        have HOq : Hid (∀ m, On W (wr.drewN m) (Tri A xr xt n es cl)) := Lib.hid fun m => HOn.out _ (bel_drewN HB.out m)
        clear hR0 hOn
        rcases (by omega : x = 0 ∨ (x ≠ 0 ∧ (n : Int) < x) ∨ (x ≠ 0 ∧ ¬ (n : Int) < x ∧ x < -(n : Int))) with hx | ⟨hx, hy⟩ | ⟨hx, hy, hz⟩
        · have f1 : (x == 0) = true := by simpa using hx
          go_wp2_with fail
          go_quiet (fail)
          have hF := HOq.out nq
          go_wp2_with fail
          go_ret2
          exact ⟨rfl, hF⟩
        · have f1 : (x == 0) = false := by simpa using hx
          have f2 : decide ((n : Int) < x) = true := by simpa using hy
          go_wp2_with fail
          go_quiet (fail)
          have hF := HOq.out nq
          go_wp2_with fail
          go_ret2
          exact ⟨rfl, hF⟩
        · have f1 : (x == 0) = false := by simpa using hx
          have f2 : decide ((n : Int) < x) = false := by simpa using hy
          have f3 : decide (x < -(n : Int)) = true := by simpa using hz
          go_wp2_with fail
          go_quiet (fail)
          have hF := HOq.out nq
          go_wp2_with fail
          go_ret2
          exact ⟨rfl, hF⟩
    · obtain rfl : k = c.length := by omega
      have hRt : R = true := by
        rw [HR.out]
        refine List.all_eq_true.2 fun x hx => ?_
        have := HK.out x (by rw [List.take_length]; exact hx)
        simpa using this
      obtain rfl : T = ((cl.length : Int), 0, cl ++ [c]) := by rw [HT.out, hRt]; rfl
      have hOn := HOn.out wr HB.out
      obtain ⟨F, hP, hgo⟩ := (triW hA xt n es).use hOn
      obtain ⟨vL, C, k1, k2, k3, k4⟩ := hP
      obtain ⟨aoL, capL, eL, _, _, _⟩ := k2.form
      have hone : ∀ u ∈ rowV cl.length C, u.oneCell' = true := fun u hu => by
        unfold rowV at hu
        obtain ⟨i, hi, rfl⟩ := List.mem_map.1 hu
        obtain ⟨_, _, e, _⟩ := (k3 i (List.mem_range.1 hi)).form
        rw [e]
        rfl
      have HOne := Lib.hid hone
      have HAp : Hid (∀ w6 ao1 cap1 w10 v', Below wr.heap.size wr w6 → Own w6 3 1 (.slice ao1 c.length cap1) c.length (inC c) → (∀ k, (Value.slice ao1 c.length cap1).ownBlock = some k → wr.heap.size ≤ k) → Own w10 23 1 v' (cl.length + 1) (rowV cl.length C ++ [.slice ao1 c.length cap1]) →
          (w6.alloc (.cells #[.slice ao1 c.length cap1] 23)).grownBy w10 (Value.slice aoL cl.length capL).ownBlock → (v'.ownBlock = (Value.slice aoL cl.length capL).ownBlock ∨ v'.ownBlock = some (w6.alloc (.cells #[.slice ao1 c.length cap1] 23)).heap.size) →
          w10.cell? ⟨xr, 1, none⟩ = some (.slice aoL cl.length capL) ∧ w10.frozen? ⟨xr, 1, none⟩ = false ∧ Hid (On W (w10.setCell ⟨xr, 1, none⟩ v') (Tri A xr xt n es (cl ++ [c]))) ∧ ∃ b7 cap7, (w10.setCell ⟨xr, 1, none⟩ v').cell? ⟨xr, 1, none⟩ = some (.slice b7 (cl.length + 1) cap7)) := Lib.hid fun w6 ao1 cap1 w10 v' hb6 hv hvn ho hg hat => by
        rw [← eL] at hg hat
        have hal : Below w6.heap.size w6 (w6.alloc (.cells #[.slice ao1 c.length cap1] 23)) := (Below.refl _ _).alloc (Nat.le_refl _) _
        obtain ⟨r1, r2, r3⟩ := rwt_add k1 k2 k3 k4 hb6 hv hvn hal ho hg hat
        have hO := hgo _ _ r3
        obtain ⟨F', ⟨v2, C2, j1, j2, _⟩, _⟩ := (triW hA xt n es).use hO
        obtain ⟨b7, cap7, e7, _⟩ := j2.form
        have j3 := j1.cell 1
        refine ⟨by rw [← eL]; exact r1, r2, Lib.hid hO, b7, cap7, ?_⟩
        rw [j3]
        simp only [List.length_append, List.length_singleton] at e7
        rw [← e7]
        rfl
      have hcl1 : wr.cell? ⟨xr, 1, none⟩ = some (.slice aoL cl.length capL) := by rw [← eL]; exact k1.cell 1
      have HkL : Hid (∀ w2, Below wr.heap.size wr w2 → w2.cell? ⟨xr, 1, none⟩ = some (.slice aoL cl.length capL) ∧ Own w2 23 1 (.slice aoL cl.length capL) cl.length (rowV cl.length C)) := Lib.hid fun w2 hb => ⟨by rw [← eL]; exact (k1.below hb k1.lt).cell 1, by rw [← eL]; exact k2.below hb k2.lt⟩
      have HCw : Hid (∀ w2, Below wr.heap.size wr w2 → Ints w2 ao c) := Lib.hid fun w2 hb => (HC.out.below HB.out).below hb
      clear hOn hgo k1 k2 k3 k4 eL hone hRt hcl1
      go_wp2_with fail
      rw [show Op.load 22 (Operand.tmp 50) = ldRL from rfl]
      obtain ⟨w0, hw0⟩ : ∃ w0, w0 = wr.drew := ⟨_, rfl⟩
      have hb0 : Below wr.heap.size wr wr.drew := bel_drewN (Below.refl _ _) 1
      obtain ⟨l0, o0⟩ := HkL.out _ hb0
      have hbE : Below wr.heap.size wr (wr.drew.alloc (.cells #[] 3)) := hb0.alloc hb0.size _
      obtain ⟨l1, o1⟩ := HkL.out _ hbE
      have l1b : (wr.alloc (.cells #[] 3)).cell? ⟨xr, 1, none⟩ = some (.slice aoL cl.length capL) := l1
      clear hw0
      have HA1 : Hid (∀ ao2 cap2 w10, Own w10 3 1 (.slice ao2 (0 + c.length) cap2) (0 + c.length) ([] ++ inC c) → (wr.drew.alloc (.cells #[] 3)).grownBy w10 (Value.slice (some ⟨wr.heap.size, 0, none⟩) 0 0).ownBlock →
          ((Value.slice ao2 (0 + c.length) cap2).ownBlock = (Value.slice (some ⟨wr.heap.size, 0, none⟩) 0 0).ownBlock ∨ (Value.slice ao2 (0 + c.length) cap2).ownBlock = some (wr.drew.alloc (.cells #[] 3)).heap.size) →
          Below wr.heap.size wr w10 ∧ Own w10 3 1 (.slice ao2 c.length cap2) c.length (inC c) ∧ ∀ k, (Value.slice ao2 c.length cap2).ownBlock = some k → wr.heap.size ≤ k) := Lib.hid fun ao2 cap2 w10 ho hg hat => by
        rw [Nat.zero_add, List.nil_append] at ho
        rw [Nat.zero_add] at hat
        have hg0 : ∀ k, (Value.slice (some ⟨wr.heap.size, 0, none⟩) 0 0).ownBlock = some k → wr.heap.size ≤ k := fun k hk => by
          simp [Value.ownBlock] at hk
          omega
        refine ⟨hbE.grown hg hbE.size hg0, ho, fun k hk => ?_⟩
        rcases hat with e | e
        · rw [e] at hk; exact hg0 k hk
        · rw [e] at hk
          injection hk with hk
          have := hbE.size
          omega
      have hwl : IntKind.i64.wrap (cl.length : Int) = (cl.length : Int) := by rw [IntKind.wrap_i64]; omega
      go_region_held3 (fun _ => True) (trivial)
        ((first
          | (refine step_append_S _ (by rfl) (.tmp 52) (.tmp 53) _ _ (by rfl) 3 i3 _ 1 8 Try.underlying23 hi3 hz0 hz1 hz2 rfl (by omega) (.slice (some ⟨wr.heap.size, 0, none⟩) 0 0) 0 [] (by rfl) (Own.made wr.drew 3 1 #[] 0 rfl (by simp)) (by simp) _ c.length (inC c) (by rfl) (ints_src cap (HCw.out _ hbE)) (by simp only [maxLen]; omega) (by omega) ?_; intro ao2 cap2 w10 hn2 hm2 hown2 hg2 hat2 hlt2; obtain ⟨hb10, hv10, hn10⟩ := HA1.out _ _ _ hown2 hg2 hat2; obtain ⟨l2, _⟩ := HkL.out _ hb10; obtain ⟨l3, o3⟩ := HkL.out _ (hb10.alloc hb10.size (.cells #[.slice ao2 c.length cap2] 23)); clear hown2 hg2 hat2 hlt2 hn2 hm2)
          | (refine step_append_S _ (by rfl) (.tmp 51) (.tmp 55) _ _ (by rfl) 23 iS _ 1 24 Try.underlying22 hiS hs0 hs1 hs2 rfl (by omega) (.slice aoL cl.length capL) cl.length (rowV cl.length C) (by rfl) o3 HOne.out _ 1 [_] (by rfl) (src_new w10 Try.underlying22 23 _ rfl) (by simp only [maxLen]; omega) (by omega) ?_; intro ao3 cap3 w11 hn3 hm3 hown3 hg3 hat3 hlt3; obtain ⟨q1, q2, HF, b7, cap7, q3⟩ := HAp.out w10 ao2 cap2 w11 _ hb10 hv10 hn10 hown3 hg3 hat3; clear hown3 hg3 hat3 hlt3 hn3 hm3)))
      all_goals
        go_wp2_with fail
        go_ret2
        exact ⟨rfl, HF.out⟩
end

end Go.Proofs.Ytnachllhjojlcaa
