/- append(x, make([]T, n)...); the walk of SatYes. -/
import Derived.Test.YtoainmkebdpikaaGq
namespace Go.Proofs.Ytoainmkebdpikaa
open Go.ChangeShapes Go.WideShapes Go.ChangeAt Go.RowKit Go.Maps Go.Deep
set_option maxRecDepth 100000

section
variable {P : Program} (w : World)
theorem toList_zeroCells (z : Value) (n : Nat) : Builtin.zeroCells #[z] n = (List.replicate n z).toArray := by
  apply Array.ext'
  apply List.ext_getElem?
  intro i
  simp only [Builtin.zeroCells]
  by_cases h : i < n
  · simp [h, Nat.mod_one]
  · simp [h]
theorem run_append_room_Z (t tx ty e : TypeId) (i : TypeInfo) (z : Value) (kk : IntKind) (ht : P.underlying t = some (.slice e)) (htx : P.underlying tx = some (.int kk)) (hi : P.info? e = some i) (hz : i.zero = some z) (hsize : i.size = 1) (hb1 : i.bytes = 1) (hz1 : z.cells = #[z]) (hzo : z.oneCell' = true)
    (b off sLen sCap m : Nat) (hm0 : 0 < m) (hm : m ≤ 1000000) (hroom : sLen + m ≤ sCap) (hc : ∀ j, j < m → (w.cell? ⟨b, off + sLen + j, none⟩).isSome = true) (hf : ∀ j, j < m → w.frozen? ⟨b, off + sLen + j, none⟩ = false) :
    (Builtin.append_ #[t, tx] ty #[.slice (some ⟨b, off, none⟩) sLen sCap, .int .i64 m]).run P w = .ok (.slice (some ⟨b, off, none⟩) (sLen + m) sCap) (w.setCells b (off + sLen) (List.replicate m z)) := by
  have hst := run_storeCells_cells (P := P) b (off + sLen) (List.replicate m z) 0 w (by simpa using hc) (by simpa using hf) (by simp only [List.mem_replicate]; rintro u ⟨_, rfl⟩; exact hzo)
  simp only [Nat.add_zero] at hst
  have hw : IntKind.i64.wrap (m : Int) = m := by rw [IntKind.wrap_i64]; omega
  have h1 : ¬ ((m : Int) < 0) := by omega
  have h2 : ¬ (281474976710656 < (m : Int)) := by omega
  have h3 : ¬ m = 0 := by omega
  have hai : ∀ W : World, (asIntOf (.int .i64 (m : Int))).run P W = .ok (IntKind.i64, (m : Int)) W := fun _ => rfl
  simp [hai, Builtin.append_, run_underlying ht, run_underlying htx, sizeOf, typeInfo, hi, hsize, hb1, asInt, hw, h2, h3, hroom, zeroValue, hz, hz1, toList_zeroCells, Addr.add_lit, hst]
  intro h; omega
theorem run_append_grow_Z (t tx ty e : TypeId) (i : TypeInfo) (z : Value) (kk : IntKind) (ht : P.underlying t = some (.slice e)) (htx : P.underlying tx = some (.int kk)) (hi : P.info? e = some i) (hz : i.zero = some z) (hsize : i.size = 1) (hb1 : i.bytes = 1) (hz1 : z.cells = #[z])
    (base : Option Addr) (sLen sCap m : Nat) (olds : List Value) (hold : (Builtin.firstCells 1 sLen (.slice base sLen sCap)).run P w.drew = .ok olds.toArray w.drew) (hm0 : 0 < m) (hm : m ≤ 1000000) (hs : sLen ≤ 1000000) (hg : sCap < sLen + m) :
    (Builtin.append_ #[t, tx] ty #[.slice base sLen sCap, .int .i64 m]).run P w =
      .ok (.slice (some ⟨w.heap.size, 0, none⟩) (sLen + m) (grownCap w (sLen + m) sCap e))
        (w.drew.alloc (.cells ((olds ++ List.replicate m z).toArray ++ Builtin.zeroCells z.cells (grownCap w (sLen + m) sCap e - (sLen + m))) e)) := by
  have hn : ¬ (sLen + m ≤ sCap) := by omega
  have h63' : ¬ (9223372036854775807 < ((sLen : Int) + (m : Int))) := by omega
  have hfit := growslice_fits (need := sLen + m) (old := sCap) (bytes := 1) hg (by omega)
  have h48' : ¬ (281474976710656 < Builtin.nextslicecap (sLen + m) sCap) := by omega
  have hw : IntKind.i64.wrap (m : Int) = m := by rw [IntKind.wrap_i64]; omega
  have h1 : ¬ ((m : Int) < 0) := by omega
  have h2 : ¬ (281474976710656 < (m : Int)) := by omega
  have h3 : ¬ m = 0 := by omega
  have hai : ∀ W : World, (asIntOf (.int .i64 (m : Int))).run P W = .ok (IntKind.i64, (m : Int)) W := fun _ => rfl
  simp [hai, Builtin.append_, run_underlying ht, run_underlying htx, sizeOf, typeInfo, hi, hsize, hb1, asInt, hw, h2, h3, hn, h63', h48', zeroValue, hz, hz1, toList_zeroCells, Question.forced, hold, newRow, grownCap]
  rw [if_neg h1]
  congr 3
  apply Array.ext'
  simp [List.replicate_append_replicate]

theorem run_append_Z (t tx ty e : TypeId) (i : TypeInfo) (z : Value) (kk : IntKind) (ht : P.underlying t = some (.slice e)) (htx : P.underlying tx = some (.int kk)) (hi : P.info? e = some i) (hz : i.zero = some z) (hsize : i.size = 1) (hb1 : i.bytes = 1) (hz1 : z.cells = #[z]) (hzo : z.oneCell' = true)
    (ao : Option Addr) (n cap m : Nat) (xs : List Value) (hown : Own w e 1 (.slice ao n cap) n xs) (h0 : ∀ u ∈ xs, u.oneCell' = true) (hm0 : 0 < m) (hm : m ≤ 1000000) (hn : n ≤ 1000000) :
    ∃ ao' cap' w', (Builtin.append_ #[t, tx] ty #[.slice ao n cap, .int .i64 m]).run P w = .ok (.slice ao' (n + m) cap') w' ∧ Own w' e 1 (.slice ao' (n + m) cap') (n + m) (xs ++ List.replicate m z) ∧ w.grownBy w' (Value.slice ao n cap).ownBlock ∧
      ((Value.slice ao' (n + m) cap').ownBlock = (Value.slice ao n cap).ownBlock ∨ (Value.slice ao' (n + m) cap').ownBlock = some w.heap.size) := by
  have hxl : xs.length = n := by simpa using hown.1
  have hlen : (xs ++ List.replicate m z).length = (n + m) * 1 := by simp [hxl]
  have grown : ∀ old : Nat, old < n + m →
      Own (w.drew.alloc (.cells ((xs ++ List.replicate m z).toArray ++ Builtin.zeroCells z.cells (grownCap w (n + m) old e - (n + m))) e)) e 1
        (.slice (some ⟨w.heap.size, 0, none⟩) (n + m) (grownCap w (n + m) old e)) (n + m) (xs ++ List.replicate m z) := by
    intro old ho
    have hge := grownCap_ge w (n + m) old e
    have hcm : grownCap w (n + m) old e ≤ maxLen := grownCap_le_maxLen w (n + m) old e (by simp only [maxLen]; omega)
    refine ⟨hlen, .inr ⟨w.heap.size, 0, _, _, rfl, Blk.new w.drew e _, hge, hcm, ?_, fun j hj => ?_⟩⟩
    · simp only [Array.size_append, List.size_toArray, size_zeroCells, hz1, hlen]
      simp
      omega
    · simp only [Nat.zero_add]
      rw [Array.getElem?_append_left (by simpa using hj)]
      simp
  have hgr : ∀ (o : Obj) (r : Option Nat), w.grownBy (w.drew.alloc o) r := fun o r => ⟨rfl, rfl, rfl, by simp, fun k hk _ => Below.heap_alloc w.drew _ k hk⟩
  rcases hown.2 with ⟨hv, hn0⟩ | ⟨g, off, cap2, cur, hv, hb, hnc, hcm, hcs, hcell⟩
  · injection hv with e1 e2 e3
    subst e1 e2 e3
    have hx : xs = [] := List.eq_nil_of_length_eq_zero hxl
    subst hx
    have hold : (Builtin.firstCells 1 0 (.slice none 0 0)).run P w.drew = .ok ([] : List Value).toArray w.drew := run_firstCells_none w.drew 1 0 0 0
    exact ⟨_, _, _, run_append_grow_Z w t tx ty e i z kk ht htx hi hz hsize hb1 hz1 none 0 0 m [] hold hm0 hm (by omega) (by omega), grown 0 (by omega), hgr _ _, .inr rfl⟩
  · injection hv with e1 e2 e3
    subst e1 e3
    by_cases hroom : n + m ≤ cap
    · have hr := run_append_room_Z w t tx ty e i z kk ht htx hi hz hsize hb1 hz1 hzo g off n cap m hm0 hm hroom (fun j hj => by rw [hb.cell, Array.getElem?_eq_getElem (by omega)]; rfl) (fun j _ => hb.frozen _)
      refine ⟨_, _, _, hr, ⟨hlen, .inr ⟨g, off, cap, _, rfl, hb.setCells _ (off + n), hroom, hcm, by rw [size_putCells]; exact hcs, fun j hj => ?_⟩⟩,
        ⟨World.os_setCells w g _ _, tape_setCells g _ _ w, World.output_setCells w g _ _, by rw [size_setCells]; exact Nat.le_refl _, fun k hk hne => World.heap_setCells_other w g _ _ hk (fun e => hne (by rw [e]; rfl))⟩, .inl rfl⟩
      rw [get_putCells _ _ cur _ (by simp; omega)]
      rw [hlen] at hj
      by_cases hj2 : j < xs.length
      · rw [if_neg (by omega), List.getElem?_append_left hj2]
        exact hcell j hj2
      · rw [if_pos (by simp; omega), List.getElem?_append_right (by omega)]
        congr 1
        omega
    · have hold : (Builtin.firstCells 1 n (.slice (some ⟨g, off, none⟩) n cap)).run P w.drew = .ok xs.toArray w.drew :=
        (Own.src (P := P) (tx := t) (w := w.drew) hown.drew ht h0).cells
      exact ⟨_, _, _, run_append_grow_Z w t tx ty e i z kk ht htx hi hz hsize hb1 hz1 _ n cap m xs hold hm0 hm hn (by omega), grown cap (by omega), hgr _ _, .inr rfl⟩
theorem wpList_append_Z {ops : Array Oper} {rest : List Oper} {o : Oper} {a : Act} {Q : Exit → Act → World → Prop} (hgd : o.guard = none) (s sx : Operand) (t tx : TypeId)
    (ho : o.op = .call { callee := .builtin .append, args := #[s, sx], argTypes := #[t, tx] })
    (e : TypeId) (i : TypeInfo) (z : Value) (kk : IntKind) (ht : P.underlying t = some (.slice e)) (htx : P.underlying tx = some (.int kk)) (hi : P.info? e = some i) (hz : i.zero = some z) (hsize : i.size = 1) (hb1 : i.bytes = 1) (hz1 : z.cells = #[z]) (hzo : z.oneCell' = true)
    (ao : Option Addr) (n cap m : Nat) (xs : List Value) (hv : a.eval s = .slice ao n cap) (hown : Own w e 1 (.slice ao n cap) n xs) (h0 : ∀ u ∈ xs, u.oneCell' = true) (hx : a.eval sx = .int .i64 m) (hm0 : 0 < m) (hm : m ≤ 1000000) (hn : n ≤ 1000000)
    (h : ∀ ao' cap' w', Own w' e 1 (.slice ao' (n + m) cap') (n + m) (xs ++ List.replicate m z) → w.grownBy w' (Value.slice ao n cap).ownBlock →
      ((Value.slice ao' (n + m) cap').ownBlock = (Value.slice ao n cap).ownBlock ∨ (Value.slice ao' (n + m) cap').ownBlock = some w.heap.size) → wpList P ops Q rest (a.put o.dst (.slice ao' (n + m) cap')) w') :
    wpList P ops Q (o :: rest) a w := by
  refine wpList_plain hgd fun _ hK => ?_
  obtain ⟨ao', cap', w', hrun, h2, h3, h4⟩ := run_append_Z (P := P) w t tx o.type e i z kk ht htx hi hz hsize hb1 hz1 hzo ao n cap m xs hown h0 hm0 hm hn
  unfold Oper.wp execOp
  simp only [ho, resolve, invoke, builtin, Sem.run_bind, Sem.run_pure, Result.andThen_ok, List.map_toArray, List.map_cons, List.map_nil, hv, hx, hrun]
  exact hK _ _ (h ao' cap' w' h2 h3 h4)
end

theorem bools_src {w : World} {ao : Option Addr} {cap : Nat} {l : List Bool} (h : Bools w ao l) : Src Try.prog 1 28 (.slice ao l.length cap) l.length (boC l) w := by
  by_cases h0 : 0 < l.length
  · obtain ⟨b, off, rfl, _, hc⟩ := h h0
    refine Src.ofSlice w Try.underlying28 ⟨b, off, none⟩ l.length cap (boC l) (by simp [boC]) (fun j u hu => ?_) (fun u hu => ?_)
    · have hj : j < l.length := by have := (List.getElem?_eq_some_iff.1 hu).1; simpa [boC] using this
      rw [add_plain, hc j hj]
      simpa [boC, hj] using hu
    · obtain ⟨b, _, rfl⟩ := List.mem_map.1 hu
      rfl
  · obtain rfl : l = [] := List.eq_nil_of_length_eq_zero (by omega)
    cases ao with
    | none => exact Src.ofNil w Try.underlying28 cap
    | some a => exact Src.ofSlice w Try.underlying28 a 0 cap [] rfl (fun j u hu => by simp at hu) (fun u hu => by cases hu)
theorem bools_take {w : World} {ao : Option Addr} {l : List Bool} (n : Nat) (h : Bools w ao l) : Bools w ao (l.take n) := fun h0 => by
  obtain ⟨b, off, rfl, hbl, hc⟩ := h (by rw [List.length_take] at h0; omega)
  refine ⟨b, off, rfl, hbl, fun j hj => ?_⟩
  rw [List.getElem_take]
  exact hc j (by rw [List.length_take] at hj; omega)
theorem own_bools {w : World} {ao : Option Addr} {n cap : Nat} {l : List Bool} (h : Own w 4 1 (.slice ao n cap) l.length (boC l)) : Bools w ao l := by
  obtain ⟨ao', cap', e, hb⟩ := h.bools
  injection e with e1 _ _
  exact e1 ▸ hb
theorem own_cap {w : World} {e : TypeId} {s : Nat} {ao : Option Addr} {n cap : Nat} {xs : List Value} (h : Own w e s (.slice ao n cap) n xs) : n ≤ cap := by
  obtain ⟨ao', cap', e, hn, _⟩ := h.form
  injection e with _ _ e3
  omega
theorem boC_one (l : List Bool) : ∀ u ∈ boC l, u.oneCell' = true := fun u hu => by
  obtain ⟨b, _, rfl⟩ := List.mem_map.1 hu
  rfl

set_option maxHeartbeats 2000000 in
theorem yes_walk (vars : Int) (aoc : Option Addr) (cl : List (List Int)) (capc : Nat) (av : Nat → Option Addr) (cv : Nat → Nat) (ao : Option Addr) (st : List Bool) (cap : Nat) (w : World) (hc : IsRows w aoc cl av cv) (hs : Bools w ao st) (hcap : st.length ≤ cap) :
    Calls Try.prog 6 #[.int .i64 vars, .slice aoc cl.length capc, .slice ao st.length cap] w fun e w' => e = .returned (.bool true) ∧ Below w.heap.size w w' := by
  have HM : Hid (∀ w', Below w.heap.size w w' → Calls Try.prog 19 #[.int .i64 vars, .slice aoc cl.length capc] w' fun e w'' => e = .returned (.bool (mayE vars cl)) ∧ w' = w'') := Lib.hid fun w' hb => may_any vars cl aoc capc av cv w' (hc.below hb)
  by_cases hm : mayE vars cl = false
  · rw [hm] at HM
    clear hc hm hs
    go_enter Try.func6, Try.ntmps6
    go_wp2_with (first
      | (go_at_call 19; (with_reducible refine (HM.out _ hb1).mono ?_); rintro e w2 ⟨rfl, rfl⟩; have Hd := Lib.hid hb1; clear hb1)
      | (go_at_call 11; (with_reducible refine (awake_any _).mono ?_); rintro e w1 ⟨rfl, hb1⟩))
    go_ret
    exact ⟨rfl, bel_trans Hd.out hb1⟩
  have hm' : mayE vars cl = true := by simpa using hm
  obtain ⟨n, rfl, hn, k2, k3, hk⟩ := mayE_yes hm'
  rw [hm'] at HM
  by_cases h1 : (1000 : Int) < (st.length : Int)
  · have h1d : decide ((1000 : Int) < (st.length : Int)) = true := by simpa using h1
    clear hc hm hm' hs hk k3
    go_enter Try.func6, Try.ntmps6
    go_wp2_with (first
      | (go_at_call 19; (with_reducible refine (HM.out _ hb1).mono ?_); rintro e w2 ⟨rfl, rfl⟩; have Hd := Lib.hid hb1; clear hb1)
      | (go_at_call 11; (with_reducible refine (awake_any _).mono ?_); rintro e w1 ⟨rfl, hb1⟩))
    go_ret
    exact ⟨rfl, bel_trans Hd.out hb1⟩
  have h1d : decide ((1000 : Int) < (st.length : Int)) = false := by simpa using h1
  have HE := Lib.hid (fun w' => senough_any n (by omega) w')
  obtain ⟨e0, e1⟩ := enough_bounds n hn
  have hst : ((solveE n cl).steps : Int) ≤ enoughE n := by
    rcases solve_steps n hk with h | h
    · exact h
    · omega
  have HG : Hid (GoodAt w n aoc cl capc (solveE n cl)) := Lib.hid fun w' budget hb h => solve_good hn (hc.below hb) (by omega) k3 hk budget h
  have hlens : ∀ c ∈ cl, c.length ≤ 1000000 := fun c hc => by have := k3 c hc; omega
  have hI : ∀ c ∈ cl, ∀ x ∈ c, I64 x := fun c hc x hx => by
    have := knownS_mem (List.all_eq_true.1 hk c hc) x hx
    unfold I64
    omega
  have HHo : Hid (∀ w' (l : List Bool) a c, Below w.heap.size w w' → Bools w' a l → l.length = n → Calls Try.prog 17 #[.slice a n c, .slice aoc cl.length capc] w' fun e w'' => e = .returned (.bool (holdsCl l cl)) ∧ Below w'.heap.size w' w'') := Lib.hid fun w' l a c hb hB hl => by
    have := sholds_any l a c cl aoc capc av cv w' hB (by omega) (hc.below hb) (by omega) hlens hI
    rwa [hl] at this
  have hok := (solve_ok n cl (List.all_eq_true.1 hk)).2
  cases hy : (solveE n cl).yes with
  | true =>
    obtain ⟨y1, y2, _⟩ := hok.yes hy
    have hh : holdsCl (solveE n cl).state cl = true := (holdsCl_iff (by rw [y1]; exact hk)).2 y2
    generalize enoughE n = E at *
    generalize solveE n cl = A at *
    obtain ⟨yes, state, steps, bonds, last⟩ := A
    simp only at hy y1 hh hst
    subst hy
    have HH := Lib.hid hh
    have HY := Lib.hid y1
    have HS := Lib.hid (show ∀ l : List Bool, True from fun _ => trivial)
    clear hc hm hm' hs hk k3 hok y2 hlens hI hh HS
    go_enter Try.func6, Try.ntmps6
    go_upto_region 4 with (first
      | (go_at_call 11; (with_reducible refine (awake_any _).mono ?_); rintro e w1 ⟨rfl, hb1⟩)
      | (go_at_call 19; (with_reducible refine (HM.out _ hb1).mono ?_); rintro e w2 ⟨rfl, rfl⟩)
      | (go_at_call 18; (with_reducible refine (HE.out _).mono ?_); rintro e w2 ⟨rfl, rfl⟩)
      | (go_at_call 13; (with_reducible refine (HG.out _ E hb1 ⟨hst, e1⟩).mono ?_); rintro e w3 ⟨hb3, a1, c1, a2, c2, a3, c3, rfl, hA⟩))
    have hb4 : Below w3.heap.size w3 (w3.alloc (.cells #[.bool true, .slice a1 n c1, .int .i64 steps, .slice a2 bonds.length c2, .slice a3 0 c3] 30)) := (Below.refl _ _).alloc (Nat.le_refl _) _
    have hs4 := (ans_state hA).below hb4
    have HB4 := Lib.hid (bel_trans (bel_trans hb1 hb3) hb4)
    have HS4 := Lib.hid hs4
    clear hb4 hs4 hA hb1 hb3
    go_wp2_with (go_at_call 17; (with_reducible refine (HHo.out _ state a1 c1 HB4.out HS4.out HY.out).mono ?_); rintro e w5 ⟨rfl, hb5⟩)
    go_ret
    exact ⟨by rw [HH.out]; rfl, bel_trans HB4.out hb5⟩
  | false =>
    have hno : ∀ l : List Bool, l.length = n → holdsCl l cl = false := fun l hl => by
      cases hh : holdsCl l cl with
      | false => rfl
      | true =>
        have := (solve_yes hk).2 ⟨l, hl, hh⟩
        rw [hy] at this
        cases this
    generalize enoughE n = E at *
    generalize solveE n cl = A at *
    obtain ⟨yes, state, steps, bonds, last⟩ := A
    simp only at hy hst
    subst hy
    have HNo := Lib.hid hno
    have HSt := Lib.hid hs
    by_cases hL : st.length < n
    · have hLi : (st.length : Int) < (n : Int) := by omega
      obtain ⟨m, hm0, hLm⟩ : ∃ m, 0 < m ∧ st.length + m = n := ⟨n - st.length, by omega, by omega⟩
      have hwm : IntKind.i64.wrap ((n : Int) - (st.length : Int)) = (m : Int) := by rw [IntKind.wrap_i64]; omega
      have HLm := Lib.hid hLm
      have hm12 : m ≤ 1000000 := by omega
      obtain ⟨iB, hiB, hz0, hz1, hz2⟩ := info_parts (P := Try.prog) (e := 4) (z := .bool false) (size := 1) (bytes := 1) (by kernel_rfl)
      clear hc hm hm' hs hk k3 hok hlens hI hno hLm
      go_enter Try.func6, Try.ntmps6
      go_upto_region 9 with (first
        | (go_at_call 11; (with_reducible refine (awake_any _).mono ?_); rintro e w1 ⟨rfl, hb1⟩)
        | (go_at_call 19; (with_reducible refine (HM.out _ hb1).mono ?_); rintro e w2 ⟨rfl, rfl⟩)
        | (go_at_call 18; (with_reducible refine (HE.out _).mono ?_); rintro e w2 ⟨rfl, rfl⟩)
        | (go_at_call 13; (with_reducible refine (HG.out _ E hb1 ⟨hst, e1⟩).mono ?_); rintro e w3 ⟨hb3, a1, c1, a2, c2, a3, c3, rfl, hA⟩))
      have hb4 : Below w3.heap.size w3 (w3.alloc (.cells #[.bool false, .slice a1 state.length c1, .int .i64 steps, .slice a2 bonds.length c2, .slice a3 last.length c3] 30)) := (Below.refl _ _).alloc (Nat.le_refl _) _
      obtain ⟨w4, hw4⟩ : ∃ w4, w4 = w3.alloc (.cells #[.bool false, .slice a1 state.length c1, .int .i64 steps, .slice a2 bonds.length c2, .slice a3 last.length c3] 30) := ⟨_, rfl⟩
      rw [← hw4] at hb4 ⊢
      have hB4 := bel_trans (bel_trans hb1 hb3) hb4
      have hb5 : Below w4.heap.size w4 (w4.alloc (.cells #[] 4)) := (Below.refl _ _).alloc (Nat.le_refl _) _
      have hO5 : Own (w4.alloc (.cells #[] 4)) 4 1 (.slice (some ⟨w4.heap.size, 0, none⟩) 0 0) 0 [] := Own.made w4 4 1 #[] 0 rfl (by decide)
      have hS5 := bools_src (cap := cap) (HSt.out.below (bel_trans hB4 hb5))
      have HB4 := Lib.hid hB4
      have HB5 := Lib.hid hb5
      clear hb4 hA hb1 hb3 hw4 hB4 hb5
      go_upto_region 10 with (first
        | (at_builtin; refine wpList_append_S _ rfl (.tmp 50) (.tmp 51) _ _ rfl 4 iB _ 1 1 Try.underlying28 hiB hz0 hz1 hz2 rfl (by omega) (.slice (some ⟨w4.heap.size, 0, none⟩) 0 0) 0 [] rfl hO5 (by simp) _ st.length (boC st) rfl hS5 (by simp only [maxLen]; omega) (by omega) ?_; intro ao6 cap6 w6 hn1 hm1 hown1 hg1 hat1 hlt1; simp only [Nat.zero_add, List.nil_append] at hown1 hat1)
        | (at_builtin; go_loud ((refine wpList_append_Z _ rfl (.tmp 52) (.tmp 56) _ _ rfl 4 iB _ .i64 Try.underlying28 Try.underlying3 hiB hz0 hz1 hz2 rfl rfl ao6 st.length cap6 m (boC st) rfl hown1 (boC_one st) rfl hm0 hm12 (by omega) ?_); intro ao7 cap7 w7 hown2 hg2 hat2; rw [HLm.out] at hown2 ⊢))
)
      have hbw5 := bel_trans HB4.out HB5.out
      have hbw6 : Below w.heap.size w w6 := hbw5.trans ⟨hg1.os, hg1.tape, hg1.output, hg1.size, fun k hk => hg1.block k (Nat.lt_of_lt_of_le hk hbw5.size) (by
        simp only [Value.ownBlock]
        intro e
        injection e with e
        have := HB4.out.size
        omega)⟩
      have hsz5 := HB5.out.size
      have hbw7 : Below w.heap.size w w7 := hbw6.trans ⟨hg2.os, hg2.tape, hg2.output, hg2.size, fun k hk => hg2.block k (Nat.lt_of_lt_of_le hk hbw6.size) (by
        intro e
        have := HB4.out.size
        rcases hat1 with h | h
        · rw [h] at e
          simp only [Value.ownBlock] at e
          injection e with e
          omega
        · rw [h] at e
          injection e with e
          omega)⟩
      have hlen : (st ++ List.replicate m false).length = n := by rw [List.length_append, List.length_replicate]; exact HLm.out
      have hown3 : Own w7 4 1 (.slice ao7 n cap7) (st ++ List.replicate m false).length (boC (st ++ List.replicate m false)) := by
        rw [hlen]
        have e : boC (st ++ List.replicate m false) = boC st ++ List.replicate m (.bool false) := by simp [boC]
        rw [e]
        exact hown2
      have hB8 := own_bools hown3
      have hn9 := own_cap hown2
      have hnc2 : (n : Int) ≤ (cap7 : Int) := by omega
      have HB7 := Lib.hid hbw7
      have HB8 := Lib.hid hB8
      have HLen := Lib.hid hlen
      clear hbw5 hbw6 hbw7 hsz5 hlen hown3 hown2 hown1 hB8 hg1 hg2 hat1 hat2 hlt1
      go_wp2_with (go_at_call 17; (with_reducible refine (HHo.out _ _ ao7 cap7 HB7.out HB8.out HLen.out).mono ?_); rintro e w8 ⟨rfl, hb8⟩)
      go_ret
      exact ⟨by rw [HNo.out _ HLen.out]; rfl, bel_trans HB7.out hb8⟩
    · have hLi : decide ((st.length : Int) < (n : Int)) = false := by simp; omega
      clear hc hm hm' hs hk k3 hok hlens hI hno
      go_enter Try.func6, Try.ntmps6
      go_upto_region 10 with (first
        | (go_at_call 11; (with_reducible refine (awake_any _).mono ?_); rintro e w1 ⟨rfl, hb1⟩)
        | (go_at_call 19; (with_reducible refine (HM.out _ hb1).mono ?_); rintro e w2 ⟨rfl, rfl⟩)
        | (go_at_call 18; (with_reducible refine (HE.out _).mono ?_); rintro e w2 ⟨rfl, rfl⟩)
        | (go_at_call 13; (with_reducible refine (HG.out _ E hb1 ⟨hst, e1⟩).mono ?_); rintro e w3 ⟨hb3, a1, c1, a2, c2, a3, c3, rfl, hA⟩))
      have hb4 : Below w3.heap.size w3 (w3.alloc (.cells #[.bool false, .slice a1 state.length c1, .int .i64 steps, .slice a2 bonds.length c2, .slice a3 last.length c3] 30)) := (Below.refl _ _).alloc (Nat.le_refl _) _
      obtain ⟨w4, hw4⟩ : ∃ w4, w4 = w3.alloc (.cells #[.bool false, .slice a1 state.length c1, .int .i64 steps, .slice a2 bonds.length c2, .slice a3 last.length c3] 30) := ⟨_, rfl⟩
      rw [← hw4] at hb4 ⊢
      have HB4 := Lib.hid (bel_trans (bel_trans hb1 hb3) hb4)
      have hnc : n ≤ cap := by omega
      have hnc2 : (n : Int) ≤ (cap : Int) := by omega
      have HTk : Hid ((st.take n).length = n) := Lib.hid (by rw [List.length_take]; omega)
      clear hb4 hA hb1 hb3 hw4
      go_wp2_with (go_at_call 17; (with_reducible refine (HHo.out _ (st.take n) ao cap HB4.out (bools_take n (HSt.out.below HB4.out)) HTk.out).mono ?_); rintro e w5 ⟨rfl, hb5⟩)
      go_ret
      exact ⟨by rw [HNo.out _ HTk.out]; rfl, bel_trans HB4.out hb5⟩

end Go.Proofs.Ytoainmkebdpikaa
