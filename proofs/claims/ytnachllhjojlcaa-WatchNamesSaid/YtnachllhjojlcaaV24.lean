/- WatchNames. -/
import Derived.Test.YtnachllhjojlcaaV20
namespace Go.Proofs.Ytnachllhjojlcaa
open Go.ChangeShapes Go.WideShapes Go.ChangeAt Go.RowKit Go.Maps Go.Deep
set_option maxRecDepth 100000

/-- Rows that are written out, one block each. -/
def cellsI (r : List Int) : Array Value := (r.map fun x => Value.int .i64 x).toArray
def lay : List (List Int) → World → World
  | [], w => w
  | r :: rs, w => lay rs (w.alloc (.cells (cellsI r) 3))
def outerA (s : Nat) (rows : List (List Int)) : Array Value := ((List.range rows.length).map fun k => Value.slice (some ⟨s + k, 0, none⟩) (rows.getD k []).length (rows.getD k []).length).toArray
theorem cellsI_get (r : List Int) (j : Nat) (hj : j < r.length) : (cellsI r)[j]? = some (.int .i64 r[j]) := by simp [cellsI, hj]
theorem lay_facts : ∀ (rows : List (List Int)) (w : World), (lay rows w).heap.size = w.heap.size + rows.length ∧ Below w.heap.size w (lay rows w) ∧ ∀ k (hk : k < rows.length), Blk (lay rows w) (w.heap.size + k) 3 (cellsI rows[k])
  | [], w => ⟨rfl, Below.refl _ _, fun k hk => by simp at hk⟩
  | r :: rs, w => by
    obtain ⟨h1, h2, h3⟩ := lay_facts rs (w.alloc (.cells (cellsI r) 3))
    have hs : (w.alloc (.cells (cellsI r) 3)).heap.size = w.heap.size + 1 := by simp
    have hb : Below w.heap.size w (w.alloc (.cells (cellsI r) 3)) := (Below.refl _ _).alloc (Nat.le_refl _) _
    rw [hs] at h1 h3
    refine ⟨?_, bel_new hb hb.size h2, fun k hk => ?_⟩
    · show (lay rs _).heap.size = _
      rw [h1]
      simp
      omega
    · match k, hk with
      | 0, _ => exact (Blk.new w 3 (cellsI r)).below h2 (by rw [hs]; omega)
      | k + 1, hk =>
        have := h3 k (by simpa using hk)
        rw [show w.heap.size + 1 + k = w.heap.size + (k + 1) by omega] at this
        exact this
theorem rows_lay {rows : List (List Int)} {w1 w4 : World} (h : w4 = (lay rows w1).alloc (.cells (outerA w1.heap.size rows) 23)) :
    Below w1.heap.size w1 w4 ∧ ∀ (wr : World) (F : Nat → Prop), snap w1 w4 wr F → ∀ k (hk : k < rows.length), wr.cell? ⟨w1.heap.size + rows.length, k, none⟩ = some (.slice (some ⟨w1.heap.size + k, 0, none⟩) rows[k].length rows[k].length) ∧ Ints wr (some ⟨w1.heap.size + k, 0, none⟩) rows[k] := by
  obtain ⟨h1, h2, h3⟩ := lay_facts rows w1
  have hb : Below (lay rows w1).heap.size (lay rows w1) w4 := by rw [h]; exact (Below.refl _ _).alloc (Nat.le_refl _) _
  have hs : w4.heap.size = w1.heap.size + rows.length + 1 := by rw [h]; simp [h1]
  have hB : Blk w4 (w1.heap.size + rows.length) 23 (outerA w1.heap.size rows) := by rw [h, ← h1]; exact Blk.new ..
  refine ⟨bel_new h2 h2.size hb, fun wr F hsn k hk => ⟨?_, ?_⟩⟩
  · rw [snap_cell hsn ⟨w1.heap.size + rows.length, k, none⟩ (by simp) (by simp only; omega), hB.cell k]
    have e : rows.getD k [] = rows[k] := by simp [List.getD, hk]
    simp [outerA, hk]
  · refine snap_ints hsn (by omega) (by omega) fun j hj => ?_
    rw [((h3 k hk).below hb (by omega)).cell j]
    exact cellsI_get _ _ hj

/-- A clause that is written out and added at once. -/
theorem add_lit {W w : World} {C : Ast → Ast} {x n t : Nat} {S S' : WS} (hC : Ctx C) (h : On W w (C (wat x n t S))) (hn : n ≤ 60) (ht : t ≤ 999) (c : List Int) (hl : c.length ≤ 40) (hI : ∀ y ∈ c, I64 y) {a b : Int} (hr : addS S c = (S', a, b)) :
    Calls Try.prog 12 #[.pointer (some ⟨x, 0, none⟩), .slice (some ⟨w.heap.size, 0, none⟩) c.length c.length] (w.alloc (.cells (cellsI c) 3)) fun e w' => e = .returned (.tuple #[.int .i64 a, .int .i64 b]) ∧ On W w' (C (wat x n (t + 1) S')) := by
  have hb : Below w.heap.size w (w.alloc (.cells (cellsI c) 3)) := (Below.refl _ _).alloc (Nat.le_refl _) _
  have hk := Blk.new w 3 (cellsI c)
  exact on_add' hC (h.below (hC.solid (Solid.wat ..)) hb) hn ht _ c c.length (fun _ => ⟨w.heap.size, 0, rfl, by simp, fun j hj => by rw [Nat.zero_add, hk.cell j]; exact cellsI_get _ _ hj⟩) hl hI hr
theorem add_lit3 {W w : World} {C : Ast → Ast} {x n t : Nat} {S S' : WS} (hC : Ctx C) (h : On W w (C (wat x n t S))) (hn : n ≤ 60) (ht : t ≤ 999) (p q r : Int) (hI : ∀ y ∈ [p, q, r], I64 y) {a b : Int} (hr : addS S [p, q, r] = (S', a, b)) :
    Calls Try.prog 12 #[.pointer (some ⟨x, 0, none⟩), .slice (some ⟨w.heap.size, 0, none⟩) 3 3] (w.alloc (.cells #[.int .i64 p, .int .i64 q, .int .i64 r] 3)) fun e w' => e = .returned (.tuple #[.int .i64 a, .int .i64 b]) ∧ On W w' (C (wat x n (t + 1) S')) :=
  add_lit hC h hn ht [p, q, r] (by simp) hI hr
theorem add_none {W w : World} {C : Ast → Ast} {x n t : Nat} {S S' : WS} (hC : Ctx C) (h : On W w (C (wat x n t S))) (hn : n ≤ 60) (ht : t ≤ 999) {a b : Int} (hr : addS S [] = (S', a, b)) :
    Calls Try.prog 12 #[.pointer (some ⟨x, 0, none⟩), .slice none 0 0] w fun e w' => e = .returned (.tuple #[.int .i64 a, .int .i64 b]) ∧ On W w' (C (wat x n (t + 1) S')) :=
  on_add' hC h hn ht none [] 0 (fun h => absurd h (by simp)) (by simp) (fun y hy => by simp at hy) hr

def nmRows : List (List Int) := [[0], [4], [-4], [1, 0], [1, -9223372036854775808], [1, 9223372036854775807]]
theorem nm_fit : ∀ r ∈ nmRows, r.length ≤ 40 ∧ ∀ y ∈ r, I64 y := by decide
theorem nm_rows : ∀ k (hk : k < nmRows.length), addS (newS 3) nmRows[k] = (newS 3, 0, 1) := fun k hk => by
  have h6 : k < 6 := hk
  match k, h6 with
  | 0, _ => show addS (newS 3) [0] = (newS 3, 0, 1); kernel_rfl
  | 1, _ => show addS (newS 3) [4] = (newS 3, 0, 1); kernel_rfl
  | 2, _ => show addS (newS 3) [-4] = (newS 3, 0, 1); kernel_rfl
  | 3, _ => show addS (newS 3) [1, 0] = (newS 3, 0, 1); kernel_rfl
  | 4, _ => show addS (newS 3) [1, -9223372036854775808] = (newS 3, 0, 1); kernel_rfl
  | 5, _ => show addS (newS 3) [1, 9223372036854775807] = (newS 3, 0, 1); kernel_rfl
def nT1 : WS := (addS (newS 3) [1, 1, 1]).1
def nT2 : WS := (addS nT1 [2, -2]).1
def nT3 : WS := (propS nT2).1
def nT4 : WS := (decS nT3 1).1
def nT5 : WS := (decS nT4 4).1
def nT6 : WS := (backS nT5 1).1
def nT7 : WS := (addS nT6 []).1
def nT8 : WS := (propS nT7).1
theorem nm_one : ∃ (T1 T2 T3 T4 T5 T6 T7 T8 : WS), addS (newS 3) [1, 1, 1] = (T1, 0, 0) ∧ addS T1 [2, -2] = (T2, 1, 0) ∧ propS T2 = (T3, -1) ∧ valE 3 T3.es 1 = 1 ∧ valE 3 T3.es 2 = 0 ∧ decS T3 1 = (T4, 7) ∧ decS T4 4 = (T5, 1) ∧ backS T5 1 = (T6, 1) ∧ addS T6 [] = (T7, 2, 0) ∧ propS T7 = (T8, 2) := by
  refine ⟨nT1, nT2, nT3, nT4, nT5, nT6, nT7, nT8, ?_, ?_, ?_, ?_, ?_, ?_, ?_, ?_, ?_, ?_⟩ <;> kernel_rfl
/-- One round of the second loop. -/
def NmRound (V V' : WS) : Prop := ∃ (A B D E : WS), decS V 1 = (A, 0) ∧ propS A = (B, -1) ∧ valE 4 B.es 2 = 1 ∧ decS B (-3) = (D, 0) ∧ propS D = (E, -1) ∧ valE 4 E.es 4 = 1 ∧ backS E 0 = (V', 0) ∧ valE 4 V'.es 2 = 0
def nV : Nat → WS
  | 0 => (addS (addS (newS 4) [-1, 2]).1 [-2, 3, 4]).1
  | i + 1 => (backS (propS (decS (propS (decS (nV i) 1).1).1 (-3)).1).1 0).1
theorem nm_round (i : Nat) (h : i < 3) : NmRound (nV i) (nV (i + 1)) := by
  match i, h with
  | 0, _ => exact ⟨(decS (nV 0) 1).1, (propS (decS (nV 0) 1).1).1, (decS (propS (decS (nV 0) 1).1).1 (-3)).1, (propS (decS (propS (decS (nV 0) 1).1).1 (-3)).1).1, by kernel_rfl, by kernel_rfl, by kernel_rfl, by kernel_rfl, by kernel_rfl, by kernel_rfl, by kernel_rfl, by kernel_rfl⟩
  | 1, _ => exact ⟨(decS (nV 1) 1).1, (propS (decS (nV 1) 1).1).1, (decS (propS (decS (nV 1) 1).1).1 (-3)).1, (propS (decS (propS (decS (nV 1) 1).1).1 (-3)).1).1, by kernel_rfl, by kernel_rfl, by kernel_rfl, by kernel_rfl, by kernel_rfl, by kernel_rfl, by kernel_rfl, by kernel_rfl⟩
  | 2, _ => exact ⟨(decS (nV 2) 1).1, (propS (decS (nV 2) 1).1).1, (decS (propS (decS (nV 2) 1).1).1 (-3)).1, (propS (decS (propS (decS (nV 2) 1).1).1 (-3)).1).1, by kernel_rfl, by kernel_rfl, by kernel_rfl, by kernel_rfl, by kernel_rfl, by kernel_rfl, by kernel_rfl, by kernel_rfl⟩
theorem nm_start : ∃ U1 U2 : WS, ∃ a b a' b' : Int, addS (newS 4) [-1, 2] = (U1, a, b) ∧ addS U1 [-2, 3, 4] = (U2, a', b') ∧ U2 = nV 0 := ⟨_, _, _, _, _, _, rfl, rfl, rfl⟩

theorem on_more' {W w : World} {C : Ast → Ast} {x n t : Nat} {S : WS} (hC : Ctx C) (h : On W w (C (wat x n t S))) {t' : Nat} (ht : t ≤ t') : On W w (C (wat x n t' S)) := by
  obtain ⟨F, ⟨M, a, b, c, d, e⟩, hg⟩ := hC.use h
  exact hg _ _ ⟨F, ⟨M, a, b, Nat.le_trans c (Nat.mul_le_mul_left _ ht), d.more ht, e⟩, Touch.refl _ _, fun k hk => .inl hk⟩
theorem on_new3 {w wa : World} (hb : Below w.heap.size w wa) :
    Calls Try.prog 10 #[.int .i64 3] wa fun e w' => ∃ x, e = .returned (.tuple #[.pointer (some ⟨x, 0, none⟩), .int .i64 0]) ∧ On w w' (Emp.and (wat x 3 0 (newS 3))) := on_new' (n := 3) hb (by omega)
theorem on_new4 {w wa : World} (hb : Below w.heap.size w wa) :
    Calls Try.prog 10 #[.int .i64 4] wa fun e w' => ∃ x, e = .returned (.tuple #[.pointer (some ⟨x, 0, none⟩), .int .i64 0]) ∧ On w w' (Emp.and (wat x 4 0 (newS 4))) := on_new' (n := 4) hb (by omega)

set_option maxHeartbeats 2000000 in
theorem names_walk (w : World) : Calls Try.prog 6 #[] w fun e w' => e = .returned (.bool true) ∧ Below w.heap.size w w' := by
  obtain ⟨T1, T2, T3, T4, T5, T6, T7, T8, a1, a2, a3, a4, a5, a6, a7, a8, a9, a10⟩ := nm_one
  have A1 := Lib.hid a1
  have A2 := Lib.hid a2
  have A3 := Lib.hid a3
  have A4 := Lib.hid a4
  have A5 := Lib.hid a5
  have A6 := Lib.hid a6
  have A7 := Lib.hid a7
  have A8 := Lib.hid a8
  have A9 := Lib.hid a9
  have A10 := Lib.hid a10
  clear a1 a2 a3 a4 a5 a6 a7 a8 a9 a10
  obtain ⟨U1, U2, q1, q2, q3, q4, b1, b2, b3⟩ := nm_start
  have B1 := Lib.hid b1
  have B2 := Lib.hid b2
  have B3 := Lib.hid b3
  have hCw : Ctx fun A => Emp.and A := Ctx.id.right Solid.emp
  clear b1 b2 b3
  go_enter Try.func6, Try.ntmps6
  go_wp2_with (first
    | (go_at_call 12; (with_reducible refine (wadd_nil (.slice none 0 0)).mono ?_); rintro e w1 ⟨rfl, hb1⟩)
    | (go_at_call 13; (with_reducible refine (wdecide_nil 1).mono ?_); rintro e w2 ⟨rfl, rfl⟩)
    | (go_at_call 20; (with_reducible refine (wback_nil 0).mono ?_); rintro e w2 ⟨rfl, rfl⟩)
    | (go_at_call 14; (with_reducible refine wprop_nil.mono ?_); rintro e w2 ⟨rfl, rfl⟩)
    | (go_at_call 15; (with_reducible refine (wvalue_nil 1).mono ?_); rintro e w2 ⟨rfl, rfl⟩)
    | (go_at_call 25; (with_reducible refine wlevel_nil.mono ?_); rintro e w2 ⟨rfl, rfl⟩)
    | (go_at_call 31; (with_reducible refine wtrail_nil.mono ?_); rintro e w2 ⟨rfl, rfl⟩)
    | (go_at_call 27; (with_reducible refine (wclause_nil 0).mono ?_); rintro e w2 ⟨rfl, rfl⟩)
    | (go_at_call 23; (with_reducible refine wcount_nil.mono ?_); rintro e w2 ⟨rfl, rfl⟩)
    | (go_at_call 10; (with_reducible refine (wnew_bad (-1) _ (.inl (by decide))).mono ?_); rintro e w2 ⟨rfl, rfl⟩)
    | (go_at_call 10; (with_reducible refine (wnew_bad 2097153 _ (.inr (by decide))).mono ?_); rintro e w2 ⟨rfl, rfl⟩)
    | (go_at_call 10; (with_reducible refine (on_new3 hb1).mono ?_); rintro e w3 ⟨x, rfl, h3⟩))
  obtain ⟨w4, hw4⟩ : ∃ w4, w4 = ((((((w3.alloc (.cells #[.int .i64 0] 3)).alloc (.cells #[.int .i64 4] 3)).alloc (.cells #[.int .i64 (-4)] 3)).alloc (.cells #[.int .i64 1, .int .i64 0] 3)).alloc (.cells #[.int .i64 1, .int .i64 (-9223372036854775808)] 3)).alloc (.cells #[.int .i64 1, .int .i64 9223372036854775807] 3)).alloc
    (.cells #[.slice (some ⟨w3.heap.size, 0, none⟩) 1 1, .slice (some ⟨w3.heap.size + 1, 0, none⟩) 1 1, .slice (some ⟨w3.heap.size + 1 + 1, 0, none⟩) 1 1, .slice (some ⟨w3.heap.size + 1 + 1 + 1, 0, none⟩) 2 2, .slice (some ⟨w3.heap.size + 1 + 1 + 1 + 1, 0, none⟩) 2 2, .slice (some ⟨w3.heap.size + 1 + 1 + 1 + 1 + 1, 0, none⟩) 2 2] 23) := ⟨_, rfl⟩
  have hrows := rows_lay (rows := nmRows) (hw4.trans rfl)
  rw [← hw4]
  obtain ⟨hb4, hrow⟩ := hrows
  have h4 : On w w4 ((Emp.and (wat x 3 0 (newS 3))).and (snap w3 w4)) := h3.newSnap (Solid.emp.and (Solid.wat ..)) hb4
  have HRow := Lib.hid hrow
  clear hw4 hrow h3 hb4
  have hC : Ctx fun A => (Emp.and A).and (snap w3 w4) := (Ctx.id.left (Solid.snap w3 w4)).right Solid.emp
  go_loopw [101] (fun s wr => ∃ k : Nat, k ≤ 6 ∧ s = .int .i64 k ∧ On w wr ((Emp.and (wat x 3 k (newS 3))).and (snap w3 w4))) (fun s _ => 6 - (intOf s).toNat)
  case atStart => exact ⟨0, by omega, rfl, h4⟩
  case round =>
    obtain ⟨k, hk, rfl, hr⟩ := hrel
    by_cases hlt : k < 6
    · have hki : (k : Int) < 6 := by omega
      have hr2 := hr
      obtain ⟨_, ⟨_, Fb, _, hsn, _, _⟩, _, _⟩ := hr2
      have hlk : k < nmRows.length := hlt
      obtain ⟨hc, hi⟩ := HRow.out wr _ hsn k hlk
      obtain ⟨hf1, hf2⟩ := nm_fit _ (List.getElem_mem hlk)
      have HA := Lib.hid (on_add' hC hr (by omega) (by omega) (some ⟨w3.heap.size + k, 0, none⟩) nmRows[k] nmRows[k].length hi hf1 hf2 (nm_rows k hlk))
      generalize nmRows[k] = row at *
      have hc2 : wr.cell? ⟨w3.heap.size + 1 + 1 + 1 + 1 + 1 + 1, k, none⟩ = some (.slice (some ⟨w3.heap.size + k, 0, none⟩) row.length row.length) := hc
      clear hsn hi hr hc hf1 hf2
      go_wp2_with (first
        | (go_at_call 12; (with_reducible refine HA.out.mono ?_); rintro e w2 ⟨rfl, h2⟩)
        | (go_at_call 23; (with_reducible refine (on_count hC h2).mono ?_); rintro e w5 ⟨rfl, rfl⟩))
      go_roundw
      case rel => exact ⟨k + 1, by omega, by go_num, h2⟩
      case measure => simp [intOf]; omega
    · obtain rfl : k = 6 := by omega
      go_wp2_with (first
        | (go_at_call 12; (with_reducible refine (add_lit3 hC hr (by omega) (by omega) 1 1 1 (by decide) A1.out).mono ?_); rintro e w5 ⟨rfl, h5⟩)
        | (go_at_call 12; (with_reducible refine (add_lit2 hC h5 (by omega) (by omega) 2 (-2) (by decide) (by decide) A2.out).mono ?_); rintro e w6 ⟨rfl, h6⟩)
        | (go_at_call 14; (with_reducible refine (on_prop' hC h6 (by omega) (by omega) A3.out).mono ?_); rintro e w7 ⟨rfl, h7⟩)
        | (go_at_call 15; (with_reducible refine (on_value' hC h7 (by omega) 1 (by decide) A4.out).mono ?_); rintro e w8 ⟨rfl, rfl⟩)
        | (go_at_call 15; (with_reducible refine (on_value' hC h7 (by omega) 2 (by decide) A5.out).mono ?_); rintro e w8 ⟨rfl, rfl⟩)
        | (go_at_call 13; (with_reducible refine (on_decide' hC h7 (by omega) 1 (by decide) A6.out).mono ?_); rintro e w9 ⟨rfl, h9⟩)
        | (go_at_call 13; (with_reducible refine (on_decide' hC h9 (by omega) 4 (by decide) A7.out).mono ?_); rintro e w10 ⟨rfl, h10⟩)
        | (go_at_call 20; (with_reducible refine (on_back' hC h10 (by omega) (by omega) 1 (by decide) A8.out).mono ?_); rintro e w11 ⟨rfl, h11⟩)
        | (go_at_call 12; (with_reducible refine (add_none hC h11 (by omega) (by omega) A9.out).mono ?_); rintro e w12 ⟨rfl, h12⟩)
        | (go_at_call 14; (with_reducible refine (on_prop' hC h12 (by omega) (by omega) A10.out).mono ?_); rintro e w13 ⟨rfl, h13⟩; have hb13 := h13.bel)
        | (go_at_call 10; (with_reducible refine (on_new4 hb13).mono ?_); rintro e w14 ⟨u, rfl, h14⟩)
        | (go_at_call 12; (with_reducible refine (add_lit2 hCw h14 (by omega) (by omega) (-1) 2 (by decide) (by decide) B1.out).mono ?_); rintro e w15 ⟨rfl, h15⟩)
        | (go_at_call 12; (with_reducible refine (add_lit3 hCw h15 (by omega) (by omega) (-2) 3 4 (by decide) B2.out).mono ?_); rintro e w16 ⟨rfl, h16⟩))
      have h17 : On w w16 (Emp.and (wat u 4 (2 + 5 * 0) (nV 0))) := by rw [← B3.out]; exact h16
      clear h16
      go_loopw [22] (fun s wr => ∃ i : Nat, i ≤ 3 ∧ s = .int .i64 i ∧ On w wr (Emp.and (wat u 4 (2 + 5 * i) (nV i)))) (fun s _ => 3 - (intOf s).toNat)
      case atStart => exact ⟨0, by omega, rfl, h17⟩
      case round =>
        obtain ⟨i, hi, rfl, hr⟩ := hrel
        by_cases hlt : i < 3
        · have hii : (i : Int) < 3 := by omega
          obtain ⟨V', hV'⟩ : ∃ V', V' = nV (i + 1) := ⟨_, rfl⟩
          have hround := nm_round i hlt
          rw [← hV'] at hround
          have HV := Lib.hid hV'
          obtain ⟨A, B, D, E, r1, r2, r3, r4, r5, r6, r7, r8⟩ := hround
          have R1 := Lib.hid r1
          have R2 := Lib.hid r2
          have R3 := Lib.hid r3
          have R4 := Lib.hid r4
          have R5 := Lib.hid r5
          have R6 := Lib.hid r6
          have R7 := Lib.hid r7
          have R8 := Lib.hid r8
          clear r1 r2 r3 r4 r5 r6 r7 r8 hV'
          generalize nV i = V at *
          go_wp2_with (first
            | (go_at_call 13; (with_reducible refine (on_decide' hCw hr (by omega) 1 (by decide) R1.out).mono ?_); rintro e w21 ⟨rfl, h21⟩)
            | (go_at_call 14; (with_reducible refine (on_prop' hCw h21 (by omega) (by omega) R2.out).mono ?_); rintro e w22 ⟨rfl, h22⟩)
            | (go_at_call 15; (with_reducible refine (on_value' hCw h22 (by omega) 2 (by decide) R3.out).mono ?_); rintro e w23 ⟨rfl, rfl⟩)
            | (go_at_call 13; (with_reducible refine (on_decide' hCw h22 (by omega) (-3) (by decide) R4.out).mono ?_); rintro e w24 ⟨rfl, h24⟩)
            | (go_at_call 14; (with_reducible refine (on_prop' hCw h24 (by omega) (by omega) R5.out).mono ?_); rintro e w25 ⟨rfl, h25⟩)
            | (go_at_call 15; (with_reducible refine (on_value' hCw h25 (by omega) 4 (by decide) R6.out).mono ?_); rintro e w26 ⟨rfl, rfl⟩)
            | (go_at_call 20; (with_reducible refine (on_back' hCw h25 (by omega) (by omega) 0 (by decide) R7.out).mono ?_); rintro e w27 ⟨rfl, h27⟩)
            | (go_at_call 15; (with_reducible refine (on_value' hCw h27 (by omega) 2 (by decide) R8.out).mono ?_); rintro e w28 ⟨rfl, rfl⟩))
          go_roundw
          case rel =>
            refine ⟨i + 1, by omega, by go_num, ?_⟩
            rw [← HV.out]
            exact on_more' hCw h27 (by omega)
          case measure => simp [intOf]; omega
        · obtain rfl : i = 3 := by omega
          have hb := hr.bel
          clear hr
          go_wp2_with (go_at_call 9; (with_reducible refine (awake_any _).mono ?_); rintro e w31 ⟨rfl, hb31⟩)
          go_ret
          exact ⟨rfl, bel_new hb hb.size hb31⟩

end Go.Proofs.Ytnachllhjojlcaa
