/- Contracts of package trail: Decide. -/
import Derived.Test.YtnachllhjojlcaaT6
import Derived.Deep.RegionLaw
namespace Go.Proofs.Ytnachllhjojlcaa
open Go.ChangeShapes Go.WideShapes Go.ChangeAt Go.RowKit
set_option maxRecDepth 100000

section
variable {P : Program} (w : World)
theorem step_append_S {ops : Array Oper} {o : Oper} {a : Act} {K : Act → World → Prop} {Q : Exit → Act → World → Prop} {E : Prop} (hgd : o.guard = none) (s sx : Operand) (t tx : TypeId)
    (ho : o.op = .call { callee := .builtin .append, args := #[s, sx], argTypes := #[t, tx] })
    (e : TypeId) (i : TypeInfo) (z : Value) (size bytes : Nat) (ht : P.underlying t = some (.slice e)) (hi : P.info? e = some i) (hz : i.zero = some z)
    (hsize : i.size = size) (hby : i.bytes = bytes) (hzs : z.cells.size = size) (hsz : 0 < size)
    (v : Value) (n : Nat) (xs : List Value) (hv : a.eval s = v) (hown : Own w e size v n xs) (h0 : ∀ u ∈ xs, u.oneCell' = true)
    (x : Value) (m : Nat) (news : List Value) (hx : a.eval sx = x) (hs : Src P size tx x m news w)
    (h63 : n + m ≤ maxLen) (hbytes : (n + m) * bytes ≤ 140737488355328)
    (h : ∀ ao' cap' w', n + m ≤ cap' → cap' ≤ maxLen → Own w' e size (.slice ao' (n + m) cap') (n + m) (xs ++ news) → w.grownBy w' v.ownBlock → ((Value.slice ao' (n + m) cap').ownBlock = v.ownBlock ∨ (Value.slice ao' (n + m) cap').ownBlock = some w.heap.size) → (∀ k, (Value.slice ao' (n + m) cap').ownBlock = some k → k < w'.heap.size) → K (a.put o.dst (.slice ao' (n + m) cap')) w') :
    if Region.wanted o (yielded ops a.tmps) = true then Oper.wp P o a w K Q else E := by
  have hw : Region.wanted o (yielded ops a.tmps) = true := by simp [Region.wanted, hgd]
  rw [if_pos hw]
  exact wp_append_S w s sx t tx ho e i z size bytes ht hi hz hsize hby hzs hsz v n xs hv hown h0 x m news hx hs h63 hbytes h

end

/-- What Decide makes ahead of push. -/
def begT (T : TrD) : TrD := ⟨T.vars, T.lits, T.begins ++ [(T.lits.length : Int)]⟩

theorem decide_T (F : Nat → Prop) (g : Nat) (T : TrD) (lit : Int) (v : Nat) (w : World) (hT : TrA w F g T) (hn : T.vars.length ≤ 5000) (hl : T.lits.length ≤ 5000) (hb : T.begins.length ≤ 5000)
    (h1 : -9223372036854775808 ≤ lit) (h2 : lit ≤ 9223372036854775807) (hv : varN T.vars.length lit = v) (hvl : v < T.vars.length) (ho : openE T lit = 0) :
    Calls Try.prog 33 #[.pointer (some ⟨g, 0, none⟩), .int .i64 lit] w fun e w' => e = .returned (.int .i64 0) ∧ TrUp w w' F g (pushT (begT T) lit (-1) v) := by
  have HO : Hid (Calls Try.prog 53 #[.pointer (some ⟨g, 0, none⟩), .int .i64 lit] w fun e w' => e = .returned (.int .i64 0) ∧ w = w') := Lib.hid (by
    obtain ⟨a, b, c, k1, _⟩ := hT
    have h := open_any g a b c _ lit w k1 (by omega) h1 h2
    rwa [ho] at h)
  have HP : ∀ (F1 : Nat → Prop) (w1 : World), TrA w1 F1 g (begT T) → Calls Try.prog 54 #[.pointer (some ⟨g, 0, none⟩), .int .i64 lit, .int .i64 (-1)] w1 fun e w' => e = .returned (.tuple #[]) ∧ TrUp w1 w' F1 g (pushT (begT T) lit (-1) v) := fun F1 w1 h =>
    push_up F1 g _ lit (-1) v w1 h hn hl h1 h2 hv hvl
  have HP := Lib.hid HP
  obtain ⟨i3, hi, hz0, hz1, hz2⟩ := info_parts (P := Try.prog) (e := 3) (z := .int .i64 0) (size := 1) (bytes := 8) (by kernel_rfl)
  obtain ⟨a, b, c, k1, k2, k3, k4, k5, k6, k7⟩ := hT
  obtain ⟨aoB, capB, rfl, _, _, _⟩ := k1.lits.form
  obtain ⟨aoC, capC, rfl, _, _, _⟩ := k1.begins.form
  have hc1 := k1.blk.cell 1
  have hc2 := k1.blk.cell 2
  simp at hc1 hc2
  have hgl := k1.blk.lt
  have hgne : ¬ w.heap.size = g := by omega
  have hgne' : ¬ g = w.heap.size := by omega
  have hgC : (Value.slice aoC T.begins.length capC).ownBlock ≠ some g := k1.begins.ne_blk k1.blk (by decide)
  have hS : Src Try.prog 1 23 (.slice (some ⟨w.heap.size, 0, none⟩) 1 1) 1 [.int .i64 (T.lits.length : Nat)] (w.alloc (.cells #[.int .i64 (T.lits.length : Nat)] 3)).drew := src_new w.drew Try.underlying23 3 _ rfl
  go_enter Try.func33, Try.ntmps33
  go_wp2_with (first | (go_at_call 53; refine HO.out.mono ?_; rintro e w' ⟨rfl, rfl⟩))
  go_upto_region 6 with fail
  go_cut [] from 14 (fun wx => ∃ F1, TrA wx F1 g (begT T) ∧ Touch F w wx ∧ ∀ k, F1 k → F k ∨ w.heap.size ≤ k)
  case first =>
    clear HO HP ho
    go_region_law (refine step_append_S _ rfl (.tmp 18) (.tmp 24) _ _ rfl 3 i3 _ 1 8 Try.underlying23 hi hz0 hz1 hz2 rfl (by omega) (.slice aoC T.begins.length capC) T.begins.length (inC T.begins) rfl (k1.begins.alloc _).drew (in_one _) _ 1 [_] rfl hS (by simp only [maxLen]; omega) (by omega) ?_; intro ao2 cap2 w1 hn1 hm1 hown1 hg1 hat1 hlt1; have hWn := (k1.blk.alloc _).drew.grown hg1 (Ne.symm hgC); have hcn := hWn.cell 2; simp at hcn; have hfn := hWn.frozen 2)
    all_goals
      go_wp2_with fail
      go_meet
      case rel =>
        have hown1' := hown1.ne_blk hWn (by decide)
        have hT1 : Touch F w w1 := ((Touch.refl F w).alloc _).drew.trans (Touch.of_grown (F := fun k => (Value.slice aoC T.begins.length capC).ownBlock = some k) hg1 fun k hk => hk) fun x _ hx => k5 x hx
        have hbn : ∀ k, (Value.slice aoB T.lits.length capB).ownBlock = some k → some k ≠ (Value.slice aoC T.begins.length capC).ownBlock := fun k hk => by
          rcases k6 with h | h
          · rw [h] at hk; cases hk
          · rw [← hk]; exact h
        refine ⟨fun k => F k ∨ (Value.slice ao2 (T.begins.length + 1) cap2).ownBlock = some k, ⟨a, .slice aoB T.lits.length capB, .slice ao2 (T.begins.length + 1) cap2, ⟨hWn.set_ 2 _, ?_, ?_, ?_⟩, .inl k2, fun k hk => .inl (k3 k hk), fun k hk => .inl (k4 k hk), fun k hk => .inr hk, ?_, ?_⟩, ?_, ?_⟩
        · refine ((k1.vars.alloc _).drew.grown hg1 ?_).far (p := ⟨g, 2, none⟩) (k1.vars.ne_blk k1.blk (by decide)) _
          exact k1.vars.ne_own k1.begins (by decide)
        · refine ((k1.lits.alloc _).drew.grown hg1 ?_).far (p := ⟨g, 2, none⟩) (k1.lits.ne_blk k1.blk (by decide)) _
          exact k6
        · have h := hown1.far (p := ⟨g, 2, none⟩) hown1' (.slice ao2 (T.begins.length + 1) cap2)
          simpa [begT, in_app, inC] using h
        · cases hk : (Value.slice aoB T.lits.length capB).ownBlock with
          | none => exact .inl rfl
          | some k =>
            refine .inr fun e => ?_
            rcases hat1 with h | h
            · rw [h] at e
              exact hbn k hk e
            · rw [h] at e
              injection e with e
              have := k7 k (k4 k hk)
              simp at e
              omega
        · intro k hk
          simp only [World.setCell, Array.size_modify]
          rcases hk with hk | hk
          · exact Nat.lt_of_lt_of_le (k7 k hk) hT1.size
          · exact hlt1 k hk
        · exact hT1.setCell (p := ⟨g, 2, none⟩) (fun _ => k2) _
        · intro k hk
          rcases hk with hk | hk
          · exact .inl hk
          · rcases hat1 with h | h
            · exact .inl (k5 k (h ▸ hk))
            · rw [h] at hk
              injection hk with hk
              simp at hk
              exact .inr (by omega)
  case rest =>
    obtain ⟨F1, r1, r2, r3⟩ := hcut
    go_wp2_with (go_at_call 54; refine (HP.out F1 _ r1).mono ?_; rintro e w1 ⟨rfl, hu⟩)
    go_ret
    exact ⟨rfl, TrUp.trans r2 r3 hu⟩

theorem decide_any (F : Nat → Prop) (g n : Nat) (es : List En) (lit : Int) (w : World) (hT : TrA w F g (trE n es)) (hg : Good n es) (hn : n ≤ 5000)
    (h1 : -9223372036854775808 ≤ lit) (h2 : lit ≤ 9223372036854775807) :
    Calls Try.prog 33 #[.pointer (some ⟨g, 0, none⟩), .int .i64 lit] w fun e w' => e = .returned (.int .i64 (decC n es lit).1) ∧ TrUp w w' F g (trE n (decC n es lit).2) := by
  have hl : (trE n es).vars.length = n := varsE_len n es
  have hll : (trE n es).lits.length = es.length := by simp [trE]
  have hlen := hg.len_le
  have hlb : ((trE n es).begins.length : Int) = hi es := begs_len hg
  have hle := hi_le_len hg
  simp only [decC]
  by_cases ho : openC n es lit = 0
  · obtain ⟨hx, hlk⟩ := openC_zero ho
    have hx' := hx
    unfold Lit at hx'
    simp only [if_pos ho]
    rw [ho]
    have h := decide_T F g (trE n es) lit (lit.natAbs - 1) w hT (by omega) (by omega) (by omega) h1 h2 (by rw [hl]; exact varN_lit hx) (by omega) (by rw [openE_trE]; exact ho)
    have e : begT (trE n es) = ⟨varsE n es, (es.map (·.lit)).reverse, begs es ++ [(es.length : Int)]⟩ := by simp [begT, trE]
    rwa [e, pushT_dec hg hx] at h
  · simp only [if_neg ho]
    have HO : Hid (Calls Try.prog 53 #[.pointer (some ⟨g, 0, none⟩), .int .i64 lit] w fun e w' => e = .returned (.int .i64 (openC n es lit)) ∧ w = w') := Lib.hid (by
      obtain ⟨a, b, c, k1, _⟩ := hT
      have h := open_any g a b c _ lit w k1 (by omega) h1 h2
      rwa [openE_trE] at h)
    have ho' : (openC n es lit == 0) = false := by simpa using ho
    generalize openC n es lit = q at *
    go_enter Try.func33, Try.ntmps33
    go_wp2_with (first | (go_at_call 53; refine HO.out.mono ?_; rintro e w' ⟨rfl, rfl⟩))
    go_ret
    exact ⟨rfl, hT.up⟩

end Go.Proofs.Ytnachllhjojlcaa
