/- Contracts of package trail: push. -/
import Derived.Test.YtnachllhjojlcaaT4
import Derived.StillTailTactics
import Derived.Deep.Cut
namespace Go.Proofs.Ytnachllhjojlcaa
open Go.ChangeShapes Go.WideShapes Go.ChangeAt Go.RowKit
set_option maxRecDepth 100000

/-- What push makes of a trail; v is the literal's variable. -/
def pushT (T : TrD) (lit reason : Int) (v : Nat) : TrD := ⟨T.vars.set v ⟨if lit < 0 then -1 else 1, T.begins.length, reason⟩, T.lits ++ [lit], T.begins⟩

theorem knC_set (l : List Kn) (k : Kn) : ∀ (i : Nat), i < l.length → knC (l.set i k) = (((knC l).set (i * 3) (.int .i64 k.value)).set (i * 3 + 1) (.int .i64 k.level)).set (i * 3 + 2) (.int .i64 k.reason) := by
  induction l with
  | nil => intro i h; exact absurd h (by simp)
  | cons a l ih =>
    intro i h
    have he : ∀ (b : Kn) (m : List Kn), knC (b :: m) = .int .i64 b.value :: .int .i64 b.level :: .int .i64 b.reason :: knC m := fun _ _ => rfl
    cases i with
    | zero => rfl
    | succ i =>
      have e : (i + 1) * 3 = i * 3 + 1 + 1 + 1 := by omega
      rw [List.set_cons_succ, he, he, ih i (by simpa using h), e]
      rfl

theorem in_one (l : List Int) : ∀ u ∈ inC l, u.oneCell' = true := by
  intro u hu
  obtain ⟨b, _, rfl⟩ := List.mem_map.1 hu
  rfl
theorem in_app (l m : List Int) : inC (l ++ m) = inC l ++ inC m := by simp [inC]

set_option maxHeartbeats 1000000 in
theorem push_any (g : Nat) (a b c : Value) (T : TrD) (lit reason : Int) (v : Nat) (w : World) (hT : IsT w g a b c T) (hbc : b.ownBlock = none ∨ b.ownBlock ≠ c.ownBlock) (hn : T.vars.length ≤ 5000) (hl : T.lits.length ≤ 5000)
    (h1 : -9223372036854775808 ≤ lit) (h2 : lit ≤ 9223372036854775807) (hv : varN T.vars.length lit = v) (hvl : v < T.vars.length) :
    Calls Try.prog 54 #[.pointer (some ⟨g, 0, none⟩), .int .i64 lit, .int .i64 reason] w fun e w' => e = .returned (.tuple #[]) ∧ ∃ b', IsT w' g a b' c (pushT T lit reason v) ∧
      Touch (fun x => x = g ∨ a.ownBlock = some x ∨ b.ownBlock = some x) w w' ∧ (b'.ownBlock = b.ownBlock ∨ ∀ k, b'.ownBlock = some k → w.heap.size ≤ k) := by
  obtain ⟨i3, hi, hz0, hz1, hz2⟩ := info_parts (P := Try.prog) (e := 3) (z := .int .i64 0) (size := 1) (bytes := 8) (by kernel_rfl)
  obtain ⟨bl, off, cap, rfl, hcv, hcl, hcr, hfz, hbl⟩ := hT.at_ v hvl
  obtain ⟨aoB, capB, rfl, _, _, _⟩ := hT.lits.form
  obtain ⟨aoC, capC, rfl, _, _, _⟩ := hT.begins.form
  have hc2 := hT.blk.cell 2
  simp at hc2
  have hgl := hT.blk.lt
  have hgne : ¬ w.heap.size = g := by omega
  have hgne' : ¬ g = w.heap.size := by omega
  have hbne : ¬ w.heap.size = bl := by omega
  have hbne' : ¬ bl = w.heap.size := by omega
  have hvi : (v : Int) < (T.vars.length : Int) := by omega
  have hbg : ¬ bl = g := fun e => hT.vars.ne_blk hT.blk (by decide) (by rw [e]; rfl)
  have hgb : ¬ g = bl := fun e => hbg e.symm
  have hblb : (Value.slice aoB T.lits.length capB).ownBlock ≠ some bl := fun e => by
    obtain ⟨_, hb1⟩ := hT.lits.blk e
    obtain ⟨_, hb2⟩ := hT.vars.blk (k := bl) rfl
    exact hb1.ne_ hb2 (by decide) rfl
  have hblc : (Value.slice aoC T.begins.length capC).ownBlock ≠ some bl := fun e => by
    obtain ⟨_, hb1⟩ := hT.begins.blk e
    obtain ⟨_, hb2⟩ := hT.vars.blk (k := bl) rfl
    exact hb1.ne_ hb2 (by decide) rfl
  have hgc : (Value.slice aoC T.begins.length capC).ownBlock ≠ some g := hT.begins.ne_blk hT.blk (by decide)
  have hgB : (Value.slice aoB T.lits.length capB).ownBlock ≠ some g := hT.lits.ne_blk hT.blk (by decide)
  obtain ⟨x, hx⟩ : ∃ x : Int, x = if lit < 0 then -1 else 1 := ⟨_, rfl⟩
  obtain ⟨W, hW⟩ : ∃ W, W = (w.alloc (.cells #[.int .i64 x, .int .i64 T.begins.length, .int .i64 reason] 82)).drew := ⟨_, rfl⟩
  have hWs : W.heap.size = w.heap.size + 1 := by rw [hW]; simp
  have hTW : IsT W g (.slice (some ⟨bl, off, none⟩) T.vars.length cap) (.slice aoB T.lits.length capB) (.slice aoC T.begins.length capC) T := by
    rw [hW]
    exact ⟨(hT.blk.alloc _).drew, (hT.vars.alloc _).drew, (hT.lits.alloc _).drew, (hT.begins.alloc _).drew⟩
  have hTo : Touch (fun _ => False) w W := by rw [hW]; exact ((Touch.refl _ w).alloc _).drew
  have HV : Hid (Calls Try.prog 55 #[.pointer (some ⟨g, 0, none⟩), .int .i64 lit] W fun e w' => e = .returned (.int .i64 (v : Int)) ∧ w' = W) := Lib.hid (by
    have h := variable_any g _ T.vars.length cap _ _ lit W hTW.blk (by omega) h1 h2
    rw [hv] at h
    exact h.mono fun _ _ hh => ⟨hh.1, hh.2.symm⟩)
  have kb : Blk W w.heap.size 82 #[.int .i64 x, .int .i64 T.begins.length, .int .i64 reason] := by rw [hW]; exact (Blk.new w _ _).drew
  go_enter Try.func54, Try.ntmps54
  go_upto_if 15 with fail
  go_cut [] from 7 (fun wx => wx = w.alloc (.cells #[.int .i64 x, .int .i64 T.begins.length, .int .i64 reason] 82))
  case first =>
    clear hW hTW HV kb
    by_cases hneg : lit < 0
    · rw [if_pos hneg] at hx
      go_wp2_with fail
      go_meet
      case rel => rw [hx]
    · have hneg' : decide (lit < 0) = false := by simpa using hneg
      rw [if_neg hneg] at hx
      go_wp2_with fail
      go_meet
      case rel => rw [hx]
  case rest =>
    subst hcut
    go_upto_region 3 with fail
    go_cut [] from 7 (fun wx => IsT wx g (.slice (some ⟨bl, off, none⟩) T.vars.length cap) (.slice aoB T.lits.length capB) (.slice aoC T.begins.length capC) ⟨T.vars.set v ⟨x, T.begins.length, reason⟩, T.lits, T.begins⟩ ∧
      wx.heap.size = w.heap.size + 1 ∧ Touch (fun k => k = bl) W wx)
    case first =>
      obtain ⟨_, _, _, e, hcv, hcl, hcr, hfz, _⟩ := hTW.at_ v hvl
      cases e
      have k0 := hTW.blk.cell 0
      have k1 := kb.cell 0
      have k2 := kb.cell 1
      have k3 := kb.cell 2
      simp at k0 k1 k2 k3
      refine wp_region_still_tail 9 (by kernel_rfl) (by kernel_rfl) ?_
      change wpStill _ _ (World.drew (w.alloc (.cells #[.int .i64 x, .int .i64 T.begins.length, .int .i64 reason] 82))) (fun a' => wpList _ _ _ _ a' (World.drew (w.alloc (.cells #[.int .i64 x, .int .i64 T.begins.length, .int .i64 reason] 82)))) _ _
      rw [← hW]
      have hHid := Lib.hid hx
      clear hW hx
      simp only [List.take_succ_cons, List.take_zero, List.drop_succ_cons, List.drop_zero]
      repeat still_step
      still_call HV.out
      repeat still_step
      refine wpStill_nil ?_
      go_wp2_with fail
      go_meet
      case rel =>
        refine ⟨⟨((hTW.blk.far hgb _).far hgb _).far hgb _, ?_, ((hTW.lits.far hblb _).far hblb _).far hblb _, ((hTW.begins.far hblc _).far hblc _).far hblc _⟩, ?_, ?_⟩
        · have h := ((hTW.vars.stored (v * 3) (.int .i64 x)).stored (v * 3 + 1) (.int .i64 T.begins.length)).stored (v * 3 + 2) (.int .i64 reason)
          show Own _ 82 3 _ (T.vars.set v ⟨x, T.begins.length, reason⟩).length (knC (T.vars.set v ⟨x, T.begins.length, reason⟩))
          rw [knC_set T.vars ⟨x, T.begins.length, reason⟩ v hvl, List.length_set]
          exact h
        · simp [World.setCell, hWs]
        · exact (((Touch.refl (fun k => k = bl) W).setCell (p := ⟨bl, off + v * 3, none⟩) (fun _ => rfl) _).setCell (p := ⟨bl, off + v * 3 + 1, none⟩) (fun _ => rfl) _).setCell (p := ⟨bl, off + v * 3 + 2, none⟩) (fun _ => rfl) _
    case rest =>
      obtain ⟨hTx, hsx, htx⟩ := hcut
      have hc1 := hTx.blk.cell 1
      simp at hc1
      have hgs : wc.heap.size ≠ g := by omega
      have hWc : Hid (W = (w.alloc (.cells #[.int .i64 x, .int .i64 T.begins.length, .int .i64 reason] 82)).drew) := Lib.hid hW
      have hSx := Lib.hid hsx
      clear hW hsx
      go_wp2_with (at_builtin; go_loud (refine wpList_append_S _ rfl (.tmp 30) (.tmp 32) _ _ rfl 3 i3 _ 1 8 Try.underlying23 hi hz0 hz1 hz2 rfl (by omega) (.slice aoB T.lits.length capB) T.lits.length (inC T.lits) rfl (hTx.lits.alloc _) (in_one _) _ 1 [_] rfl (src_new wc Try.underlying23 3 _ rfl) (by simp only [maxLen]; omega) (by omega) ?_); intro ao2 cap2 w1 hn1 hm1 hown1 hg1 hat1 hlt1; have hWn := (hTx.blk.alloc _).grown hg1 (Ne.symm hgB); have hcn := hWn.cell 1; simp at hcn; have hfn := hWn.frozen 1)
      refine bodyPost_end (results_none Try.results54 _ _ _) rfl ?_
      have hown1' := hown1.ne_blk hWn (by decide)
      have hTo1 : Touch (fun k => (Value.slice aoB T.lits.length capB).ownBlock = some k) wc w1 := ((Touch.refl _ wc).alloc _).trans (Touch.of_grown (F := fun k => (Value.slice aoB T.lits.length capB).ownBlock = some k) hg1 fun k hk => hk) fun _ _ h => h
      subst hx
      refine ⟨rfl, .slice ao2 (T.lits.length + 1) cap2, ⟨hWn.set_ 1 _, ?_, ?_, ?_⟩, ?_, ?_⟩
      · exact (hTx.vars.alloc _).grown hg1 (by
          refine .inr fun e => ?_
          exact hblb e.symm) |>.far (p := ⟨g, 1, none⟩) (by intro e; simp only [Value.ownBlock, Option.some.injEq] at e; exact hbg e) _
      · have h := hown1.far (p := ⟨g, 1, none⟩) hown1' (.slice ao2 (T.lits.length + 1) cap2)
        simpa [pushT, in_app, inC] using h
      · exact (hTx.begins.alloc _).grown hg1 (by
          rcases hbc with h | h
          · rw [h]
            cases hk : (Value.slice aoC T.begins.length capC).ownBlock with
            | none => exact .inl rfl
            | some k => exact .inr (by simp)
          · exact .inr (Ne.symm h)) |>.far hgc _
      · have h1 : Touch (fun x => x = g ∨ (Value.slice (some ⟨bl, off, none⟩) T.vars.length cap).ownBlock = some x ∨ (Value.slice aoB T.lits.length capB).ownBlock = some x) w W := hTo.mono fun _ _ h => h.elim
        refine ((h1.trans htx fun y _ hy => .inr (.inl ?_)).trans hTo1 fun y _ hy => .inr (.inr hy)).setCell (p := ⟨g, 1, none⟩) (fun _ => .inl rfl) _
        rw [hy]; rfl
      · rcases hat1 with h | h
        · exact .inl h
        · right
          intro k hk
          rw [h] at hk
          injection hk with hk
          simp at hk
          have := hSx.out
          omega

end Go.Proofs.Ytnachllhjojlcaa
