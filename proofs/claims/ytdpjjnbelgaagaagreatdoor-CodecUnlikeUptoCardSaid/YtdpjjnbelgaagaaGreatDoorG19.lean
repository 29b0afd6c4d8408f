/- codec.Copy: the region that draws its order. Conditions: as each theorem names them. -/
import Derived.Test.YtdpjjnbelgaagaaGreatDoorG18
import Derived.Test.YtdpjjnbelgaagaaGreatDoorG13
import Derived.Test.YtdpjjnbelgaagaaGreatDoorG15
import Derived.Test.YtdpjjnbelgaagaaGreatDoorG14
import Derived.Test.YtdpjjnbelgaagaaGreatDoorRows
import Derived.ProofKit
import Derived.LaidMore
import Derived.OpenShut
namespace Go.Proofs.YtdpjjnbelgaagaaGreatDoor
open Go.ChangeShapes Go.WideShapes Go.ChangeAt Go.RowKit Go.Deep
set_option maxRecDepth 100000

section
variable {o : Oper} {a : Act} {w : World} {K : Act → World → Prop} {Q : Exit → Act → World → Prop}
theorem doK_d0 (t g q : Nat) (ho : o.op = .fieldAddr 41 (.tmp t) 0) (hx : a.eval (.tmp t) = .pointer (some ⟨g, q, none⟩)) (h : K (a.put o.dst (.pointer (some ⟨g, q, none⟩))) w) : o.wp Tryz.prog a w K Q := by
  unfold Oper.wp execOp
  simp only [ho, hx]
  go_simp
  exact h
theorem doK_int (t g k : Nat) (x : Int) (ho : o.op = .load 3 (.tmp t)) (hx : a.eval (.tmp t) = .pointer (some ⟨g, k, none⟩)) (hc : w.cell? ⟨g, k, none⟩ = some (.int .i64 x)) (h : K (a.put o.dst (.int .i64 x)) w) : o.wp Tryz.prog a w K Q := by
  unfold Oper.wp execOp
  simp only [ho, hx]
  go_simp
  exact h
theorem doK_build (t u : Nat) (x : Int) (aa : Option Addr) (n c : Nat) (ho : o.op = .build 38 #[(0, .tmp t), (1, .tmp u)]) (hx : a.eval (.tmp t) = .int .i64 x) (hu : a.eval (.tmp u) = .slice aa n c) (h : K (a.put o.dst (.agg #[.int .i64 x, .slice aa n c])) w) : o.wp Tryz.prog a w K Q := by
  unfold Oper.wp execOp
  simp only [ho, List.map_toArray, List.map_cons, List.map_nil, hx, hu]
  go_simp
  exact h
theorem doK_one (t : Nat) (x : Int) (aa : Option Addr) (n c : Nat) (ho : o.op = .buildSlice 39 1 #[(0, .tmp t)]) (hx : a.eval (.tmp t) = .agg #[.int .i64 x, .slice aa n c]) (h : K (a.put o.dst (.slice (some ⟨w.heap.size, 0, none⟩) 1 1)) (w.alloc (.cells #[.int .i64 x, .slice aa n c] 38))) : o.wp Tryz.prog a w K Q := by
  unfold Oper.wp execOp
  simp only [ho, List.map_toArray, List.map_cons, List.map_nil, hx]
  go_simp
  exact h
theorem doH_ccopied (t : Nat) (v : Value) (ho : o.op = .call { callee := .value (.func 55), args := #[.tmp t], argTypes := #[36] }) (hx : a.eval (.tmp t) = v) (hc : Calls Tryz.prog 55 #[v] w fun e w' => ∃ u, e = .returned u ∧ K (a.put o.dst u) w') : o.wp Tryz.prog a w K Q := by
  unfold Oper.wp execOp
  simp only [ho, resolve, Sem.run_bind, List.map_toArray, List.map_cons, List.map_nil, hx]
  go_simp
  refine hc.mono ?_
  rintro e w' ⟨u, rfl, hk⟩
  exact hk
end
theorem repoK_bel {N : Nat} {w w' : World} {x : RepoD} {r : Value} (h : repoK.holds (free N) w x r) (hb : Below w.heap.size w w') : repoK.holds (free N) w' x r :=
  repoK.keep h hb.size fun b ⟨k1, k2⟩ hlt => ⟨hb.block b hlt, k1, fun i => (World.frozen?_of_block (w := w) (hb.block b hlt)).trans (k2 i)⟩
def okC5 (gd gx : Nat) (x : RepoD) (r cur : Value) (N : Nat) (w : World) : Nat → Value → Prop
  | 0, v => v = .pointer (some ⟨gd, 0, none⟩)
  | 1, v => v = cur
  | 2, v => v = .pointer (some ⟨gx, 0, none⟩)
  | 3, v => v = .int .i64 x.prio
  | 4, v => v = .pointer (some ⟨gx, 1, none⟩)
  | 5, v => v = r
  | 6, v => LIn pkgK (free N) w x.pkgs v
  | 7, v => ∃ v', v = .agg #[.int .i64 x.prio, v'] ∧ LIn pkgK (free N) w x.pkgs v'
  | 8, v => ∃ v' gb, v = .slice (some ⟨gb, 0, none⟩) 1 1 ∧ Blk w gb 38 #[.int .i64 x.prio, v'] ∧ repoK.holds (free N) w x v'
  | _, _ => True
theorem okC5_mono {gd gx : Nat} {x : RepoD} {r cur : Value} {N : Nat} {w w' : World} (hb : Below w.heap.size w w') : ∀ {i : Nat} {v : Value}, okC5 gd gx x r cur N w i v → okC5 gd gx x r cur N w' i v
  | 0, _, h => h
  | 1, _, h => h
  | 2, _, h => h
  | 3, _, h => h
  | 4, _, h => h
  | 5, _, h => h
  | 6, _, h => LIn.bel h hb
  | 7, _, ⟨v', e, h⟩ => ⟨v', e, LIn.bel h hb⟩
  | 8, _, ⟨v', gb, e, h1, h2⟩ => ⟨v', gb, e, h1.bel' hb, repoK_bel h2 hb⟩
  | _ + 9, _, _ => trivial
abbrev opsC5 : List Op := [.fieldAddr 41 (.tmp 3) 0, .load 39 (.tmp 17), .fieldAddr 38 (.tmp 5) 0, .load 3 (.tmp 19), .fieldAddr 38 (.tmp 5) 1, .load 36 (.tmp 21), .call { callee := .value (.func 55), args := #[.tmp 22], argTypes := #[36] }, .build 38 #[(0, .tmp 20), (1, .tmp 23)], .buildSlice 39 1 #[(0, .tmp 24)], .call { callee := .builtin .append, args := #[.tmp 18, .tmp 25], argTypes := #[39, 39] }, .fieldAddr 41 (.tmp 3) 0, .store 39 (.tmp 27) (.tmp 26)]
abbrev depsC5 : List (List Nat) := [[], [0], [], [2], [], [4], [5], [3, 6], [7], [1, 8, 6], [9], [10, 9]]
set_option maxHeartbeats 16000000 in
theorem regC5 {L : List Value} {n0 w0 : World} {gd gx N0 : Nat} {x : RepoD} {r cur : Value} {l : List RepoD} {cs : Array Value} {ops : Array Oper} {Q : Exit → Act → World → Prop} {id : Nat} (hL : L.length = 30) (hsz : ops.size = 12)
    (hL3 : (L[3]?).getD undef = .pointer (some ⟨gd, 0, none⟩)) (hL5 : (L[5]?).getD undef = .pointer (some ⟨gx, 0, none⟩)) (hbx : Blk n0 gx 38 #[.int .i64 x.prio, r]) (hbd : Blk n0 gd 41 cs) (hof : cs[0]? = some cur) (hx : repoK.holds anyB w0 x r) (hw0 : Below w0.heap.size w0 n0) (hsm : x.pkgs.length ≤ 1048576 ∧ ∀ p ∈ x.pkgs, p.small) (hac : Acc repoK 38 N0 n0 l cur) (hgd : gd < N0) (hN0 : N0 ≤ n0.heap.size) (hln : l.length < 1048576)
    (hops : (ops.toList.map fun o => (o.op, o.guard)) = opsC5.map fun x => (x, none)) (hdst : (ops.toList.map (·.dst)) = [some 17, some 18, some 19, some 20, some 21, some 22, some 23, some 24, some 25, some 26, some 27, none])
    (hdeps : ((ops.toList.zip depsC5).all fun x => x.2.all fun d => x.1.after.any fun e => e.on == d && Region.binds .any e) = true)
    (hlow : (ops.toList.zipIdx.all fun x => x.1.after.all fun e => decide (e.on < x.2)) = true)
    (hK : ∀ mid ao cap W, mid.length = 12 → Acc repoK 38 N0 W (l ++ [x]) (.slice ao (l.length + 1) cap) → Blk W gd 41 (cs.setIfInBounds 0 (.slice ao (l.length + 1) cap)) → Touch (fun b => b = gd ∨ cur.ownBlock = some b) n0 W → Q .normal (frm (L.take 17) mid (L.drop 29)) W) :
    (Code.region id ops true).wp Tryz.prog Q { tmps := L.toArray, defers := [] } n0 := by
  obtain ⟨N, hN⟩ : ∃ N, N = n0.heap.size := ⟨_, rfl⟩
  have hF3 : ∀ mid, (frm (L.take 17) mid (L.drop 29)).eval (.tmp 3) = .pointer (some ⟨gd, 0, none⟩) := fun mid => (frm_front (by rw [List.length_take]; omega)).trans (by rw [List.getElem?_take_of_lt (by omega)]; exact hL3)
  have hF5 : ∀ mid, (frm (L.take 17) mid (L.drop 29)).eval (.tmp 5) = .pointer (some ⟨gx, 0, none⟩) := fun mid => (frm_front (by rw [List.length_take]; omega)).trans (by rw [List.getElem?_take_of_lt (by omega)]; exact hL5)
  have hop_at : ∀ (i : Nat) (o : Oper) (x : Op), ops[i]? = some o → opsC5[i]? = some x → o.op = x ∧ o.guard = none := fun i o x ho hx => by
    have h4 := congrArg (fun l => l[i]?) hops
    rw [List.getElem?_map, List.getElem?_map, Array.getElem?_toList, ho, hx] at h4
    exact Prod.mk.inj (Option.some.inj h4)
  have hds_at : ∀ (i : Nat) (o : Oper) (x : Option Tmp), ops[i]? = some o → ([some 17, some 18, some 19, some 20, some 21, some 22, some 23, some 24, some 25, some 26, some 27, none] : List (Option Tmp))[i]? = some x → o.dst = x := fun i o x ho hx => by
    have h4 := congrArg (fun l => l[i]?) hdst
    rw [List.getElem?_map, Array.getElem?_toList, ho, hx] at h4
    exact Option.some.inj h4
  obtain ⟨ac, cc, hcur⟩ : ∃ ac cc, cur = .slice ac l.length cc := by
    obtain ⟨xs, hown, _⟩ := hac.own
    exact own_at hown
  refine spec_tail (ok := okC5 gd gx x r cur N) (fun hb h => okC5_mono hb h) (n := 17) (K := 9) (M := 12) (N := 12) (by omega) (by omega) hsz (by omega) depsC5 (by rw [List.map_take, hdst]; rfl) hdeps rfl (by kernel_rfl) hlow (fun i o mid w hi ho hm hb hdp => ?_) (fun mid w hm hb hall => ?_)
  · have hbN : N ≤ w.heap.size := hN ▸ hb.size
    have hcases : i = 0 ∨ i = 1 ∨ i = 2 ∨ i = 3 ∨ i = 4 ∨ i = 5 ∨ i = 6 ∨ i = 7 ∨ i = 8 := by omega
    rcases hcases with rfl | rfl | rfl | rfl | rfl | rfl | rfl | rfl | rfl
    all_goals
      obtain ⟨hop, hgd'⟩ := hop_at _ _ _ ho rfl
      have hd := hdp _ rfl
      clear hdp hop_at hds_at ho
    · exact ⟨guard_no hgd', fun Kc hKc => doK_d0 3 gd 0 hop (hF3 mid) (hKc _ _ rfl (Below.refl _ _))⟩
    · subst hcur
      exact ⟨guard_no hgd', fun Kc hKc => doG_slQ 17 gd 0 _ _ _ hop (hd 0 (by simp)) (((hbd.bel' hb).cell 0).trans hof) (hKc _ _ rfl (Below.refl _ _))⟩
    · exact ⟨guard_no hgd', fun Kc hKc => doG_r0 5 gx 0 hop (hF5 mid) (hKc _ _ rfl (Below.refl _ _))⟩
    · exact ⟨guard_no hgd', fun Kc hKc => doK_int 19 gx 0 _ hop (hd 2 (by simp)) ((hbx.bel' hb).cell 0) (hKc _ _ rfl (Below.refl _ _))⟩
    · exact ⟨guard_no hgd', fun Kc hKc => doG_r1 5 gx 0 hop (hF5 mid) (hKc _ _ rfl (Below.refl _ _))⟩
    · obtain ⟨aa, cc, hr⟩ := hx.2.form
      subst hr
      exact ⟨guard_no hgd', fun Kc hKc => doG_slP 21 gx 1 _ _ _ hop (hd 4 (by simp)) ((hbx.bel' hb).cell 1) (hKc _ _ rfl (Below.refl _ _))⟩
    · have e1 := hd 5 (by simp)
      refine ⟨guard_no hgd', fun Kc hKc => doH_ccopied 22 _ hop e1 ((ccopied_any x.pkgs r w (hx.2.below (below_t' hw0 hb) fun _ _ _ => trivial) hsm.2 hsm.1).mono ?_)⟩
      rintro e w' ⟨v', rfl, k1, k2⟩
      exact ⟨v', rfl, hKc _ w' (k1.keep (Nat.le_refl _) fun b ⟨j1, j2⟩ _ => ⟨rfl, Nat.le_trans hbN j1, j2⟩) k2⟩
    · have e1 := hd 3 (by simp)
      have e2 := hd 6 (by simp)
      obtain ⟨v', hv'⟩ : ∃ v', v' = (frm (L.take 17) mid (L.drop 29)).eval (.tmp (17 + 6)) := ⟨_, rfl⟩
      rw [← hv'] at e2
      dsimp only [okC5] at e2
      obtain ⟨aa, cc, rfl⟩ := e2.form
      exact ⟨guard_no hgd', fun Kc hKc => doK_build 20 23 _ aa _ cc hop e1 hv'.symm (hKc _ _ ⟨_, rfl, e2⟩ (Below.refl _ _))⟩
    · obtain ⟨v', e1, e2⟩ := hd 7 (by simp)
      obtain ⟨aa, cc, rfl⟩ := e2.form
      exact ⟨guard_no hgd', fun Kc hKc => doK_one 24 _ aa _ cc hop e1 (hKc _ _ ⟨_, w.heap.size, rfl, Blk.new _ _ _, repoK_bel (N := N) (x := x) ⟨hx.1, e2⟩ (new_b _ _)⟩ (new_b _ _))⟩
  · have e0 : ops.toList.drop 9 = [ops[9]'(by omega), ops[10]'(by omega), ops[11]'(by omega)] := by
      rw [List.drop_eq_getElem_cons (by rw [Array.length_toList]; omega), List.drop_eq_getElem_cons (by rw [Array.length_toList]; omega), List.drop_eq_getElem_cons (by rw [Array.length_toList]; omega), List.drop_eq_nil_of_le (by rw [Array.length_toList]; omega)]
      simp only [Array.getElem_toList]
    rw [e0]
    obtain ⟨hp0, hg0⟩ := hop_at 9 _ _ (Array.getElem?_eq_getElem (by omega)) rfl
    have hd0 := hds_at 9 _ _ (Array.getElem?_eq_getElem (by omega)) rfl
    obtain ⟨hp1, hg1⟩ := hop_at 10 _ _ (Array.getElem?_eq_getElem (by omega)) rfl
    have hd1 := hds_at 10 _ _ (Array.getElem?_eq_getElem (by omega)) rfl
    obtain ⟨hp2, hg2⟩ := hop_at 11 _ _ (Array.getElem?_eq_getElem (by omega)) rfl
    have hd2 := hds_at 11 _ _ (Array.getElem?_eq_getElem (by omega)) rfl
    have hts : (frm (L.take 17) mid (L.drop 29)).tmps.size = 30 := by
      show ((L.take 17) ++ mid ++ L.drop 29).toArray.size = 30
      simp [List.length_take, List.length_drop, hL, hm]
    have hF : (L.take 17).length = 17 := by rw [List.length_take]; omega
    have z1 := hall 1 (by omega)
    obtain ⟨v', gb, z2, z3, z4⟩ := hall 8 (by omega)
    obtain ⟨iD, hiD, hz0, hz1, hz2⟩ := iRepZ
    refine tail_push (K := repoK) (r := v') (y := x) (m0 := N) Tryz.underlying39 hiD hz0 hz1 hz2 rfl (by decide) hp0 hg0 hd0 hp1 hg1 hd1 hp2 hg2 hd2 (fun a w K h1 h2 => doK_d0 _ _ _ hp1 h1 h2) (fun a w K old aa n c h1 h2 h3 h4 h5 h6 => doF_stQ _ _ _ _ old aa n c hp2 h1 h2 h3 h4 h5 h6) z1 z2 (hF3 mid) (by decide) (by decide) (by rw [hts]; decide) (by rw [hts]; decide) (hbd.bel' hb) hof hgd (by decide) (hac.below hb) z3 z4 (by omega) (fun b hb2 => ?_) (by have := hb.size; omega) (by omega) (by simp only [maxLen]; omega) fun ao cap W k1 k2 k3 => ?_
    · obtain ⟨xs, hown, _⟩ := hac.own
      have := hown.lt b hb2
      omega
    · rw [frm_put (n := 17) (d := 9) hF (by rw [hm]; decide), frm_put (n := 17) (d := 10) hF (by rw [List.length_set, hm]; decide)]
      exact hK _ ao cap W (by rw [List.length_set, List.length_set]; exact hm) k1 k2 ((Touch.of_below hb _).trans k3 fun _ _ h => h)
end Go.Proofs.YtdpjjnbelgaagaaGreatDoor

namespace Go.Proofs.YtdpjjnbelgaagaaGreatDoor
open Go.ChangeShapes Go.WideShapes Go.ChangeAt Go.RowKit Go.Deep
set_option maxRecDepth 100000

structure CSt (d : DataD) (w2 : World) (g k : Nat) (xr xi : Value) (W : World) : Prop where
  b1 : Blk W (g + 1) 41 #[.slice none 0 0, .slice none 0 0]
  b2 : Blk W w2.heap.size 41 #[xr, xi]
  ac : Acc repoK 38 (w2.heap.size + 1) W (d.repos.take k) xr
  bl : Below w2.heap.size w2 W
set_option maxHeartbeats 8000000 in
theorem ccopyd_any (d : DataD) (vr vi : Value) (w : World) (h : DataIn anyB w d vr vi) (hsm : d.small) : Calls Tryz.prog 25 #[.agg #[vr, vi]] w (DataPost d w) := by
  obtain ⟨ar, cr, rfl⟩ := h.repos.form
  obtain ⟨ai, ci, rfl⟩ := h.inst.form
  obtain ⟨n1, hn1⟩ : ∃ n, n = d.repos.length := ⟨_, rfl⟩
  obtain ⟨n2, hn2⟩ : ∃ n, n = d.inst.length := ⟨_, rfl⟩
  have HD := Lib.hid h
  have HS := Lib.hid hsm
  have HN := Lib.hid (And.intro hn1 hn2)
  have hnb1 : n1 ≤ 1048576 := hn1 ▸ hsm.repos
  have HM := Lib.hid (show ∀ W', Below w.heap.size w W' → Calls Tryz.prog 55 #[.slice ai n2 ci] W' (CopyPost pkgK W' d.inst) from fun W' hb => by
    rw [hn2]
    exact ccopied_any d.inst _ W' (h.inst.below hb fun _ _ _ => trivial) hsm.inst.2 hsm.inst.1)
  rw [← hn1, ← hn2]
  clear h hsm hn1 hn2
  obtain ⟨g, hg⟩ : ∃ g, g = w.heap.size := ⟨_, rfl⟩
  have HG := Lib.hid hg
  have HX0 := Lib.hid (show Blk ((w.alloc (.cells #[.slice ar n1 cr, .slice ai n2 ci] 41)).alloc (.cells #[.slice none 0 0, .slice none 0 0] 41)) (g + 1) 41 #[.slice none 0 0, .slice none 0 0] ∧ Blk ((w.alloc (.cells #[.slice ar n1 cr, .slice ai n2 ci] 41)).alloc (.cells #[.slice none 0 0, .slice none 0 0] 41)) g 41 #[.slice ar n1 cr, .slice ai n2 ci] ∧ Below w.heap.size w ((w.alloc (.cells #[.slice ar n1 cr, .slice ai n2 ci] 41)).alloc (.cells #[.slice none 0 0, .slice none 0 0] 41)) from by
    have h2 := Blk.new (w.alloc (.cells #[.slice ar n1 cr, .slice ai n2 ci] 41)) 41 #[.slice none 0 0, .slice none 0 0]
    rw [World.size_alloc] at h2
    rw [hg]
    exact ⟨h2, (Blk.new w 41 #[.slice ar n1 cr, .slice ai n2 ci]).bel' (new_b _ _), below_t' (new_b _ _) (new_b _ _)⟩)
  clear hg
  go_enter Tryz.func25, Tryz.ntmps25
  go_wp2_with (first
    | (go_at_call 55; (with_reducible refine (HM.out _ (below_t' (new_b w _) (new_b _ _))).mono ?_); rintro e w2 ⟨v', rfl, k1, k2⟩; obtain ⟨ia, ic, rfl⟩ := k1.form; have HC := Lib.hid (show LIn pkgK (free (g + 2)) w2 d.inst (.slice ia d.inst.length ic) ∧ Below w.heap.size w w2 ∧ Blk w2 (g + 1) 41 #[.slice none 0 0, .slice none 0 0] from ⟨k1.keep (Nat.le_refl _) fun b ⟨j1, j2⟩ _ => ⟨rfl, (by have := HG.out; rw [World.size_alloc, World.size_alloc] at j1; omega), j2⟩, below_t' HX0.out.2.2 k2, HX0.out.1.bel' k2⟩); have z0 : w2.cell? ⟨g, 0, none⟩ = some (.slice ar n1 cr) := (HX0.out.2.1.bel' k2).cell 0; have zl : g < w2.heap.size := (HX0.out.2.1.bel' k2).lt; rw [← HG.out]; clear k1 k2)
    | fail)
  have HQ0 := Lib.hid (show CSt d w2 g 0 (.slice none 0 0) (.slice ia d.inst.length ic) (w2.alloc (.cells #[.slice none 0 0, .slice ia d.inst.length ic] 41)) from ⟨HC.out.2.2.bel' (new_b _ _), Blk.new _ _ _, Acc.nil _ _ _ _, new_b _ _⟩)
  have HZl := Lib.hid zl
  clear z0 zl HX0 HM
  go_loopw [13] (fun i wr => ∃ k : Nat, k ≤ n1 ∧ i = .int .i64 k ∧ ∃ xr, Hid (CSt d w2 g k xr (.slice ia d.inst.length ic) wr)) (fun i _ => n1 - (intOf i).toNat)
  case atStart => exact ⟨0, by omega, rfl, _, HQ0.out⟩
  case round =>
    obtain ⟨k, hk, rfl, xr, HQ⟩ := hrel
    by_cases hlt : k < n1
    · have hki : (k : Int) < (n1 : Int) := by omega
      obtain ⟨b, o, r, ha, _, hcs0, hh0⟩ := HD.out.repos.at_ k (by have := HN.out; omega)
      obtain ⟨x, hx⟩ : ∃ x, x = d.repos[k]'(by have := HN.out; omega) := ⟨_, rfl⟩
      rw [← hx] at hcs0 hh0
      subst ha
      have hBw : Below w.heap.size w wr := below_t' HC.out.2.1 HQ.out.bl
      have hpk : LIn pkgK anyB w x.pkgs r := hh0.2
      obtain ⟨xa, xc, hr⟩ := hpk.form
      have hr' : (r : Value) = .slice xa x.pkgs.length xc := hr
      subst hr'
      have hd : CellsAt wr b (o + k * 2) [.int .i64 x.prio, .slice xa x.pkgs.length xc] := hcs0.below hBw
      have x0 : wr.cell? ⟨b, o + k * 2, none⟩ = some (.int .i64 x.prio) := hd.2 0 (show 0 < 2 by omega)
      have x1 : wr.cell? ⟨b, o + k * 2 + 1, none⟩ = some (.slice xa x.pkgs.length xc) := hd.2 1 (show 1 < 2 by omega)
      have xl := hd.1
      have HLt := Lib.hid hlt
      have HX := Lib.hid (And.intro hx hh0)
      have HBw := Lib.hid hBw
      clear hx hcs0 hh0 hpk hr hd hBw
      go_upto_region 5 with fail
      have hbn := new_b wr (.cells #[.int .i64 x.prio, .slice xa x.pkgs.length xc] 38)
      have hll : (d.repos.take k).length = k := by rw [List.length_take]; have := HN.out; have := HLt.out; omega
      have hxm : x ∈ d.repos := HX.out.1 ▸ List.getElem_mem _
      refine regC5 (w0 := w) (gd := w2.heap.size) (gx := wr.heap.size) (N0 := w2.heap.size + 1) (x := x) (r := .slice xa x.pkgs.length xc) (cur := xr) (l := d.repos.take k) (cs := #[xr, .slice ia d.inst.length ic]) (by kernel_rfl) (by kernel_rfl) rfl rfl (Blk.new _ _ _) (HQ.out.b2.bel' hbn) rfl HX.out.2 (below_t' HBw.out hbn) (HS.out.pkgs x hxm) (HQ.out.ac.below hbn) (by omega) (by have := HQ.out.b2.lt; rw [World.size_alloc]; omega) (by rw [hll]; have := HLt.out; omega) (by kernel_rfl) (by kernel_rfl) (by kernel_rfl) (by kernel_rfl) ?_
      intro mid ao cap V' hm k1 k2 k3
      obtain ⟨m0, m1, m2, m3, m4, m5, m6, m7, m8, m9, m10, m11, rfl⟩ := split12 hm
      rw [hll] at k1 k2
      have HV : Hid (CSt d w2 g (k + 1) (.slice ao (k + 1) cap) (.slice ia d.inst.length ic) V') := Lib.hid (by
        have hzl := HZl.out
        have hz1 := HC.out.2.2.lt
        have hxi : ∀ q, xr.ownBlock = some q → w2.heap.size + 1 ≤ q := fun q hq => by
          obtain ⟨_, _, _, h3, _⟩ := HQ.out.ac.ex
          exact h3 q hq
        refine ⟨(HQ.out.b1.bel' hbn).touch k3 (fun hf => ?_), k2, ?_, (below_t' HQ.out.bl hbn).trans (k3.below (Nat.le_trans HQ.out.bl.size hbn.size) fun q hq hf => ?_)⟩
        · rcases hf with hf | hf
          · omega
          · have := hxi _ hf; omega
        · have hxe := HX.out.1
          rw [List.take_succ_eq_append_getElem (by have := HN.out; have := HLt.out; omega), ← hxe]
          exact k1
        · rcases hf with hf | hf
          · omega
          · have := hxi _ hf; omega)
      clear hm k1 k2 k3 hbn hll hxm
      simp only [frm, List.take_succ_cons, List.take_zero, List.drop_succ_cons, List.drop_zero, List.cons_append, List.nil_append, List.append_nil]
      rename_i hk
      refine hk _ _ ?_
      go_wp2_with fail
      go_roundw
      case rel => exact ⟨k + 1, HLt.out, by go_num, _, HV.out⟩
      case measure => have := HLt.out; simp [intOf]; omega
    · obtain rfl : k = n1 := by omega
      have hrl : LIn repoK (free (w2.heap.size + 1)) wr d.repos xr := by
        have h1 := HQ.out.ac
        rw [List.take_of_length_le (by have := HN.out; omega)] at h1
        exact h1.done (by have := HD.out.repos.bound; omega) (by decide)
      obtain ⟨oa, oc, hxr⟩ := hrl.form
      have hk1 : d.repos.length = k := HN.out.1.symm
      have HRl := Lib.hid hrl
      rw [hk1] at hxr
      subst hxr
      have x20 : wr.cell? ⟨w2.heap.size, 0, none⟩ = some (.slice oa k oc) := HQ.out.b2.cell 0
      have x21 : wr.cell? ⟨w2.heap.size, 1, none⟩ = some (.slice ia d.inst.length ic) := HQ.out.b2.cell 1
      have x2l := HQ.out.b2.lt
      have x10 : wr.cell? ⟨g + 1, 0, none⟩ = some (.slice none 0 0) := HQ.out.b1.cell 0
      have x11 : wr.cell? ⟨g + 1, 1, none⟩ = some (.slice none 0 0) := HQ.out.b1.cell 1
      have f10 := HQ.out.b1.frozen 0
      have f11 := HQ.out.b1.frozen 1
      have x1l := HQ.out.b1.lt
      clear hk1 hrl
      go_wp2_with fail
      have hgw := HG.out
      have hzl := HC.out.2.2.lt
      have e0 : ∀ b, g + 2 ≤ b → ((wr.setCell ⟨g + 1, 0, none⟩ (.slice oa k oc)).setCell ⟨g + 1, 1, none⟩ (.slice ia d.inst.length ic)).heap[b]? = wr.heap[b]? := fun b hb =>
        (Below.heap_setCell _ ⟨g + 1, 1, none⟩ _ b (by show b ≠ g + 1; omega)).trans (Below.heap_setCell _ ⟨g + 1, 0, none⟩ _ b (by show b ≠ g + 1; omega))
      refine bodyPost_ret (results_cell_row rfl _ _ (g + 1) 41 _ (0, 0) _ rfl ((HQ.out.b1.set_ 0 (.slice oa k oc)).set_ 1 (.slice ia d.inst.length ic)) Tryz.underlying41 rfl (by kernel_rfl)) rfl ⟨_, _, rfl, ⟨?_, ?_⟩, ?_⟩
      · exact HRl.out.keep (by simp) fun b ⟨j1, j2⟩ _ => ⟨e0 b (by omega), by omega, fun i => (World.frozen?_of_block (w := wr) (e0 b (by omega))).trans (j2 i)⟩
      · exact (HC.out.1.bel HQ.out.bl).keep (by simp) fun b ⟨j1, j2⟩ _ => ⟨e0 b (by omega), by omega, fun i => (World.frozen?_of_block (w := wr) (e0 b (by omega))).trans (j2 i)⟩
      · exact (below_t' HC.out.2.1 HQ.out.bl).trans ((((Touch.refl (fun b => b = g + 1) wr).setCell (fun _ => rfl) _).setCell (fun _ => rfl) _).below (below_t' HC.out.2.1 HQ.out.bl).size fun b hb e => by omega)
end Go.Proofs.YtdpjjnbelgaagaaGreatDoor

namespace Go.Proofs.YtdpjjnbelgaagaaGreatDoor
open Go.ChangeShapes Go.WideShapes Go.ChangeAt Go.RowKit Go.Deep
set_option maxRecDepth 100000

def OInv (ok : World → Nat → Value → Prop) (K : Nat) (n0 : World) (F B : List Value) (listed : Array Bool) (a : Act) (w : World) : Prop :=
  ∃ mid, a = frm F mid B ∧ mid.length = K ∧ listed.size = K ∧ Below n0.heap.size n0 w ∧ ∀ i, i < K → listed.getD i false = true → ok w i ((mid[i]?).getD undef)
theorem spec_opt {ok : World → Nat → Value → Prop} (hmono : ∀ {w w' : World} {i : Nat} {v : Value}, Below w.heap.size w w' → ok w i v → ok w' i v) {n K : Nat} {L : List Value} {n0 : World} {ops : Array Oper} {Q : Exit → Act → World → Prop} {id : Nat}
    (hL : n + K ≤ L.length) (hsz : ops.size = K) (deps : List (List Nat))
    (hdst : (ops.toList.map (·.dst)) = (List.range K).map fun i => some (n + i))
    (hdeps : ((ops.toList.zip deps).all fun x => x.2.all fun d => x.1.after.any fun e => e.on == d && Region.binds .any e) = true) (hdl : deps.length = K)
    (hlow : (ops.toList.zipIdx.all fun x => x.1.after.all fun e => decide (e.on < x.2)) = true)
    (hstep : ∀ i o mid w, i < K → ops[i]? = some o → mid.length = K → Below n0.heap.size n0 w → (∀ ds, deps[i]? = some ds → ∀ j ∈ ds, ok w j ((frm (L.take n) mid (L.drop (n + K))).eval (.tmp (n + j)))) →
      (Region.wanted o (yielded ops (frm (L.take n) mid (L.drop (n + K))).tmps) = true ∧ ∀ Kc : Act → World → Prop, (∀ v w', ok w' i v → Below w.heap.size w w' → Kc ((frm (L.take n) mid (L.drop (n + K))).put o.dst v) w') → o.wp Tryz.prog (frm (L.take n) mid (L.drop (n + K))) w Kc Q) ∨
      (Region.wanted o (yielded ops (frm (L.take n) mid (L.drop (n + K))).tmps) = false ∧ ok w i undef))
    (hK : ∀ mid W, mid.length = K → Below n0.heap.size n0 W → (∀ i, i < K → ok W i ((mid[i]?).getD undef)) → Q .normal (frm (L.take n) mid (L.drop (n + K))) W) :
    (Code.region id ops true).wp Tryz.prog Q { tmps := L.toArray, defers := [] } n0 := by
  rw [← frm_split3 n K L]
  have hF : (L.take n).length = n := by rw [List.length_take]; omega
  have hm : ((L.drop n).take K).length = K := by rw [List.length_take, List.length_drop]; omega
  refine wp_region_any (by kernel_rfl) (wpAny_inv (OInv ok K n0 (L.take n) (L.drop (n + K))) (fun listed a w i hinv hi => ?_) (fun listed a w h hr => ?_) ops.size _ _ _ (by simp) ?_)
  · obtain ⟨mid, rfl, hm, hl, hb, hs⟩ := hinv
    obtain ⟨hi1, hun⟩ := ready_un hi
    obtain ⟨o, ho, haft⟩ := ready_after hi
    have hoL : ops.toList[i]? = some o := by rw [Array.getElem?_toList]; exact ho
    have hiK : i < K := by omega
    have hd : o.dst = some (n + i) := by
      have h4 := congrArg (fun l => l[i]?) hdst
      simp only [List.getElem?_map, hoL, Option.map_some, List.getElem?_range hiK] at h4
      exact Option.some.inj h4
    have hdep : ∀ ds, deps[i]? = some ds → ∀ x ∈ ds, x < K ∧ listed.getD x false = true := fun ds hds x hx => by
      have h5 := List.all_eq_true.1 hdeps (o, ds) (List.mem_of_getElem? (i := i) (by rw [List.getElem?_zip_eq_some]; exact ⟨hoL, hds⟩))
      have h6 := List.all_eq_true.1 h5 x hx
      rw [Array.any_eq_true] at h6
      obtain ⟨j, hj, h7⟩ := h6
      simp only [Bool.and_eq_true, beq_iff_eq] at h7
      have h8 : listed.getD x false = true := by rw [← h7.1]; exact haft _ (by simp) h7.2
      refine ⟨?_, h8⟩
      by_cases hx : x < listed.size
      · omega
      · rw [Array.getD_eq_getD_getElem?, Array.getElem?_eq_none (by omega)] at h8
        cases h8
    have hset : ∀ v w', Below w.heap.size w w' → ok w' i v → OInv ok K n0 (L.take n) (L.drop (n + K)) (listed.setIfInBounds i true) ((frm (L.take n) mid (L.drop (n + K))).put o.dst v) w' := fun v w' hw hv => by
      rw [hd]
      refine ⟨mid.set i v, frm_put hF (by omega) v, by rw [List.length_set]; exact hm, by simpa using hl, below_t' hb hw, fun j hj hlj => ?_⟩
      by_cases hji : j = i
      · subst hji
        rw [List.getElem?_set_self (by omega)]
        exact hv
      · rw [List.getElem?_set_ne (fun e => hji e.symm)]
        refine hmono hw (hs j hj ?_)
        simpa [Array.getD_eq_getD_getElem?, Array.getElem?_setIfInBounds_ne (fun e => hji e.symm : i ≠ j)] using hlj
    have h0 := hstep i o mid w hiK ho hm hb fun ds hds j hj => by
      obtain ⟨k1, k2⟩ := hdep ds hds j hj
      rw [frm_eval hF (by omega)]
      exact hs j k1 k2
    unfold wpOp
    rw [ho]
    rcases h0 with ⟨h1, h2⟩ | ⟨h1, h2⟩
    · simp only [h1, if_true]
      exact Or.inl (h2 _ fun v w' hv hw => hset v w' hw hv)
    · simp only [h1, Bool.false_eq_true, if_false]
      exact hset undef w (Below.refl _ _) h2
  · obtain ⟨mid, rfl, h1, h2, h3, h4⟩ := h
    have hall := ready_all hlow (by omega) hr
    exact hK mid w h1 h3 fun i hi => h4 i hi (hall i (by omega))
  · refine ⟨_, rfl, hm, by simp [hsz], (Below.refl _ n0).drew, fun j _ hj => ?_⟩
    rw [Array.getD_eq_getD_getElem?, Array.getElem?_replicate] at hj
    split at hj <;> cases hj
theorem guard_at {o : Oper} {ops : Array Oper} {a : Act} {n k : Nat} {b c : Bool} (h : o.guard = some (k, b)) (hd : ((ops[k]?).bind (·.dst)) = some (n + k)) (hv : a.eval (.tmp (n + k)) = .bool c) : Region.wanted o (yielded ops a.tmps) = (c == b) := by
  unfold Region.wanted
  rw [h]
  have hy : yielded ops a.tmps k = some c := by
    unfold yielded
    rw [hd]
    have hv2 : (a.tmps[n + k]?).getD undef = .bool c := by simpa [Act.eval] using hv
    cases hc : a.tmps[n + k]? with
    | none => rw [hc] at hv2; cases hv2
    | some v =>
      rw [hc] at hv2
      have hv3 : v = .bool c := hv2
      subst hv3
      show (match a.tmps[n + k]? with | some (.bool b) => some b | _ => none) = some c
      rw [hc]
  simp only [hy]
  cases b <;> cases c <;> rfl
section
variable {o : Oper} {a : Act} {w : World} {K : Act → World → Prop} {Q : Exit → Act → World → Prop}
theorem doU_data (t g : Nat) (a1 a2 : Option Addr) (n1 c1 n2 c2 : Nat) (ho : o.op = .load 41 (.tmp t)) (hx : a.eval (.tmp t) = .pointer (some ⟨g, 0, none⟩)) (hb : Blk w g 41 #[.slice a1 n1 c1, .slice a2 n2 c2]) (h : K (a.put o.dst (.agg #[.slice a1 n1 c1, .slice a2 n2 c2])) w) : o.wp Tryz.prog a w K Q := by
  have h0 : w.cell? ⟨g, 0, none⟩ = some (.slice a1 n1 c1) := hb.cell 0
  have h1 : w.cell? ⟨g, 1, none⟩ = some (.slice a2 n2 c2) := hb.cell 1
  have hl := hb.lt
  unfold Oper.wp execOp
  simp only [ho, hx]
  go_simp
  exact h
theorem doU_same (t u : Nat) (v1 v2 : Value) (ho : o.op = .call { callee := .value (.func 23), args := #[.tmp t, .tmp u], argTypes := #[41, 41] }) (hx : a.eval (.tmp t) = v1) (hu : a.eval (.tmp u) = v2) (hc : Calls Tryz.prog 23 #[v1, v2] w fun e w' => ∃ u, e = .returned u ∧ K (a.put o.dst u) w') : o.wp Tryz.prog a w K Q := by
  unfold Oper.wp execOp
  simp only [ho, resolve, Sem.run_bind, List.map_toArray, List.map_cons, List.map_nil, hx, hu]
  go_simp
  refine hc.mono ?_
  rintro e w' ⟨u, rfl, hk⟩
  exact hk
theorem doU_neq (t u : Nat) (p q : Bool) (ho : o.op = .binOp .neq 4 (.tmp t) (.tmp u) 4) (hx : a.eval (.tmp t) = .bool p) (hu : a.eval (.tmp u) = .bool q) (h : K (a.put o.dst (.bool (p != q))) w) : o.wp Tryz.prog a w K Q := by
  unfold Oper.wp execOp
  simp only [ho, hx, hu]
  go_simp
  cases p <;> cases q <;> exact h
theorem doU_eq0 (t : Nat) (x : Int) (ho : o.op = .binOp .eql 42 (.tmp t) (.const (.int .i64 0)) 42) (hx : a.eval (.tmp t) = .int .i64 x) (h : K (a.put o.dst (.bool (x == 0))) w) : o.wp Tryz.prog a w K Q := by
  unfold Oper.wp execOp
  simp only [ho, hx]
  go_simp
  exact h
theorem doU_eqs (t u : Nat) (x y : ByteArray) (ho : o.op = .binOp .eql 9 (.tmp t) (.tmp u) 9) (hx : a.eval (.tmp t) = .string x) (hu : a.eval (.tmp u) = .string y) (h : K (a.put o.dst (.bool (x.toList == y.toList))) w) : o.wp Tryz.prog a w K Q := by
  unfold Oper.wp execOp
  simp only [ho, hx, hu]
  go_simp
  exact h
theorem doU_and (t u : Nat) (p q : Bool) (ho : o.op = .pick (.tmp t) (.tmp u) (.const (.bool false))) (hx : a.eval (.tmp t) = .bool p) (hu : p = true → a.eval (.tmp u) = .bool q) (h : K (a.put o.dst (.bool (p && q))) w) : o.wp Tryz.prog a w K Q := by
  unfold Oper.wp execOp
  cases p with
  | false =>
    simp only [ho, hx]
    go_simp
    exact h
  | true =>
    simp only [ho, hx, hu rfl]
    go_simp
    exact h
end
/-- What the slot of each operation holds. -/
def okU5 (va vb : Value) (T : Bool) (ea eb : Int) (sa sb : ByteArray) : Nat → Value → Prop
  | 0, v => v = va
  | 1, v => v = vb
  | 2, v => v = .bool T
  | 3, v => v = vb
  | 4, v => v = va
  | 5, v => v = .bool T
  | 6, v => v = .bool false
  | 7, v => v = .bool false
  | 8, v => v = .int .i64 ea
  | 9, v => v = .bool (ea == 0)
  | 10, v => v = .bool (ea == 0)
  | 11, v => (ea == 0) = true → v = .int .i64 eb
  | 12, v => (ea == 0) = true → v = .bool (eb == 0)
  | 13, v => v = .bool (ea == 0 && eb == 0)
  | 14, v => v = .bool (ea == 0 && eb == 0)
  | 15, v => (ea == 0 && eb == 0) = true → v = .string sa
  | 16, v => (ea == 0 && eb == 0) = true → v = .string sb
  | 17, v => (ea == 0 && eb == 0) = true → v = .bool T
  | 18, v => (ea == 0 && eb == 0) = true → v = va
  | 19, v => (ea == 0 && eb == 0) = true → v = vb
  | 20, v => (ea == 0 && eb == 0) = true → v = .bool T
  | 21, v => (ea == 0 && eb == 0) = true → v = .bool false
  | 22, v => v = .bool false
  | 23, v => v = .bool false
  | _, _ => True
abbrev opsU5 : List (Op × Option (Nat × Bool)) := [(.load 41 (.tmp 2), none), (.load 41 (.tmp 3), none), (.call { callee := .value (.func 23), args := #[.tmp 34, .tmp 35], argTypes := #[41, 41] }, none), (.load 41 (.tmp 3), none), (.load 41 (.tmp 2), none), (.call { callee := .value (.func 23), args := #[.tmp 37, .tmp 38], argTypes := #[41, 41] }, none), (.binOp .neq 4 (.tmp 36) (.tmp 39) 4, none), (.move (.tmp 40), none), (.move (.tmp 6), some (7, false)), (.binOp .eql 42 (.tmp 42) (.const (.int .i64 0)) 42, some (7, false)), (.move (.tmp 43), some (7, false)), (.move (.tmp 8), some (10, true)), (.binOp .eql 42 (.tmp 45) (.const (.int .i64 0)) 42, some (10, true)), (.pick (.tmp 44) (.tmp 46) (.const (.bool false)), some (7, false)), (.move (.tmp 47), some (7, false)), (.move (.tmp 5), some (14, true)), (.move (.tmp 7), some (14, true)), (.binOp .eql 9 (.tmp 49) (.tmp 50) 9, some (14, true)), (.load 41 (.tmp 2), some (14, true)), (.load 41 (.tmp 3), some (14, true)), (.call { callee := .value (.func 23), args := #[.tmp 52, .tmp 53], argTypes := #[41, 41] }, some (14, true)), (.binOp .neq 4 (.tmp 51) (.tmp 54) 4, some (14, true)), (.pick (.tmp 48) (.tmp 55) (.const (.bool false)), some (7, false)), (.pick (.tmp 41) (.const (.bool true)) (.tmp 56), none)]
abbrev depsU5 : List (List Nat) := [[], [], [0, 1], [], [], [3, 4], [2, 5], [6], [7], [8, 7], [9, 7], [10], [11, 10], [10, 12, 7], [13, 7], [14], [14], [15, 16, 14], [14], [14], [18, 19, 14], [17, 20, 14], [14, 21, 7], [7, 22]]
set_option maxHeartbeats 16000000 in
theorem regU5 {L : List Value} {n0 : World} {g : Nat} {a1 a2 b1 b2 : Option Addr} {n1 c1 n2 c2 m1 d1 m2 d2 : Nat} {T : Bool} {ea eb : Int} {sa sb : ByteArray} {ops : Array Oper} {Q : Exit → Act → World → Prop} {id : Nat} (hL : L.length = 129) (hsz : ops.size = 24)
    (hL2 : (L[2]?).getD undef = .pointer (some ⟨g, 0, none⟩)) (hL3 : (L[3]?).getD undef = .pointer (some ⟨g + 1, 0, none⟩)) (hL5 : (L[5]?).getD undef = .string sa) (hL6 : (L[6]?).getD undef = .int .i64 ea) (hL7 : (L[7]?).getD undef = .string sb) (hL8 : (L[8]?).getD undef = .int .i64 eb)
    (hga : Blk n0 g 41 #[.slice a1 n1 c1, .slice a2 n2 c2]) (hgb : Blk n0 (g + 1) 41 #[.slice b1 m1 d1, .slice b2 m2 d2])
    (hcs : ∀ w, Below n0.heap.size n0 w → Calls Tryz.prog 23 #[.agg #[.slice a1 n1 c1, .slice a2 n2 c2], .agg #[.slice b1 m1 d1, .slice b2 m2 d2]] w fun e w' => e = .returned (.bool T) ∧ Below w.heap.size w w')
    (hcs2 : ∀ w, Below n0.heap.size n0 w → Calls Tryz.prog 23 #[.agg #[.slice b1 m1 d1, .slice b2 m2 d2], .agg #[.slice a1 n1 c1, .slice a2 n2 c2]] w fun e w' => e = .returned (.bool T) ∧ Below w.heap.size w w')
    (hst : (ea == 0 && eb == 0) = true → (sa.toList == sb.toList) = T)
    (hops : (ops.toList.map fun o => (o.op, o.guard)) = opsU5) (hdst : (ops.toList.map (·.dst)) = (List.range 24).map fun i => some (34 + i))
    (hdeps : ((ops.toList.zip depsU5).all fun x => x.2.all fun d => x.1.after.any fun e => e.on == d && Region.binds .any e) = true)
    (hlow : (ops.toList.zipIdx.all fun x => x.1.after.all fun e => decide (e.on < x.2)) = true)
    (hK : ∀ mid W, mid.length = 24 → Below n0.heap.size n0 W → (mid[23]?).getD undef = .bool false → Q .normal (frm (L.take 34) mid (L.drop 58)) W) :
    (Code.region id ops true).wp Tryz.prog Q { tmps := L.toArray, defers := [] } n0 := by
  have hF2 : ∀ mid, (frm (L.take 34) mid (L.drop 58)).eval (.tmp 2) = .pointer (some ⟨g, 0, none⟩) := fun mid => (frm_front (by rw [List.length_take]; omega)).trans (by rw [List.getElem?_take_of_lt (by omega)]; exact hL2)
  have hF3 : ∀ mid, (frm (L.take 34) mid (L.drop 58)).eval (.tmp 3) = .pointer (some ⟨g + 1, 0, none⟩) := fun mid => (frm_front (by rw [List.length_take]; omega)).trans (by rw [List.getElem?_take_of_lt (by omega)]; exact hL3)
  have hF5 : ∀ mid, (frm (L.take 34) mid (L.drop 58)).eval (.tmp 5) = .string sa := fun mid => (frm_front (by rw [List.length_take]; omega)).trans (by rw [List.getElem?_take_of_lt (by omega)]; exact hL5)
  have hF6 : ∀ mid, (frm (L.take 34) mid (L.drop 58)).eval (.tmp 6) = .int .i64 ea := fun mid => (frm_front (by rw [List.length_take]; omega)).trans (by rw [List.getElem?_take_of_lt (by omega)]; exact hL6)
  have hF7 : ∀ mid, (frm (L.take 34) mid (L.drop 58)).eval (.tmp 7) = .string sb := fun mid => (frm_front (by rw [List.length_take]; omega)).trans (by rw [List.getElem?_take_of_lt (by omega)]; exact hL7)
  have hF8 : ∀ mid, (frm (L.take 34) mid (L.drop 58)).eval (.tmp 8) = .int .i64 eb := fun mid => (frm_front (by rw [List.length_take]; omega)).trans (by rw [List.getElem?_take_of_lt (by omega)]; exact hL8)
  have hop_at : ∀ (i : Nat) (o : Oper) (x : Op × Option (Nat × Bool)), ops[i]? = some o → opsU5[i]? = some x → o.op = x.1 ∧ o.guard = x.2 := fun i o x ho hx => by
    have h4 := congrArg (fun l => l[i]?) hops
    rw [List.getElem?_map, Array.getElem?_toList, ho, hx] at h4
    exact Prod.mk.inj (Option.some.inj h4)
  have hda : ∀ k, k < 24 → ((ops[k]?).bind (·.dst)) = some (34 + k) := fun k hk => by
    have h4 := congrArg (fun l => l[k]?) hdst
    simp only [List.getElem?_map, List.getElem?_range hk, Option.map_some, Array.getElem?_toList] at h4
    cases ho : ops[k]? with
    | none => rw [ho] at h4; cases h4
    | some o =>
      rw [ho] at h4
      exact Option.some.inj h4
  refine spec_opt (ok := fun _ i v => okU5 (.agg #[.slice a1 n1 c1, .slice a2 n2 c2]) (.agg #[.slice b1 m1 d1, .slice b2 m2 d2]) T ea eb sa sb i v) (fun _ h => h) (n := 34) (K := 24) (by omega) hsz depsU5 hdst hdeps rfl hlow (fun i o mid w hi ho hm hb hdp => ?_) (fun mid W hm hb hall => hK mid W hm hb (hall 23 (by omega)))
  have hcases : i = 0 ∨ i = 1 ∨ i = 2 ∨ i = 3 ∨ i = 4 ∨ i = 5 ∨ i = 6 ∨ i = 7 ∨ i = 8 ∨ i = 9 ∨ i = 10 ∨ i = 11 ∨ i = 12 ∨ i = 13 ∨ i = 14 ∨ i = 15 ∨ i = 16 ∨ i = 17 ∨ i = 18 ∨ i = 19 ∨ i = 20 ∨ i = 21 ∨ i = 22 ∨ i = 23 := by omega
  rcases hcases with rfl | rfl | rfl | rfl | rfl | rfl | rfl | rfl | rfl | rfl | rfl | rfl | rfl | rfl | rfl | rfl | rfl | rfl | rfl | rfl | rfl | rfl | rfl | rfl
  all_goals
    obtain ⟨hop, hgd'⟩ := hop_at _ _ _ ho rfl
    have hd := hdp _ rfl
    clear hdp hop_at ho
  · exact .inl ⟨guard_no hgd', fun Kc hKc => doU_data 2 g _ _ _ _ _ _ hop (hF2 mid) (hga.bel' hb) (hKc _ _ rfl (Below.refl _ _))⟩
  · exact .inl ⟨guard_no hgd', fun Kc hKc => doU_data 3 (g + 1) _ _ _ _ _ _ hop (hF3 mid) (hgb.bel' hb) (hKc _ _ rfl (Below.refl _ _))⟩
  · refine .inl ⟨guard_no hgd', fun Kc hKc => doU_same 34 35 _ _ hop (hd 0 (by simp)) (hd 1 (by simp)) ((hcs w hb).mono ?_)⟩
    rintro e w' ⟨rfl, k⟩
    exact ⟨_, rfl, hKc _ w' rfl k⟩
  · exact .inl ⟨guard_no hgd', fun Kc hKc => doU_data 3 (g + 1) _ _ _ _ _ _ hop (hF3 mid) (hgb.bel' hb) (hKc _ _ rfl (Below.refl _ _))⟩
  · exact .inl ⟨guard_no hgd', fun Kc hKc => doU_data 2 g _ _ _ _ _ _ hop (hF2 mid) (hga.bel' hb) (hKc _ _ rfl (Below.refl _ _))⟩
  · refine .inl ⟨guard_no hgd', fun Kc hKc => doU_same 37 38 _ _ hop (hd 3 (by simp)) (hd 4 (by simp)) ((hcs2 w hb).mono ?_)⟩
    rintro e w' ⟨rfl, k⟩
    exact ⟨_, rfl, hKc _ w' rfl k⟩
  · exact .inl ⟨guard_no hgd', fun Kc hKc => doU_neq 36 39 T T hop (hd 2 (by simp)) (hd 5 (by simp)) (hKc _ _ (show Value.bool (T != T) = .bool false from by simp) (Below.refl _ _))⟩
  · exact .inl ⟨guard_no hgd', fun Kc hKc => doG_move 40 _ hop (hd 6 (by simp)) (hKc _ _ rfl (Below.refl _ _))⟩
  · have hw := guard_at (n := 34) hgd' (hda 7 (by omega)) (hd 7 (by simp))
    exact .inl ⟨hw, fun Kc hKc => doG_move 6 _ hop (hF6 mid) (hKc _ _ rfl (Below.refl _ _))⟩
  · have hw := guard_at (n := 34) hgd' (hda 7 (by omega)) (hd 7 (by simp))
    exact .inl ⟨hw, fun Kc hKc => doU_eq0 42 _ hop (hd 8 (by simp)) (hKc _ _ rfl (Below.refl _ _))⟩
  · have hw := guard_at (n := 34) hgd' (hda 7 (by omega)) (hd 7 (by simp))
    exact .inl ⟨hw, fun Kc hKc => doG_move 43 _ hop (hd 9 (by simp)) (hKc _ _ rfl (Below.refl _ _))⟩
  · have hw := guard_at (n := 34) hgd' (hda 10 (by omega)) (hd 10 (by simp))
    by_cases hcw : (ea == 0) = true
    · rw [hcw] at hw
      exact .inl ⟨hw, fun Kc hKc => doG_move 8 _ hop (hF8 mid) (hKc _ _ (fun _ => rfl) (Below.refl _ _))⟩
    · refine .inr ⟨by rw [hw]; simpa using hcw, fun k => absurd k hcw⟩
  · have hw := guard_at (n := 34) hgd' (hda 10 (by omega)) (hd 10 (by simp))
    by_cases hcw : (ea == 0) = true
    · rw [hcw] at hw
      exact .inl ⟨hw, fun Kc hKc => doU_eq0 45 _ hop (hd 11 (by simp) hcw) (hKc _ _ (fun _ => rfl) (Below.refl _ _))⟩
    · refine .inr ⟨by rw [hw]; simpa using hcw, fun k => absurd k hcw⟩
  · have hw := guard_at (n := 34) hgd' (hda 7 (by omega)) (hd 7 (by simp))
    exact .inl ⟨hw, fun Kc hKc => doU_and 44 46 _ _ hop (hd 10 (by simp)) (fun k => hd 12 (by simp) k) (hKc _ _ rfl (Below.refl _ _))⟩
  · have hw := guard_at (n := 34) hgd' (hda 7 (by omega)) (hd 7 (by simp))
    exact .inl ⟨hw, fun Kc hKc => doG_move 47 _ hop (hd 13 (by simp)) (hKc _ _ rfl (Below.refl _ _))⟩
  · have hw := guard_at (n := 34) hgd' (hda 14 (by omega)) (hd 14 (by simp))
    by_cases hcw : (ea == 0 && eb == 0) = true
    · rw [hcw] at hw
      exact .inl ⟨hw, fun Kc hKc => doG_move 5 _ hop (hF5 mid) (hKc _ _ (fun _ => rfl) (Below.refl _ _))⟩
    · refine .inr ⟨by rw [hw]; simpa using hcw, fun k => absurd k hcw⟩
  · have hw := guard_at (n := 34) hgd' (hda 14 (by omega)) (hd 14 (by simp))
    by_cases hcw : (ea == 0 && eb == 0) = true
    · rw [hcw] at hw
      exact .inl ⟨hw, fun Kc hKc => doG_move 7 _ hop (hF7 mid) (hKc _ _ (fun _ => rfl) (Below.refl _ _))⟩
    · refine .inr ⟨by rw [hw]; simpa using hcw, fun k => absurd k hcw⟩
  · have hw := guard_at (n := 34) hgd' (hda 14 (by omega)) (hd 14 (by simp))
    by_cases hcw : (ea == 0 && eb == 0) = true
    · rw [hcw] at hw
      exact .inl ⟨hw, fun Kc hKc => doU_eqs 49 50 _ _ hop (hd 15 (by simp) hcw) (hd 16 (by simp) hcw) (hKc _ _ (fun _ => by rw [hst hcw]) (Below.refl _ _))⟩
    · refine .inr ⟨by rw [hw]; simpa using hcw, fun k => absurd k hcw⟩
  · have hw := guard_at (n := 34) hgd' (hda 14 (by omega)) (hd 14 (by simp))
    by_cases hcw : (ea == 0 && eb == 0) = true
    · rw [hcw] at hw
      exact .inl ⟨hw, fun Kc hKc => doU_data 2 g _ _ _ _ _ _ hop (hF2 mid) (hga.bel' hb) (hKc _ _ (fun _ => rfl) (Below.refl _ _))⟩
    · refine .inr ⟨by rw [hw]; simpa using hcw, fun k => absurd k hcw⟩
  · have hw := guard_at (n := 34) hgd' (hda 14 (by omega)) (hd 14 (by simp))
    by_cases hcw : (ea == 0 && eb == 0) = true
    · rw [hcw] at hw
      exact .inl ⟨hw, fun Kc hKc => doU_data 3 (g + 1) _ _ _ _ _ _ hop (hF3 mid) (hgb.bel' hb) (hKc _ _ (fun _ => rfl) (Below.refl _ _))⟩
    · refine .inr ⟨by rw [hw]; simpa using hcw, fun k => absurd k hcw⟩
  · have hw := guard_at (n := 34) hgd' (hda 14 (by omega)) (hd 14 (by simp))
    by_cases hcw : (ea == 0 && eb == 0) = true
    · rw [hcw] at hw
      exact .inl ⟨hw, fun Kc hKc => doU_same 52 53 _ _ hop (hd 18 (by simp) hcw) (hd 19 (by simp) hcw) ((hcs w hb).mono fun e w' ⟨k1, k2⟩ => ⟨_, k1, hKc _ w' (fun _ => rfl) k2⟩)⟩
    · refine .inr ⟨by rw [hw]; simpa using hcw, fun k => absurd k hcw⟩
  · have hw := guard_at (n := 34) hgd' (hda 14 (by omega)) (hd 14 (by simp))
    by_cases hcw : (ea == 0 && eb == 0) = true
    · rw [hcw] at hw
      exact .inl ⟨hw, fun Kc hKc => doU_neq 51 54 T T hop (hd 17 (by simp) hcw) (hd 20 (by simp) hcw) (hKc _ _ (fun _ => show Value.bool (T != T) = .bool false from by simp) (Below.refl _ _))⟩
    · refine .inr ⟨by rw [hw]; simpa using hcw, fun k => absurd k hcw⟩
  · have hw := guard_at (n := 34) hgd' (hda 7 (by omega)) (hd 7 (by simp))
    exact .inl ⟨hw, fun Kc hKc => doU_and 48 55 _ false hop (hd 14 (by simp)) (fun k => hd 21 (by simp) k) (hKc _ _ (show Value.bool (_ && false) = .bool false from by simp) (Below.refl _ _))⟩
  · exact .inl ⟨guard_no hgd', fun Kc hKc => doS_pick 41 56 _ hop (hd 7 (by simp)) (hd 22 (by simp)) (hKc _ _ rfl (Below.refl _ _))⟩
end Go.Proofs.YtdpjjnbelgaagaaGreatDoor

namespace Go.Proofs.YtdpjjnbelgaagaaGreatDoor
open Go.ChangeShapes Go.WideShapes Go.ChangeAt Go.RowKit Go.Deep
set_option maxRecDepth 100000

theorem enc_same_iff {a b : DataD} {ba bb : List UInt8} {ea eb : Int} (ha : (ba, ea) = encodeE a) (hb : (bb, eb) = encodeE b) (h : (ea == 0 && eb == 0) = true) : ((⟨ba.toArray⟩ : ByteArray).toList == (⟨bb.toArray⟩ : ByteArray).toList) = sameA a b := by
  simp only [Bool.and_eq_true, beq_iff_eq] at h
  obtain ⟨rfl, rfl⟩ := h
  obtain ⟨a1, a2, rfl⟩ := enc_ok ha
  obtain ⟨b1, b2, rfl⟩ := enc_ok hb
  rw [Bool.eq_iff_iff, beq_iff_eq, ← enc_iff a1 b1 a2 b2]
  constructor
  · intro h
    have h2 := bytes_ext h
    injection h2 with h2
    simpa using congrArg Array.toList h2
  · intro h
    rw [h]
theorem split24 {l : List Value} (h : l.length = 24) : ∃ m0 m1 m2 m3 m4 m5 m6 m7 m8 m9 m10 m11 n0 n1 n2 n3 n4 n5 n6 n7 n8 n9 n10 n11, l = [m0, m1, m2, m3, m4, m5, m6, m7, m8, m9, m10, m11, n0, n1, n2, n3, n4, n5, n6, n7, n8, n9, n10, n11] := by
  obtain ⟨m0, m1, m2, m3, m4, m5, m6, m7, m8, m9, m10, m11, e1⟩ := split12 (l := l.take 12) (by rw [List.length_take]; omega)
  obtain ⟨n0, n1, n2, n3, n4, n5, n6, n7, n8, n9, n10, n11, e2⟩ := split12 (l := l.drop 12) (by rw [List.length_drop]; omega)
  exact ⟨m0, m1, m2, m3, m4, m5, m6, m7, m8, m9, m10, m11, n0, n1, n2, n3, n4, n5, n6, n7, n8, n9, n10, n11, by rw [← List.take_append_drop 12 l, e1, e2]; rfl⟩
set_option maxHeartbeats 8000000 in
theorem unlike_any (a b : DataD) (va1 va2 vb1 vb2 : Value) (w : World) (ha : DataIn anyB w a va1 va2) (hb : DataIn anyB w b vb1 vb2) (hwa : wtA a ≤ 1048576) (hwb : wtA b ≤ 1048576) (hW : Words w) (hO : Ops w) :
    Calls Tryz.prog 7 #[.agg #[va1, va2], .agg #[vb1, vb2]] w fun e w' => e = .returned (.bool true) ∧ Below w.heap.size w w' := by
  obtain ⟨ar, cr, rfl⟩ := ha.repos.form
  obtain ⟨ai, ci, rfl⟩ := ha.inst.form
  obtain ⟨br, dr, rfl⟩ := hb.repos.form
  obtain ⟨bi, di, rfl⟩ := hb.inst.form
  obtain ⟨g, hg⟩ : ∃ g, g = w.heap.size := ⟨_, rfl⟩
  obtain ⟨W, hWe⟩ : ∃ W, W = (w.alloc (.cells #[.slice ar a.repos.length cr, .slice ai a.inst.length ci] 41)).alloc (.cells #[.slice br b.repos.length dr, .slice bi b.inst.length di] 41) := ⟨_, rfl⟩
  have HX := Lib.hid (show Blk W g 41 #[.slice ar a.repos.length cr, .slice ai a.inst.length ci] ∧ Blk W (g + 1) 41 #[.slice br b.repos.length dr, .slice bi b.inst.length di] ∧ Below w.heap.size w W from by
    have h2 := Blk.new (w.alloc (.cells #[.slice ar a.repos.length cr, .slice ai a.inst.length ci] 41)) 41 #[.slice br b.repos.length dr, .slice bi b.inst.length di]
    rw [World.size_alloc] at h2
    rw [hWe, hg]
    exact ⟨(Blk.new w 41 #[.slice ar a.repos.length cr, .slice ai a.inst.length ci]).bel' (new_b _ _), h2, below_t' (new_b _ _) (new_b _ _)⟩)
  have HF := Lib.hid (show ∀ w', Below W.heap.size W w' → w'.cell? ⟨g, 0, none⟩ = some (.slice ar a.repos.length cr) ∧ w'.cell? ⟨g, 1, none⟩ = some (.slice ai a.inst.length ci) ∧ w'.cell? ⟨g + 1, 0, none⟩ = some (.slice br b.repos.length dr) ∧ w'.cell? ⟨g + 1, 1, none⟩ = some (.slice bi b.inst.length di) ∧ g < w'.heap.size ∧ g + 1 < w'.heap.size from fun w' h => ⟨(HX.out.1.bel' h).cell 0, (HX.out.1.bel' h).cell 1, (HX.out.2.1.bel' h).cell 0, (HX.out.2.1.bel' h).cell 1, (HX.out.1.bel' h).lt, (HX.out.2.1.bel' h).lt⟩)
  have HTab := Lib.hid (show ∀ w', Below W.heap.size W w' → Words w' ∧ Ops w' ∧ DataIn anyB w' a (.slice ar a.repos.length cr) (.slice ai a.inst.length ci) ∧ DataIn anyB w' b (.slice br b.repos.length dr) (.slice bi b.inst.length di) from fun w' h => ⟨hW.below (below_t' HX.out.2.2 h), hO.below (below_t' HX.out.2.2 h), ha.bl (below_t' HX.out.2.2 h), hb.bl (below_t' HX.out.2.2 h)⟩)
  have HWk := Lib.hid (show ∀ w', Below W.heap.size W w' → Calls Tryz.prog 8 #[] w' fun e w'' => e = .returned (.bool true) ∧ Below w'.heap.size w' w'' from fun w' h => works11_any w' (HTab.out _ h).1 (HTab.out _ h).2.1)
  have HLa := Lib.hid (show ∀ w', Below W.heap.size W w' → Calls Tryz.prog 17 #[.agg #[.slice ar a.repos.length cr, .slice ai a.inst.length ci]] w' (SomeBool w') from fun w' h => large11_any a _ _ w' (HTab.out _ h).2.2.1)
  have HLb := Lib.hid (show ∀ w', Below W.heap.size W w' → Calls Tryz.prog 17 #[.agg #[.slice br b.repos.length dr, .slice bi b.inst.length di]] w' (SomeBool w') from fun w' h => large11_any b _ _ w' (HTab.out _ h).2.2.2)
  obtain ⟨⟨ba, ea⟩, hea⟩ : ∃ p, p = encodeE a := ⟨_, rfl⟩
  obtain ⟨⟨bb, eb⟩, heb⟩ : ∃ p, p = encodeE b := ⟨_, rfl⟩
  obtain ⟨S, hS⟩ : ∃ S : ByteArray, S = ⟨ba.toArray⟩ := ⟨_, rfl⟩
  obtain ⟨T, hT⟩ : ∃ T : ByteArray, T = ⟨bb.toArray⟩ := ⟨_, rfl⟩
  have HEq := Lib.hid (show (ea == 0 && eb == 0) = true → (S.toList == T.toList) = sameA a b from fun h => by rw [hS, hT]; exact enc_same_iff hea heb h)
  have HEa := Lib.hid (show ∀ w', Below W.heap.size W w' → Calls Tryz.prog 11 #[.agg #[.slice ar a.repos.length cr, .slice ai a.inst.length ci]] w' (fun r w'' => r = .returned (.tuple #[.string S, .int .i64 ea]) ∧ Below w'.heap.size w' w'') from fun w' h => hS ▸ enc_call hea.symm (by omega) w' (HTab.out _ h).2.2.1 (HTab.out _ h).1 (HTab.out _ h).2.1)
  have HEb := Lib.hid (show ∀ w', Below W.heap.size W w' → Calls Tryz.prog 11 #[.agg #[.slice br b.repos.length dr, .slice bi b.inst.length di]] w' (fun r w'' => r = .returned (.tuple #[.string T, .int .i64 eb]) ∧ Below w'.heap.size w' w'') from fun w' h => hT ▸ enc_call heb.symm (by omega) w' (HTab.out _ h).2.2.2 (HTab.out _ h).1 (HTab.out _ h).2.1)
  have HSm := Lib.hid (data_small hwa)
  obtain ⟨d0, d1, d2, d3, dl, dl2⟩ := HF.out W (Below.refl _ _)
  have HA := Lib.hid ha
  clear hW hO ha hb hwa hwb hea heb hS hT
  go_enter Tryz.func7, Tryz.ntmps7
  go_upto_region 1 with fail
  rw [← hg, ← hWe]
  have HG := Lib.hid hg
  clear hWe hg
  have W1 := Lib.hid (HWk.out _ (Below.refl _ W))
  go_upto_region 3 with (first
    | (go_at_call 8; (with_reducible refine W1.out.mono ?_); rintro r w1 ⟨rfl, hb1⟩; have HB1 := Lib.hid hb1; obtain ⟨c0, c1, c2, c3, cl, cl2⟩ := HF.out w1 hb1; clear hb1)
    | (go_at_call 17; (with_reducible refine (HLa.out _ HB1.out).mono ?_); rintro r w2 ⟨⟨q, rfl⟩, hb2⟩; have HB2 := Lib.hid (below_t' HB1.out hb2); obtain ⟨e0, e1, e2, e3, el, el2⟩ := HF.out w2 HB2.out; clear hb2; cases q)
    | (go_at_call 17; (with_reducible refine (HLb.out _ HB2.out).mono ?_); rintro r w3 ⟨⟨q, rfl⟩, hb3⟩; have HB3 := Lib.hid (below_t' HB2.out hb3); obtain ⟨f0, f1, f2, f3, fl, fl2⟩ := HF.out w3 HB3.out; clear hb3; cases q)
    | (go_at_call 8; (with_reducible refine (HWk.out _ HB3.out).mono ?_); rintro r w4 ⟨rfl, hb4⟩; have HB4 := Lib.hid (below_t' HB3.out hb4); clear hb4)
    | (go_at_call 8; (with_reducible refine (HWk.out _ HB2.out).mono ?_); rintro r w4 ⟨rfl, hb4⟩; have HB4 := Lib.hid (below_t' HB2.out hb4); clear hb4)
    | fail)
  rotate_left
  · go_ret
    exact ⟨rfl, below_t' HX.out.2.2 HB4.out⟩
  · go_ret
    exact ⟨rfl, below_t' HX.out.2.2 HB4.out⟩
  have E1 := Lib.hid (HEa.out _ HB3.out)
  clear d0 d1 d2 d3 dl dl2 c0 c1 c2 c3 cl cl2 e0 e1 e2 e3 el el2
  go_upto_region 5 with (first
    | (go_at_call 11; (with_reducible refine E1.out.mono ?_); rintro r w4 ⟨rfl, hb4⟩; have HB4 := Lib.hid (below_t' HB3.out hb4); obtain ⟨c0, c1, c2, c3, cl, cl2⟩ := HF.out w4 HB4.out; clear hb4)
    | (go_at_call 11; (with_reducible refine (HEb.out _ HB4.out).mono ?_); rintro r w5 ⟨rfl, hb5⟩; have HB5 := Lib.hid (below_t' HB4.out hb5); clear hb5)
    | fail)
  clear f0 f1 f2 f3 fl fl2 c0 c1 c2 c3 cl cl2
  refine regU5 (g := g) (T := sameA a b) (ea := ea) (eb := eb) (sa := S) (sb := T) (by kernel_rfl) (by kernel_rfl) rfl rfl rfl rfl rfl rfl (HX.out.1.bel' HB5.out) (HX.out.2.1.bel' HB5.out) (fun w' h => cSame_any a b _ _ _ _ w' (HTab.out _ (below_t' HB5.out h)).2.2.1 (HTab.out _ (below_t' HB5.out h)).2.2.2) (fun w' h => by rw [sameA_comm a b]; exact cSame_any b a _ _ _ _ w' (HTab.out _ (below_t' HB5.out h)).2.2.2 (HTab.out _ (below_t' HB5.out h)).2.2.1) HEq.out (by kernel_rfl) (by kernel_rfl) (by kernel_rfl) (by kernel_rfl) ?_
  intro mid w6 hm hb6 h23
  have HB6 := Lib.hid (below_t' HB5.out hb6)
  obtain ⟨c0, c1, c2, c3, cl, cl2⟩ := HF.out w6 HB6.out
  obtain ⟨m0, m1, m2, m3, m4, m5, m6, m7, m8, m9, m10, m11, n0, n1, n2, n3, n4, n5, n6, n7, n8, n9, n10, n11, rfl⟩ := split24 hm
  have h23' : n11 = .bool false := h23
  subst h23'
  clear hm hb6 h23
  simp only [frm, List.take_succ_cons, List.take_zero, List.drop_succ_cons, List.drop_zero, List.cons_append, List.nil_append, List.append_nil]
  rename_i hk
  refine hk _ _ ?_
  have HC1 := Lib.hid (ccopyd_any a _ _ w6 (HTab.out _ HB6.out).2.2.1 HSm.out)
  have HR := Lib.hid (show ∀ w', Below W.heap.size W w' → Calls Tryz.prog 20 #[.agg #[.slice ar a.repos.length cr, .slice ai a.inst.length ci]] w' (DataPost a w') from fun w' h => r11copy_any a _ _ w' (HTab.out _ h).2.2.1 HSm.out)
  go_wp2_with (first
    | (go_at_call 25; (with_reducible refine HC1.out.mono ?_); rintro r w7 ⟨vr, vi, rfl, k1, k2⟩; have HB7 := Lib.hid (below_t' HB6.out k2); have HB67 := Lib.hid k2; obtain ⟨ra, rc, rfl⟩ := k1.repos.form; obtain ⟨ia, ic, rfl⟩ := k1.inst.form; have HC := Lib.hid k1; obtain ⟨e0, e1, e2, e3, el, el2⟩ := HF.out w7 HB7.out; clear k1 k2)
    | (go_at_call 20; (with_reducible refine (HR.out _ (below_t' HB7.out (new_b _ _))).mono ?_); rintro r w8 ⟨vr2, vi2, rfl, k1, k2⟩; have HB78 := Lib.hid k2; have HB8 := Lib.hid (below_t' (below_t' HB7.out (new_b _ _)) k2); obtain ⟨ra2, rc2, rfl⟩ := k1.repos.form; obtain ⟨ia2, ic2, rfl⟩ := k1.inst.form; have HD := Lib.hid k1; clear k1 k2)
    | fail)
  clear c0 c1 c2 c3 cl cl2 e0 e1 e2 e3 el el2 HC1 HR
  obtain ⟨X, hX⟩ : ∃ X, X = w8.alloc (.cells #[.slice ra2 a.repos.length rc2, .slice ia2 a.inst.length ic2] 55) := ⟨_, rfl⟩
  obtain ⟨gc, hgc⟩ : ∃ gc, gc = w7.heap.size := ⟨_, rfl⟩
  obtain ⟨gd, hgd⟩ : ∃ gd, gd = w8.heap.size := ⟨_, rfl⟩
  have HK : Hid (Blk X gc 41 #[.slice ra a.repos.length rc, .slice ia a.inst.length ic] ∧ Blk X gd 55 #[.slice ra2 a.repos.length rc2, .slice ia2 a.inst.length ic2] ∧ Below w7.heap.size w7 X ∧ Below W.heap.size W X ∧ DataIn (fun _ b' => gc ≤ b') X a (.slice ra2 a.repos.length rc2) (.slice ia2 a.inst.length ic2)) := Lib.hid (by
    rw [hX, hgc, hgd]
    have n1 := new_b w7 (.cells #[.slice ra a.repos.length rc, .slice ia a.inst.length ic] 41)
    have n2 := new_b w8 (.cells #[.slice ra2 a.repos.length rc2, .slice ia2 a.inst.length ic2] 55)
    exact ⟨((Blk.new w7 41 _).bel' HB78.out).bel' n2, Blk.new _ _ _, below_t' (below_t' n1 HB78.out) n2, below_t' HB8.out n2, HD.out.keep n2.size fun b' ⟨k1, _⟩ hb' => ⟨n2.block b' hb', by rw [World.size_alloc] at k1; omega⟩⟩)
  have HS0 := Lib.hid (Shp.refl w6.heap.size gc X)
  have hnb1 : a.repos.length ≤ 1048576 := HSm.out.repos
  have hnb2 : a.inst.length ≤ 1048576 := HSm.out.inst.1
  have HGc := Lib.hid (show gc = w7.heap.size ∧ gd = w8.heap.size from ⟨hgc, hgd⟩)
  have HFX := Lib.hid (show ∀ b i, w6.heap.size ≤ b → b < gc → (∀ i, w7.frozen? ⟨b, i, none⟩ = false) → X.frozen? ⟨b, i, none⟩ = false from fun b i h1 h2 h3 => (World.frozen?_of_block (w := w7) (HK.out.2.2.1.block b (HGc.out.1 ▸ h2))).trans (h3 i))
  rw [← hX, ← hgc, ← hgd]
  clear hX hgc hgd
  go_loopw [11] (fun i wr => ∃ k : Nat, k ≤ a.repos.length ∧ i = .int .i64 k ∧ Hid (Shp w6.heap.size gc X wr)) (fun i _ => a.repos.length - (intOf i).toNat)
  case atStart => exact ⟨0, by omega, rfl, HS0⟩
  case round =>
    obtain ⟨k, hk, rfl, HQ⟩ := hrel
    have HBc := Lib.hid (HK.out.1.touch HQ.out.tch (by omega))
    have z0 : wr.cell? ⟨gc, 0, none⟩ = some (.slice ra a.repos.length rc) := HBc.out.cell 0
    have zl : gc < wr.heap.size := HBc.out.lt
    by_cases hlt : k < a.repos.length
    · have hki : (k : Int) < (a.repos.length : Int) := by omega
      obtain ⟨b1, o1, r1, ha1, hf1, hcs1, hh1⟩ := HC.out.repos.at_ k hlt
      obtain ⟨x, hx⟩ : ∃ x, x = a.repos[k]'hlt := ⟨_, rfl⟩
      rw [← hx] at hcs1 hh1
      subst ha1
      have hpk : LIn pkgK (free w6.heap.size) w7 x.pkgs r1 := hh1.2
      obtain ⟨pa, pc, hr⟩ := hpk.form
      have hr' : (r1 : Value) = .slice pa x.pkgs.length pc := hr
      subst hr'
      obtain ⟨np, hnp⟩ : ∃ n, n = x.pkgs.length := ⟨_, rfl⟩
      have hb1 : w6.heap.size ≤ b1 ∧ b1 < gc := ⟨hf1.1, HGc.out.1 ▸ hcs1.1⟩
      have hX1 : CellsAt X b1 (o1 + k * 2) [.int .i64 x.prio, .slice pa x.pkgs.length pc] := hcs1.below HK.out.2.2.1
      rw [← hnp] at hX1
      obtain ⟨y, y0⟩ : ∃ y, wr.cell? ⟨b1, o1 + k * 2, none⟩ = some (.int .i64 y) := HQ.out.int hb1.1 hb1.2 (hX1.2 0 (show 0 < 2 by omega))
      have y1 : wr.cell? ⟨b1, o1 + k * 2 + 1, none⟩ = some (.slice pa np pc) := HQ.out.slice hb1.1 hb1.2 (hX1.2 1 (show 1 < 2 by omega))
      have yf : wr.frozen? ⟨b1, o1 + k * 2, none⟩ = false := (HQ.out.froz b1 _ hb1.1 hb1.2).trans (HFX.out b1 _ hb1.1 hb1.2 hf1.2)
      have yl : b1 < wr.heap.size := by omega
      have HLt := Lib.hid hlt
      have HH := Lib.hid (And.intro hnp (And.intro hb1 (And.intro hpk hX1)))
      clear hcs1 hh1 hpk hr hX1 hf1 hx hnp hb1
      go_upto_region 13 with fail
      obtain ⟨Y, hY⟩ : ∃ Y, Y = wr.setCell ⟨b1, o1 + k * 2, none⟩ (.int .i64 (wrap64 (y + 1))) := ⟨_, rfl⟩
      have HQ2 : Hid (Shp w6.heap.size gc X Y) := Lib.hid (hY ▸ HQ.out.set HH.out.2.1.1 HH.out.2.1.2 y0 ⟨_, rfl⟩)
      have HBc2 := Lib.hid (HK.out.1.touch HQ2.out.tch (by omega))
      rw [← hY]
      clear hY y0 y1 yf yl z0 zl
      have z0 : Y.cell? ⟨gc, 0, none⟩ = some (.slice (some ⟨b1, o1, none⟩) a.repos.length rc) := HBc2.out.cell 0
      have zl : gc < Y.heap.size := HBc2.out.lt
      have y1 : Y.cell? ⟨b1, o1 + k * 2 + 1, none⟩ = some (.slice pa np pc) := HQ2.out.slice HH.out.2.1.1 HH.out.2.1.2 (HH.out.2.2.2.2 1 (show 1 < 2 by omega))
      have yl : b1 < Y.heap.size := by have := HH.out.2.1; omega
      by_cases hp : 0 < np
      · have hpi : (0 : Int) < (np : Int) := by omega
        obtain ⟨b2, o2, r2, ha2, hf2, hcs2, _⟩ := HH.out.2.2.1.at_ 0 (by have := HH.out.1; omega)
        subst ha2
        have hb2 : w6.heap.size ≤ b2 ∧ b2 < gc := ⟨hf2.1, HGc.out.1 ▸ hcs2.1⟩
        have hc2 := (hcs2.below HK.out.2.2.1).2 0 (show 0 < 15 by omega)
        rw [Nat.zero_mul] at hc2
        obtain ⟨nm, y2⟩ : ∃ nm, Y.cell? ⟨b2, o2, none⟩ = some (.string nm) := HQ2.out.str hb2.1 hb2.2 hc2
        have yf : Y.frozen? ⟨b2, o2, none⟩ = false := (HQ2.out.froz b2 _ hb2.1 hb2.2).trans (HFX.out b2 _ hb2.1 hb2.2 hf2.2)
        have yl2 : b2 < Y.heap.size := by omega
        have HQ3 : Hid (Shp w6.heap.size gc X (Y.setCell ⟨b2, o2, none⟩ (.string ⟨#[63]⟩))) := Lib.hid (HQ2.out.set hb2.1 hb2.2 y2 ⟨_, rfl⟩)
        clear hf2 hcs2 hb2 hc2
        go_wp2_with fail
        go_roundw
        case rel => exact ⟨k + 1, HLt.out, by go_num, HQ3.out⟩
        case measure => have := HLt.out; simp [intOf]; omega
      · have hpi : ¬ (0 : Int) < (np : Int) := by omega
        go_wp2_with fail
        go_roundw
        case rel => exact ⟨k + 1, HLt.out, by go_num, HQ2.out⟩
        case measure => have := HLt.out; simp [intOf]; omega
    · obtain rfl : k = a.repos.length := by omega
      go_wp2_with fail
      clear z0 zl HBc
      go_loopw [12] (fun i wr => ∃ k : Nat, k ≤ a.inst.length ∧ i = .int .i64 k ∧ Hid (Shp w6.heap.size gc X wr)) (fun i _ => a.inst.length - (intOf i).toNat)
      case atStart => exact ⟨0, by omega, rfl, HQ.out⟩
      case round =>
        obtain ⟨k, hk, rfl, HQ⟩ := hrel
        have HBc := Lib.hid (HK.out.1.touch HQ.out.tch (by omega))
        have z0 : wr.cell? ⟨gc, 1, none⟩ = some (.slice ia a.inst.length ic) := HBc.out.cell 1
        have zl : gc < wr.heap.size := HBc.out.lt
        by_cases hlt : k < a.inst.length
        · have hki : (k : Int) < (a.inst.length : Int) := by omega
          obtain ⟨b1, o1, r1, ha1, hf1, hcs1, hh1⟩ := HC.out.inst.at_ k hlt
          obtain ⟨p, hp⟩ : ∃ p, p = a.inst[k]'hlt := ⟨_, rfl⟩
          rw [← hp] at hcs1 hh1
          subst ha1
          have hrq : LIn richK (free w6.heap.size) w7 (argL p.req) r1.req := PkgIn.req hh1
          obtain ⟨pa, pc, hr⟩ := hrq.form
          obtain ⟨np, hnp⟩ : ∃ n, n = (argL p.req).length := ⟨_, rfl⟩
          have hb1 : w6.heap.size ≤ b1 ∧ b1 < gc := ⟨hf1.1, HGc.out.1 ▸ hcs1.1⟩
          have hX1 : CellsAt X b1 (o1 + k * 15) (pkgCs p r1) := hcs1.below HK.out.2.2.1
          have hX7 : X.cell? ⟨b1, o1 + k * 15 + 7, none⟩ = some (.slice pa np pc) := by
            rw [hX1.2 7 (show 7 < 15 by omega), hnp, ← hr]
            rfl
          rw [hr] at hrq
          obtain ⟨y, y0⟩ : ∃ y, wr.cell? ⟨b1, o1 + k * 15 + 4, none⟩ = some (.int .u8 y) := HQ.out.int hb1.1 hb1.2 (hX1.2 4 (show 4 < 15 by omega))
          have yf : wr.frozen? ⟨b1, o1 + k * 15 + 4, none⟩ = false := (HQ.out.froz b1 _ hb1.1 hb1.2).trans (HFX.out b1 _ hb1.1 hb1.2 hf1.2)
          have yl : b1 < wr.heap.size := by omega
          have HLt := Lib.hid hlt
          have HH := Lib.hid (And.intro hnp (And.intro hb1 (And.intro hrq hX7)))
          clear hcs1 hh1 hrq hr hX1 hX7 hf1 hp hnp hb1
          go_upto_region 19 with fail
          obtain ⟨Y, hY⟩ : ∃ Y, Y = wr.setCell ⟨b1, o1 + k * 15 + 4, none⟩ (.int .u8 ((y + 1) % 256)) := ⟨_, rfl⟩
          have HQ2 : Hid (Shp w6.heap.size gc X Y) := Lib.hid (hY ▸ HQ.out.set HH.out.2.1.1 HH.out.2.1.2 y0 ⟨_, rfl⟩)
          have HBc2 := Lib.hid (HK.out.1.touch HQ2.out.tch (by omega))
          rw [← hY]
          clear hY y0 yf yl z0 zl
          have z0 : Y.cell? ⟨gc, 1, none⟩ = some (.slice (some ⟨b1, o1, none⟩) a.inst.length ic) := HBc2.out.cell 1
          have zl : gc < Y.heap.size := HBc2.out.lt
          have y1 : Y.cell? ⟨b1, o1 + k * 15 + 7, none⟩ = some (.slice pa np pc) := HQ2.out.slice HH.out.2.1.1 HH.out.2.1.2 HH.out.2.2.2
          have yl : b1 < Y.heap.size := by have := HH.out.2.1; omega
          by_cases hp : 0 < np
          · have hpi : (0 : Int) < (np : Int) := by omega
            obtain ⟨b2, o2, r2, ha2, hf2, hcs2, _⟩ := HH.out.2.2.1.at_ 0 (by have := HH.out.1; omega)
            subst ha2
            have hb2 : w6.heap.size ≤ b2 ∧ b2 < gc := ⟨hf2.1, HGc.out.1 ▸ hcs2.1⟩
            have hc2 := (hcs2.below HK.out.2.2.1).2 0 (show 0 < 7 by omega)
            rw [Nat.zero_mul] at hc2
            obtain ⟨nm, y2⟩ : ∃ nm, Y.cell? ⟨b2, o2, none⟩ = some (.int .u8 nm) := HQ2.out.int hb2.1 hb2.2 hc2
            have yf : Y.frozen? ⟨b2, o2, none⟩ = false := (HQ2.out.froz b2 _ hb2.1 hb2.2).trans (HFX.out b2 _ hb2.1 hb2.2 hf2.2)
            have yl2 : b2 < Y.heap.size := by omega
            have HQ3 : Hid (Shp w6.heap.size gc X (Y.setCell ⟨b2, o2, none⟩ (.int .u8 99))) := Lib.hid (HQ2.out.set hb2.1 hb2.2 y2 ⟨_, rfl⟩)
            clear hf2 hcs2 hb2 hc2
            go_wp2_with fail
            go_roundw
            case rel => exact ⟨k + 1, HLt.out, by go_num, HQ3.out⟩
            case measure => have := HLt.out; simp [intOf]; omega
          · have hpi : ¬ (0 : Int) < (np : Int) := by omega
            go_wp2_with fail
            go_roundw
            case rel => exact ⟨k + 1, HLt.out, by go_num, HQ2.out⟩
            case measure => have := HLt.out; simp [intOf]; omega
        · obtain rfl : k = a.inst.length := by omega
          have hnd : ¬ (w6.heap.size ≤ gd ∧ gd < gc) := by have := HGc.out; have := HB78.out.size; rw [World.size_alloc] at this; omega
          have hbd := HK.out.2.1.touch HQ.out.tch hnd
          have v0 : wr.cell? ⟨gd, 0, none⟩ = some (.slice ra2 a.repos.length rc2) := hbd.cell 0
          have v1 : wr.cell? ⟨gd, 1, none⟩ = some (.slice ia2 a.inst.length ic2) := hbd.cell 1
          have vl := hbd.lt
          have hng : ¬ (w6.heap.size ≤ g ∧ g < gc) := by have := (HF.out _ HB6.out).2.2.2.2.1; omega
          have hba := (HX.out.1.bel' HK.out.2.2.2.1).touch HQ.out.tch hng
          have u0 : wr.cell? ⟨g, 0, none⟩ = some (.slice ar a.repos.length cr) := hba.cell 0
          have u1 : wr.cell? ⟨g, 1, none⟩ = some (.slice ai a.inst.length ci) := hba.cell 1
          have ul := hba.lt
          have hda : DataIn anyB wr a (.slice ar a.repos.length cr) (.slice ai a.inst.length ci) := HA.out.keep (Nat.le_trans (Nat.le_trans HX.out.2.2.size HK.out.2.2.2.1.size) HQ.out.tch.size) fun b' _ hb' => ⟨(HQ.out.tch.block b' (by have := HX.out.2.2.size; have := HK.out.2.2.2.1.size; omega) (by have := HX.out.2.2.size; have := HB6.out.size; omega)).trans ((HK.out.2.2.2.1.block b' (by have := HX.out.2.2.size; omega)).trans (HX.out.2.2.block b' hb')), trivial⟩
          have hdd : DataIn anyB wr a (.slice ra2 a.repos.length rc2) (.slice ia2 a.inst.length ic2) := HK.out.2.2.2.2.out HQ.out fun b' h1 _ h2 => by have := HGc.out; omega
          have HSa : Hid (Calls Tryz.prog 24 #[.agg #[.slice ra2 a.repos.length rc2, .slice ia2 a.inst.length ic2], .agg #[.slice ar a.repos.length cr, .slice ai a.inst.length ci]] wr fun e w' => e = .returned (.bool true) ∧ Below wr.heap.size wr w') := Lib.hid (sameA_refl a ▸ r11same_any a a _ _ _ _ wr hdd hda)
          have HBl := Lib.hid (show Below w.heap.size w wr from (below_t' HX.out.2.2 HK.out.2.2.2.1).trans (HQ.out.tch.below (Nat.le_trans HX.out.2.2.size HK.out.2.2.2.1.size) fun b' h1 h2 => by have := HX.out.2.2.size; have := HB6.out.size; omega))
          clear hbd hba hda hdd hnd hng
          go_wp2_with (first
            | (go_at_call 24; (with_reducible refine HSa.out.mono ?_); rintro r w9 ⟨rfl, hb9⟩; have HB9 := Lib.hid hb9; clear hb9)
            | fail)
          go_ret
          exact ⟨rfl, below_t' HBl.out HB9.out⟩
end Go.Proofs.YtdpjjnbelgaagaaGreatDoor

namespace Go.Proofs.YtdpjjnbelgaagaaGreatDoor
open Go.ChangeShapes Go.WideShapes Go.ChangeAt Go.WideMaps Go.WideElems Go.RowKit Go.Maps Go.Deep
set_option maxRecDepth 100000

theorem gOps : Tryz.prog.globalNamed "chandlery/span.ops" = some 1 := by kernel_rfl
theorem gWords : Tryz.prog.globalNamed "chandlery/dep.words" = some 0 := by kernel_rfl
theorem tOps : (Tryz.prog.globals[1]?).map (·.type) = some 206 := by kernel_rfl
theorem tWords : (Tryz.prog.globals[0]?).map (·.type) = some 155 := by kernel_rfl
abbrev laid11 {H : Type} : List (String × DataW H) := [("chandlery/span.ops", Rows.laid_chandlery_span_ops), ("chandlery/dep.words", Rows.laid_chandlery_dep_words)]
theorem c64 : Tryz.prog.cellsOf 155 = 7 := by kernel_rfl
theorem of_laid {W : World} (h : laidMetH Tryz.prog laid11 W) : Words W ∧ Ops W := by
  rw [MakeChecks.laidMetH_plain _ _ _ (by kernel_rfl)] at h
  obtain ⟨ps, ⟨g0, t0, cs0, f0, p0, q0, hg0, ht0, hv0, hd0, ⟨g1, t1, cs1, f1, p1, q1, hg1, ht1, hv1, hd1, _, _⟩, _⟩, _, _⟩ := h
  obtain rfl := Option.some.inj (gOps.symm.trans hg0)
  obtain rfl := Option.some.inj (gWords.symm.trans hg1)
  obtain rfl := Option.some.inj (tOps.symm.trans ht0)
  obtain rfl := Option.some.inj (tWords.symm.trans ht1)
  constructor
  · obtain ⟨xs, m1, rfl, hx1, hlen, hn3, hel⟩ := DataW.trod_array Tryz.underlying155 hd1
    rw [c64] at hlen
    have hcl : ∀ j, W.cell? ⟨0, j, none⟩ = cs1[j]? := fun j => World.var?_cell hg1 hv1 j
    have hw : ∀ j, j < 7 → W.cell? ⟨0, j, none⟩ = some (.string (wordV j)) := by
      obtain ⟨l⟩ := cs1
      simp only at hlen hel hcl
      match l, hlen with
      | [c0, c1, c2, c3, c4, c5, c6], _ =>
        match xs, hn3, hx1, hel with
        | [x0, x1, x2, x3, x4, x5, x6], _, hx1, hel =>
          have hx2 := (Prod.mk.inj hx1).1
          simp only [Rows.laid_chandlery_dep_words, List.map_cons, List.map_nil, DataW.agg.injEq, List.cons.injEq, and_true] at hx2
          have one : ∀ (i : Nat) (c : Value) (x : DataW Unit × List MemPlace) (b : List UInt8), DataW.trod (fun _ => ()) Tryz.prog W 0 (fun _ => true) false m1 9 [c] = some x → DataW.lit (.string b) = x.1 → c = .string ⟨b.toArray⟩ := fun i c x b h1 h2 => by
            obtain ⟨s, hs, hx, _⟩ := DataW.trod_string Tryz.underlying9 h1
            rw [hx] at h2
            simp only [DataW.lit.injEq, Lit.string.injEq] at h2
            simp only [List.cons.injEq, and_true] at hs
            rw [hs, h2]
          intro j hj
          rw [hcl]
          have : j = 0 ∨ j = 1 ∨ j = 2 ∨ j = 3 ∨ j = 4 ∨ j = 5 ∨ j = 6 := by omega
          rcases this with rfl | rfl | rfl | rfl | rfl | rfl | rfl
          · exact congrArg some (one 0 _ x0 _ (by simpa [c9] using hel 0 (by omega)) hx2.1)
          · exact congrArg some (one 1 _ x1 _ (by simpa [c9] using hel 1 (by omega)) hx2.2.1)
          · exact congrArg some (one 2 _ x2 _ (by simpa [c9] using hel 2 (by omega)) hx2.2.2.1)
          · exact congrArg some (one 3 _ x3 _ (by simpa [c9] using hel 3 (by omega)) hx2.2.2.2.1)
          · exact congrArg some (one 4 _ x4 _ (by simpa [c9] using hel 4 (by omega)) hx2.2.2.2.2.1)
          · exact congrArg some (one 5 _ x5 _ (by simpa [c9] using hel 5 (by omega)) hx2.2.2.2.2.2.1)
          · exact congrArg some (one 6 _ x6 _ (by simpa [c9] using hel 6 (by omega)) hx2.2.2.2.2.2.2)
    exact ⟨cell_lt (hw 0 (by omega)), hw⟩
  · rcases open_map Tryz.underlying206 hd0 with ⟨_, hx⟩ | ⟨bm, es, clock, m, rfl, hcs, hb, _, F, hx⟩
    · simp [Rows.laid_chandlery_span_ops] at hx
    have hcell : ∀ j, W.cell? ⟨1, j, none⟩ = cs0[j]? := fun j => World.var?_cell hg0 hv0 j
    have h0 : W.cell? ⟨1, 0, none⟩ = some (.map (some bm)) := by
      have := hcell 0
      rw [Array.eq_one_of_toList hcs] at this
      simpa using this
    have hown := World.ownsMap_of_fit (R := plainElem Tryz.prog 5) hb F (fun x _ z hz => elemAt_plainElem_int Tryz.underlying5 hz)
    have hx2 := (Prod.mk.inj hx).1
    rw [← hx2] at hown
    exact ⟨cell_lt h0, Unit, bm, es.size, h0, hown⟩
end Go.Proofs.YtdpjjnbelgaagaaGreatDoor
