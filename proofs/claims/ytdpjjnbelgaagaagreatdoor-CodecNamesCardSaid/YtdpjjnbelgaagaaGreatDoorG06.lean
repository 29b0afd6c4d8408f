/- Codec's writer: put, of packages and repositories. Conditions: as each theorem names them. -/
import Derived.Test.YtdpjjnbelgaagaaGreatDoorG05
import Derived.Test.YtdpjjnbelgaagaaGreatDoorG04
namespace Go.Proofs.YtdpjjnbelgaagaaGreatDoor
open Go.ChangeShapes Go.WideShapes Go.ChangeAt Go.RowKit
set_option maxRecDepth 100000

set_option maxHeartbeats 4000000 in
theorem putP_any (W0 : World) (g gw : Nat) (l : List PkgD) (vl : Value) (hl : LIn pkgK anyB W0 l vl)
    (one : ∀ x ∈ l, ∀ (r : pkgK.R) (v : Value) (st : WT) (w : World), pkgK.holds anyB W0 x r → WrSt W0 g gw v st w → Calls Tryz.prog 31 #[.pointer (some ⟨g, 0, none⟩), x.val r] w (WPost W0 g gw v st (encPk x) w))
    (v : Value) (st : WT) (w : World) (h : WrSt W0 g gw v st w) :
    Calls Tryz.prog 30 #[.pointer (some ⟨g, 0, none⟩), vl, .func (.func 31) #[.pointer (some ⟨g, 0, none⟩)] #[]] w (WPost W0 g gw v st (encL encPk l) w) := by
  obtain ⟨a, c, rfl⟩ := hl.form
  have hn := hl.bound
  have HL := Lib.hid hl
  have HO := Lib.hid one
  have HN := Lib.hid (cwnum_any W0 g gw v st l.length w (by omega) h)
  clear hl one h
  go_enter Tryz.func30, Tryz.ntmps30
  go_wp2_with fail
  refine HN.out.mono ?_
  rintro e w1 ⟨rfl, v1, st1, hs1, hr1, hc1⟩
  have HS1 := Lib.hid (show WrSt W0 g gw v1 st1 w1 ∧ WrRel st (numL l.length ++ (l.take 0).flatMap encPk) st1 ∧ CStep g gw w v w1 v1 from ⟨hs1, by rw [List.take_zero, List.flatMap_nil, List.append_nil]; exact hr1, hc1⟩)
  clear hs1 hr1 hc1
  go_wp2_with fail
  go_loopw [14] (fun i wr => ∃ (k : Nat) (v1 : Value) (st1 : WT), k ≤ l.length ∧ i = .int .i64 k ∧ Hid (WrSt W0 g gw v1 st1 wr ∧ WrRel st (numL l.length ++ (l.take k).flatMap encPk) st1 ∧ CStep g gw w v wr v1)) (fun i wr => l.length - (intOf i).toNat)
  case atStart => exact ⟨0, v1, st1, by omega, rfl, HS1⟩
  case round =>
    obtain ⟨k, v1, st1, hk, rfl, HQ⟩ := hrel
    by_cases hlt : k < l.length
    · have hki : (k : Int) < (l.length : Int) := by omega
      obtain ⟨b, o, r, ha, _, hcs0, hh⟩ := HL.out.at_ k hlt
      obtain ⟨x, hx⟩ : ∃ x, x = l[k] := ⟨_, rfl⟩
      have HX := Lib.hid (show l.take (k + 1) = l.take k ++ [x] from by rw [hx]; exact List.take_succ_eq_append_getElem hlt)
      have hmem : x ∈ l := by rw [hx]; exact List.getElem_mem _
      rw [← hx] at hcs0 hh
      subst ha
      dsimp only [pkgK] at hcs0 r
      rcases r with ⟨r1, r2, r3, r4, r5, r6, r7, r8, r9⟩
      have hh' : PkgIn anyB W0 x ⟨r1, r2, r3, r4, r5, r6, r7, r8, r9⟩ := hh
      obtain ⟨a1, q1, (rfl : r1 = _)⟩ := hh'.prov.form
      obtain ⟨a2, q2, (rfl : r2 = _)⟩ := hh'.req.form
      obtain ⟨a3, q3, (rfl : r3 = _)⟩ := hh'.con.form
      obtain ⟨a4, q4, (rfl : r4 = _)⟩ := hh'.obs.form
      obtain ⟨a5, q5, (rfl : r5 = _)⟩ := hh'.reco.form
      obtain ⟨a6, q6, (rfl : r6 = _)⟩ := hh'.sup.form
      obtain ⟨a7, q7, (rfl : r7 = _)⟩ := hh'.sug.form
      obtain ⟨a8, q8, (rfl : r8 = _)⟩ := hh'.enh.form
      obtain ⟨a9, q9, (rfl : r9 = _)⟩ := hh'.files.form
      clear hh'
      have hcs := hcs0.same (HQ.out.1.bl.block b hcs0.1) HQ.out.1.bl.size
      have e0 : wr.cell? ⟨b, o + k * 15, none⟩ = some (.string x.name) := hcs.2 0 (show 0 < 15 by omega)
      have e1 : wr.cell? ⟨b, o + k * 15 + 1, none⟩ = some (.int .i64 x.ep) := hcs.2 1 (show 1 < 15 by omega)
      have e2 : wr.cell? ⟨b, o + k * 15 + 2, none⟩ = some (.string x.ver) := hcs.2 2 (show 2 < 15 by omega)
      have e3 : wr.cell? ⟨b, o + k * 15 + 3, none⟩ = some (.string x.rel) := hcs.2 3 (show 3 < 15 by omega)
      have e4 : wr.cell? ⟨b, o + k * 15 + 4, none⟩ = some (.int .u8 x.arch) := hcs.2 4 (show 4 < 15 by omega)
      have e5 : wr.cell? ⟨b, o + k * 15 + 5, none⟩ = some (.string x.vendor) := hcs.2 5 (show 5 < 15 by omega)
      have e6 : wr.cell? ⟨b, o + k * 15 + 6, none⟩ = some (.slice a1 x.prov.length q1) := hcs.2 6 (show 6 < 15 by omega)
      have e7 : wr.cell? ⟨b, o + k * 15 + 7, none⟩ = some (.slice a2 (argL x.req).length q2) := hcs.2 7 (show 7 < 15 by omega)
      have e8 : wr.cell? ⟨b, o + k * 15 + 8, none⟩ = some (.slice a3 (argL x.con).length q3) := hcs.2 8 (show 8 < 15 by omega)
      have e9 : wr.cell? ⟨b, o + k * 15 + 9, none⟩ = some (.slice a4 x.obs.length q4) := hcs.2 9 (show 9 < 15 by omega)
      have e10 : wr.cell? ⟨b, o + k * 15 + 10, none⟩ = some (.slice a5 (argL x.reco).length q5) := hcs.2 10 (show 10 < 15 by omega)
      have e11 : wr.cell? ⟨b, o + k * 15 + 11, none⟩ = some (.slice a6 (argL x.sup).length q6) := hcs.2 11 (show 11 < 15 by omega)
      have e12 : wr.cell? ⟨b, o + k * 15 + 12, none⟩ = some (.slice a7 (argL x.sug).length q7) := hcs.2 12 (show 12 < 15 by omega)
      have e13 : wr.cell? ⟨b, o + k * 15 + 13, none⟩ = some (.slice a8 (argL x.enh).length q8) := hcs.2 13 (show 13 < 15 by omega)
      have e14 : wr.cell? ⟨b, o + k * 15 + 14, none⟩ = some (.slice a9 x.files.length q9) := hcs.2 14 (show 14 < 15 by omega)
      have eb : b < wr.heap.size := hcs.1
      have HM := Lib.hid (fun w' (hw : Below wr.heap.size wr w') => HO.out x hmem _ v1 st1 w' hh (HQ.out.1.below hw))
      clear hcs hcs0 hh hx hmem
      go_wp2_with (first
        | (go_at_call 31; (with_reducible refine (HM.out _ (new_b _ _)).mono ?_); rintro e w2 ⟨rfl, v2, st2, hs2, hr2, hc2⟩; have HS2 := Lib.hid (show WrSt W0 g gw v2 st2 w2 ∧ WrRel st (numL l.length ++ (l.take (k + 1)).flatMap encPk) st2 ∧ CStep g gw w v w2 v2 from ⟨hs2, by (rw [HX.out, List.flatMap_append, List.flatMap_cons, List.flatMap_nil, List.append_nil, ← List.append_assoc]; exact HQ.out.2.1.trans hr2), HQ.out.2.2.trans ((CStep.of_below (new_b _ _)).trans hc2)⟩); clear hs2 hr2 hc2)
        | fail)
      go_roundw
      case rel => exact ⟨k + 1, v2, st2, by omega, by go_num, HS2⟩
      case measure => simp [intOf]; omega
    · obtain rfl : k = l.length := by omega
      go_wp2_with fail
      go_end0
      refine ⟨rfl, v1, st1, HQ.out.1, ?_, HQ.out.2.2⟩
      have := HQ.out.2.1
      rw [List.take_length] at this
      exact this

set_option maxHeartbeats 4000000 in
theorem putO_any (W0 : World) (g gw : Nat) (l : List RepoD) (vl : Value) (hl : LIn repoK anyB W0 l vl)
    (one : ∀ x ∈ l, ∀ (r : repoK.R) (v : Value) (st : WT) (w : World), repoK.holds anyB W0 x r → WrSt W0 g gw v st w → Calls Tryz.prog 29 #[.pointer (some ⟨g, 0, none⟩), .agg #[.int .i64 x.prio, r]] w (WPost W0 g gw v st (encO x) w))
    (v : Value) (st : WT) (w : World) (h : WrSt W0 g gw v st w) :
    Calls Tryz.prog 28 #[.pointer (some ⟨g, 0, none⟩), vl, .func (.func 29) #[.pointer (some ⟨g, 0, none⟩)] #[]] w (WPost W0 g gw v st (encL encO l) w) := by
  obtain ⟨a, c, rfl⟩ := hl.form
  have hn := hl.bound
  have HL := Lib.hid hl
  have HO := Lib.hid one
  have HN := Lib.hid (cwnum_any W0 g gw v st l.length w (by omega) h)
  clear hl one h
  go_enter Tryz.func28, Tryz.ntmps28
  go_wp2_with fail
  refine HN.out.mono ?_
  rintro e w1 ⟨rfl, v1, st1, hs1, hr1, hc1⟩
  have HS1 := Lib.hid (show WrSt W0 g gw v1 st1 w1 ∧ WrRel st (numL l.length ++ (l.take 0).flatMap encO) st1 ∧ CStep g gw w v w1 v1 from ⟨hs1, by rw [List.take_zero, List.flatMap_nil, List.append_nil]; exact hr1, hc1⟩)
  clear hs1 hr1 hc1
  go_wp2_with fail
  go_loopw [14] (fun i wr => ∃ (k : Nat) (v1 : Value) (st1 : WT), k ≤ l.length ∧ i = .int .i64 k ∧ Hid (WrSt W0 g gw v1 st1 wr ∧ WrRel st (numL l.length ++ (l.take k).flatMap encO) st1 ∧ CStep g gw w v wr v1)) (fun i wr => l.length - (intOf i).toNat)
  case atStart => exact ⟨0, v1, st1, by omega, rfl, HS1⟩
  case round =>
    obtain ⟨k, v1, st1, hk, rfl, HQ⟩ := hrel
    by_cases hlt : k < l.length
    · have hki : (k : Int) < (l.length : Int) := by omega
      obtain ⟨b, o, r, ha, _, hcs0, hh⟩ := HL.out.at_ k hlt
      obtain ⟨x, hx⟩ : ∃ x, x = l[k] := ⟨_, rfl⟩
      have HX := Lib.hid (show l.take (k + 1) = l.take k ++ [x] from by rw [hx]; exact List.take_succ_eq_append_getElem hlt)
      have hmem : x ∈ l := by rw [hx]; exact List.getElem_mem _
      rw [← hx] at hcs0 hh
      subst ha
      dsimp only [repoK] at hcs0 r
      obtain ⟨ra, rc, rfl⟩ := hh.2.form
      have hcs := hcs0.same (HQ.out.1.bl.block b hcs0.1) HQ.out.1.bl.size
      have e0 : wr.cell? ⟨b, o + k * 2, none⟩ = some (.int .i64 x.prio) := hcs.2 0 (show 0 < 2 by omega)
      have e1 : wr.cell? ⟨b, o + k * 2 + 1, none⟩ = some (.slice ra x.pkgs.length rc) := hcs.2 1 (show 1 < 2 by omega)
      have eb : b < wr.heap.size := hcs.1
      have HM := Lib.hid (fun w' (hw : Below wr.heap.size wr w') => HO.out x hmem _ v1 st1 w' hh (HQ.out.1.below hw))
      clear hcs hcs0 hh hx hmem
      go_wp2_with (first
        | (go_at_call 29; (with_reducible refine (HM.out _ (new_b _ _)).mono ?_); rintro e w2 ⟨rfl, v2, st2, hs2, hr2, hc2⟩; have HS2 := Lib.hid (show WrSt W0 g gw v2 st2 w2 ∧ WrRel st (numL l.length ++ (l.take (k + 1)).flatMap encO) st2 ∧ CStep g gw w v w2 v2 from ⟨hs2, by (rw [HX.out, List.flatMap_append, List.flatMap_cons, List.flatMap_nil, List.append_nil, ← List.append_assoc]; exact HQ.out.2.1.trans hr2), HQ.out.2.2.trans ((CStep.of_below (new_b _ _)).trans hc2)⟩); clear hs2 hr2 hc2)
        | fail)
      go_roundw
      case rel => exact ⟨k + 1, v2, st2, by omega, by go_num, HS2⟩
      case measure => simp [intOf]; omega
    · obtain rfl : k = l.length := by omega
      go_wp2_with fail
      go_end0
      refine ⟨rfl, v1, st1, HQ.out.1, ?_, HQ.out.2.2⟩
      have := HQ.out.2.1
      rw [List.take_length] at this
      exact this
end Go.Proofs.YtdpjjnbelgaagaaGreatDoor

namespace Go.Proofs.YtdpjjnbelgaagaaGreatDoor
open Go.ChangeShapes Go.WideShapes Go.ChangeAt Go.RowKit
set_option maxRecDepth 100000

/-- What a rich dependency must be to be written. -/
def smallR : RichD → Prop
  | .nil => True
  | .node k d n f => if k = 1 then d.small else n ≤ 32 ∧ ∀ j, j < n → smallR (f j)
theorem fits_small {wh : Int} : (r : RichD) → (al : Bool) → fitsE wh r al = true → r.count ≤ 24 → smallR r
  | .nil, al, h, _ => by cases h
  | .node k d n f, al, h, hc => by
    have ih := fun j (hj : j < n) => fits_small (wh := wh) (f j)
    replace h : (if k = 1 then decide (n = 0) && depE d else (okE wh k n al && d.none) && allN (fun j => fitsE wh (f j) (aloneE k al)) n) = true := h
    have hn : n < (RichD.node k d n f).count := n_lt (.node k d n f)
    show if k = 1 then d.small else n ≤ 32 ∧ ∀ j, j < n → smallR (f j)
    by_cases hk : k = 1
    · rw [if_pos hk, Bool.and_eq_true] at h
      rw [if_pos hk]
      exact dep_small h.2
    · rw [if_neg hk, Bool.and_eq_true] at h
      rw [if_neg hk]
      exact ⟨by omega, fun j hj => ih j hj _ ((allN_iff n).1 h.2 j hj) (by
        have := arg_count (r := .node k d n f) (j := j) hj
        simp only [RichD.args] at this
        omega)⟩
theorem may_small {r : RichD} {wh : Int} (h : mayE r wh = 0) : smallR r := by
  obtain ⟨h1, _, h3⟩ := may_fits h
  exact fits_small r false h1 h3
theorem small_eq (r : RichD) : smallR r → (if r.kind = 1 then r.dep.small else r.n ≤ 32 ∧ ∀ j, j < r.n → smallR (r.args j)) := by
  cases r with
  | nil =>
    intro _
    show if (0 : Int) = 1 then _ else (0 : Nat) ≤ 32 ∧ ∀ j, j < 0 → _
    rw [if_neg (by decide)]
    exact ⟨by omega, fun j hj => absurd hj (Nat.not_lt_zero j)⟩
  | node k d n f => exact id
theorem encL_argL (r : RichD) : encL encR (argL r) = encRs r := by
  unfold encL encRs
  rw [argL_len]
  exact congrArg _ (cat_flat _ _ _)

set_option maxHeartbeats 4000000 in
theorem cwrich_any (W0 : World) (g gw : Nat) (r : RichD) : ∀ (s v : Value) (st : WT) (w : World), ArgsP anyB W0 r s → smallR r → WrSt W0 g gw v st w →
    Calls Tryz.prog 67 #[.pointer (some ⟨g, 0, none⟩), r.val s] w (WPost W0 g gw v st (encR r) w) := by
  have step : ∀ (r : RichD) (s v : Value) (st : WT) (w : World), ArgsP anyB W0 r s → smallR r → WrSt W0 g gw v st w →
      (∀ j, j < r.n → ∀ (s v : Value) (st : WT) (w : World), ArgsP anyB W0 (r.args j) s → smallR (r.args j) → WrSt W0 g gw v st w → Calls Tryz.prog 67 #[.pointer (some ⟨g, 0, none⟩), (r.args j).val s] w (WPost W0 g gw v st (encR (r.args j)) w)) →
      Calls Tryz.prog 67 #[.pointer (some ⟨g, 0, none⟩), r.val s] w (WPost W0 g gw v st (encR r) w) := by
    intro r s v st w hs hsm h ih
    have hsm2 := small_eq r hsm
    obtain ⟨hf, hk0, hk1⟩ := hs.fit
    obtain ⟨a, c, rfl⟩ := hs.is.form
    obtain ⟨kn, hkn⟩ : ∃ n : Nat, r.kind = n := ⟨r.kind.toNat, (to_nat hk0).symm⟩
    obtain ⟨Bs, hBs⟩ : ∃ Bs, Bs = encR r := ⟨_, rfl⟩
    rw [← hBs]
    have HBs := Lib.hid (hBs.trans (encR_eq r))
    have hb1 := new_b w (richObj r (.slice a r.n c))
    obtain ⟨b, hbe⟩ : ∃ b, b = w.heap.size := ⟨_, rfl⟩
    obtain ⟨w1, hw1⟩ : ∃ w1, w1 = w.alloc (richObj r (.slice a r.n c)) := ⟨_, rfl⟩
    have hx1 : RichB w1 b r (.slice a r.n c) := by rw [hw1, hbe]; exact RichB.new _ _ _
    rw [← hw1] at hb1
    have HS1 := Lib.hid (show WrSt W0 g gw v st w1 ∧ RichB w1 b r (.slice a r.n c) from ⟨h.below hb1, hx1⟩)
    have HC1 := Lib.hid (CStep.of_below (g := g) (gw := gw) (v := v) hb1)
    have c0 : w1.cell? ⟨b, 0, none⟩ = some (.int .u8 r.kind) := hx1.cell 0
    have HN := Lib.hid (cwnum_any W0 g gw v st kn w1 (by omega) HS1.out.1)
    have HF := Lib.hid (show ∀ v' w', CStep g gw w1 v w' v' → RichB w' b r (.slice a r.n c) from fun v' w' hc => HS1.out.1.far hc HS1.out.2 (by decide) (by decide) (by decide))
    rw [hkn] at hk0 hk1 c0
    have hwr : IntKind.i64.wrap ((kn : Int)) = (kn : Int) := by rw [IntKind.wrap_i64]; omega
    have HKN := Lib.hid hkn
    clear hBs hx1 hb1 h hsm
    by_cases hk : kn = 1
    · subst hk
      rw [if_pos (show r.kind = 1 from hkn)] at hsm2
      have HSM := Lib.hid hsm2
      clear ih hs hsm2
      have HN1 := Lib.hid (show Calls Tryz.prog 61 #[.pointer (some ⟨g, 0, none⟩), .int .i64 1] w1 (WPost W0 g gw v st (numL 1) w1) from HN.out)
      have c0' : w1.cell? ⟨b, 0, none⟩ = some (.int .u8 1) := c0
      clear HN c0 hkn hwr
      unfold RichD.val richV
      go_enter Tryz.func67, Tryz.ntmps67
      go_upto_region 1 with fail
      rw [← hw1, ← hbe]
      clear hw1 hbe
      go_wp2_with fail
      refine HN1.out.mono ?_
      rintro e w2 ⟨rfl, v2, st2, hs2, hr2, hc2⟩
      have hx2 := HF.out v2 w2 hc2
      have d0 : w2.cell? ⟨b, 0, none⟩ = some (.int .u8 1) := by have := hx2.cell 0; rw [HKN.out] at this; exact this
      have d1 : w2.cell? ⟨b, 1, none⟩ = some (.string r.dep.name) := hx2.cell 1
      have d2 : w2.cell? ⟨b, 2, none⟩ = some (.int .u8 r.dep.op) := hx2.cell 2
      have d3 : w2.cell? ⟨b, 3, none⟩ = some (.int .i64 r.dep.ep) := hx2.cell 3
      have d4 : w2.cell? ⟨b, 4, none⟩ = some (.string r.dep.ver) := hx2.cell 4
      have d5 : w2.cell? ⟨b, 5, none⟩ = some (.string r.dep.rel) := hx2.cell 5
      have HC2 := Lib.hid (show CStep g gw w v w2 v2 ∧ WrRel st (numL 1) st2 from ⟨HC1.out.trans hc2, hr2⟩)
      have HN2 := Lib.hid (cwdep_any W0 g gw v2 st2 r.dep w2 HSM.out hs2)
      clear hs2 hr2 hc2 hx2 HN1 HC1 HS1 c0'
      go_wp2_with fail
      refine HN2.out.mono ?_
      rintro e w3 ⟨rfl, v3, st3, hs3, hr3, hc3⟩
      have HC3 := Lib.hid (show WrSt W0 g gw v3 st3 w3 ∧ CStep g gw w v w3 v3 ∧ WrRel st (numL 1 ++ encD r.dep) st3 from ⟨hs3, HC2.out.1.trans hc3, HC2.out.2.trans hr3⟩)
      clear hs3 hr3 hc3
      go_wp2_with fail
      go_end0
      refine ⟨rfl, v3, st3, HC3.out.1, ?_, HC3.out.2.1⟩
      have := HC3.out.2.2
      rw [HBs.out, if_pos (show r.kind = 1 from HKN.out), HKN.out]
      exact this
    · have hki : ((kn : Int) == 1) = false := by simp; omega
      rw [if_neg (by omega)] at hsm2
      have hl := hs.list (by have := hsm2.1; omega)
      have HP := Lib.hid (show ∀ v2 st2 w2, WrSt W0 g gw v2 st2 w2 → Calls Tryz.prog 66 #[.pointer (some ⟨g, 0, none⟩), .slice a r.n c, .func (.func 67) #[.pointer (some ⟨g, 0, none⟩)] #[]] w2 (WPost W0 g gw v2 st2 (encRs r) w2) from fun v2 st2 w2 h2 => by
        have := putR_any W0 g gw (argL r) _ hl (fun x hx s v st w hh h => by
          obtain ⟨j, hj, rfl⟩ := List.mem_map.1 hx
          have hj' : j < r.n := by simpa using hj
          exact ih j hj' s v st w hh (hsm2.2 j hj') h) v2 st2 w2 h2
        rw [encL_argL] at this
        exact this)
      clear ih hs hsm2 hl hkn
      unfold RichD.val richV
      go_enter Tryz.func67, Tryz.ntmps67
      go_upto_region 1 with fail
      rw [← hw1, ← hbe]
      clear hw1 hbe
      go_wp2_with fail
      refine HN.out.mono ?_
      rintro e w2 ⟨rfl, v2, st2, hs2, hr2, hc2⟩
      have hx2 := HF.out v2 w2 hc2
      have d0 : w2.cell? ⟨b, 0, none⟩ = some (.int .u8 (kn : Int)) := by have := hx2.cell 0; rw [HKN.out] at this; exact this
      have d6 : w2.cell? ⟨b, 6, none⟩ = some (.slice a r.n c) := hx2.cell 6
      have HC2 := Lib.hid (show CStep g gw w v w2 v2 ∧ WrRel st (numL kn) st2 from ⟨HC1.out.trans hc2, hr2⟩)
      have HN2 := Lib.hid (HP.out v2 st2 w2 hs2)
      clear hs2 hr2 hc2 hx2 HN HC1 HS1 c0
      go_wp2_with fail
      refine HN2.out.mono ?_
      rintro e w3 ⟨rfl, v3, st3, hs3, hr3, hc3⟩
      have HC3 := Lib.hid (show WrSt W0 g gw v3 st3 w3 ∧ CStep g gw w v w3 v3 ∧ WrRel st (numL kn ++ encRs r) st3 from ⟨hs3, HC2.out.1.trans hc3, HC2.out.2.trans hr3⟩)
      clear hs3 hr3 hc3
      go_wp2_with fail
      go_end0
      refine ⟨rfl, v3, st3, HC3.out.1, ?_, HC3.out.2.1⟩
      have := HC3.out.2.2
      rw [HBs.out, HKN.out, if_neg (by omega), Int.toNat_natCast]
      exact this
  induction r with
  | nil => exact fun s v st w h1 h2 h3 => step .nil s v st w h1 h2 h3 (fun j hj => absurd hj (Nat.not_lt_zero j))
  | node k d n f ih => exact fun s v st w h1 h2 h3 => step (.node k d n f) s v st w h1 h2 h3 (fun j _ => ih j)
end Go.Proofs.YtdpjjnbelgaagaaGreatDoor

namespace Go.Proofs.YtdpjjnbelgaagaaGreatDoor
open Go.ChangeShapes Go.WideShapes Go.ChangeAt Go.RowKit
set_option maxRecDepth 100000

theorem putDs (W0 : World) (g gw : Nat) (l : List DepD) (vl : Value) (hl : LIn depK anyB W0 l vl) (hs : ∀ d ∈ l, d.small) (v : Value) (st : WT) (w : World) (h : WrSt W0 g gw v st w) :
    Calls Tryz.prog 64 #[.pointer (some ⟨g, 0, none⟩), vl, .func (.func 65) #[.pointer (some ⟨g, 0, none⟩)] #[]] w (WPost W0 g gw v st (encL encD l) w) :=
  putD_any W0 g gw l vl hl (fun x hx _ v st w _ h => cwdep_any W0 g gw v st x w (hs x hx) h) v st w h
theorem putRs (W0 : World) (g gw : Nat) (r : RichD) (vl : Value) (hl : LIn richK anyB W0 (argL r) vl) (hs : ∀ j, j < r.n → smallR (r.args j)) (v : Value) (st : WT) (w : World) (h : WrSt W0 g gw v st w) :
    Calls Tryz.prog 66 #[.pointer (some ⟨g, 0, none⟩), vl, .func (.func 67) #[.pointer (some ⟨g, 0, none⟩)] #[]] w (WPost W0 g gw v st (encRs r) w) := by
  have := putR_any W0 g gw (argL r) vl hl (fun x hx s v st w hh h => by
    obtain ⟨j, hj, rfl⟩ := List.mem_map.1 hx
    exact cwrich_any W0 g gw (r.args j) s v st w hh (hs j (by simpa using hj)) h) v st w h
  rw [encL_argL] at this
  exact this
theorem putSs (W0 : World) (g gw : Nat) (l : List ByteArray) (vl : Value) (hl : LIn strK anyB W0 l vl) (hs : ∀ d ∈ l, d.size ≤ 64) (v : Value) (st : WT) (w : World) (h : WrSt W0 g gw v st w) :
    Calls Tryz.prog 68 #[.pointer (some ⟨g, 0, none⟩), vl, .func (.func 62) #[.pointer (some ⟨g, 0, none⟩)] #[]] w (WPost W0 g gw v st (encL encT l) w) :=
  putS_any W0 g gw l vl hl (fun x hx _ v st w _ h => cwtext_any W0 g gw v st x w (by have := hs x hx; omega) h) v st w h
theorem riches_small {wh : Int} {r : RichD} (h : richesE wh r = true) : ∀ j, j < r.n → smallR (r.args j) := fun j hj => may_small ((riches_n h).2 j hj)
/-- Four lists, told one by one. -/
def four {α : Type} (z x0 x1 x2 x3 : α) : Nat → α | 0 => x0 | 1 => x1 | 2 => x2 | 3 => x3 | _ => z
theorem four_cell {w : World} {b : Nat} {t : TypeId} {x0 x1 x2 x3 : Value} (h : Blk w b t #[x0, x1, x2, x3]) (k : Nat) (hk : k < 4) : w.cell? ⟨b, k, none⟩ = some (four undef x0 x1 x2 x3 k) := by
  have : k = 0 ∨ k = 1 ∨ k = 2 ∨ k = 3 := by omega
  rcases this with rfl | rfl | rfl | rfl
  · exact h.cell 0
  · exact h.cell 1
  · exact h.cell 2
  · exact h.cell 3

set_option maxHeartbeats 8000000 in
theorem cwpkg_any (W0 : World) (g gw : Nat) (v : Value) (st : WT) (p : PkgD) (r : PkgR) (w : World) (hp : PkgIn anyB W0 p r) (hm : MayP p) (h : WrSt W0 g gw v st w) :
    Calls Tryz.prog 31 #[.pointer (some ⟨g, 0, none⟩), p.val r] w (WPost W0 g gw v st (encPk p) w) := by
  rcases r with ⟨r1, r2, r3, r4, r5, r6, r7, r8, r9⟩
  obtain ⟨a1, q1, (rfl : r1 = _)⟩ := hp.prov.form
  obtain ⟨a2, q2, (rfl : r2 = _)⟩ := hp.req.form
  obtain ⟨a3, q3, (rfl : r3 = _)⟩ := hp.con.form
  obtain ⟨a4, q4, (rfl : r4 = _)⟩ := hp.obs.form
  obtain ⟨a5, q5, (rfl : r5 = _)⟩ := hp.reco.form
  obtain ⟨a6, q6, (rfl : r6 = _)⟩ := hp.sup.form
  obtain ⟨a7, q7, (rfl : r7 = _)⟩ := hp.sug.form
  obtain ⟨a8, q8, (rfl : r8 = _)⟩ := hp.enh.form
  obtain ⟨a9, q9, (rfl : r9 = _)⟩ := hp.files.form
  obtain ⟨m1, m2, ⟨m3, m4⟩, m5, ⟨m6, m7⟩, ⟨m8, m9⟩, ⟨m10, m11⟩, m12, m13, m14, m15, m16, m17⟩ := hm
  obtain ⟨e1, e2, e3, e4⟩ := evr_size m2
  have n1 := name_size m1
  obtain ⟨an, han⟩ : ∃ n : Nat, p.arch = n := ⟨p.arch.toNat, (to_nat (by omega)).symm⟩
  have hwr : IntKind.i64.wrap ((an : Int)) = (an : Int) := by rw [IntKind.wrap_i64]; omega
  obtain ⟨Bs, hBs⟩ : ∃ Bs, Bs = encPk p := ⟨_, rfl⟩
  rw [← hBs]
  have HBs := Lib.hid hBs
  have HP1 := Lib.hid (putDs W0 g gw p.prov _ hp.prov fun d hd => dep_small (m7 d hd))
  have HP2 := Lib.hid (putRs W0 g gw p.req _ hp.req (riches_small m12))
  have HP3 := Lib.hid (putRs W0 g gw p.con _ hp.con (riches_small m13))
  have HP4 := Lib.hid (putDs W0 g gw p.obs _ hp.obs fun d hd => dep_small (m9 d hd))
  have HP5 := Lib.hid (putRs W0 g gw p.reco _ hp.reco (riches_small m14))
  have HP6 := Lib.hid (putRs W0 g gw p.sup _ hp.sup (riches_small m15))
  have HP7 := Lib.hid (putRs W0 g gw p.sug _ hp.sug (riches_small m16))
  have HP8 := Lib.hid (putRs W0 g gw p.enh _ hp.enh (riches_small m17))
  have HP9 := Lib.hid (putSs W0 g gw p.files _ hp.files fun d hd => name_size (file_name (m11 d hd)))
  have hb1 := new_b w (.cells #[.string p.name, .int .i64 p.ep, .string p.ver, .string p.rel, .int .u8 p.arch, .string p.vendor, .slice a1 p.prov.length q1, .slice a2 (argL p.req).length q2, .slice a3 (argL p.con).length q3, .slice a4 p.obs.length q4, .slice a5 (argL p.reco).length q5, .slice a6 (argL p.sup).length q6, .slice a7 (argL p.sug).length q7, .slice a8 (argL p.enh).length q8, .slice a9 p.files.length q9] 29)
  obtain ⟨b, hbe⟩ : ∃ b, b = w.heap.size := ⟨_, rfl⟩
  obtain ⟨w1, hw1⟩ : ∃ w1, w1 = w.alloc (.cells #[.string p.name, .int .i64 p.ep, .string p.ver, .string p.rel, .int .u8 p.arch, .string p.vendor, .slice a1 p.prov.length q1, .slice a2 (argL p.req).length q2, .slice a3 (argL p.con).length q3, .slice a4 p.obs.length q4, .slice a5 (argL p.reco).length q5, .slice a6 (argL p.sup).length q6, .slice a7 (argL p.sug).length q7, .slice a8 (argL p.enh).length q8, .slice a9 p.files.length q9] 29) := ⟨_, rfl⟩
  have hx : Blk w1 b 29 #[.string p.name, .int .i64 p.ep, .string p.ver, .string p.rel, .int .u8 p.arch, .string p.vendor, .slice a1 p.prov.length q1, .slice a2 (argL p.req).length q2, .slice a3 (argL p.con).length q3, .slice a4 p.obs.length q4, .slice a5 (argL p.reco).length q5, .slice a6 (argL p.sup).length q6, .slice a7 (argL p.sug).length q7, .slice a8 (argL p.enh).length q8, .slice a9 p.files.length q9] := by rw [hw1, hbe]; exact Blk.new _ _ _
  rw [← hw1] at hb1
  have hs1 := h.below hb1
  have HF := Lib.hid (show ∀ v v' st w w', WrSt W0 g gw v st w ∧ Blk w b 29 #[.string p.name, .int .i64 p.ep, .string p.ver, .string p.rel, .int .u8 p.arch, .string p.vendor, .slice a1 p.prov.length q1, .slice a2 (argL p.req).length q2, .slice a3 (argL p.con).length q3, .slice a4 p.obs.length q4, .slice a5 (argL p.reco).length q5, .slice a6 (argL p.sup).length q6, .slice a7 (argL p.sug).length q7, .slice a8 (argL p.enh).length q8, .slice a9 p.files.length q9] → CStep g gw w v w' v' → Blk w' b 29 #[.string p.name, .int .i64 p.ep, .string p.ver, .string p.rel, .int .u8 p.arch, .string p.vendor, .slice a1 p.prov.length q1, .slice a2 (argL p.req).length q2, .slice a3 (argL p.con).length q3, .slice a4 p.obs.length q4, .slice a5 (argL p.reco).length q5, .slice a6 (argL p.sup).length q6, .slice a7 (argL p.sug).length q7, .slice a8 (argL p.enh).length q8, .slice a9 p.files.length q9] from fun v v' st w w' h hc => h.1.far hc h.2 (by decide) (by decide) (by decide))
  have HQ1 := Lib.hid (show (WrSt W0 g gw v st w1 ∧ Blk w1 b 29 #[.string p.name, .int .i64 p.ep, .string p.ver, .string p.rel, .int .u8 p.arch, .string p.vendor, .slice a1 p.prov.length q1, .slice a2 (argL p.req).length q2, .slice a3 (argL p.con).length q3, .slice a4 p.obs.length q4, .slice a5 (argL p.reco).length q5, .slice a6 (argL p.sup).length q6, .slice a7 (argL p.sug).length q7, .slice a8 (argL p.enh).length q8, .slice a9 p.files.length q9]) ∧ CStep g gw w v w1 v from ⟨⟨hs1, hx⟩, CStep.of_below hb1⟩)
  have c0 : w1.cell? ⟨b, 0, none⟩ = some (.string p.name) := hx.cell 0
  have HN1 := Lib.hid (cwtext_any W0 g gw v st p.name w1 (by omega) hs1)
  have HE := Lib.hid (fun v st w => cwevr_any W0 g gw v st p.ep p.ver p.rel w e1 (by omega) (by omega) (by omega))
  have HA := Lib.hid (fun v st w => cwnum_any W0 g gw v st an w (by omega))
  have HV := Lib.hid (fun v st w => cwtext_any W0 g gw v st p.vendor w (by omega))
  have HAN := Lib.hid han
  clear hx hb1 h hs1 hp hBs m1 m2 m5 m6 m7 m8 m9 m10 m11 m12 m13 m14 m15 m16 m17 e1 e2 e3 e4 n1 han
  unfold PkgD.val
  go_enter Tryz.func31, Tryz.ntmps31
  go_upto_region 1 with fail
  rw [← hw1, ← hbe]
  clear hw1 hbe
  go_wp2_with fail
  refine HN1.out.mono ?_
  rintro e w2 ⟨rfl, v2, st2, hs2, hr2, hc2⟩
  have hx := HF.out _ v2 _ _ w2 HQ1.out.1 hc2
  have HQ2 := Lib.hid (show (WrSt W0 g gw v2 st2 w2 ∧ Blk w2 b 29 #[.string p.name, .int .i64 p.ep, .string p.ver, .string p.rel, .int .u8 p.arch, .string p.vendor, .slice a1 p.prov.length q1, .slice a2 (argL p.req).length q2, .slice a3 (argL p.con).length q3, .slice a4 p.obs.length q4, .slice a5 (argL p.reco).length q5, .slice a6 (argL p.sup).length q6, .slice a7 (argL p.sug).length q7, .slice a8 (argL p.enh).length q8, .slice a9 p.files.length q9]) ∧ CStep g gw w v w2 v2 ∧ WrRel st (encT p.name) st2 from ⟨⟨hs2, hx⟩, HQ1.out.2.trans hc2, hr2⟩)
  have c1 : w2.cell? ⟨b, 1, none⟩ = some (.int .i64 p.ep) := hx.cell 1
  have c2 : w2.cell? ⟨b, 2, none⟩ = some (.string p.ver) := hx.cell 2
  have c3 : w2.cell? ⟨b, 3, none⟩ = some (.string p.rel) := hx.cell 3
  have HN2 := Lib.hid (HE.out v2 st2 w2 hs2)
  clear hs2 hr2 hc2 hx HN1 HQ1 c0
  go_wp2_with fail
  refine HN2.out.mono ?_
  rintro e w3 ⟨rfl, v3, st3, hs3, hr3, hc3⟩
  have hx := HF.out _ v3 _ _ w3 HQ2.out.1 hc3
  have HQ3 := Lib.hid (show (WrSt W0 g gw v3 st3 w3 ∧ Blk w3 b 29 #[.string p.name, .int .i64 p.ep, .string p.ver, .string p.rel, .int .u8 p.arch, .string p.vendor, .slice a1 p.prov.length q1, .slice a2 (argL p.req).length q2, .slice a3 (argL p.con).length q3, .slice a4 p.obs.length q4, .slice a5 (argL p.reco).length q5, .slice a6 (argL p.sup).length q6, .slice a7 (argL p.sug).length q7, .slice a8 (argL p.enh).length q8, .slice a9 p.files.length q9]) ∧ CStep g gw w v w3 v3 ∧ WrRel st (encT p.name ++ encV p.ep p.ver p.rel) st3 from ⟨⟨hs3, hx⟩, HQ2.out.2.1.trans hc3, HQ2.out.2.2.trans hr3⟩)
  have c4 : w3.cell? ⟨b, 4, none⟩ = some (.int .u8 (an : Int)) := by have := hx.cell 4; rw [HAN.out] at this; exact this
  have HN3 := Lib.hid (HA.out v3 st3 w3 hs3)
  clear hs3 hr3 hc3 hx HN2 HQ2 c1 c2 c3
  go_wp2_with fail
  refine HN3.out.mono ?_
  rintro e w4 ⟨rfl, v4, st4, hs4, hr4, hc4⟩
  have hx := HF.out _ v4 _ _ w4 HQ3.out.1 hc4
  have HQ4 := Lib.hid (show (WrSt W0 g gw v4 st4 w4 ∧ Blk w4 b 29 #[.string p.name, .int .i64 p.ep, .string p.ver, .string p.rel, .int .u8 p.arch, .string p.vendor, .slice a1 p.prov.length q1, .slice a2 (argL p.req).length q2, .slice a3 (argL p.con).length q3, .slice a4 p.obs.length q4, .slice a5 (argL p.reco).length q5, .slice a6 (argL p.sup).length q6, .slice a7 (argL p.sug).length q7, .slice a8 (argL p.enh).length q8, .slice a9 p.files.length q9]) ∧ CStep g gw w v w4 v4 ∧ WrRel st (encT p.name ++ encV p.ep p.ver p.rel ++ numL an) st4 from ⟨⟨hs4, hx⟩, HQ3.out.2.1.trans hc4, HQ3.out.2.2.trans hr4⟩)
  have c5 : w4.cell? ⟨b, 5, none⟩ = some (.string p.vendor) := hx.cell 5
  have HN4 := Lib.hid (HV.out v4 st4 w4 hs4)
  clear hs4 hr4 hc4 hx HN3 HQ3 c4
  go_wp2_with fail
  refine HN4.out.mono ?_
  rintro e w5 ⟨rfl, v5, st5, hs5, hr5, hc5⟩
  have hx := HF.out _ v5 _ _ w5 HQ4.out.1 hc5
  have HQ5 := Lib.hid (show (WrSt W0 g gw v5 st5 w5 ∧ Blk w5 b 29 #[.string p.name, .int .i64 p.ep, .string p.ver, .string p.rel, .int .u8 p.arch, .string p.vendor, .slice a1 p.prov.length q1, .slice a2 (argL p.req).length q2, .slice a3 (argL p.con).length q3, .slice a4 p.obs.length q4, .slice a5 (argL p.reco).length q5, .slice a6 (argL p.sup).length q6, .slice a7 (argL p.sug).length q7, .slice a8 (argL p.enh).length q8, .slice a9 p.files.length q9]) ∧ CStep g gw w v w5 v5 ∧ WrRel st (encT p.name ++ encV p.ep p.ver p.rel ++ numL an ++ encT p.vendor) st5 from ⟨⟨hs5, hx⟩, HQ4.out.2.1.trans hc5, HQ4.out.2.2.trans hr5⟩)
  have c6 : w5.cell? ⟨b, 6, none⟩ = some (.slice a1 p.prov.length q1) := hx.cell 6
  have HN5 := Lib.hid (HP1.out v5 st5 w5 hs5)
  clear hs5 hr5 hc5 hx HN4 HQ4 c5
  go_wp2_with fail
  refine HN5.out.mono ?_
  rintro e w6 ⟨rfl, v6, st6, hs6, hr6, hc6⟩
  have hx := HF.out _ v6 _ _ w6 HQ5.out.1 hc6
  have HQ6 := Lib.hid (show (WrSt W0 g gw v6 st6 w6 ∧ Blk w6 b 29 #[.string p.name, .int .i64 p.ep, .string p.ver, .string p.rel, .int .u8 p.arch, .string p.vendor, .slice a1 p.prov.length q1, .slice a2 (argL p.req).length q2, .slice a3 (argL p.con).length q3, .slice a4 p.obs.length q4, .slice a5 (argL p.reco).length q5, .slice a6 (argL p.sup).length q6, .slice a7 (argL p.sug).length q7, .slice a8 (argL p.enh).length q8, .slice a9 p.files.length q9]) ∧ CStep g gw w v w6 v6 ∧ WrRel st (encT p.name ++ encV p.ep p.ver p.rel ++ numL an ++ encT p.vendor ++ encL encD p.prov) st6 from ⟨⟨hs6, hx⟩, HQ5.out.2.1.trans hc6, HQ5.out.2.2.trans hr6⟩)
  have c7 : w6.cell? ⟨b, 7, none⟩ = some (.slice a2 (argL p.req).length q2) := hx.cell 7
  have HN6 := Lib.hid (HP2.out v6 st6 w6 hs6)
  clear hs6 hr6 hc6 hx HN5 HQ5 c6
  go_wp2_with fail
  refine HN6.out.mono ?_
  rintro e w7 ⟨rfl, v7, st7, hs7, hr7, hc7⟩
  have hx := HF.out _ v7 _ _ w7 HQ6.out.1 hc7
  have HQ7 := Lib.hid (show (WrSt W0 g gw v7 st7 w7 ∧ Blk w7 b 29 #[.string p.name, .int .i64 p.ep, .string p.ver, .string p.rel, .int .u8 p.arch, .string p.vendor, .slice a1 p.prov.length q1, .slice a2 (argL p.req).length q2, .slice a3 (argL p.con).length q3, .slice a4 p.obs.length q4, .slice a5 (argL p.reco).length q5, .slice a6 (argL p.sup).length q6, .slice a7 (argL p.sug).length q7, .slice a8 (argL p.enh).length q8, .slice a9 p.files.length q9]) ∧ CStep g gw w v w7 v7 ∧ WrRel st (encT p.name ++ encV p.ep p.ver p.rel ++ numL an ++ encT p.vendor ++ encL encD p.prov ++ encRs p.req) st7 from ⟨⟨hs7, hx⟩, HQ6.out.2.1.trans hc7, HQ6.out.2.2.trans hr7⟩)
  have c8 : w7.cell? ⟨b, 8, none⟩ = some (.slice a3 (argL p.con).length q3) := hx.cell 8
  have HN7 := Lib.hid (HP3.out v7 st7 w7 hs7)
  clear hs7 hr7 hc7 hx HN6 HQ6 c7
  go_wp2_with fail
  refine HN7.out.mono ?_
  rintro e w8 ⟨rfl, v8, st8, hs8, hr8, hc8⟩
  have hx := HF.out _ v8 _ _ w8 HQ7.out.1 hc8
  have HQ8 := Lib.hid (show (WrSt W0 g gw v8 st8 w8 ∧ Blk w8 b 29 #[.string p.name, .int .i64 p.ep, .string p.ver, .string p.rel, .int .u8 p.arch, .string p.vendor, .slice a1 p.prov.length q1, .slice a2 (argL p.req).length q2, .slice a3 (argL p.con).length q3, .slice a4 p.obs.length q4, .slice a5 (argL p.reco).length q5, .slice a6 (argL p.sup).length q6, .slice a7 (argL p.sug).length q7, .slice a8 (argL p.enh).length q8, .slice a9 p.files.length q9]) ∧ CStep g gw w v w8 v8 ∧ WrRel st (encT p.name ++ encV p.ep p.ver p.rel ++ numL an ++ encT p.vendor ++ encL encD p.prov ++ encRs p.req ++ encRs p.con) st8 from ⟨⟨hs8, hx⟩, HQ7.out.2.1.trans hc8, HQ7.out.2.2.trans hr8⟩)
  have c9 : w8.cell? ⟨b, 9, none⟩ = some (.slice a4 p.obs.length q4) := hx.cell 9
  have HN8 := Lib.hid (HP4.out v8 st8 w8 hs8)
  clear hs8 hr8 hc8 hx HN7 HQ7 c8
  go_wp2_with fail
  refine HN8.out.mono ?_
  rintro e w9 ⟨rfl, v9, st9, hs9, hr9, hc9⟩
  have hx := HF.out _ v9 _ _ w9 HQ8.out.1 hc9
  have HQ9 := Lib.hid (show (WrSt W0 g gw v9 st9 w9 ∧ Blk w9 b 29 #[.string p.name, .int .i64 p.ep, .string p.ver, .string p.rel, .int .u8 p.arch, .string p.vendor, .slice a1 p.prov.length q1, .slice a2 (argL p.req).length q2, .slice a3 (argL p.con).length q3, .slice a4 p.obs.length q4, .slice a5 (argL p.reco).length q5, .slice a6 (argL p.sup).length q6, .slice a7 (argL p.sug).length q7, .slice a8 (argL p.enh).length q8, .slice a9 p.files.length q9]) ∧ CStep g gw w v w9 v9 ∧ WrRel st (encT p.name ++ encV p.ep p.ver p.rel ++ numL an ++ encT p.vendor ++ encL encD p.prov ++ encRs p.req ++ encRs p.con ++ encL encD p.obs) st9 from ⟨⟨hs9, hx⟩, HQ8.out.2.1.trans hc9, HQ8.out.2.2.trans hr9⟩)
  have c10 : w9.cell? ⟨b, 10, none⟩ = some (.slice a5 (argL p.reco).length q5) := hx.cell 10
  have c11 : w9.cell? ⟨b, 11, none⟩ = some (.slice a6 (argL p.sup).length q6) := hx.cell 11
  have c12 : w9.cell? ⟨b, 12, none⟩ = some (.slice a7 (argL p.sug).length q7) := hx.cell 12
  have c13 : w9.cell? ⟨b, 13, none⟩ = some (.slice a8 (argL p.enh).length q8) := hx.cell 13
  clear hs9 hr9 hc9 hx HN8 HQ8 c9
  obtain ⟨bL, hbL⟩ : ∃ bL, bL = w9.heap.size := ⟨_, rfl⟩
  obtain ⟨wL, hwL⟩ : ∃ wL, wL = w9.alloc (.cells #[.slice a5 (argL p.reco).length q5, .slice a6 (argL p.sup).length q6, .slice a7 (argL p.sug).length q7, .slice a8 (argL p.enh).length q8] 26) := ⟨_, rfl⟩
  have hbn := new_b w9 (.cells #[.slice a5 (argL p.reco).length q5, .slice a6 (argL p.sup).length q6, .slice a7 (argL p.sug).length q7, .slice a8 (argL p.enh).length q8] 26)
  have hxL : Blk wL bL 26 #[.slice a5 (argL p.reco).length q5, .slice a6 (argL p.sup).length q6, .slice a7 (argL p.sug).length q7, .slice a8 (argL p.enh).length q8] := by rw [hwL, hbL]; exact Blk.new _ _ _
  rw [← hwL] at hbn
  have HQL := Lib.hid (show ((WrSt W0 g gw v9 st9 wL ∧ Blk wL b 29 #[.string p.name, .int .i64 p.ep, .string p.ver, .string p.rel, .int .u8 p.arch, .string p.vendor, .slice a1 p.prov.length q1, .slice a2 (argL p.req).length q2, .slice a3 (argL p.con).length q3, .slice a4 p.obs.length q4, .slice a5 (argL p.reco).length q5, .slice a6 (argL p.sup).length q6, .slice a7 (argL p.sug).length q7, .slice a8 (argL p.enh).length q8, .slice a9 p.files.length q9]) ∧ Blk wL bL 26 #[.slice a5 (argL p.reco).length q5, .slice a6 (argL p.sup).length q6, .slice a7 (argL p.sug).length q7, .slice a8 (argL p.enh).length q8]) ∧ CStep g gw w v wL v9 ∧ WrRel st (encT p.name ++ encV p.ep p.ver p.rel ++ numL an ++ encT p.vendor ++ encL encD p.prov ++ encRs p.req ++ encRs p.con ++ encL encD p.obs ++ catN (four [] (encRs p.reco) (encRs p.sup) (encRs p.sug) (encRs p.enh)) 0) st9 from
    ⟨⟨⟨HQ9.out.1.1.below hbn, HQ9.out.1.2.below hbn HQ9.out.1.2.lt⟩, hxL⟩, HQ9.out.2.1.trans (CStep.of_below hbn), by rw [show catN (four [] (encRs p.reco) (encRs p.sup) (encRs p.sug) (encRs p.enh)) 0 = [] from rfl, List.append_nil]; exact HQ9.out.2.2⟩)
  have HFL := Lib.hid (show ∀ v v' st w w', WrSt W0 g gw v st w → Blk w bL 26 #[.slice a5 (argL p.reco).length q5, .slice a6 (argL p.sup).length q6, .slice a7 (argL p.sug).length q7, .slice a8 (argL p.enh).length q8] → CStep g gw w v w' v' → Blk w' bL 26 #[.slice a5 (argL p.reco).length q5, .slice a6 (argL p.sup).length q6, .slice a7 (argL p.sug).length q7, .slice a8 (argL p.enh).length q8] from fun v v' st w w' h hb hc => h.far hc hb (by decide) (by decide) (by decide))
  have HPV := Lib.hid (show ∀ k, k < 4 → ∀ v st w, WrSt W0 g gw v st w → Calls Tryz.prog 66 #[.pointer (some ⟨g, 0, none⟩), (four undef (.slice a5 (argL p.reco).length q5) (.slice a6 (argL p.sup).length q6) (.slice a7 (argL p.sug).length q7) (.slice a8 (argL p.enh).length q8)) k, .func (.func 67) #[.pointer (some ⟨g, 0, none⟩)] #[]] w (WPost W0 g gw v st ((four [] (encRs p.reco) (encRs p.sup) (encRs p.sug) (encRs p.enh)) k) w) from fun k hk => by
    have : k = 0 ∨ k = 1 ∨ k = 2 ∨ k = 3 := by omega
    rcases this with rfl | rfl | rfl | rfl
    · exact HP5.out
    · exact HP6.out
    · exact HP7.out
    · exact HP8.out)
  clear hxL hbn HQ9
  go_upto_region 10 with fail
  rw [← hwL, ← hbL]
  clear hwL hbL c10 c11 c12 c13
  go_loopw [5, 57] (fun y i wr => ∃ (k : Nat) (vk : Value) (stk : WT), k ≤ 4 ∧ i = .int .i64 k ∧ Hid (((WrSt W0 g gw vk stk wr ∧ Blk wr b 29 #[.string p.name, .int .i64 p.ep, .string p.ver, .string p.rel, .int .u8 p.arch, .string p.vendor, .slice a1 p.prov.length q1, .slice a2 (argL p.req).length q2, .slice a3 (argL p.con).length q3, .slice a4 p.obs.length q4, .slice a5 (argL p.reco).length q5, .slice a6 (argL p.sup).length q6, .slice a7 (argL p.sug).length q7, .slice a8 (argL p.enh).length q8, .slice a9 p.files.length q9]) ∧ Blk wr bL 26 #[.slice a5 (argL p.reco).length q5, .slice a6 (argL p.sup).length q6, .slice a7 (argL p.sug).length q7, .slice a8 (argL p.enh).length q8]) ∧ CStep g gw w v wr vk ∧ WrRel st (encT p.name ++ encV p.ep p.ver p.rel ++ numL an ++ encT p.vendor ++ encL encD p.prov ++ encRs p.req ++ encRs p.con ++ encL encD p.obs ++ catN (four [] (encRs p.reco) (encRs p.sup) (encRs p.sug) (encRs p.enh)) k) stk)) (fun y i wr => 4 - (intOf i).toNat)
  case atStart => exact ⟨0, v9, st9, by omega, rfl, HQL⟩
  case round =>
    obtain ⟨k, vk, stk, hk, rfl, HK⟩ := hrel
    by_cases hlt : k < 4
    · have hki : (k : Int) < 4 := by omega
      have ck := four_cell HK.out.1.2 k hlt
      have lk := HK.out.1.2.lt
      have HM := Lib.hid (HPV.out k hlt vk stk wr HK.out.1.1.1)
      obtain ⟨V, hV⟩ : ∃ V, V = (four undef (.slice a5 (argL p.reco).length q5) (.slice a6 (argL p.sup).length q6) (.slice a7 (argL p.sug).length q7) (.slice a8 (argL p.enh).length q8)) k := ⟨_, rfl⟩
      rw [← hV] at ck HM
      clear hV
      go_wp2_with (first
        | (go_at_call 66; (with_reducible refine HM.out.mono ?_); rintro e w2 ⟨rfl, v2, st2, hs2, hr2, hc2⟩; have HK2 := Lib.hid (show ((WrSt W0 g gw v2 st2 w2 ∧ Blk w2 b 29 #[.string p.name, .int .i64 p.ep, .string p.ver, .string p.rel, .int .u8 p.arch, .string p.vendor, .slice a1 p.prov.length q1, .slice a2 (argL p.req).length q2, .slice a3 (argL p.con).length q3, .slice a4 p.obs.length q4, .slice a5 (argL p.reco).length q5, .slice a6 (argL p.sup).length q6, .slice a7 (argL p.sug).length q7, .slice a8 (argL p.enh).length q8, .slice a9 p.files.length q9]) ∧ Blk w2 bL 26 #[.slice a5 (argL p.reco).length q5, .slice a6 (argL p.sup).length q6, .slice a7 (argL p.sug).length q7, .slice a8 (argL p.enh).length q8]) ∧ CStep g gw w v w2 v2 ∧ WrRel st (encT p.name ++ encV p.ep p.ver p.rel ++ numL an ++ encT p.vendor ++ encL encD p.prov ++ encRs p.req ++ encRs p.con ++ encL encD p.obs ++ catN (four [] (encRs p.reco) (encRs p.sup) (encRs p.sug) (encRs p.enh)) (k + 1)) st2 from ⟨⟨⟨hs2, HF.out _ v2 _ _ w2 HK.out.1.1 hc2⟩, HFL.out _ v2 _ _ w2 HK.out.1.1.1 HK.out.1.2 hc2⟩, HK.out.2.1.trans hc2, by (have := HK.out.2.2.trans hr2; rw [List.append_assoc] at this; exact this)⟩); clear hs2 hr2 hc2)
        | fail)
      go_roundw
      case rel => exact ⟨k + 1, v2, st2, by omega, by go_num, HK2⟩
      case measure => simp [intOf]; omega
    · obtain rfl : k = 4 := by omega
      have c14 : wr.cell? ⟨b, 14, none⟩ = some (.slice a9 p.files.length q9) := HK.out.1.1.2.cell 14
      have HN9 := Lib.hid (HP9.out vk stk wr HK.out.1.1.1)
      go_wp2_with (first
        | (go_at_call 68; (with_reducible refine HN9.out.mono ?_); rintro e w2 ⟨rfl, v2, st2, hs2, hr2, hc2⟩; have HK2 := Lib.hid (show WrSt W0 g gw v2 st2 w2 ∧ CStep g gw w v w2 v2 ∧ WrRel st (encT p.name ++ encV p.ep p.ver p.rel ++ numL an ++ encT p.vendor ++ encL encD p.prov ++ encRs p.req ++ encRs p.con ++ encL encD p.obs ++ catN (four [] (encRs p.reco) (encRs p.sup) (encRs p.sug) (encRs p.enh)) 4 ++ encL encT p.files) st2 from ⟨hs2, HK.out.2.1.trans hc2, HK.out.2.2.trans hr2⟩); clear hs2 hr2 hc2)
        | fail)
      go_end0
      refine ⟨rfl, v2, st2, HK2.out.1, ?_, HK2.out.2.1⟩
      have := HK2.out.2.2
      rw [HBs.out]
      unfold encPk
      rw [HAN.out, Int.toNat_natCast]
      simp only [catN, four, List.nil_append, List.append_assoc] at this ⊢
      exact this
end Go.Proofs.YtdpjjnbelgaagaaGreatDoor

namespace Go.Proofs.YtdpjjnbelgaagaaGreatDoor
open Go.ChangeShapes Go.WideShapes Go.ChangeAt Go.RowKit
set_option maxRecDepth 100000

theorem putPs (W0 : World) (g gw : Nat) (l : List PkgD) (vl : Value) (hl : LIn pkgK anyB W0 l vl) (hs : l.all mayP = true) (v : Value) (st : WT) (w : World) (h : WrSt W0 g gw v st w) :
    Calls Tryz.prog 30 #[.pointer (some ⟨g, 0, none⟩), vl, .func (.func 31) #[.pointer (some ⟨g, 0, none⟩)] #[]] w (WPost W0 g gw v st (encL encPk l) w) :=
  putP_any W0 g gw l vl hl (fun x hx r v st w hh h => cwpkg_any W0 g gw v st x r w hh (mayP_is (List.all_eq_true.1 hs x hx)) h) v st w h

set_option maxHeartbeats 4000000 in
theorem cwrepo_any (W0 : World) (g gw : Nat) (v : Value) (st : WT) (x : RepoD) (r : Value) (w : World) (hp : LIn pkgK anyB W0 x.pkgs r) (h0 : 0 ≤ x.prio) (h1 : x.prio ≤ 1024) (hm : x.pkgs.all mayP = true) (h : WrSt W0 g gw v st w) :
    Calls Tryz.prog 29 #[.pointer (some ⟨g, 0, none⟩), .agg #[.int .i64 x.prio, r]] w (WPost W0 g gw v st (encO x) w) := by
  obtain ⟨a1, q1, (rfl : r = _)⟩ := hp.form
  obtain ⟨n, hn⟩ : ∃ n : Nat, x.prio = n := ⟨x.prio.toNat, (to_nat h0).symm⟩
  obtain ⟨Bs, hBs⟩ : ∃ Bs, Bs = encO x := ⟨_, rfl⟩
  rw [← hBs]
  have HBs := Lib.hid (show Bs = numL n ++ encL encPk x.pkgs by rw [hBs]; unfold encO; rw [hn, Int.toNat_natCast])
  have HP := Lib.hid (putPs W0 g gw x.pkgs _ hp hm)
  rw [hn] at h1 ⊢
  have hb1 := new_b w (.cells #[.int .i64 (n : Int), .slice a1 x.pkgs.length q1] 38)
  obtain ⟨b, hbe⟩ : ∃ b, b = w.heap.size := ⟨_, rfl⟩
  obtain ⟨w1, hw1⟩ : ∃ w1, w1 = w.alloc (.cells #[.int .i64 (n : Int), .slice a1 x.pkgs.length q1] 38) := ⟨_, rfl⟩
  have hx : Blk w1 b 38 #[.int .i64 (n : Int), .slice a1 x.pkgs.length q1] := by rw [hw1, hbe]; exact Blk.new _ _ _
  rw [← hw1] at hb1
  have HQ1 := Lib.hid (show (WrSt W0 g gw v st w1 ∧ Blk w1 b 38 #[.int .i64 (n : Int), .slice a1 x.pkgs.length q1]) ∧ CStep g gw w v w1 v from ⟨⟨h.below hb1, hx⟩, CStep.of_below hb1⟩)
  have c0 : w1.cell? ⟨b, 0, none⟩ = some (.int .i64 (n : Int)) := hx.cell 0
  have HN := Lib.hid (cwnum_any W0 g gw v st n w1 (by omega) HQ1.out.1.1)
  clear hx hb1 h hp hm h0 hn hBs
  go_enter Tryz.func29, Tryz.ntmps29
  go_upto_region 1 with fail
  rw [← hw1, ← hbe]
  clear hw1 hbe
  go_wp2_with fail
  refine HN.out.mono ?_
  rintro e w2 ⟨rfl, v2, st2, hs2, hr2, hc2⟩
  have hx2 := HQ1.out.1.1.far hc2 HQ1.out.1.2 (by decide) (by decide) (by decide)
  have c1 : w2.cell? ⟨b, 1, none⟩ = some (.slice a1 x.pkgs.length q1) := hx2.cell 1
  have HQ2 := Lib.hid (show CStep g gw w v w2 v2 ∧ WrRel st (numL n) st2 from ⟨HQ1.out.2.trans hc2, hr2⟩)
  have HN2 := Lib.hid (HP.out v2 st2 w2 hs2)
  clear hs2 hr2 hc2 hx2 HN HQ1 c0
  go_wp2_with fail
  refine HN2.out.mono ?_
  rintro e w3 ⟨rfl, v3, st3, hs3, hr3, hc3⟩
  have HQ3 := Lib.hid (show WrSt W0 g gw v3 st3 w3 ∧ CStep g gw w v w3 v3 ∧ WrRel st (numL n ++ encL encPk x.pkgs) st3 from ⟨hs3, HQ2.out.1.trans hc3, HQ2.out.2.trans hr3⟩)
  clear hs3 hr3 hc3
  go_wp2_with fail
  go_end0
  refine ⟨rfl, v3, st3, HQ3.out.1, ?_, HQ3.out.2.1⟩
  rw [HBs.out]
  exact HQ3.out.2.2
theorem putOs (W0 : World) (g gw : Nat) (l : List RepoD) (vl : Value) (hl : LIn repoK anyB W0 l vl) (h1 : l.all (fun r => decide (0 ≤ r.prio) && decide (r.prio ≤ 1024)) = true) (h2 : l.all (fun r => r.pkgs.all mayP) = true) (v : Value) (st : WT) (w : World) (h : WrSt W0 g gw v st w) :
    Calls Tryz.prog 28 #[.pointer (some ⟨g, 0, none⟩), vl, .func (.func 29) #[.pointer (some ⟨g, 0, none⟩)] #[]] w (WPost W0 g gw v st (encL encO l) w) :=
  putO_any W0 g gw l vl hl (fun x hx r v st w hh h => by
    have h3 := List.all_eq_true.1 h1 x hx
    simp only [Bool.and_eq_true, decide_eq_true_eq] at h3
    exact cwrepo_any W0 g gw v st x r w hh.2 h3.1 h3.2 (List.all_eq_true.1 h2 x hx) h) v st w h
end Go.Proofs.YtdpjjnbelgaagaaGreatDoor

namespace Go.Proofs.YtdpjjnbelgaagaaGreatDoor
open Go.ChangeShapes Go.WideShapes Go.ChangeAt Go.RowKit
set_option maxRecDepth 100000

def IPost (b : Bool) (n : Nat) (w : World) (e : Ending) (w' : World) : Prop := ∃ i : Int, e = .returned (.int .i64 i) ∧ decide (0 ≤ i) = b ∧ -1 ≤ i ∧ i ≤ n ∧ Below w.heap.size w w'

set_option maxHeartbeats 4000000 in
theorem ifD_every1D (W0 : World) (l : List DepD) (vl : Value) (hl : LIn depK anyB W0 l vl) (bc : Nat) (P : DepD → Bool) (w : World) (hB : Below W0.heap.size W0 w)
    (one : ∀ x ∈ l, ∀ (r : depK.R) (w' : World), depK.holds anyB W0 x r → Below w.heap.size w w' → Calls Tryz.prog 119 #[x.val, .pointer (some ⟨bc, 0, none⟩)] w' fun e w'' => e = .returned (.bool (P x)) ∧ Below w'.heap.size w' w'') :
    Calls Tryz.prog 159 #[vl, .func (.func 119) #[] #[.pointer (some ⟨bc, 0, none⟩)]] w (IPost (l.any P) l.length w) := by
  obtain ⟨a, c, rfl⟩ := hl.form
  have hn := hl.bound
  have HL := Lib.hid hl
  have HO := Lib.hid one
  have HBW := Lib.hid hB
  have HB0 := Lib.hid (Below.refl w.heap.size w)
  obtain ⟨T, hT⟩ : ∃ T, T = l.any P := ⟨_, rfl⟩
  rw [← hT]
  have HT := Lib.hid hT
  clear hl one hB hT
  go_enter Tryz.func159, Tryz.ntmps159
  go_wp2_with fail
  go_loopw [5, 8] (fun y i wr => ∃ k : Nat, k ≤ l.length ∧ i = .int .i64 k ∧ Hid ((l.take k).any P = false ∧ Below w.heap.size w wr)) (fun y i wr => l.length - (intOf i).toNat)
  case atStart => exact ⟨0, by omega, rfl, Lib.hid ⟨rfl, HB0.out⟩⟩
  case round =>
    obtain ⟨k, hk, rfl, HQ⟩ := hrel
    by_cases hlt : k < l.length
    · have hki : (k : Int) < (l.length : Int) := by omega
      obtain ⟨b, o, r, ha, _, hcs0, hh⟩ := HL.out.at_ k hlt
      obtain ⟨x, hx⟩ : ∃ x, x = l[k] := ⟨_, rfl⟩
      have HX := Lib.hid (show l.take (k + 1) = l.take k ++ [x] from by rw [hx]; exact List.take_succ_eq_append_getElem hlt)
      have hmem : x ∈ l := by rw [hx]; exact List.getElem_mem _
      have HMem := Lib.hid hmem
      rw [← hx] at hcs0 hh
      subst ha
      dsimp only [depK] at hcs0 r
      have hcs := hcs0.same ((HBW.out.trans (HQ.out.2.mono HBW.out.size)).block b hcs0.1) (HBW.out.trans (HQ.out.2.mono HBW.out.size)).size
      have e0 : wr.cell? ⟨b, o + k * 5, none⟩ = some (.string x.name) := hcs.2 0 (show 0 < 5 by omega)
      have e1 : wr.cell? ⟨b, o + k * 5 + 1, none⟩ = some (.int .u8 x.op) := hcs.2 1 (show 1 < 5 by omega)
      have e2 : wr.cell? ⟨b, o + k * 5 + 2, none⟩ = some (.int .i64 x.ep) := hcs.2 2 (show 2 < 5 by omega)
      have e3 : wr.cell? ⟨b, o + k * 5 + 3, none⟩ = some (.string x.ver) := hcs.2 3 (show 3 < 5 by omega)
      have e4 : wr.cell? ⟨b, o + k * 5 + 4, none⟩ = some (.string x.rel) := hcs.2 4 (show 4 < 5 by omega)
      have eb : b < wr.heap.size := hcs.1
      have HM := Lib.hid (HO.out x hmem _ wr hh HQ.out.2)
      obtain ⟨pb, hpb⟩ : ∃ pb, pb = P x := ⟨_, rfl⟩
      rw [← hpb] at HM
      have HPb := Lib.hid hpb
      clear hcs hcs0 hh hx hmem hpb
      cases pb with
      | true =>
        have HT2 := Lib.hid (show T = true from HT.out.trans (List.any_eq_true.2 ⟨x, HMem.out, HPb.out.symm⟩))
        go_wp2_with (first
          | (go_at_call 119; (with_reducible refine HM.out.mono ?_); rintro e w2 ⟨rfl, HBc⟩; have HB2 := Lib.hid (HQ.out.2.trans (HBc.mono HQ.out.2.size)); clear HBc)
          | fail)
        go_ret
        exact ⟨(k : Int), rfl, by rw [HT2.out]; exact decide_eq_true (by omega), by omega, by omega, HB2.out⟩
      | false =>
        go_wp2_with (first
          | (go_at_call 119; (with_reducible refine HM.out.mono ?_); rintro e w2 ⟨rfl, HBc⟩; have HB2 := Lib.hid (HQ.out.2.trans (HBc.mono HQ.out.2.size)); clear HBc)
          | fail)
        go_roundw
        case rel => exact ⟨k + 1, by omega, by go_num, Lib.hid ⟨by rw [HX.out, List.any_append, HQ.out.1]; simp [← HPb.out], HB2.out⟩⟩
        case measure => simp [intOf]; omega
    · obtain rfl : k = l.length := by omega
      have HT2 := Lib.hid (show T = false from by have := HQ.out.1; rw [List.take_length] at this; exact HT.out.trans this)
      go_wp2_with fail
      go_ret
      exact ⟨-1, rfl, by rw [HT2.out]; rfl, by omega, by omega, HQ.out.2⟩
theorem cfD_every1D (W0 : World) (l : List DepD) (vl : Value) (hl : LIn depK anyB W0 l vl) (bc : Nat) (P : DepD → Bool) (w : World) (hB : Below W0.heap.size W0 w)
    (one : ∀ x ∈ l, ∀ (r : depK.R) (w' : World), depK.holds anyB W0 x r → Below w.heap.size w w' → Calls Tryz.prog 119 #[x.val, .pointer (some ⟨bc, 0, none⟩)] w' fun e w'' => e = .returned (.bool (P x)) ∧ Below w'.heap.size w' w'') :
    Calls Tryz.prog 118 #[vl, .func (.func 119) #[] #[.pointer (some ⟨bc, 0, none⟩)]] w fun e w' => e = .returned (.bool (l.any P)) ∧ Below w.heap.size w w' := by
  have HI := Lib.hid (ifD_every1D W0 l vl hl bc P w hB one)
  obtain ⟨T, hT⟩ : ∃ T, T = l.any P := ⟨_, rfl⟩
  rw [← hT] at HI ⊢
  clear hl one hB hT
  go_enter Tryz.func118, Tryz.ntmps118
  go_wp2_with (first
    | (go_at_call 159; (with_reducible refine HI.out.mono ?_); rintro e w1 ⟨i, rfl, hi, h1, h2, HBc⟩; have HI2 := Lib.hid hi; clear hi)
    | fail)
  go_ret
  exact ⟨ret_bool HI2.out, HBc⟩

set_option maxHeartbeats 4000000 in
theorem ifS_every1S (W0 : World) (l : List ByteArray) (vl : Value) (hl : LIn strK anyB W0 l vl) (bc : Nat) (P : ByteArray → Bool) (w : World) (hB : Below W0.heap.size W0 w)
    (one : ∀ x ∈ l, ∀ (r : strK.R) (w' : World), strK.holds anyB W0 x r → Below w.heap.size w w' → Calls Tryz.prog 122 #[.string x, .pointer (some ⟨bc, 0, none⟩)] w' fun e w'' => e = .returned (.bool (P x)) ∧ Below w'.heap.size w' w'') :
    Calls Tryz.prog 161 #[vl, .func (.func 122) #[] #[.pointer (some ⟨bc, 0, none⟩)]] w (IPost (l.any P) l.length w) := by
  obtain ⟨a, c, rfl⟩ := hl.form
  have hn := hl.bound
  have HL := Lib.hid hl
  have HO := Lib.hid one
  have HBW := Lib.hid hB
  have HB0 := Lib.hid (Below.refl w.heap.size w)
  obtain ⟨T, hT⟩ : ∃ T, T = l.any P := ⟨_, rfl⟩
  rw [← hT]
  have HT := Lib.hid hT
  clear hl one hB hT
  go_enter Tryz.func161, Tryz.ntmps161
  go_wp2_with fail
  go_loopw [5, 8] (fun y i wr => ∃ k : Nat, k ≤ l.length ∧ i = .int .i64 k ∧ Hid ((l.take k).any P = false ∧ Below w.heap.size w wr)) (fun y i wr => l.length - (intOf i).toNat)
  case atStart => exact ⟨0, by omega, rfl, Lib.hid ⟨rfl, HB0.out⟩⟩
  case round =>
    obtain ⟨k, hk, rfl, HQ⟩ := hrel
    by_cases hlt : k < l.length
    · have hki : (k : Int) < (l.length : Int) := by omega
      obtain ⟨b, o, r, ha, _, hcs0, hh⟩ := HL.out.at_ k hlt
      obtain ⟨x, hx⟩ : ∃ x, x = l[k] := ⟨_, rfl⟩
      have HX := Lib.hid (show l.take (k + 1) = l.take k ++ [x] from by rw [hx]; exact List.take_succ_eq_append_getElem hlt)
      have hmem : x ∈ l := by rw [hx]; exact List.getElem_mem _
      have HMem := Lib.hid hmem
      rw [← hx] at hcs0 hh
      subst ha
      dsimp only [strK] at hcs0 r
      rw [Nat.mul_one] at hcs0
      have hcs := hcs0.same ((HBW.out.trans (HQ.out.2.mono HBW.out.size)).block b hcs0.1) (HBW.out.trans (HQ.out.2.mono HBW.out.size)).size
      have e0 : wr.cell? ⟨b, o + k, none⟩ = some (.string x) := hcs.2 0 (show 0 < 1 by omega)
      have eb : b < wr.heap.size := hcs.1
      have HM := Lib.hid (HO.out x hmem _ wr hh HQ.out.2)
      obtain ⟨pb, hpb⟩ : ∃ pb, pb = P x := ⟨_, rfl⟩
      rw [← hpb] at HM
      have HPb := Lib.hid hpb
      clear hcs hcs0 hh hx hmem hpb
      cases pb with
      | true =>
        have HT2 := Lib.hid (show T = true from HT.out.trans (List.any_eq_true.2 ⟨x, HMem.out, HPb.out.symm⟩))
        go_wp2_with (first
          | (go_at_call 122; (with_reducible refine HM.out.mono ?_); rintro e w2 ⟨rfl, HBc⟩; have HB2 := Lib.hid (HQ.out.2.trans (HBc.mono HQ.out.2.size)); clear HBc)
          | fail)
        go_ret
        exact ⟨(k : Int), rfl, by rw [HT2.out]; exact decide_eq_true (by omega), by omega, by omega, HB2.out⟩
      | false =>
        go_wp2_with (first
          | (go_at_call 122; (with_reducible refine HM.out.mono ?_); rintro e w2 ⟨rfl, HBc⟩; have HB2 := Lib.hid (HQ.out.2.trans (HBc.mono HQ.out.2.size)); clear HBc)
          | fail)
        go_roundw
        case rel => exact ⟨k + 1, by omega, by go_num, Lib.hid ⟨by rw [HX.out, List.any_append, HQ.out.1]; simp [← HPb.out], HB2.out⟩⟩
        case measure => simp [intOf]; omega
    · obtain rfl : k = l.length := by omega
      have HT2 := Lib.hid (show T = false from by have := HQ.out.1; rw [List.take_length] at this; exact HT.out.trans this)
      go_wp2_with fail
      go_ret
      exact ⟨-1, rfl, by rw [HT2.out]; rfl, by omega, by omega, HQ.out.2⟩
theorem cfS_every1S (W0 : World) (l : List ByteArray) (vl : Value) (hl : LIn strK anyB W0 l vl) (bc : Nat) (P : ByteArray → Bool) (w : World) (hB : Below W0.heap.size W0 w)
    (one : ∀ x ∈ l, ∀ (r : strK.R) (w' : World), strK.holds anyB W0 x r → Below w.heap.size w w' → Calls Tryz.prog 122 #[.string x, .pointer (some ⟨bc, 0, none⟩)] w' fun e w'' => e = .returned (.bool (P x)) ∧ Below w'.heap.size w' w'') :
    Calls Tryz.prog 121 #[vl, .func (.func 122) #[] #[.pointer (some ⟨bc, 0, none⟩)]] w fun e w' => e = .returned (.bool (l.any P)) ∧ Below w.heap.size w w' := by
  have HI := Lib.hid (ifS_every1S W0 l vl hl bc P w hB one)
  obtain ⟨T, hT⟩ : ∃ T, T = l.any P := ⟨_, rfl⟩
  rw [← hT] at HI ⊢
  clear hl one hB hT
  go_enter Tryz.func121, Tryz.ntmps121
  go_wp2_with (first
    | (go_at_call 161; (with_reducible refine HI.out.mono ?_); rintro e w1 ⟨i, rfl, hi, h1, h2, HBc⟩; have HI2 := Lib.hid hi; clear hi)
    | fail)
  go_ret
  exact ⟨ret_bool HI2.out, HBc⟩

set_option maxHeartbeats 4000000 in
theorem ifR_every1R (W0 : World) (l : List RichD) (vl : Value) (hl : LIn richK anyB W0 l vl) (bc : Nat) (P : RichD → Bool) (w : World) (hB : Below W0.heap.size W0 w)
    (one : ∀ x ∈ l, ∀ (r : richK.R) (w' : World), richK.holds anyB W0 x r → Below w.heap.size w w' → Calls Tryz.prog 125 #[x.val r, .pointer (some ⟨bc, 0, none⟩)] w' fun e w'' => e = .returned (.bool (P x)) ∧ Below w'.heap.size w' w'') :
    Calls Tryz.prog 162 #[vl, .func (.func 125) #[] #[.pointer (some ⟨bc, 0, none⟩)]] w (IPost (l.any P) l.length w) := by
  obtain ⟨a, c, rfl⟩ := hl.form
  have hn := hl.bound
  have HL := Lib.hid hl
  have HO := Lib.hid one
  have HBW := Lib.hid hB
  have HB0 := Lib.hid (Below.refl w.heap.size w)
  obtain ⟨T, hT⟩ : ∃ T, T = l.any P := ⟨_, rfl⟩
  rw [← hT]
  have HT := Lib.hid hT
  clear hl one hB hT
  go_enter Tryz.func162, Tryz.ntmps162
  go_wp2_with fail
  go_loopw [5, 8] (fun y i wr => ∃ k : Nat, k ≤ l.length ∧ i = .int .i64 k ∧ Hid ((l.take k).any P = false ∧ Below w.heap.size w wr)) (fun y i wr => l.length - (intOf i).toNat)
  case atStart => exact ⟨0, by omega, rfl, Lib.hid ⟨rfl, HB0.out⟩⟩
  case round =>
    obtain ⟨k, hk, rfl, HQ⟩ := hrel
    by_cases hlt : k < l.length
    · have hki : (k : Int) < (l.length : Int) := by omega
      obtain ⟨b, o, r, ha, _, hcs0, hh⟩ := HL.out.at_ k hlt
      obtain ⟨x, hx⟩ : ∃ x, x = l[k] := ⟨_, rfl⟩
      have HX := Lib.hid (show l.take (k + 1) = l.take k ++ [x] from by rw [hx]; exact List.take_succ_eq_append_getElem hlt)
      have hmem : x ∈ l := by rw [hx]; exact List.getElem_mem _
      have HMem := Lib.hid hmem
      rw [← hx] at hcs0 hh
      subst ha
      dsimp only [richK] at hcs0 r
      have hcs := hcs0.same ((HBW.out.trans (HQ.out.2.mono HBW.out.size)).block b hcs0.1) (HBW.out.trans (HQ.out.2.mono HBW.out.size)).size
      have e0 : wr.cell? ⟨b, o + k * 7, none⟩ = some (.int .u8 x.kind) := hcs.2 0 (show 0 < 7 by omega)
      have e1 : wr.cell? ⟨b, o + k * 7 + 1, none⟩ = some (.string x.dep.name) := hcs.2 1 (show 1 < 7 by omega)
      have e2 : wr.cell? ⟨b, o + k * 7 + 2, none⟩ = some (.int .u8 x.dep.op) := hcs.2 2 (show 2 < 7 by omega)
      have e3 : wr.cell? ⟨b, o + k * 7 + 3, none⟩ = some (.int .i64 x.dep.ep) := hcs.2 3 (show 3 < 7 by omega)
      have e4 : wr.cell? ⟨b, o + k * 7 + 4, none⟩ = some (.string x.dep.ver) := hcs.2 4 (show 4 < 7 by omega)
      have e5 : wr.cell? ⟨b, o + k * 7 + 5, none⟩ = some (.string x.dep.rel) := hcs.2 5 (show 5 < 7 by omega)
      have e6 : wr.cell? ⟨b, o + k * 7 + 6, none⟩ = some (r) := hcs.2 6 (show 6 < 7 by omega)
      have eb : b < wr.heap.size := hcs.1
      have HM := Lib.hid (HO.out x hmem _ wr hh HQ.out.2)
      obtain ⟨pb, hpb⟩ : ∃ pb, pb = P x := ⟨_, rfl⟩
      rw [← hpb] at HM
      have HPb := Lib.hid hpb
      clear hcs hcs0 hh hx hmem hpb
      cases pb with
      | true =>
        have HT2 := Lib.hid (show T = true from HT.out.trans (List.any_eq_true.2 ⟨x, HMem.out, HPb.out.symm⟩))
        go_wp2_with (first
          | (go_at_call 125; (with_reducible refine HM.out.mono ?_); rintro e w2 ⟨rfl, HBc⟩; have HB2 := Lib.hid (HQ.out.2.trans (HBc.mono HQ.out.2.size)); clear HBc)
          | fail)
        go_ret
        exact ⟨(k : Int), rfl, by rw [HT2.out]; exact decide_eq_true (by omega), by omega, by omega, HB2.out⟩
      | false =>
        go_wp2_with (first
          | (go_at_call 125; (with_reducible refine HM.out.mono ?_); rintro e w2 ⟨rfl, HBc⟩; have HB2 := Lib.hid (HQ.out.2.trans (HBc.mono HQ.out.2.size)); clear HBc)
          | fail)
        go_roundw
        case rel => exact ⟨k + 1, by omega, by go_num, Lib.hid ⟨by rw [HX.out, List.any_append, HQ.out.1]; simp [← HPb.out], HB2.out⟩⟩
        case measure => simp [intOf]; omega
    · obtain rfl : k = l.length := by omega
      have HT2 := Lib.hid (show T = false from by have := HQ.out.1; rw [List.take_length] at this; exact HT.out.trans this)
      go_wp2_with fail
      go_ret
      exact ⟨-1, rfl, by rw [HT2.out]; rfl, by omega, by omega, HQ.out.2⟩
theorem cfR_every1R (W0 : World) (l : List RichD) (vl : Value) (hl : LIn richK anyB W0 l vl) (bc : Nat) (P : RichD → Bool) (w : World) (hB : Below W0.heap.size W0 w)
    (one : ∀ x ∈ l, ∀ (r : richK.R) (w' : World), richK.holds anyB W0 x r → Below w.heap.size w w' → Calls Tryz.prog 125 #[x.val r, .pointer (some ⟨bc, 0, none⟩)] w' fun e w'' => e = .returned (.bool (P x)) ∧ Below w'.heap.size w' w'') :
    Calls Tryz.prog 124 #[vl, .func (.func 125) #[] #[.pointer (some ⟨bc, 0, none⟩)]] w fun e w' => e = .returned (.bool (l.any P)) ∧ Below w.heap.size w w' := by
  have HI := Lib.hid (ifR_every1R W0 l vl hl bc P w hB one)
  obtain ⟨T, hT⟩ : ∃ T, T = l.any P := ⟨_, rfl⟩
  rw [← hT] at HI ⊢
  clear hl one hB hT
  go_enter Tryz.func124, Tryz.ntmps124
  go_wp2_with (first
    | (go_at_call 162; (with_reducible refine HI.out.mono ?_); rintro e w1 ⟨i, rfl, hi, h1, h2, HBc⟩; have HI2 := Lib.hid hi; clear hi)
    | fail)
  go_ret
  exact ⟨ret_bool HI2.out, HBc⟩
end Go.Proofs.YtdpjjnbelgaagaaGreatDoor
