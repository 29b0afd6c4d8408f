/- The document's watcher: Propagate, Clause. -/
import Derived.Test.YtnachllhjojlcaaV33
import Derived.BigQuiet
namespace Go.Proofs.Ytnachllhjojlcaa
open Go.ChangeShapes Go.WideShapes Go.ChangeAt Go.RowKit Go.Maps Go.Deep
set_option maxRecDepth 100000

/-- Something, the document's trail, and its watcher. -/
abbrev Tri (A : Ast) (xr xt n : Nat) (es : List En) (cl : List (List Int)) : Ast := (A.and (rtr xt n es)).and (rwt xr xt cl)
theorem triT {A : Ast} (hA : Solid A) (xr xt : Nat) (cl : List (List Int)) : Ctx fun X => (A.and X).and (rwt xr xt cl) := (Ctx.id.left (Solid.rwt xr xt cl)).right hA
theorem triW {A : Ast} (hA : Solid A) (xt n : Nat) (es : List En) : Ctx fun X => (A.and (rtr xt n es)).and X := Ctx.id.right (hA.and (Solid.rtr xt n es))
theorem triA (xr xt n : Nat) (es : List En) (cl : List (List Int)) : Ctx fun X => (X.and (rtr xt n es)).and (rwt xr xt cl) := (Ctx.id.left (Solid.rwt xr xt cl)).left (Solid.rtr xt n es)
theorem triSolid {A : Ast} (hA : Solid A) (xr xt n : Nat) (es : List En) (cl : List (List Int)) : Solid (Tri A xr xt n es cl) := (hA.and (Solid.rtr ..)).and (Solid.rwt ..)

def lenAt (w : World) (xt : Nat) : Nat := match w.cell? ⟨xt, 1, none⟩ with
  | some (.slice _ n _) => n
  | _ => 0
section
variable {W w : World} {A : Ast} {xr xt n : Nat} {es : List En} {cl : List (List Int)}
theorem len_at (hA : Solid A) (h : On W w (Tri A xr xt n es cl)) : lenAt w xt = es.length := by
  obtain ⟨F, ⟨⟨v, k1, k2, _⟩, _⟩, _⟩ := (triT hA xr xt cl).use h
  obtain ⟨ao, cap, e, _⟩ := k2.form
  have hc := k1.cell 1
  unfold lenAt
  rw [hc, e]
  rfl

/-- How the clauses lie, in whatever world behind. -/
theorem rwt_rows (hA : Solid A) (h : On W w (Tri A xr xt n es cl)) : ∃ (aoL : Option Addr) (capL : Nat) (ai : Nat → Option Addr) (ci : Nat → Nat), ∀ w2, Below w.heap.size w w2 →
    w2.cell? ⟨xr, 0, none⟩ = some (.pointer (some ⟨xt, 0, none⟩)) ∧ w2.cell? ⟨xr, 1, none⟩ = some (.slice aoL cl.length capL) ∧ (0 < cl.length → ∃ bL oL, aoL = some ⟨bL, oL, none⟩) ∧
    ∀ bL oL, aoL = some ⟨bL, oL, none⟩ → ∀ i, i < cl.length → w2.cell? ⟨bL, oL + i, none⟩ = some (.slice (ai i) (cl.getD i []).length (ci i)) ∧ Ints w2 (ai i) (cl.getD i []) := by
  obtain ⟨F, ⟨vL, C, k1, k2, k3, k4⟩, _⟩ := (triW hA xt n es).use h
  obtain ⟨aoL, capL, rfl, _, _, hf⟩ := k2.form
  have hr : ∀ i, ∃ (a : Option Addr) (c : Nat), i < cl.length → C i = .slice a (cl.getD i []).length c := fun i => by
    by_cases hi : i < cl.length
    · obtain ⟨a, c, e, _⟩ := (k3 i hi).form
      exact ⟨a, c, fun _ => e⟩
    · exact ⟨none, 0, fun h => absurd h hi⟩
  have hr1 := fun i => (hr i).choose_spec
  refine ⟨aoL, capL, fun i => (hr i).choose, fun i => (hr1 i).choose, fun w2 hb => ?_⟩
  have hB := k1.below hb k1.lt
  refine ⟨hB.cell 0, hB.cell 1, fun h0 => ?_, fun bL oL e i hi => ?_⟩
  · obtain ⟨b, o, e, _⟩ := hf h0
    exact ⟨b, o, e⟩
  · obtain ⟨b, o, e2, hcc, _, hlt⟩ := hf (by omega)
    rw [e] at e2
    simp only [Option.some.injEq, Addr.mk.injEq, and_true] at e2
    obtain ⟨rfl, rfl⟩ := e2
    have hc := hcc i (by rw [rowV_len]; exact hi)
    rw [rowV_get _ _ _ hi, (hr1 i).choose_spec hi] at hc
    refine ⟨(World.cell?_of_block (w := w) (hb.block bL hlt)).trans hc, ?_⟩
    have ho := k3 i hi
    obtain ⟨ao', cap', e3, hI⟩ := ho.ints
    have e4 := (hr1 i).choose_spec hi
    rw [e4] at e3
    injection e3 with e5 _ _
    rw [← e5] at hI
    exact hI.below hb

theorem on_rprop (hA : Solid A) (h : On W w (Tri A xr xt n es cl)) (hg : Good n es) (hn : n ≤ 60) (hcl : cl.length ≤ 1000) (hk : ∀ c ∈ cl, knownS n c = true ∧ c.length ≤ 40) :
    Calls Try.prog 22 #[.pointer (some ⟨xr, 0, none⟩)] w fun e w' => e = .returned (.bool (propR n cl (n + 1) es).1) ∧ On W w' (Tri A xr xt n (propR n cl (n + 1) es).2 cl) := by
  obtain ⟨R, hR⟩ : ∃ R, R = propR n cl (n + 1) es := ⟨_, rfl⟩
  rw [← hR]
  have HR := Lib.hid hR
  have HK := Lib.hid hk
  have HG := Lib.hid hg
  clear hR hk hg
  go_enter Try.func22, Try.ntmps22
  go_wp2_with fail
  go_loopw [3] (fun _ wr => ∃ (es1 : List En) (f : Nat), Hid (R = propR n cl f es1) ∧ n < f + es1.length ∧ Hid (Good n es1) ∧ On W wr (Tri A xr xt n es1 cl)) (fun _ wr => n + 1 - lenAt wr xt)
  case atStart => exact ⟨es, n + 1, HR, by omega, HG, h⟩
  case round =>
    obtain ⟨es1, f, HRf, hf, HG1, hr⟩ := hrel
    obtain ⟨f, rfl⟩ : ∃ f', f = f' + 1 := ⟨f - 1, by have := HG1.out.len_le; omega⟩
    have hla := len_at hA hr
    have hR1 := HRf.out
    unfold propR at hR1
    have HR1 := Lib.hid hR1
    obtain ⟨aoL, capL, ai, ci, hrows⟩ := rwt_rows hA hr
    have HRows := Lib.hid hrows
    have HRd : Hid (∀ w2, Below wr.heap.size wr w2 → ∀ i, i < cl.length → Ints w2 (ai i) (cl.getD i []) → Calls Try.prog 24 #[.pointer (some ⟨xt, 0, none⟩), .slice (ai i) (cl.getD i []).length (ci i)] w2 fun e w' => e = .returned (.tuple #[.int .i64 (readR n es1 (cl.getD i []) 0).1, .int .i64 (readR n es1 (cl.getD i []) 0).2]) ∧ w' = w2) := Lib.hid fun w2 hb i hi hI => by
      obtain ⟨F, ⟨a, _⟩, _⟩ := (triT hA xr xt cl).use (On.below (triSolid hA ..) hr hb)
      obtain ⟨q1, q2⟩ := HK.out _ (getD_mem hi)
      exact (rreads_any w2 F xt n es1 a HG1.out hn (ai i) _ (ci i) hI q2 fun x hx => by
        have := List.all_eq_true.1 q1 x hx
        simp only [decide_eq_true_eq] at this
        unfold I64
        omega).mono fun _ _ h => ⟨h.1, h.2.symm⟩
    have HOn : Hid (∀ w2, Below wr.heap.size wr w2 → On W w2 (Tri A xr xt n es1 cl)) := Lib.hid fun w2 hb => On.below (triSolid hA ..) hr hb
    obtain ⟨w1, rfl⟩ : ∃ w1 : World, w1 = wr := ⟨_, rfl⟩
    obtain ⟨Sc, hSc⟩ : ∃ Sc, Sc = scanR n es1 cl 0 (-1, 0) := ⟨_, rfl⟩
    have HSc : Hid (Sc = scanR n es1 (cl.drop 0) 0 (-1, 0)) := Lib.hid (by rw [List.drop_zero]; exact hSc)
    have HSc0 := Lib.hid hSc
    clear hr hrows hR1 hSc
    go_wp2_with fail
    go_loopw [3, 4, 5] (fun s3 s4 s5 wr => ∃ (i : Nat) (at_ lit : Int), i ≤ cl.length ∧ s5 = .int .i64 i ∧ s3 = .int .i64 at_ ∧ s4 = .int .i64 lit ∧ Hid (Sc = scanR n es1 (cl.drop i) i (at_, lit)) ∧ Hid (Below w1.heap.size w1 wr)) (fun _ _ s _ => cl.length - (intOf s).toNat)
    case atStart => exact ⟨0, -1, 0, by omega, rfl, rfl, rfl, HSc, Lib.hid (Below.refl _ _)⟩
    case round =>
      obtain ⟨i, at_, lit, hib, rfl, rfl, rfl, HS, HB⟩ := hrel
      obtain ⟨c0, c1, c2, c3⟩ := HRows.out wr HB.out
      by_cases hlt : i < cl.length
      · have hii : (i : Int) < (cl.length : Int) := by omega
        obtain ⟨bL, oL, rfl⟩ := c2 (by omega)
        obtain ⟨hcell, hInt⟩ := c3 bL oL rfl i hlt
        have hs := HS.out
        rw [List.drop_eq_getElem_cons hlt] at hs
        have eg : cl.getD i [] = cl[i] := by rw [List.getD_eq_getElem?_getD, List.getElem?_eq_getElem hlt]; rfl
        rw [← eg] at hs
        unfold scanR at hs
        have HQ : Hid (∀ m, Calls Try.prog 24 #[.pointer (some ⟨xt, 0, none⟩), .slice (ai i) (cl.getD i []).length (ci i)] (wr.drewN m) fun e w' => e = .returned (.tuple #[.int .i64 (readR n es1 (cl.getD i []) 0).1, .int .i64 (readR n es1 (cl.getD i []) 0).2]) ∧ w' = wr.drewN m) := Lib.hid fun m =>
          HRd.out (wr.drewN m) (bel_drewN HB.out m) i hlt (hInt.below (bel_drewN (Below.refl _ _) m))
        obtain ⟨⟨how, unit⟩, hrd⟩ : ∃ r, r = readR n es1 (cl.getD i []) 0 := ⟨_, rfl⟩
        rw [← hrd] at hs HQ
        generalize cl.getD i [] = c at *
        simp only at hs HQ
        clear c3 hInt eg hrd
        go_wp2_with fail
        go_quiet (first | (go_at_call 24; exact Calls.quiet_of_same (HQ.out _)))
        have HBn : Hid (Below w1.heap.size w1 (wr.drewN nq)) := Lib.hid (bel_drewN HB.out nq)
        by_cases h2 : how = 2
        · subst h2
          rw [if_pos rfl] at hs
          have h3 := HR1.out
          rw [← HSc0.out, hs] at h3
          simp only at h3
          subst h3
          go_wp2_with fail
          go_ret
          exact ⟨rfl, HOn.out _ HBn.out⟩
        · have h2f : (how == 2) = false := by simpa using h2
          rw [if_neg h2] at hs
          by_cases h1 : how = 1
          · subst h1
            by_cases ha : at_ < 0
            · have had : decide (at_ < 0) = true := by simpa using ha
              rw [if_pos ⟨rfl, ha⟩] at hs
              have HS2 := Lib.hid hs
              clear hs
              go_wp2_with fail
              go_roundw
              case rel => exact ⟨i + 1, (i : Int), unit, by omega, by go_num, rfl, rfl, HS2, HBn⟩
              case measure => simp [intOf]; omega
            · have had : decide (at_ < 0) = false := by simpa using ha
              rw [if_neg (fun hh => ha hh.2)] at hs
              have HS2 := Lib.hid hs
              clear hs
              go_wp2_with fail
              go_roundw
              case rel => exact ⟨i + 1, at_, lit, by omega, by go_num, rfl, rfl, HS2, HBn⟩
              case measure => simp [intOf]; omega
          · have h1f : (how == 1) = false := by simpa using h1
            rw [if_neg (fun hh => h1 hh.1)] at hs
            have HS2 := Lib.hid hs
            clear hs
            go_wp2_with fail
            go_roundw
            case rel => exact ⟨i + 1, at_, lit, by omega, by go_num, rfl, rfl, HS2, HBn⟩
            case measure => simp [intOf]; omega
      · obtain rfl : i = cl.length := by omega
        have hs := HS.out
        rw [List.drop_length] at hs
        unfold scanR at hs
        have h3 := HR1.out
        rw [← HSc0.out, hs] at h3
        simp only at h3
        have hrw := HOn.out wr HB.out
        by_cases ha : at_ < 0
        · have had : decide (at_ < 0) = true := by simpa using ha
          rw [if_pos ha] at h3
          subst h3
          clear hs c3
          go_wp2_with fail
          go_ret
          exact ⟨rfl, hrw⟩
        · have had : decide (at_ < 0) = false := by simpa using ha
          rw [if_neg ha] at h3
          obtain ⟨j, hj, e1, m1, m2, m3, m4, m5⟩ := scan_unit (fun c hc => (HK.out c hc).1) (HSc0.out.symm.trans hs) ha
          simp only at e1 m1 m2 m3 m4 m5
          have ea : (asnC n es1 lit at_).2 = ⟨lit, hi es1, (j : Int)⟩ :: es1 := by rw [e1]; exact asn_push m2 ⟨m4, m5⟩ j
          have hg2 : Good n (⟨lit, hi es1, (j : Int)⟩ :: es1) := good_push HG1.out m2 ⟨m4, m5⟩ j
          have HAs := Lib.hid (on_rassign (triT hA xr xt cl) hrw HG1.out hn lit at_ (by unfold I64; omega))
          rw [ea] at h3 HAs
          have H3 := Lib.hid h3
          have HG2 := Lib.hid hg2
          have hle := hg2.len_le
          generalize (⟨lit, hi es1, (j : Int)⟩ : En) = en at *
          clear h3 hg2 ea e1 m1 m2 m3 m4 m5 hs hrw c3
          go_wp2_with (go_at_call 50; (with_reducible refine HAs.out.mono ?_); rintro e w5 ⟨rfl, h5⟩)
          go_roundw
          case rel => exact ⟨en :: es1, f, H3, by simp; omega, HG2, h5⟩
          case measure =>
            have e2 := len_at hA h5
            rw [e2, hla]
            simp at hle ⊢
            omega

theorem on_rclause (hA : Solid A) (h : On W w (Tri A xr xt n es cl)) (hcl : cl.length ≤ 1000) (i : Int) :
    Calls Try.prog 29 #[.pointer (some ⟨xr, 0, none⟩), .int .i64 i] w fun e w' => ∃ ao cap, e = .returned (.slice ao (if i < 0 then [] else cl.getD i.toNat []).length cap) ∧ Ints w' ao (if i < 0 then [] else cl.getD i.toNat []) ∧ w = w' := by
  obtain ⟨aoL, capL, ai, ci, hrows⟩ := rwt_rows hA h
  obtain ⟨c0, c1, c2, c3⟩ := hrows w (Below.refl _ _)
  clear hrows h
  by_cases h0 : i < 0
  · rw [if_pos h0]
    have hd : decide (i < 0) = true := by simpa using h0
    clear c3
    go_enter Try.func29, Try.ntmps29
    go_wp2_with fail
    go_ret
    exact ⟨none, 0, rfl, fun h => absurd h (by simp), rfl⟩
  · rw [if_neg h0]
    obtain ⟨k, rfl⟩ := Int.eq_ofNat_of_zero_le (by omega : 0 ≤ i)
    rw [Int.toNat_natCast]
    have hd : decide ((k : Int) < 0) = false := by simp
    by_cases hk : k < cl.length
    · obtain ⟨bL, oL, rfl⟩ := c2 (by omega)
      obtain ⟨hcell, hInt⟩ := c3 bL oL rfl k hk
      have hki : (k : Int) < (cl.length : Int) := by omega
      have hkd : decide ((cl.length : Int) ≤ (k : Int)) = false := by simp; omega
      generalize cl.getD k [] = c at *
      have HI := Lib.hid hInt
      clear c3 hInt h0
      go_enter Try.func29, Try.ntmps29
      go_wp2_with fail
      go_ret
      exact ⟨_, _, rfl, HI.out, rfl⟩
    · have hg : cl.getD k [] = [] := by rw [List.getD_eq_getElem?_getD, List.getElem?_eq_none (by omega)]; rfl
      rw [hg]
      have hkd : decide ((cl.length : Int) ≤ (k : Int)) = true := by simp; omega
      clear c3 h0
      go_enter Try.func29, Try.ntmps29
      go_wp2_with fail
      go_ret
      exact ⟨none, 0, rfl, fun h => absurd h (by simp), rfl⟩
end

end Go.Proofs.Ytnachllhjojlcaa
