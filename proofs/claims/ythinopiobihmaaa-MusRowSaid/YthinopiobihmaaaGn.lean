/- A search in memory: Solve. -/
import Derived.Test.YthinopiobihmaaaGm
import Derived.Deep.OwnRows
import Derived.StillTailTactics
import Derived.Deep.RegionHeld3
namespace Go.Proofs.Ythinopiobihmaaa
open Go.ChangeShapes Go.WideShapes Go.ChangeAt Go.RowKit Go.Maps Go.Deep
set_option maxRecDepth 100000

theorem wrap_nat (k : Nat) (h : k ≤ 1000000) : IntKind.i64.wrap ((k : Int) + 1) = (k : Int) + 1 := by rw [IntKind.wrap_i64]; omega
theorem wrap_neg (k : Nat) (h : k ≤ 1000000) : IntKind.i64.wrap (-((k : Int) + 1)) = -((k : Int) + 1) := by rw [IntKind.wrap_i64]; omega
theorem var_le {k n : Nat} (h : k < n) (hn : n ≤ 12) : k ≤ 1000000 := by omega
theorem var_i64 {k n : Nat} (h : k < n) (hn : n ≤ 12) : I64 (-((k : Int) + 1)) := by unfold I64; omega
theorem steps_le {k : Nat} (h : k ≤ 53248) : k ≤ 1000000 := Nat.le_trans h (by decide)

set_option maxHeartbeats 4000000 in
theorem solve_any (n : Nat) (hn : n ≤ 12) (ao : Option Addr) (cl : List (List Int)) (cap : Nat) (av : Nat → Option Addr) (cp : Nat → Nat) (w : World) (hc : IsRows w ao cl av cp) (hm : cl.length ≤ 2100) (hl : ∀ c ∈ cl, c.length ≤ 2000) (hI : ∀ c ∈ cl, ∀ x ∈ c, I64 x) (budget : Int) (hb : 0 ≤ budget ∧ budget ≤ 1099511627776) :
    Calls Try.prog 17 #[.int .i64 n, .slice ao cl.length cap, .int .i64 budget] w fun e w' => SolPost w n cl budget e w' := by
  have hb0 : decide (budget < 0) = false := by simp; omega
  have hb1 : decide (1099511627776 < budget) = false := by simp; omega
  have HC := Lib.hid hc
  have HL := Lib.hid hl
  have HI := Lib.hid hI
  clear hc hl hI
  go_enter Try.func17, Try.ntmps17
  go_wp2_with fail
  go_step3
  have h0 : On w (w.alloc (.cells (ansC false nilV 0 nilV nilV) 40)) (Emp.and (blkA w.heap.size 40 (ansC false nilV 0 nilV nilV))) := (On.start (Below.refl w.heap.size w)).new Solid.emp ((Below.refl _ _).alloc (Nat.le_refl _) _) (B := blkA w.heap.size 40 (ansC false nilV 0 nilV nilV)) ⟨Blk.new .., fun _ => Iff.rfl⟩ fun k hk => Nat.le_of_eq hk.symm
  have HN := Lib.hid (on_new (n := n) (Solid.emp.and (Solid.blkA ..)) h0 hn)
  unfold ansC nilV at HN
  clear h0
  go_wp2_with (go_at_call 25; (with_reducible refine HN.out.mono ?_); rintro e w1 ⟨x, rfl, h1⟩)
  obtain ⟨w2, hw2⟩ : ∃ w2, w2 = w1.alloc (.cells #[.pointer (some ⟨x, 0, none⟩), .int .i64 n, .slice none 0 0, .int .i64 0] 60) := ⟨_, rfl⟩
  have h2 : On w w2 ((Emp.and (blkA w.heap.size 40 (ansC false nilV 0 nilV nilV))).and (srch x n 0 (newS n) w1.heap.size nilV 0 [])) := by
    rw [hw2]
    exact (h1.new ((Solid.emp.and (Solid.blkA ..)).and (Solid.wat ..)) ((Below.refl _ _).alloc (Nat.le_refl _) _) (B := fieldA w1.heap.size 60 #[.pointer (some ⟨x, 0, none⟩), .int .i64 n, nilV, .int .i64 (0 : Nat)] nilV [])
      (F' := fun k => k = w1.heap.size) ⟨fun k => k = w1.heap.size, fun _ => False, ⟨Blk.new .., fun _ => Iff.rfl⟩, ⟨Own.nil .., fun u hu => (by cases hu), fun k => by simp [nilV, Value.ownBlock]⟩, fun _ _ h => h, fun k => by simp⟩ fun k hk => Nat.le_of_eq hk.symm).assoc
  rw [← hw2]
  obtain ⟨s, hs⟩ : ∃ s, s = w1.heap.size := ⟨_, rfl⟩
  rw [← hs] at h2 ⊢
  obtain ⟨r, hr⟩ : ∃ r, r = w.heap.size := ⟨_, rfl⟩
  rw [← hr] at h2 ⊢
  have H2 := Lib.hid h2
  have HRg := Lib.hid (show w.heap.size ≤ r by omega)
  clear hw2 h1 hs HN h2 hr
  have hCs : Ctx fun A => (Emp.and (blkA r 40 (ansC false nilV 0 nilV nilV))).and A := Ctx.id.right (Solid.emp.and (Solid.blkA ..))
  go_loopw [47] (fun i wr => ∃ (k : Nat) (v : Value), k ≤ cl.length ∧ i = .int .i64 k ∧ Hid (∀ c ∈ cl.take k, knownS n c = true) ∧ Hid (On w wr ((Emp.and (blkA r 40 (ansC false nilV 0 nilV nilV))).and (srch x n k (startS n (cl.take k)) s v 0 ((rowVals cl av cp).take k))))) (fun i _ => cl.length - (intOf i).toNat)
  case atStart => exact ⟨0, nilV, by omega, rfl, Lib.hid (fun c hc => by simp at hc), H2⟩
  case round =>
    obtain ⟨k, v, hk, rfl, HK, HO⟩ := hrel
    by_cases hlt : k < cl.length
    · have hki : (k : Int) < (cl.length : Int) := by omega
      have hrw := HC.out.below HO.out.bel
      obtain ⟨b, off, rfl, hbl, hcell⟩ := hrw.rows (by omega)
      have hck := hcell k hlt
      have hsn := startS_n n HK.out
      have hadd := on_sadd hCs HO.out hn (by omega) (by simp [rowVals]; omega) (av k) cl[k] (cp k) (hrw.ints k hlt) (HL.out _ (List.getElem_mem hlt)) (HI.out _ (List.getElem_mem hlt))
      rw [← startS_succ n hlt, ← rowVals_succ hlt] at hadd
      have HA := Lib.hid hadd
      by_cases hkn : knownS n cl[k] = true
      · have e0 : (addS (startS n (cl.take k)) cl[k]).2.2 = 0 := by
          unfold addS
          rw [hsn, if_pos hkn]
        rw [e0] at HA
        have HK1 : Hid (∀ c ∈ cl.take (k + 1), knownS n c = true) := Lib.hid fun c hc => by
          rw [List.take_succ_eq_append_getElem hlt] at hc
          rcases List.mem_append.1 hc with hc | hc
          · exact HK.out c hc
          · rw [List.mem_singleton.1 hc]; exact hkn
        generalize cl[k] = ck at *
        clear hadd hrw hcell hsn e0 hkn
        go_wp2_with (go_at_call 26; (with_reducible refine HA.out.mono ?_); rintro e w3 ⟨v', rfl, h3⟩)
        go_roundw
        case rel => exact ⟨k + 1, v', by omega, by go_num, HK1, Lib.hid h3⟩
        case measure => simp [intOf]; omega
      · have e0 : (addS (startS n (cl.take k)) cl[k]).2.2 = 1 := by
          unfold addS
          rw [hsn, if_neg hkn]
        rw [e0] at HA
        have hall : cl.all (knownS n) = false := by
          cases h : cl.all (knownS n) with
          | false => rfl
          | true => exact absurd (List.all_eq_true.1 h _ (List.getElem_mem hlt)) hkn
        generalize cl[k] = ck at *
        clear hadd hrw hcell hsn e0 hkn
        go_wp2_with (go_at_call 26; (with_reducible refine HA.out.mono ?_); rintro e w3 ⟨v', rfl, h3⟩; have hB := blk_cells (C := fun A => (Emp.and A).and (srch x n (k + 1) (startS n (cl.take (k + 1))) s v' 0 ((rowVals cl av cp).take (k + 1)))) ((Ctx.id.left (Solid.srch ..)).right Solid.emp) h3; have hf := hB.frozen; have b0 := hB.cell 0; have b1 := hB.cell 1; have b2 := hB.cell 2; have b3 := hB.cell 3; have b4 := hB.cell 4; simp at b0 b1 b2 b3 b4)
        simp only [Exit.noGoto_ret]
        refine bodyPost_ret (results_cell2 Try.results17 _ _ r 40 _ _ rfl (blk_five hB) Try.underlying40 rfl (by kernel_rfl)) rfl ?_
        exact ⟨below_five h3.bel HRg.out, .inl ⟨hall, rfl⟩⟩
    · obtain rfl : k = cl.length := by omega
      have hO := HO.out
      have hK := HK.out
      rw [List.take_length] at hO hK
      rw [List.take_of_length_le (by simp [rowVals])] at hO
      have hall : cl.all (knownS n) = true := List.all_eq_true.2 hK
      have HO2 := Lib.hid hO
      have HAll := Lib.hid hall
      clear hO hK hall HO HK H2
      go_wp2_with fail
      go_step3
      go_wp2_with fail
      obtain ⟨o, ho⟩ : ∃ o, o = wr.heap.size := ⟨_, rfl⟩
      have hl0 : On w (wr.alloc (.cells (ansC false nilV 0 nilV nilV) 40)) (loopA r x n cl.length (startS n cl) s v 0 (rowVals cl av cp ++ ([] : List Les).map (·.u)) o 0 nilV []) := by
        have h1 := HO2.out.new ((Solid.emp.and (Solid.blkA ..)).and (Solid.srch ..)) ((Below.refl _ _).alloc (Nat.le_refl _) _) (B := fieldA o 40 (ansC false nilV 0 nilV nilV) nilV []) (F' := fun k => k = o)
          ⟨fun k => k = o, fun _ => False, ⟨ho ▸ Blk.new .., fun _ => Iff.rfl⟩, ⟨Own.nil .., fun u hu => (by cases hu), fun k => by simp [nilV, Value.ownBlock]⟩, fun _ _ h => h, fun k => by simp⟩ fun k hk => Nat.le_of_eq (hk.trans ho).symm
        have h2 := h1.new (((Solid.emp.and (Solid.blkA ..)).and (Solid.srch ..)).and (Solid.fieldA ..)) (Below.refl _ _) (B := Emp) (F' := fun _ => False) (fun _ h => h) fun _ h => h.elim
        simpa [loopA, lessA] using h2
      have HL0 := Lib.hid hl0
      rw [← ho]
      clear hl0 HO2 ho
      obtain ⟨hrun, hans⟩ := solve_ok n cl (List.all_eq_true.1 HAll.out)
      have hinv := start_inv n cl (List.all_eq_true.1 HAll.out)
      have HRun := Lib.hid hrun
      have HAns := Lib.hid hans
      have HInv := Lib.hid hinv
      clear hrun hans hinv
      go_loopg [] (2 ^ n * (n + 1) + 1) (fun gk wr => ∃ (q : Q) (t : Nat) (cw fv : Value) (L : List Les), Hid (QInv n cl q) ∧ Hid (runQ gk q = some (solveE n cl)) ∧ Hid (t ≤ cl.length + 3 * q.steps ∧ L.length ≤ q.steps) ∧ Hid ((q.steps : Int) ≤ budget) ∧ Hid (q.S.cl = cl ++ L.map (·.c)) ∧ Hid (q.bonds = L.map (·.b)) ∧ Hid (On w wr (loopA r x n t q.S s cw q.fr (rowVals cl av cp ++ L.map (·.u)) o q.steps fv L)))
      case atStart => exact ⟨startQ n cl, cl.length, v, nilV, [], HInv, HRun, Lib.hid ⟨by omega, by simp⟩, Lib.hid hb.1, Lib.hid (by have := (start_spec n cl (newS n) (new_inv n) rfl rfl (List.all_eq_true.1 HAll.out)).2.2.2; simpa [startQ, startS, newS] using this), Lib.hid rfl, HL0⟩
      case round =>
        obtain ⟨q, t, cw, fv, L, HQ, HRk, HT, HBu, HCl, HBo, HOn⟩ := hrel
        have hq := HQ.out
        have hrk := HRk.out
        have hstep : q.steps < 2 ^ n * (n + 1) := Nat.lt_of_le_of_lt hq.meas (meas_lt n _ hq.good.len_le)
        have hpow : 2 ^ n * (n + 1) ≤ 4096 * 13 := Nat.mul_le_mul (Nat.le_trans (Nat.pow_le_pow_right (by omega) hn) (by decide)) (by omega)
        obtain ⟨ht1, ht2⟩ := HT.out
        have ht : t ≤ 239000 := by omega
        have hqs : q.steps ≤ 53248 := by omega
        clear hpow hstep
        have hvq : varQ q = openFrom n (propS q.S).1.es (n - q.fr) q.fr := by unfold varQ; rw [hq.came.n, hq.num]
        have hpn : (propS q.S).1.n = n := by rw [hq.came.n, hq.num]
        obtain ⟨k, rfl⟩ : ∃ k, gk = k + 1 := ⟨gk - 1, by
          by_cases h0 : gk = 0
          · rw [h0] at hrk; cases hrk
          · omega⟩
        unfold runQ at hrk
        by_cases hc : 0 ≤ (propS q.S).2
        · obtain ⟨h0e, hfol, htn⟩ := conf_ok hq hc
          have hr : nextC n q.S q.fr = (0, (propS q.S).2, q.fr) := by
            unfold nextC
            rw [if_pos hc]
          have hst : q.steps + 1 ≤ (solveE n cl).steps := by
            unfold nextQ at hrk
            rw [if_pos hc] at hrk
            split at hrk
            · next a ha =>
              split at ha
              · injection ha with ha
                have := Option.some.inj hrk
                rw [← this, ← ha]
                exact Nat.le_refl _
              · cases ha
            · next q' ha =>
              split at ha
              · cases ha
              · injection ha with ha
                have := run_steps hrk
                rw [← ha] at this
                exact this
          have HNx := Lib.hid (loop_next HOn.out hn (by omega) hq.frn hr)
          have HSt := Lib.hid hst
          have HHc := Lib.hid hc
          have HRk2 := Lib.hid hrk
          have HE := Lib.hid h0e
          have HFo := Lib.hid hfol
          have HTn := Lib.hid htn
          have hwc := wrap_nat q.steps (steps_le hqs)
          have hcC : (propS q.S).1.cl = cl ++ L.map (·.c) := hq.came.cl.trans HCl.out
          have hlrn : learnE n (propS q.S).1.es (propS q.S).1.cl (propS q.S).2 = confQ q := by unfold confQ; rw [hpn]
          have HCc := Lib.hid hcC
          have HLr := Lib.hid hlrn
          have HPn := Lib.hid hpn
          clear h0e hfol htn hr hst hrk hvq hpn hq HOn hc hcC hlrn
          by_cases hbe : (q.steps : Int) = budget
          · have hbb : ((q.steps : Int) == budget) = true := by simpa using hbe
            go_wp2_with (go_at_call 27; (with_reducible refine HNx.out.mono ?_); rintro e w3 ⟨rfl, h3⟩; obtain ⟨rb, ob, _⟩ := loop_cells h3; have o2 := ob.cell 2; have r0 := rb.cell 0; have r1 := rb.cell 1; have r2 := rb.cell 2; have r3 := rb.cell 3; have r4 := rb.cell 4; have rf := rb.frozen; simp at o2 r0 r1 r2 r3 r4)
            (try simp only [Exit.noGoto_ret])
            refine bodyPost_ret (results_cell2 Try.results17 _ _ r 40 _ _ rfl (blk_five rb) Try.underlying40 rfl (by kernel_rfl)) rfl ?_
            exact ⟨below_five h3.bel HRg.out, .inr (.inl ⟨HAll.out, by have := HSt.out; omega, rfl⟩)⟩
          · have hbb : ((q.steps : Int) == budget) = false := by simpa using hbe
            go_upto_region 22 with (go_at_call 27; (with_reducible refine HNx.out.mono ?_); rintro e w3 ⟨rfl, h3⟩; obtain ⟨rb, ob, _⟩ := loop_cells h3; have o2 := ob.cell 2; have of := ob.frozen; simp at o2)
            have h4 := loop_step h3 ((q.steps : Int) + 1)
            obtain ⟨w4, hw4⟩ : ∃ w4, w4 = w3.setCell ⟨o, 2, none⟩ (.int .i64 ((q.steps : Int) + 1)) := ⟨_, rfl⟩
            rw [← hw4] at h4 ⊢
            clear hw4 h3 rb ob o2 of
            obtain ⟨aoV, capV, ecw, _⟩ := loop_clauses h4
            obtain ⟨NN, hNN⟩ : ∃ NN, NN = (rowVals cl av cp ++ L.map (·.u)).length := ⟨_, rfl⟩
            rw [← hNN] at ecw
            subst ecw
            clear hNN
            have h4d : On w w4.drew (loopA r x n (t + 1) (propS q.S).1 s (.slice aoV NN capV) q.fr (rowVals cl av cp ++ L.map (·.u)) o ((q.steps : Int) + 1) fv L) := h4.below (Solid.loopA ..) (bel_drewN (Below.refl w4.heap.size w4) 1)
            have HLs : Hid (∀ w' t', On w w' (loopA r x n t' (propS q.S).1 s (.slice aoV NN capV) q.fr (rowVals cl av cp ++ L.map (·.u)) o ((q.steps : Int) + 1) fv L) → w'.cell? ⟨s, 2, none⟩ = some (.slice aoV NN capV) ∧ w'.cell? ⟨s, 0, none⟩ = some (.pointer (some ⟨x, 0, none⟩))) := Lib.hid fun w' t' h => by
              obtain ⟨ao', cap', e, c2, c0, _⟩ := loop_clauses h
              rw [← e] at c2
              exact ⟨c2, c0⟩
            have hcd := (HLs.out _ _ h4d).1
            have HTr := Lib.hid (loop_trail h4d hn)
            go_region_held3 (fun w' => w'.cell? ⟨s, 2, none⟩ = some (.slice aoV NN capV)) (assumption)
              ((first
                | (go_at_call 30; (with_reducible refine HTr.out.mono ?_); rintro e w5 ⟨g, rfl, h5⟩; have hc5 := (HLs.out _ _ h5.drop).1)
                | (go_at_call 29; (with_reducible refine (loop_learn h5 hn (by omega) HC.out HCc.out (propS q.S).2 HLr.out HE.out).mono ?_); rintro e w6 ⟨ao1, cap1, ao2, cap2, rfl, h6⟩; have hc6 := (HLs.out _ _ h6.drop).1)))
            obtain ⟨rb, ob, hOf, hone⟩ := loop_cells h6.drop
            obtain ⟨aof, capf, hfv, _⟩ := hOf.form
            subst hfv
            have H6 := Lib.hid h6
            have o3 := ob.cell 3
            have o4 := ob.cell 4
            have of := ob.frozen
            simp [nilV] at o3 o4
            clear hc5 hc6 hcd h4d h4 h5 h6 hOf HTr
            by_cases hbk : (confQ q).2.1 < 0
            · have hbd : decide ((confQ q).2.1 < 0) = true := by simpa using hbk
              have hA : solveE n cl = ⟨false, [], q.steps + 1, q.bonds, (confQ q).2.2.1⟩ := by
                have hN : nextQ q = .done ⟨false, [], q.steps + 1, q.bonds, (confQ q).2.2.1⟩ := by
                  unfold nextQ
                  rw [if_pos HHc.out, if_pos hbk]
                have h := HRk2.out
                rw [hN] at h
                exact (Option.some.inj h).symm
              have HA := Lib.hid hA
              clear hA rb hone
              generalize confQ q = T at *
              obtain ⟨C, B, Bs, E⟩ := T
              simp only at hbk hbd HA H6
              go_upto_region 27 with fail
              obtain ⟨F, a, hg⟩ := (fctx_o (Solid.lesA _)).use H6.out
              have h7 := hg _ _ (goes_cell a 4 (.slice ao2 Bs.length cap2))
              obtain ⟨w7, hw7⟩ : ∃ w7, w7 = w6.setCell ⟨o, 4, none⟩ (.slice ao2 Bs.length cap2) := ⟨_, rfl⟩
              rw [← hw7] at h7 ⊢
              clear hw7 hg a of o3 o4 ob
              obtain ⟨F', a', _⟩ := (fctx_o (Solid.lesA _)).use h7
              obtain ⟨hcell, _⟩ := field_cells a'
              have rb := blk_cells (fctx_r (Solid.lesA _) _) h7
              have o0 := hcell 0
              have o1 := hcell 1
              have o2 := hcell 2
              have o3 := hcell 3
              have o4 := hcell 4
              have r0 := rb.cell 0
              have r1 := rb.cell 1
              have r2 := rb.cell 2
              have r3 := rb.cell 3
              have r4 := rb.cell 4
              have rf := rb.frozen
              simp [nilV] at o0 o1 o2 o3 o4 r0 r1 r2 r3 r4
              have H7 := Lib.hid h7
              have HB := Lib.hid rb
              clear h7 rb hcell a'
              go_wp2_with fail
              (try simp only [Exit.noGoto_ret])
              refine bodyPost_ret (results_cell2 Try.results17 _ _ r 40 _ _ rfl (blk_five HB.out) Try.underlying40 rfl (by kernel_rfl)) rfl ?_
              have h8 := on_five (fctx_r (Solid.lesA _) _) H7.out (.bool false) (.slice none 0 0) (.int .i64 ((q.steps : Int) + 1)) (.slice aof L.length capf) (.slice ao2 Bs.length cap2)
              refine ⟨h8.bel, .inr (.inr ⟨HAll.out, ?_⟩)⟩
              rw [HA.out, HBo.out]
              refine ⟨by have := HBu.out; show ((q.steps + 1 : Nat) : Int) ≤ budget; omega, nilV, .slice aof L.length capf, .slice ao2 Bs.length cap2, ?_, ?_⟩
              · simp [nilV]
              · exact fin_no (m := q.steps + 1) h8
            · have hbd : decide ((confQ q).2.1 < 0) = false := by simpa using hbk
              have hb0' : 0 ≤ (confQ q).2.1 := by omega
              obtain ⟨iS, hiS, hs0, hs1, hs2⟩ := info_parts (P := Try.prog) (e := 26) (z := .slice none 0 0) (size := 1) (bytes := 24) (by kernel_rfl)
              have hqi := go_back HQ.out HHc.out hb0'
              obtain ⟨bk1, bk2, bk3, bk4, bk5, bk6, bk7, bk8⟩ := back_step HQ.out HHc.out hb0'
              have hTn : Turn n (propS q.S).1.es (confQ q).1 (confQ q).2.1 := by
                rcases HTn.out with h1 | h1
                · omega
                · exact h1
              have hrk : runQ k ⟨(addS (backS (propS q.S).1 (confQ q).2.1).1 (confQ q).1).1, 0, q.steps + 1, q.bonds ++ [(confQ q).2.2.1]⟩ = some (solveE n cl) := by
                have hN : nextQ q = .go ⟨(addS (backS (propS q.S).1 (confQ q).2.1).1 (confQ q).1).1, 0, q.steps + 1, q.bonds ++ [(confQ q).2.2.1]⟩ := by
                  unfold nextQ
                  rw [if_pos HHc.out, if_neg hbk]
                have h := HRk2.out
                rw [hN] at h
                exact h
              have hcl40 : (confQ q).1.length ≤ 2000 := Nat.le_trans (turn_len HQ.out.good hTn) (by omega)
              have hI64 : ∀ y ∈ (confQ q).1, I64 y := fun y hy => by
                have := HFo.out.lits y hy
                unfold I64
                omega
              have hBi : I64 (confQ q).2.1 := by
                have h1 := hTn.backh
                have h2 := hi_le_len HQ.out.good
                have h3 := HQ.out.good.len_le
                unfold I64
                omega
              obtain ⟨S2, hS2⟩ : ∃ S2, S2 = (backS (propS q.S).1 (confQ q).2.1).1 := ⟨_, rfl⟩
              have hback : backS (propS q.S).1 (confQ q).2.1 = (S2, 0) := by rw [hS2, ← bk1]
              rw [← hS2] at bk5 bk7 hqi hrk
              obtain ⟨S3, hS3⟩ : ∃ S3, S3 = (addS S2 (confQ q).1).1 := ⟨_, rfl⟩
              have hadd : addS S2 (confQ q).1 = (S3, (q.S.cl.length : Int), 0) := by rw [hS3, ← bk5]
              rw [← hS3] at bk7 hqi hrk
              have HQi := Lib.hid hqi
              have HRk3 := Lib.hid hrk
              have H40 := Lib.hid hcl40
              have HI64 := Lib.hid hI64
              have HBi := Lib.hid hBi
              have HBack := Lib.hid hback
              have HAdd := Lib.hid hadd
              have HCl3 := Lib.hid bk7
              have HBo3 : Hid (q.bonds ++ [(confQ q).2.2.1] = (L ++ [(⟨.slice ao1 (confQ q).1.length cap1, (confQ q).1, .slice ao2 (confQ q).2.2.1.length cap2, (confQ q).2.2.1⟩ : Les)]).map (·.b)) := Lib.hid (by rw [HBo.out]; simp)
              clear hqi bk1 bk2 bk3 bk4 bk5 bk6 bk7 bk8 hTn hrk hcl40 hI64 hBi hback hadd hS2 hS3 rb HRk HRk2 HE HFo HTn HLr
              generalize confQ q = T at *
              obtain ⟨C, B, Bs, E⟩ := T
              simp only at hbk hbd hb0' H6 HQi HRk3 H40 HI64 HBi HBack HAdd HCl3 HBo3
              have hT : Touch (fun _ => False) w6 (w6.alloc (.cells #[.slice ao2 Bs.length cap2] 26)) := (Touch.refl _ w6).alloc _
              have hOf := (loop_cells H6.out.drop).2.2.1
              have hLl : L.length ≤ 53248 := by omega
              go_wp2_with (first
                | (at_builtin; go_loud (refine wpList_append_S _ rfl (.tmp 111) (.tmp 113) _ _ rfl 26 iS _ 1 24 Try.underlying22 hiS hs0 hs1 hs2 rfl (by omega) (.slice aof L.length capf) L.length (L.map (·.v)) rfl (hOf.alloc _) hone _ 1 [_] rfl (src_new w6 Try.underlying22 26 _ rfl) (by simp only [maxLen]; omega) (by omega) ?_); intro ao3 cap3 w8 hn1 hm1 hown1 hg1 hat1 hlt1; have hWn := loop_field_blk H6.out hT hg1; have hcn := hWn.cell 3; simp at hcn; have hfn := hWn.frozen 3; have H9 := Lib.hid (loop_field H6.out hT hg1 hown1 hat1 rfl))
                | (go_at_call 31; (with_reducible refine (loop_back H9.out hn (by omega) B HBi.out HBack.out).mono ?_); rintro e w10 ⟨rfl, h10⟩; obtain ⟨d0, d1, d2, d3, dz⟩ := srch_cells ctx_s h10; have H11 := Lib.hid (loop_zero h10))
                | (go_at_call 26; (with_reducible refine (loop_add H11.out hn (by omega) (by simp [rowVals]; omega) (List.mem_append_right _ (List.mem_singleton.2 rfl)) H40.out HI64.out HAdd.out).mono ?_); rintro e w12 ⟨cw', rfl, h12⟩))
              go_roundg k
              case measure => omega
              case rel =>
                refine ⟨_, t + 1 + 1 + 1, cw', .slice ao3 (L.length + 1) cap3, L ++ [⟨.slice ao1 C.length cap1, C, .slice ao2 Bs.length cap2, Bs⟩], HQi, HRk3, Lib.hid ⟨by show t + 1 + 1 + 1 ≤ cl.length + 3 * (q.steps + 1); omega, by simp; omega⟩, Lib.hid (by show ((q.steps + 1 : Nat) : Int) ≤ budget; have := HBu.out; omega), Lib.hid (by show S3.cl = _; rw [HCl3.out, HCl.out]; simp), HBo3, Lib.hid ?_⟩
                show On w w12 (loopA r x n (t + 1 + 1 + 1) S3 s cw' 0 (rowVals cl av cp ++ (L ++ [(⟨.slice ao1 C.length cap1, C, .slice ao2 Bs.length cap2, Bs⟩ : Les)]).map (·.u)) o ((q.steps + 1 : Nat) : Int) (.slice ao3 (L.length + 1) cap3) (L ++ [⟨.slice ao1 C.length cap1, C, .slice ao2 Bs.length cap2, Bs⟩]))
                rw [show ((q.steps + 1 : Nat) : Int) = (q.steps : Int) + 1 from by omega, List.map_append, ← List.append_assoc]
                exact h12
        · by_cases hv : varQ q < n
          · have hN : nextQ q = .go ⟨(decS (propS q.S).1 (-((varQ q : Int) + 1))).1, varQ q, q.steps + 1, q.bonds⟩ := by
              unfold nextQ
              rw [if_neg hc, hpn, if_pos hv]
            rw [hN] at hrk
            have hqi := go_dec hq (by omega) hv
            obtain ⟨hds, _⟩ := dec_step hq hv
            obtain ⟨S2, hS2⟩ : ∃ S2, S2 = (decS (propS q.S).1 (-((varQ q : Int) + 1))).1 := ⟨_, rfl⟩
            have hdec : decS (propS q.S).1 (-((varQ q : Int) + 1)) = (S2, 0) := by rw [hS2, hds]
            have hcl2 : S2.cl = cl ++ L.map (·.c) := by rw [hS2, hds]; exact hq.came.cl.trans HCl.out
            rw [← hS2] at hqi hrk
            have hst := run_steps hrk
            have hr : nextC n q.S q.fr = (1, ((varQ q : Nat) : Int), varQ q) := by
              unfold nextC
              rw [if_neg hc, ← hvq, if_pos hv]
            have HNx := Lib.hid (loop_next HOn.out hn (by omega) hq.frn hr)
            have HQi := Lib.hid hqi
            have HRk2 := Lib.hid hrk
            have HSt := Lib.hid hst
            have HDec := Lib.hid hdec
            have HCl2 := Lib.hid hcl2
            have hwa := wrap_nat (varQ q) (var_le hv hn)
            have hwb := wrap_neg (varQ q) (var_le hv hn)
            have hwc := wrap_nat q.steps (steps_le hqs)
            clear hrk hN hqi hr hvq hpn hq HOn hds hS2 hst hdec hcl2
            by_cases hbe : (q.steps : Int) = budget
            · have hbb : ((q.steps : Int) == budget) = true := by simpa using hbe
              go_wp2_with (go_at_call 27; (with_reducible refine HNx.out.mono ?_); rintro e w3 ⟨rfl, h3⟩; obtain ⟨rb, ob, _⟩ := loop_cells h3; have o2 := ob.cell 2; have r0 := rb.cell 0; have r1 := rb.cell 1; have r2 := rb.cell 2; have r3 := rb.cell 3; have r4 := rb.cell 4; have rf := rb.frozen; simp at o2 r0 r1 r2 r3 r4)
              (try simp only [Exit.noGoto_ret])
              refine bodyPost_ret (results_cell2 Try.results17 _ _ r 40 _ _ rfl (blk_five rb) Try.underlying40 rfl (by kernel_rfl)) rfl ?_
              exact ⟨below_five h3.bel HRg.out, .inr (.inl ⟨HAll.out, by have h : q.steps + 1 ≤ (solveE n cl).steps := HSt.out; omega, rfl⟩)⟩
            · have hbb : ((q.steps : Int) == budget) = false := by simpa using hbe
              go_wp2_with (first
                | (go_at_call 27; (with_reducible refine HNx.out.mono ?_); rintro e w3 ⟨rfl, h3⟩; obtain ⟨rb, ob, _⟩ := loop_cells h3; have o2 := ob.cell 2; have of := ob.frozen; simp at o2)
                | (go_at_call 28; (with_reducible refine (loop_decide (loop_step h3 ((q.steps : Int) + 1)) hn (-((varQ q : Int) + 1)) (var_i64 hv hn) HDec.out).mono ?_); rintro e w5 ⟨rfl, h5⟩))
              go_roundg k
              case measure => omega
              case rel =>
                refine ⟨_, t + 2, cw, fv, L, HQi, HRk2, Lib.hid ⟨by show t + 2 ≤ cl.length + 3 * (q.steps + 1); omega, by show L.length ≤ q.steps + 1; omega⟩, Lib.hid (by show ((q.steps + 1 : Nat) : Int) ≤ budget; have := HBu.out; omega), HCl2, HBo, Lib.hid ?_⟩
                show On w w5 (loopA r x n (t + 2) S2 s cw (varQ q) (rowVals cl av cp ++ L.map (·.u)) o ((q.steps + 1 : Nat) : Int) fv L)
                rw [show ((q.steps + 1 : Nat) : Int) = (q.steps : Int) + 1 from by omega]
                exact h5
          · have hN : nextQ q = .done ⟨true, stateE n (propS q.S).1.es, q.steps, q.bonds, []⟩ := by
              unfold nextQ
              rw [if_neg hc, hpn, if_neg hv]
            rw [hN] at hrk
            have hA : solveE n cl = ⟨true, stateE n (propS q.S).1.es, q.steps, q.bonds, []⟩ := (Option.some.inj hrk).symm
            have HA := Lib.hid hA
            have hr : nextC n q.S q.fr = (2, 0, varQ q) := by
              unfold nextC
              rw [if_neg hc, ← hvq, if_neg hv]
            have HNx := Lib.hid (loop_next HOn.out hn (by omega) hq.frn hr)
            clear hrk hN hA hr hvq hpn hq HOn
            go_wp2_with (go_at_call 27; (with_reducible refine HNx.out.mono ?_); rintro e w3 ⟨rfl, h3⟩)
            have hmk : ∀ W : World, Sem.run Try.prog (Instr.makeSlice 38 (.int .i64 (n : Int)) (.int .i64 (n : Int))) W = .ok (.slice (some ⟨W.heap.size, 0, none⟩) n n) (W.alloc (.cells (madeCells #[.bool false] n) 4)) := fun W => run_make_row' 38 4 (.bool false) 1 Try.underlying38 (by kernel_rfl) rfl .i64 .i64 n (by omega) (by omega) W
            obtain ⟨_, ob, _⟩ := loop_cells h3
            have ob2 := ob.alloc (.cells (madeCells #[.bool false] n) 4)
            have o0 := ob.cell 0
            have o1 := ob.cell 1
            have p0 := ob2.cell 0
            have p1 := ob2.cell 1
            have of := ob.frozen
            have pf := ob2.frozen
            have ob3 := (ob.set_ 0 (.bool true)).alloc (.cells (madeCells #[.bool false] n) 4)
            have q1 := ob3.cell 1
            have qf := ob3.frozen
            simp at o0 o1 p0 p1 q1
            obtain ⟨g, hg⟩ : ∃ g, g = w3.heap.size := ⟨_, rfl⟩
            have HSv := Lib.hid hg
            have H3 := Lib.hid h3
            clear hg h3
            go_cut [] from 133 to 136 (fun wx => Hid (On w wx (finA r x n (t + 1) (propS q.S).1 s cw (varQ q) (rowVals cl av cp ++ L.map (·.u)) o (ansC true (.slice (some ⟨g, 0, none⟩) n n) q.steps fv nilV) fv L (boolsA (.slice (some ⟨g, 0, none⟩) n n) (List.replicate n false)))))
            case first =>
              go_region
              all_goals
                go_wp2_with fail
                go_meet
                rw [HSv.out]
                first
                  | exact Lib.hid ((fin_one H3.out (by omega)).below (Solid.finA (Solid.boolsA ..) _) (bel_drewN (Below.refl _ _) 1))
                  | exact Lib.hid ((fin_two H3.out (by omega)).below (Solid.finA (Solid.boolsA ..) _) (bel_drewN (Below.refl _ _) 1))
            case rest =>
              have HF := hcut
              obtain ⟨S1, hS1⟩ : ∃ S1, S1 = (propS q.S).1 := ⟨_, rfl⟩
              rw [← hS1] at HF
              have HS1 := Lib.hid hS1
              clear hcut hS1 o0 o1 p0 p1 of pf ob3 q1 qf ob ob2 hmk H3 HSv
              go_wp2_with fail
              go_loopw [138] (fun i wr => ∃ k : Nat, k ≤ n ∧ i = .int .i64 k ∧ Hid (On w wr (finA r x n (t + 1) S1 s cw (varQ q) (rowVals cl av cp ++ L.map (·.u)) o (ansC true (.slice (some ⟨g, 0, none⟩) n n) q.steps fv nilV) fv L (boolsA (.slice (some ⟨g, 0, none⟩) n n) ((stateE n S1.es).take k ++ List.replicate (n - k) false))))) (fun i _ => n - (intOf i).toNat)
              case atStart => exact ⟨0, by omega, rfl, by simpa using HF⟩
              case round =>
                obtain ⟨k', hk', rfl, HO⟩ := hrel
                obtain ⟨j, rfl⟩ : ∃ j, j = k' := ⟨_, rfl⟩
                by_cases hlt' : j < n
                · have hji : (j : Int) < (n : Int) := by omega
                  obtain ⟨wd, hwd⟩ : ∃ wd, wd = wr.drew := ⟨_, rfl⟩
                  have hOd := HO.out.below (Solid.finA (Solid.boolsA ..) _) (show Below wr.heap.size wr wd by rw [hwd]; exact bel_drewN (Below.refl _ _) 1)
                  have HV : Hid (Calls Try.prog 32 #[.pointer (some ⟨x, 0, none⟩), .int .i64 ((j : Int) + 1)] wd fun e w'' => e = .returned (.int .i64 (valE n S1.es ((j : Int) + 1))) ∧ w'' = wd) := Lib.hid ((on_value (srch_w (fctx_s (Solid.boolsA ..) _)) hOd hn ((j : Int) + 1) (by unfold I64; omega)).mono fun _ _ hh => ⟨hh.1, hh.2.symm⟩)
                  obtain ⟨F, a, hg⟩ := (fctx_o (Solid.boolsA ..)).use hOd
                  obtain ⟨hcell, _⟩ := field_cells a
                  have o1 := hcell 1
                  simp at o1
                  have hll : ((stateE n S1.es).take j ++ List.replicate (n - j) false).length = n := by simp [stateE]; omega
                  obtain ⟨bc, bz⟩ := fin_bools hOd hll
                  obtain ⟨b0, gc⟩ : ∃ b0, wd.cell? ⟨g, j, none⟩ = some (.bool b0) := ⟨_, bc j (by omega)⟩
                  have gz := bz j
                  have hnext : ((stateE n S1.es).take j ++ List.replicate (n - j) false).set j (decide (valE n S1.es ((j : Int) + 1) = 1)) = (stateE n S1.es).take (j + 1) ++ List.replicate (n - (j + 1)) false := state_next hlt'
                  have hset := fin_set hOd hll j (decide (valE n S1.es ((j : Int) + 1) = 1))
                  rw [hnext] at hset
                  have HSet := Lib.hid hset
                  generalize valE n S1.es ((j : Int) + 1) = z at *
                  have hwj : IntKind.i64.wrap ((j : Int) + 1) = (j : Int) + 1 := by rw [IntKind.wrap_i64]; omega
                  clear hset hnext hOd hg a hcell bc bz hll
                  go_wp2_with fail
                  refine wp_region_still_tail 9 (by kernel_rfl) (by kernel_rfl) ?_
                  change wpStill _ _ (World.drew wr) (fun a' => wpList _ _ _ _ a' (World.drew wr)) _ _
                  rw [← hwd]
                  clear hwd
                  simp only [List.take_succ_cons, List.take_zero, List.drop_succ_cons, List.drop_zero]
                  repeat still_step
                  still_call HV.out
                  repeat still_step
                  refine wpStill_nil ?_
                  go_wp2_with fail
                  go_roundw
                  case rel => exact ⟨j + 1, by omega, by go_num, HSet⟩
                  case measure => simp [intOf]; omega
                · obtain rfl : j = n := by omega
                  have hO := HO.out
                  rw [Nat.sub_self, List.replicate_zero, List.append_nil, List.take_of_length_le (by simp [stateE])] at hO
                  obtain ⟨F, a, hg⟩ := (fctx_o (Solid.boolsA ..)).use hO
                  have hB := blk_cells (fctx_r (Solid.boolsA ..) _) hO
                  obtain ⟨hcell, _, hOf, _⟩ := field_cells a
                  obtain ⟨aof, capf, hfv, _⟩ := hOf.form
                  rw [List.length_map] at hfv
                  subst hfv
                  have o0 := hcell 0
                  have o1 := hcell 1
                  have o2 := hcell 2
                  have o3 := hcell 3
                  have o4 := hcell 4
                  have r0 := hB.cell 0
                  have r1 := hB.cell 1
                  have r2 := hB.cell 2
                  have r3 := hB.cell 3
                  have r4 := hB.cell 4
                  have rf := hB.frozen
                  simp [nilV] at o0 o1 o2 o3 o4 r0 r1 r2 r3 r4
                  have HO2 := Lib.hid hO
                  have HB := Lib.hid hB
                  clear hO hB hcell a hg HF HO hOf
                  go_wp2_with fail
                  (try simp only [Exit.noGoto_ret])
                  refine bodyPost_ret (results_cell2 Try.results17 _ _ r 40 _ _ rfl (blk_five HB.out) Try.underlying40 rfl (by kernel_rfl)) rfl ?_
                  have h5 := on_five (fctx_r (Solid.boolsA ..) _) HO2.out (.bool true) (.slice (some ⟨g, 0, none⟩) j j) (.int .i64 q.steps) (.slice aof L.length capf) (.slice none 0 0)
                  refine ⟨h5.bel, .inr (.inr ⟨HAll.out, ?_⟩)⟩
                  rw [HA.out, HBo.out]
                  refine ⟨HBu.out, .slice (some ⟨g, 0, none⟩) j j, .slice aof L.length capf, nilV, ?_, ?_⟩
                  · simp [nilV]
                  · have h6 := fin_yes (m := q.steps) h5
                    rw [HS1.out] at h6
                    exact h6

end Go.Proofs.Ythinopiobihmaaa
