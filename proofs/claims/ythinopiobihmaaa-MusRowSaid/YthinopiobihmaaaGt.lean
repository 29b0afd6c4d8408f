/- The least no: search.no. Conditions: as each theorem names them. -/
import Derived.Test.YthinopiobihmaaaGs
namespace Go.Proofs.Ythinopiobihmaaa
open Go.ChangeShapes Go.WideShapes Go.ChangeAt Go.RowKit Go.Maps Go.Deep
set_option maxRecDepth 100000

set_option maxHeartbeats 4000000 in
theorem no_any (vars left but er : Int) (A : Ans) (base : List (List Int)) (items : List (List (List Int))) (ab ai : Option Addr) (cb ci : Nat) (av : Nat → Option Addr) (cv : Nat → Nat) (aI : Nat → Option Addr) (cI : Nat → Nat) (avI : Nat → Nat → Option Addr) (cvI : Nat → Nat → Nat) (g bm : Nat) (rv : Value) (S : Nat → Bool) (w : World)
    (hG : Blk w g 51 #[.int .i64 vars, .slice ab base.length cb, .slice ai items.length ci, .int .i64 left, .map (some bm), rv])
    (hR : IsRows w ab base av cv) (hI : IsItems w ai items aI cI avI cvI) (hS : InAt w bm items.length S) (hil : items.length ≤ 100000) (hal : (allE base items (askB S but)).length ≤ 4000)
    (hsol : ∀ w' ao cap av cv, Below w.heap.size w w' → IsRows w' ao (allE base items (askB S but)) av cv → Calls Try.prog 17 #[.int .i64 vars, .slice ao (allE base items (askB S but)).length cap, .int .i64 left] w' (SolOut A er w'))
    (hsub : er = 0 → -9223372036854775808 ≤ left - A.steps ∧ left - A.steps ≤ 9223372036854775807)
    (hfit : er = 0 → A.yes = false → FitC (allE base items (askB S but)).length A.bonds ∧ (∀ x ∈ A.last, 0 ≤ x ∧ x < (allE base items (askB S but)).length + A.bonds.length) ∧ A.bonds.length ≤ 1000000) :
    Calls Try.prog 24 #[.pointer (some ⟨g, 0, none⟩), .int .i64 but] w
      (NoPost w g items.length er A (fun l r => #[.int .i64 vars, .slice ab base.length cb, .slice ai items.length ci, .int .i64 l, .map (some bm), r]) left rv (restsOf (ownersE base items (askB S but) items.length) (coreE (allE base items (askB S but)).length A.bonds A.last))) := by
  obtain ⟨iS, hiS, hs0, hs1, hs2⟩ := info_parts (P := Try.prog) (e := 26) (z := .slice none 0 0) (size := 1) (bytes := 24) (by kernel_rfl)
  have hmm : ∀ W : World, Sem.run Try.prog (Instr.makeMap 71 none) W = .ok (.map (some W.heap.size)) (W.alloc (.map #[] 0)) := fun W => run_makeMap 71 W
  have hzu : ∀ W : World, (zeroValue 52).run Try.prog W = .ok (.agg #[]) W := fun W => by kernel_rfl
  obtain ⟨T, hT⟩ : ∃ T, T = askB S but := ⟨_, rfl⟩
  rw [← hT] at hal hsol hfit ⊢
  have hbl : base.length ≤ 4000 := by
    have h := upto_mono (base := base) (items := items) (S := T) (Nat.zero_le items.length)
    rw [upto_zero] at h
    exact Nat.le_trans h hal
  have HUp : Hid (∀ k, k ≤ items.length → (uptoE base items T k).length ≤ 4000) := Lib.hid fun k hk => Nat.le_trans (upto_mono hk) hal
  obtain ⟨⟨c0, c1, c2⟩, c3, c4, c5⟩ := six_cells hG
  have HG := Lib.hid hG
  have HR := Lib.hid hR
  have HI := Lib.hid hI
  have HS := Lib.hid hS
  have HT := Lib.hid hT
  have HSol := Lib.hid hsol
  have HSub := Lib.hid hsub
  have HFit := Lib.hid hfit
  have HSrc := Lib.hid (rows_src0 (hR.below ((Below.refl w.heap.size w).alloc (Nat.le_refl _) (.cells #[] 26))) cb)
  have HOne := Lib.hid (isRows_vals hR)
  have c1a := (bel_cell ((Below.refl w.heap.size w).alloc (Nat.le_refl _) (.cells #[] 26)) c1).trans c1
  clear hG hR hI hS hT hsol hsub hfit hal c1
  go_enter Try.func24, Try.ntmps24
  go_upto_region 2 with (first
    | (at_builtin; go_loud (refine wpList_append_S _ rfl (.tmp 20) (.tmp 24) _ _ rfl 26 iS _ 1 24 Try.underlying22 hiS hs0 hs1 hs2 rfl (by omega) (.slice (some ⟨w.heap.size, 0, none⟩) 0 0) 0 [] rfl (Own.made w 26 1 #[] 0 rfl (by simp)) (by simp) (.slice ab base.length cb) base.length (rowVals base av cv) rfl HSrc.out (by simp only [maxLen]; omega) (by omega) ?_); intro ao1 cap1 w1 hn2 hm2 hown2 hg2 hat2 hlt2; simp only [Nat.zero_add, List.nil_append] at hown2 hat2 hlt2 ⊢)
    | fail)
  have hb0 : Below w.heap.size w (w.alloc (.cells #[] 26)) := (Below.refl _ w).alloc (Nat.le_refl _) _
  have hb1 : Below w.heap.size w w1 := hb0.grown hg2 hb0.size fun k e => by injection e with e; exact Nat.le_of_eq e
  have hcl1 : ClAt w w1 ao1 base.length cap1 base := ⟨rfl, ⟨_, hown2, HOne.out⟩, fun k hk => by
    rcases hat2 with e | e
    · rw [hk] at e; injection e with e; exact Nat.le_of_eq e.symm
    · rw [hk] at e; injection e with e; rw [e]; exact hb0.size⟩
  clear hn2 hm2 hown2 hg2 hat2 hlt2 hb0 HSrc HOne c0 c1a c3 c4 c5
  have c2a := (bel_cell hb1 c2).trans c2
  go_upto_region 3 with fail
  obtain ⟨bo, hbo⟩ : ∃ bo, bo = w1.heap.size := ⟨_, rfl⟩
  have hof : OfAt (w1.alloc (.map #[] 0)) bo (List.replicate base.length none) := by rw [hbo]; exact of_new w1 base.length
  rw [← hbo]
  obtain ⟨w2, hw2⟩ : ∃ w2, w2 = w1.alloc (.map #[] 0) := ⟨_, rfl⟩
  have hb12 : Below w1.heap.size w1 w2 := by rw [hw2]; exact (Below.refl _ w1).alloc (Nat.le_refl _) _
  rw [← hw2] at hof ⊢
  have HB2 := Lib.hid (bel_trans hb1 hb12)
  have HC2 := Lib.hid (hcl1.below hb12)
  have HO2 := Lib.hid hof
  have HBo := Lib.hid (show w.heap.size ≤ bo by rw [hbo]; exact hb1.size)
  have c2b := (bel_cell HB2.out c2).trans c2
  clear hw2 hb12 hbo hof hcl1 hb1 c2a hmm
  have c2' := c2
  clear c2
  go_wp2_with fail
  go_loopw [6, 32] (fun s i wr => ∃ (k n c : Nat) (a : Option Addr), k ≤ items.length ∧ i = .int .i64 k ∧ s = .slice a n c ∧ Hid (ClAt w wr a n c (uptoE base items T k)) ∧ Hid (OfAt wr bo (ownersE base items T k)) ∧ Hid (Below w.heap.size w wr)) (fun _ i _ => items.length - (intOf i).toNat)
  case atStart => exact ⟨0, base.length, cap1, ao1, by omega, rfl, rfl, by rw [upto_zero]; exact HC2, by simpa [ownersE] using HO2, HB2⟩
  case round =>
    obtain ⟨k, n, c, a, hk, rfl, rfl, HC, HO, HB⟩ := hrel
    obtain ⟨⟨c0, c1, c2⟩, c3, c4, c5⟩ := six_cells (HG.out.below HB.out HG.out.lt)
    by_cases hlt : k < items.length
    · have hki : (k : Int) < (items.length : Int) := by omega
      have hk6 : k ≤ 1000000 := by omega
      have HKy := Lib.hid (key_nat hk6)
      obtain ⟨m, D, hown, hm, hhas⟩ := HS.out.below HB.out
      have hhk := hhas k hlt
      have hTk : T k = (S k && !decide ((k : Int) = but)) := by rw [HT.out]; rfl
      have HUs := Lib.hid (upto_succ (base := base) (items := items) (S := T) k)
      have HOs := Lib.hid (owners_succ (base := base) (items := items) (S := T) k)
      clear hhas hm
      have hcase : (S k = false ∨ (S k = true ∧ ((k : Int) == but) = true)) ∨ (S k = true ∧ ((k : Int) == but) = false) := by
        cases S k with
        | false => exact .inl (.inl rfl)
        | true =>
          by_cases h : (k : Int) = but
          · exact .inl (.inr ⟨rfl, by simpa using h⟩)
          · exact .inr ⟨rfl, by simpa using h⟩
      rcases hcase with hout | ⟨hSk, hd⟩
      · have hTk0 : T k = false := by
          rw [hTk]
          rcases hout with h | ⟨h, h2⟩
          · rw [h]; rfl
          · rw [h]; simpa using h2
        have HU2 := Lib.hid (show uptoE base items T (k + 1) = uptoE base items T k by rw [HUs.out, hTk0]; simp)
        have HO2' := Lib.hid (show ownersE base items T (k + 1) = ownersE base items T k by rw [HOs.out, hTk0]; simp)
        have hbA : Below wr.heap.size wr (wr.alloc (.cells #[] 52)) := (Below.refl _ wr).alloc (Nat.le_refl _) _
        have HbA := Lib.hid hbA
        clear hTk hTk0 HUs HOs hbA
        rcases hout with hSk | ⟨hSk, hd⟩
        all_goals
          rw [hSk] at hhk
          go_wp2_with (first
            | (at_lookup; refine wpList_lookup_own_unit _ rfl _ _ 49 rfl 3 52 (int_keyed Try.underlying3) Try.underlying49 (hzu _) bm m D rfl hown _ _ rfl HKy.out ?_; rw [hhk])
            | fail)
          go_roundw
          case rel =>
            exact ⟨k + 1, n, c, a, by omega, by go_num, rfl, by rw [HU2.out]; exact Lib.hid (HC.out.below HbA.out), by rw [HO2'.out]; exact Lib.hid (HO.out.below HbA.out), Lib.hid (bel_new HB.out HB.out.size HbA.out)⟩
          case measure => simp [intOf]; omega
      · have hTk1 : T k = true := by rw [hTk, hSk]; simpa using hd
        obtain ⟨b, off, rfl, hbb, hcells⟩ := HI.out.rows (by omega)
        have hckw := hcells k hlt
        have hRk := HI.out.item k hlt
        obtain ⟨it, hit⟩ : ∃ it, it = items[k] := ⟨_, rfl⟩
        have hgd : items.getD k [] = it := by rw [hit, List.getD_eq_getElem?_getD, List.getElem?_eq_getElem hlt]; rfl
        rw [← hit] at hckw hRk
        have hll := HUp.out (k + 1) (by omega)
        rw [HUs.out, hTk1, if_pos rfl, hgd, List.length_append] at hll
        have HU2 := Lib.hid (show uptoE base items T (k + 1) = uptoE base items T k ++ it by rw [HUs.out, hTk1, if_pos rfl, hgd])
        have HO2' := Lib.hid (show ownersE base items T (k + 1) = ownersE base items T k ++ List.replicate it.length (some k) by rw [HOs.out, hTk1, if_pos rfl, hgd])
        have HRk := Lib.hid hRk
        have hbA : Below wr.heap.size wr (wr.alloc (.cells #[] 52)) := (Below.refl _ wr).alloc (Nat.le_refl _) _
        have hbWA := bel_new HB.out HB.out.size hbA
        have c2A := (bel_cell hbWA c2').trans c2'
        have hckA := (bel_cell hbWA hckw).trans hckw
        have HbA := Lib.hid hbA
        have HbWA := Lib.hid hbWA
        have HLl := Lib.hid hll
        have hitl : it.length ≤ 4000 := by omega
        rw [hSk] at hhk
        generalize aI k = ak at *
        generalize cI k = ck at *
        generalize avI k = avk at *
        generalize cvI k = cvk at *
        clear hTk hTk1 HUs HOs hbA hbWA hcells hckw hRk hit hgd hll
        go_wp2_with (first
          | (at_lookup; refine wpList_lookup_own_unit _ rfl _ _ 49 rfl 3 52 (int_keyed Try.underlying3) Try.underlying49 (hzu _) bm m D rfl hown _ _ rfl HKy.out ?_; rw [hhk])
          | fail)
        go_loopw [6, 59] (fun s i wr => ∃ (q n c : Nat) (a : Option Addr), q ≤ it.length ∧ i = .int .i64 q ∧ s = .slice a n c ∧ Hid (ClAt w wr a n c (uptoE base items T k ++ it.take q)) ∧ Hid (OfAt wr bo (ownersE base items T k ++ List.replicate q (some k))) ∧ Hid (Below w.heap.size w wr)) (fun _ i _ => it.length - (intOf i).toNat)
        case atStart => exact ⟨0, n, c, a, by omega, rfl, rfl, by rw [List.take_zero, List.append_nil]; exact Lib.hid (HC.out.below HbA.out), by rw [List.replicate_zero, List.append_nil]; exact Lib.hid (HO.out.below HbA.out), HbWA⟩
        case round =>
          obtain ⟨q, n2, cc2, a2, hq, rfl, rfl, HC2', HO2'', HB2'⟩ := hrel
          by_cases hqt : q < it.length
          · have hqi : (q : Int) < (it.length : Int) := by omega
            obtain ⟨b2, off2, e2, hbl2, hcells2⟩ := HRk.out.rows (by omega)
            subst e2
            have hcq := (bel_cell HB2'.out (hcells2 q hqt)).trans (hcells2 q hqt)
            have hdq := HRk.out.ints q hqt
            obtain ⟨d, hd⟩ : ∃ d, d = it[q] := ⟨_, rfl⟩
            rw [← hd] at hcq hdq
            have HTk2 := Lib.hid (show it.take (q + 1) = it.take q ++ [d] by rw [List.take_succ_eq_append_getElem hqt, hd])
            have HRp := Lib.hid (show List.replicate (q + 1) (some k) = List.replicate q (some k) ++ [some k] from List.replicate_succ' ..)
            obtain ⟨vals, hO, hv⟩ := HC2'.out.own
            have hln := HC2'.out.len
            have hnw := HC2'.out.new
            obtain ⟨m2, D2, hown2, hm2, h1, h2⟩ := HO2''.out
            have hne := OfAt.ne_own HO2''.out hO
            have hn4 : n2 ≤ 4000 := by
              rw [hln, List.length_append, List.length_take]
              have := HLl.out
              omega
            have hon : n2 = (ownersE base items T k ++ List.replicate q (some k)).length := by
              rw [hln, List.length_append, List.length_append, owners_len, List.length_take, List.length_replicate]
              omega
            have hm4 : m2 ≤ 4000 := by omega
            have hkn6 : n2 ≤ 1000000 := by omega
            have HKn := Lib.hid (key_nat hkn6)
            have HWk := Lib.hid (wf_nat hk6)
            have hone := hv.one
            have HX := Lib.hid (show _ ∧ _ ∧ _ ∧ _ from ⟨hm2, h1, h2, hon⟩)
            have HV := Lib.hid hv
            have HLn := Lib.hid hln
            have HNw := Lib.hid hnw
            have HNe := Lib.hid hne
            have HOv := Lib.hid hO
            have HDq := Lib.hid hdq
            have hDm := Lib.hid (mowns_isMap hown2)
            generalize avk q = aq at *
            generalize cvk q = cq at *
            clear hd hcells2 hm2 h1 h2 hv hln hnw hne hO hon hdq
            go_wp2_with (first
              | (at_mapUpdate; go_loud (refine wpList_mapUpdate_own _ rfl (.tmp 63) (.tmp 65) (.tmp 66) 71 rfl 3 3 (int_keyed Try.underlying3) Try.underlying71 (plainElem Try.prog 3) bo m2 D2 rfl hown2 (by simp only [maxLen]; omega) (.int .i64 (n2 : Int)) (.int .i64 (k : Int)) (.int .i64 (n2 : Int)) rfl rfl HKn.out (.lit (.int .i64 (k : Int))) [] (plainElem_int Try.underlying3 HWk.out) ?_); intro w3 hown3 hg3
                 have HO3 := Lib.hid ((HOv.out.grown hg3 (.inr (fun e => HNe.out e.symm))).alloc (.cells #[.slice aq d.length cq] 26)))
              | (at_builtin; go_loud (refine wpList_append_S _ rfl (.tmp 67) (.tmp 69) _ _ rfl 26 iS _ 1 24 Try.underlying22 hiS hs0 hs1 hs2 rfl (by omega) (.slice a2 n2 cc2) n2 vals rfl HO3.out hone _ 1 [.slice aq d.length cq] rfl (src_new w3 Try.underlying22 26 _ rfl) (by simp only [maxLen]; omega) (by omega) ?_); intro ao4 cap4 w4 hn4a hm4a hown4 hg4 hat4 hlt4
                 have H4 := Lib.hid hown4
                 have G4 := Lib.hid hg4
                 have A4 := Lib.hid hat4
                 clear hown4 hg4 hat4 hlt4 hn4a hm4a)
              | fail)
            go_roundw
            case rel =>
              have hb3 : Below w.heap.size w w3 := HB2'.out.grown hg3 HB2'.out.size fun k e => by injection e with e; rw [← e]; exact HBo.out
              obtain ⟨hc5, hb5⟩ := ClAt.snoc (cap := cq) HLn.out HV.out HNw.out HDq.out hb3 H4.out G4.out A4.out
              have hof3 := of_put hDm.out HX.out.2.2.2 hown3 HX.out.1 HX.out.2.1 HX.out.2.2.1
              have hof4 := (hof3.below ((Below.refl _ w3).alloc (Nat.le_refl _) (.cells #[.slice aq d.length cq] 26))).kept G4.out HNe.out
              exact ⟨q + 1, n2 + 1, cap4, ao4, by omega, by go_num, rfl, by rw [HTk2.out, ← List.append_assoc]; exact Lib.hid hc5, by rw [HRp.out, ← List.append_assoc]; exact Lib.hid hof4, Lib.hid hb5⟩
            case measure => simp [intOf]; omega
          · obtain rfl : q = it.length := by omega
            go_wp2_with fail
            go_roundw
            case rel => exact ⟨k + 1, n2, cc2, a2, by omega, by go_num, rfl, by have h := HC2'.out; rw [List.take_length] at h; rw [HU2.out]; exact Lib.hid h, by rw [HO2'.out]; exact HO2'', HB2'⟩
            case measure => simp [intOf]; omega
    · obtain rfl : k = items.length := by omega
      obtain ⟨avc, cvc, hrows⟩ := HC.out.rows HB.out
      have hnl : n = (allE base items T).length := HC.out.len
      have hn4 : n ≤ 4000 := by rw [hnl]; exact HUp.out _ (Nat.le_refl _)
      have HS15 : Hid (∀ w', Below wr.heap.size wr w' → Calls Try.prog 17 #[.int .i64 vars, .slice a n c, .int .i64 left] w' (SolOut A er w')) := Lib.hid fun w' hb => by
        rw [hnl]
        exact HSol.out w' a c avc cvc (bel_new HB.out HB.out.size hb) (hrows.below hb)
      unfold SolOut ansV at HS15
      have HNl := Lib.hid hnl
      have HRw := Lib.hid hrows
      clear hnl hrows HUp HSol hiS hs0 hs1 hs2
      go_upto_region 15 with fail
      have hbA : Below wr.heap.size wr wr.drew := bel_drewN (Below.refl _ wr) 1
      have hbB : Below wr.heap.size wr (wr.alloc (.cells #[.bool false, .slice none 0 0, .int .i64 0, .slice none 0 0, .slice none 0 0] 40)).drew := bel_drewN ((Below.refl _ wr).alloc (Nat.le_refl _) _) 1
      have c0A := (bel_cell hbA c0).trans c0
      have c3A := (bel_cell hbA c3).trans c3
      have c0B := (bel_cell hbB c0).trans c0
      have c3B := (bel_cell hbB c3).trans c3
      have hgl : g < wr.heap.size := Nat.lt_of_lt_of_le HG.out.lt HB.out.size
      have HKp : Hid (∀ w', Below wr.heap.size wr w' → w'.cell? ⟨g, 0, none⟩ = some (.int .i64 vars) ∧ w'.cell? ⟨g, 3, none⟩ = some (.int .i64 left)) := Lib.hid fun w' hb => ⟨(bel_cell hb c0).trans c0, (bel_cell hb c3).trans c3⟩
      go_region_held3 (fun w' => w'.cell? ⟨g, 0, none⟩ = some (.int .i64 vars) ∧ w'.cell? ⟨g, 3, none⟩ = some (.int .i64 left)) (with_reducible first | assumption | exact ⟨c0A, c3A⟩ | exact ⟨c0B, c3B⟩ | exact HKp.out _ (five_below (Nat.le_refl _) hb5 _ _ _ _ _) | exact HKp.out _ (hb5.alloc hb5.size _))
        ((first
          | (go_at_call 17; (with_reducible refine (HS15.out _ hbB).mono ?_); rintro e w5 ⟨hb5', a1x, c1x, a2x, c2x, a3x, c3x, rfl, hans⟩; have hb5 := bel_trans hbB hb5'; have c5S := HKp.out w5 hb5; have hK5 := (Blk.new wr 40 #[.bool false, .slice none 0 0, .int .i64 0, .slice none 0 0, .slice none 0 0]).keep (hb5'.block _ (Blk.new wr 40 #[.bool false, .slice none 0 0, .int .i64 0, .slice none 0 0, .slice none 0 0]).lt); have c00 : w5.cell? ⟨wr.heap.size, 0, none⟩ = some (.bool false) := hK5.cell 0; have f00 := hK5.frozen 0; have c01 : w5.cell? ⟨wr.heap.size, 1, none⟩ = some (.slice none 0 0) := hK5.cell 1; have f01 := hK5.frozen 1; have c02 : w5.cell? ⟨wr.heap.size, 2, none⟩ = some (.int .i64 0) := hK5.cell 2; have f02 := hK5.frozen 2; have c03 : w5.cell? ⟨wr.heap.size, 3, none⟩ = some (.slice none 0 0) := hK5.cell 3; have f03 := hK5.frozen 3; have c04 : w5.cell? ⟨wr.heap.size, 4, none⟩ = some (.slice none 0 0) := hK5.cell 4; have f04 := hK5.frozen 4)
          | (go_at_call 17; (with_reducible refine (HS15.out _ hbA).mono ?_); rintro e w5 ⟨hb5', a1x, c1x, a2x, c2x, a3x, c3x, rfl, hans⟩; have hb5 := bel_trans hbA hb5'; have c5S := HKp.out w5 hb5)))
      all_goals
        first
          | (obtain ⟨w6, hw6, hk6a, hb6, ht6⟩ := five_put hK5 (Nat.le_refl _) hb5 (.bool A.yes) (.slice a1x A.state.length c1x) (.int .i64 A.steps) (.slice a2x A.bonds.length c2x) (.slice a3x A.last.length c3x)
             have HAns : Hid (er = 0 → ∃ W0 : World, g < W0.heap.size ∧ AnsAt W0 w6 A (.slice a1x A.state.length c1x) (.slice a2x A.bonds.length c2x) (.slice a3x A.last.length c3x)) := Lib.hid (fun h => ⟨_, by simp; omega, (hans h).touch ht6 (fun k hk e => by simp at hk; omega)⟩)
             clear c00 c01 c02 c03 c04 f00 f01 f02 f03 f04 hK5 ht6
             rw [← hw6]
             obtain ⟨ga, hga⟩ : ∃ ga, ga = wr.heap.size := ⟨_, rfl⟩
             have HGa := Lib.hid (show wr.heap.size ≤ ga ∧ ga < w6.heap.size from ⟨by omega, by rw [hga]; exact hk6a.lt⟩)
             rw [← hga] at hk6a ⊢
             clear hw6 hga)
          | (obtain ⟨w6, hw6⟩ : ∃ w6, w6 = w5.alloc (.cells #[.bool A.yes, .slice a1x A.state.length c1x, .int .i64 A.steps, .slice a2x A.bonds.length c2x, .slice a3x A.last.length c3x] 40) := ⟨_, rfl⟩
             have hk6a : Blk w6 w5.heap.size 40 #[.bool A.yes, .slice a1x A.state.length c1x, .int .i64 A.steps, .slice a2x A.bonds.length c2x, .slice a3x A.last.length c3x] := by rw [hw6]; exact Blk.new _ _ _
             have ht6 : Below w5.heap.size w5 w6 := by rw [hw6]; exact (Below.refl _ _).alloc (Nat.le_refl _) _
             have hb6 : Below wr.heap.size wr w6 := bel_trans hb5 ht6
             have HAns : Hid (er = 0 → ∃ W0 : World, g < W0.heap.size ∧ AnsAt W0 w6 A (.slice a1x A.state.length c1x) (.slice a2x A.bonds.length c2x) (.slice a3x A.last.length c3x)) := Lib.hid (fun h => ⟨_, by simpa using hgl, (hans h).touch (Touch.of_below ht6 (fun _ => False)) (fun k hk e => e)⟩)
             rw [← hw6]
             obtain ⟨ga, hga⟩ : ∃ ga, ga = w5.heap.size := ⟨_, rfl⟩
             have HGa := Lib.hid (show wr.heap.size ≤ ga ∧ ga < w6.heap.size from ⟨by rw [hga]; exact hb5.size, by rw [hga]; exact hk6a.lt⟩)
             rw [← hga] at hk6a ⊢
             clear hw6 hga ht6)
        have HA6 := Lib.hid hk6a
        have HB6 := Lib.hid (bel_new HB.out HB.out.size hb6)
        have HO6 := Lib.hid (HO.out.below hb6)
        clear hk6a hb6 hans hb5 hb5' c5S hbA hbB c0A c3A c0B c3B HKp HS15 HRw HC HO c0 c1 c2 c3 c4 c5
        have HGl : Hid (g < ga) := Lib.hid (Nat.lt_of_lt_of_le hgl HGa.out.1)
        obtain ⟨⟨a0, a1, a2⟩, a3, a4⟩ := blk5 HA6.out
        have HG6 := Lib.hid (HG.out.below HB6.out HG.out.lt)
        obtain ⟨⟨c0, c1, c2⟩, c3, c4, c5⟩ := six_cells HG6.out
        by_cases her : er = 0
        · subst her
          have f3 := HG6.out.frozen 3
          have hwr : IntKind.i64.wrap (left - (A.steps : Int)) = left - (A.steps : Int) := by
            have := HSub.out rfl
            rw [IntKind.wrap_i64]
            omega
          go_upto_region 18 with fail
          go_region
          obtain ⟨w7, hw7⟩ : ∃ w7, w7 = (w6.setCell ⟨g, 3, none⟩ (.int .i64 (left - (A.steps : Int)))).drew := ⟨_, rfl⟩
          have ht7 : Touch (fun k => k = g) w6 w7 := by rw [hw7]; exact ((Touch.refl (fun k => k = g) w6).setCell (p := ⟨g, 3, none⟩) (fun _ => rfl) _).drew
          have hg7 : Blk w7 g 51 #[.int .i64 vars, .slice ab base.length cb, .slice ai items.length ci, .int .i64 (left - (A.steps : Int)), .map (some bm), rv] := by
            rw [hw7]
            have h5 := (HG6.out.set_ 3 (.int .i64 (left - (A.steps : Int)))).drew
            have e : ((#[.int .i64 vars, .slice ab base.length cb, .slice ai items.length ci, .int .i64 left, .map (some bm), rv] : Array Value).setIfInBounds 3 (.int .i64 (left - (A.steps : Int)))) = #[.int .i64 vars, .slice ab base.length cb, .slice ai items.length ci, .int .i64 (left - (A.steps : Int)), .map (some bm), rv] := by
              apply Array.ext'
              simp
            rw [e] at h5
            exact h5
          rw [← hw7]
          have hgag : ¬ ga = g := by have := HGl.out; omega
          have hbog : ¬ bo = g := by have := HBo.out; have := HG.out.lt; omega
          have HA7 := Lib.hid (HA6.out.touch ht7 hgag)
          have HO7 := Lib.hid (HO6.out.touch ht7 hbog)
          have HT7 := Lib.hid ((Touch.of_below HB6.out (fun k => k = g)).trans ht7 (fun _ _ h => h))
          have HAn7 : Hid ((∃ avB cvB, IsRows w7 a2x A.bonds avB cvB) ∧ Ints w7 a3x A.last ∧ (∀ j (h : j < A.bonds.length), A.bonds[j].length ≤ 9223372036854775807) ∧ A.last.length ≤ 9223372036854775807) := Lib.hid (by
            obtain ⟨W0, hW0, h⟩ := HAns.out rfl
            exact ans_rows (h.touch ht7 fun k hk e => by have e2 : k = g := e; omega))
          have HG7 := Lib.hid hg7
          clear hw7 ht7 hg7 HG6 HA6 HO6 HAns HB6 a0 a1 a2 a3 a4 c0 c1 c2 c3 c4 c5 f3 hwr
          obtain ⟨⟨a0, a1, a2⟩, a3, a4⟩ := blk5 HA7.out
          obtain ⟨⟨c0, c1, c2⟩, c3, c4, c5⟩ := six_cells HG7.out
          by_cases hy : A.yes = true
          · rw [hy] at a0
            go_wp2_with fail
            (try simp only [Exit.inBlock, Exit.then])
            refine bodyPost_ret (results_tmp2 rfl _ _ _) rfl ?_
            exact .inr (.inl ⟨rfl, hy, rfl, HT7.out, HG7.out⟩)
          · have hy2 : A.yes = false := by simpa using hy
            rw [hy2] at a0
            obtain ⟨f1, f2, f3⟩ := HFit.out rfl hy2
            obtain ⟨⟨avB, cvB, hrB⟩, hiL, hlB, hlL⟩ := HAn7.out
            have hce : cofE (n : Int) A.bonds A.last = (coreE n A.bonds A.last, 0) := by
              refine cofE_ok (by omega) ?_ ?_
              · rw [HNl.out]; exact f1
              · rw [HNl.out]; exact f2
            have hof := cOf_any (n : Int) A.bonds A.last a2x a3x c2x c3x avB cvB w7 hrB hiL f3 (fun c hc => by
              obtain ⟨j, hj, rfl⟩ := List.getElem_of_mem hc
              exact hlB j hj) hlL
            rw [hce] at hof
            have hcr : ∀ x ∈ coreE n A.bonds A.last, 0 ≤ x ∧ x < n := core_range
            obtain ⟨L, hL⟩ : ∃ L, L = coreE n A.bonds A.last := ⟨_, rfl⟩
            rw [← hL] at hof hcr
            have HL := Lib.hid (show L = coreE (allE base items T).length A.bonds A.last by rw [hL, HNl.out])
            have HOf := Lib.hid hof
            have HCr := Lib.hid hcr
            clear hof hcr hce hL f1 f2 f3 hrB hiL hlB hlL HAn7 hy
            go_upto_region 24 with (go_at_call 35; (with_reducible refine HOf.out.mono ?_); rintro e w8 ⟨aL, cL, rfl, ho8, hn8, hb8⟩)
            obtain ⟨N, hN⟩ : ∃ N, N = items.length := ⟨_, rfl⟩
            have hmk : ∀ W : World, Sem.run Try.prog (Instr.makeSlice 38 (.int .i64 (items.length : Int)) (.int .i64 (items.length : Int))) W = .ok (.slice (some ⟨W.heap.size, 0, none⟩) items.length items.length) (W.alloc (.cells (madeCells #[.bool false] items.length) 4)) := fun W => run_make_row' 38 4 (.bool false) 1 Try.underlying38 (by kernel_rfl) rfl .i64 .i64 items.length (by omega) (by omega) W
            obtain ⟨aL', cL', eL, hiL⟩ := Own.ints ho8
            injection eL with eL1 eL2 eL3
            subst eL1
            have hg8 := HG7.out.below hb8 HG7.out.lt
            have c2n := hg8.cell 2
            simp at c2n
            have ba : Below w8.heap.size w8 (w8.alloc (.cells (madeCells #[.bool false] items.length) 4)) := (Below.refl _ w8).alloc (Nat.le_refl _) _
            have hg9 := hg8.below ba hg8.lt
            have f5 := hg9.frozen 5
            have c5n := hg9.cell 5
            simp at c5n
            have hg8s := hg8.lt
            go_upto_region 25 with fail
            obtain ⟨w9, hw9⟩ : ∃ w9, w9 = (w8.setCell ⟨g, 5, none⟩ (.slice (some ⟨w8.heap.size, 0, none⟩) items.length items.length)).alloc (.cells (madeCells #[.bool false] items.length) 4) := ⟨_, rfl⟩
            rw [← hw9]
            obtain ⟨gr, hgr⟩ : ∃ gr, gr = w8.heap.size := ⟨_, rfl⟩
            rw [← hgr] at hw9
            have hg9r : g < gr := by omega
            have ht9 : Touch (fun k => k = g) w8 w9 := by rw [hw9]; exact ((Touch.refl (fun k => k = g) w8).setCell (p := ⟨g, 5, none⟩) (fun _ => rfl) _).alloc _
            have hk9 : Blk w9 gr 4 (boR (restsOf (ownersE base items T items.length) (L.take 0)) items.length).toArray := by
              have h := Blk.new (w8.setCell ⟨g, 5, none⟩ (.slice (some ⟨gr, 0, none⟩) items.length items.length)) 4 (madeCells #[.bool false] items.length)
              rw [← hw9, boR_made (ownersE base items T items.length), show (w8.setCell ⟨g, 5, none⟩ (.slice (some ⟨gr, 0, none⟩) items.length items.length)).heap.size = gr by rw [hgr]; simp [World.setCell]] at h
              exact h
            have hg10 : Blk w9 g 51 #[.int .i64 vars, .slice ab base.length cb, .slice ai items.length ci, .int .i64 (left - (A.steps : Int)), .map (some bm), .slice (some ⟨gr, 0, none⟩) items.length items.length] := by
              have h5 := (hg8.set_ 5 (.slice (some ⟨gr, 0, none⟩) items.length items.length)).alloc (.cells (madeCells #[.bool false] items.length) 4)
              rw [← hw9] at h5
              have e : ((#[.int .i64 vars, .slice ab base.length cb, .slice ai items.length ci, .int .i64 (left - (A.steps : Int)), .map (some bm), rv] : Array Value).setIfInBounds 5 (.slice (some ⟨gr, 0, none⟩) items.length items.length)) = #[.int .i64 vars, .slice ab base.length cb, .slice ai items.length ci, .int .i64 (left - (A.steps : Int)), .map (some bm), .slice (some ⟨gr, 0, none⟩) items.length items.length] := by
                apply Array.ext'
                simp
              rw [e] at h5
              exact h5
            have hlt7 := HG7.out.lt
            have HO9 := Lib.hid ((HO7.out.below hb8).touch ht9 hbog)
            have ho9 := ho8.touch ht9 (fun k hk e => by have h1 := hn8 k hk; have e2 : k = g := e; omega)
            obtain ⟨aL'', cL'', eL, hiL9⟩ := Own.ints ho9
            injection eL with eL1 eL2 eL3
            subst eL1
            have HIL := Lib.hid hiL9
            have HLb := Lib.hid (show ∀ k, (Value.slice aL L.length cL).ownBlock = some k → k < gr from fun k hk => by rw [hgr]; exact ho8.lt k hk)
            have hLn : L.length ≤ 9223372036854775807 := own_small ho8
            have HT9 := Lib.hid ((HT7.out.trans (Touch.of_below hb8 (fun k => k = g)) (fun _ _ h => h)).trans ht9 (fun _ _ h => h))
            have HG9 := Lib.hid hg10
            have HK9 := Lib.hid hk9
            have HBor := Lib.hid (show bo < gr by rw [hgr]; exact Nat.lt_of_lt_of_le HO7.out.lt hb8.size)
            have HGr := Lib.hid (show w.heap.size ≤ gr ∧ g < gr from ⟨by have := HG.out.lt; have h1 := HT7.out.size; have h2 := hb8.size; omega, hg9r⟩)
            clear hw9 hgr ht9 hk9 hg10 ho9 hiL hiL9 ho8 hn8 hb8 hg8 hg9 ba f5 c5n c2n hg8s hmk HOf HT7 HG7 HO7 HA7 a0 a1 a2 a3 a4 c0 c1 c2 c3 c4 c5 eL2 eL3 hN hlt7 hg9r
            go_wp2_with fail
            go_loopw [124] (fun i wr => ∃ j : Nat, j ≤ L.length ∧ i = .int .i64 j ∧ Hid (Blk wr gr 4 (boR (restsOf (ownersE base items T items.length) (L.take j)) items.length).toArray) ∧ Hid (Touch (fun k => k = gr) w9 wr)) (fun i _ => L.length - (intOf i).toNat)
            case atStart => exact ⟨0, by omega, rfl, HK9, Lib.hid (Touch.refl _ _)⟩
            case round =>
              obtain ⟨j, hj, rfl, HKj, HTj⟩ := hrel
              by_cases hjt : j < L.length
              · have hji : (j : Int) < (L.length : Int) := by omega
                obtain ⟨b3, off3, e3, hbl3, hc3⟩ := HIL.out (by omega)
                subst e3
                have hb3 : b3 < gr := HLb.out b3 rfl
                have hcj := (HTj.out.cell (p := ⟨b3, off3 + j, none⟩) hbl3 (Nat.ne_of_lt hb3)).trans (hc3 j hjt)
                obtain ⟨y, hy⟩ : ∃ y : Nat, L[j] = (y : Int) := ⟨L[j].toNat, by have := HCr.out _ (List.getElem_mem hjt); omega⟩
                have hyn : y < n := by have := HCr.out _ (List.getElem_mem hjt); omega
                have hy6 : y ≤ 1000000 := by omega
                have HKy := Lib.hid (key_nat hy6)
                have HSn : Hid (∀ i, restsOf (ownersE base items T items.length) (L.take (j + 1)) i = (restsOf (ownersE base items T items.length) (L.take j) i || decide ((ownersE base items T items.length).getD y none = some i))) := Lib.hid fun i => by
                  rw [List.take_succ_eq_append_getElem hjt, rests_snoc, hy, Int.toNat_natCast]
                rw [hy] at hcj
                have hnbr : ¬ bo = gr := Nat.ne_of_lt HBor.out
                have hngr : ¬ g = gr := Nat.ne_of_lt HGr.out.2
                obtain ⟨m, D, hown, hm, h1, h2⟩ := HO9.out.touch HTj.out hnbr
                have h1y := h1 y
                have HD2 := Lib.hid (h2 y)
                obtain ⟨⟨c0, c1, c2⟩, c3, c4, c5⟩ := six_cells (HG9.out.touch HTj.out hngr)
                clear hy hc3 h1 h2 hm hnbr hngr hb3 hbl3
                cases hO : (ownersE base items T items.length).getD y none with
                | none =>
                  rw [hO] at h1y
                  simp only [Option.isSome] at h1y
                  have HSe : Hid (∀ i, restsOf (ownersE base items T items.length) (L.take (j + 1)) i = restsOf (ownersE base items T items.length) (L.take j) i) := Lib.hid fun i => by
                    rw [HSn.out i, hO]
                    simp
                  go_wp2_with (first
                    | (at_lookup; refine wpList_lookup_own_ok_int _ rfl _ _ 71 rfl 3 3 .i64 (int_keyed Try.underlying3) Try.underlying71 Try.underlying3 (by kernel_rfl) bo m D rfl hown _ _ rfl HKy.out ?_; intro z hat hwz; rw [h1y])
                    | fail)
                  go_roundw
                  case rel =>
                    refine ⟨j + 1, by omega, by go_num, ?_, HTj⟩
                    rw [boR_same items.length (fun i _ => HSe.out i)]
                    exact HKj
                  case measure => simp [intOf]; omega
                | some i =>
                  rw [hO] at h1y
                  simp only [Option.isSome] at h1y
                  have hi : i < items.length := owners_lt hO
                  have HSe : Hid (∀ q, restsOf (ownersE base items T items.length) (L.take (j + 1)) q = (restsOf (ownersE base items T items.length) (L.take j) q || decide (i = q))) := Lib.hid fun q => by
                    rw [HSn.out q, hO]
                    simp
                  have hii : (i : Int) < (items.length : Int) := by omega
                  have hfi := HKj.out.frozen i
                  have hci : wr.cell? ⟨gr, i, none⟩ = some (.bool (restsOf (ownersE base items T items.length) (L.take j) i)) := by
                    rw [HKj.out.cell i]
                    simp [boR, hi]
                  generalize restsOf (ownersE base items T items.length) (L.take j) i = bit at *
                  go_wp2_with (first
                    | (at_lookup; refine wpList_lookup_own_ok_int _ rfl _ _ 71 rfl 3 3 .i64 (int_keyed Try.underlying3) Try.underlying71 Try.underlying3 (by kernel_rfl) bo m D rfl hown _ _ rfl HKy.out ?_; intro z hat hwz
                       have hzi : z = (i : Int) := by
                         have h := (HD2.out i hO (.lit (.int .i64 0))).symm.trans hat
                         injection h with h
                         injection h with _ h
                         exact h.symm
                       rw [h1y, hzi]
                       clear hat hwz hzi)
                    | fail)
                  go_roundw
                  case rel =>
                    refine ⟨j + 1, by omega, by go_num, ?_, Lib.hid (HTj.out.setCell (p := ⟨gr, i, none⟩) (fun _ => rfl) _)⟩
                    have h5 := HKj.out.set_ i (.bool true)
                    rw [boR_set items.length i hi (R' := restsOf (ownersE base items T items.length) (L.take (j + 1))) (fun q _ => HSe.out q)] at h5
                    exact Lib.hid h5
                  case measure => simp [intOf]; omega
              · obtain rfl : j = L.length := by omega
                rw [List.take_length] at HKj
                go_wp2_with fail
                (try simp only [Exit.inBlock, Exit.then])
                refine bodyPost_ret (results_tmp2 rfl _ _ _) rfl ?_
                have hgg := HGr.out
                refine .inr (.inr ⟨rfl, hy2, rfl, HT9.out.trans HTj.out (fun x hx e => absurd (show x = gr from e) (by omega)), gr, hgg.1, HG9.out.touch HTj.out (Nat.ne_of_lt hgg.2), ?_⟩)
                rw [← HL.out]
                exact HKj.out
        · have hd : (er != 0) = true := by simpa using her
          go_wp2_with fail
          (try simp only [Exit.inBlock, Exit.then])
          refine bodyPost_ret (results_tmp2 rfl _ _ _) rfl ?_
          exact .inl ⟨her, rfl, HB6.out⟩

end Go.Proofs.Ythinopiobihmaaa
