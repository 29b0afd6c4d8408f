/- A watcher's contracts: Add. -/
import Derived.Test.YthinopiobihmaaaGg
namespace Go.Proofs.Ythinopiobihmaaa
open Go.ChangeShapes Go.WideShapes Go.ChangeAt Go.RowKit Go.Maps Go.Deep
set_option maxRecDepth 100000

theorem WAt.rowOne {w : World} {M : WM} {S : WS} (h : WAt w M S) : ∀ u ∈ rowV S.cl.length M.C, u.oneCell' = true := fun u hu => by
  unfold rowV at hu
  obtain ⟨i, hi, rfl⟩ := List.mem_map.1 hu
  have ho : Own w 3 1 (M.C i) _ _ := h.part (.cl i) (List.mem_range.1 hi)
  obtain ⟨_, _, e, _⟩ := ho.form
  rw [e]
  rfl
theorem WAt.litOne {w : World} {M : WM} {S : WS} (h : WAt w M S) : ∀ u ∈ rowV S.ls.length M.L, u.oneCell' = true := fun u hu => by
  unfold rowV at hu
  obtain ⟨i, hi, rfl⟩ := List.mem_map.1 hu
  have ho : Own w 3 1 (M.L i) _ _ := h.part (.li i) (List.mem_range.1 hi)
  obtain ⟨_, _, e, _⟩ := ho.form
  rw [e]
  rfl

/-- Three loads under a name: what a region loads and stores at the same place is branched over, not taken first. -/
abbrev ldC : Op := Op.load 22 (.tmp 40)
abbrev ldL : Op := Op.load 22 (.tmp 51)
abbrev ldF : Op := Op.load 26 (.tmp 64)

set_option maxHeartbeats 4000000 in
theorem wAdd_any (w : World) (M : WM) (S : WS) (h : WAt w M S) (hI : WInv S) (hn : S.n ≤ 5000) (hcl : S.cl.length ≤ 1000000) (hfl : S.fresh.length ≤ 10000000000000) (hnB : M.nB ≤ 1000000000000)
    (ao : Option Addr) (c : List Int) (cap : Nat) (hc : Ints w ao c) (hcn : c.length ≤ 5000) (hcI : ∀ x ∈ c, I64 x) :
    Calls Try.prog 37 #[.pointer (some ⟨M.x, 0, none⟩), .slice ao c.length cap] w fun e w' => e = .returned (.tuple #[.int .i64 (addS S c).2.1, .int .i64 (addS S c).2.2]) ∧ WUp 2 w w' M S (addS S c).1 := by
  obtain ⟨i3, hi3, hz0, hz1, hz2⟩ := info_parts (P := Try.prog) (e := 3) (z := .int .i64 0) (size := 1) (bytes := 8) (by kernel_rfl)
  obtain ⟨iS, hiS, hs0, hs1, hs2⟩ := info_parts (P := Try.prog) (e := 26) (z := .slice none 0 0) (size := 1) (bytes := 24) (by kernel_rfl)
  have hmf : ∀ (fn : Fn) (first cap : Array Value) (w : World), (Instr.makeFunc fn first cap).run Try.prog w = .ok (.func fn first cap) w := fun _ _ _ _ => rfl
  obtain ⟨R, hR⟩ : ∃ R, R = addS S c := ⟨_, rfl⟩
  rw [← hR]
  unfold addS at hR
  -- the world with the box
  obtain ⟨W, hW⟩ : ∃ W, W = w.alloc (.cells #[.pointer (some ⟨M.x, 0, none⟩)] 55) := ⟨_, rfl⟩
  have hb : Below w.heap.size w W := by rw [hW]; exact (Below.refl _ _).alloc (Nat.le_refl _) _
  have hcpW : W.cell? ⟨w.heap.size, 0, none⟩ = some (.pointer (some ⟨M.x, 0, none⟩)) := by rw [hW]; exact (Blk.new w _ _).cell 0
  have hlt : w.heap.size < W.heap.size := by rw [hW]; simp
  have hcW : Ints W ao c := hc.below hb
  have hAtW := h.below hb
  have hno : ¬ M.all S w.heap.size := fun ⟨t, ht⟩ => by have := h.lt t _ ht; omega
  have HCF := containsF_wAdd1 (fun x => !decide (1 ≤ x.natAbs ∧ x.natAbs ≤ S.n)) w.heap.size c ao cap W (by omega) (fun h0 => by
    obtain ⟨b, off, e, _, hh⟩ := hcW h0
    exact ⟨b, off, e, hh⟩) (fun x hx => wAdd1_any hAtW hn hcpW x)
  rw [any_known] at HCF
  have HUp : Hid (∀ w', WUp 2 W w' M S R.1 → WUp 2 w w' M S R.1) := Lib.hid fun w' hu => hu.after hb
  cases hkn : knownS S.n c with
  | false =>
    rw [hkn] at HCF hR
    simp only [Bool.not_false] at HCF
    obtain rfl : R = (S, 0, 1) := hR
    have HU : Hid (WUp 2 w W M S S) := Lib.hid ((h.upBelow hb).mono (by omega))
    have HCF2 := Lib.hid HCF
    rw [hW] at HCF2 HU hcpW
    clear HCF HUp hcW hc h hW hb hlt hAtW hno hkn hI hcI
    go_enter Try.func37, Try.ntmps37
    go_wp2_with (go_at_call 58; (with_reducible refine HCF2.out.mono ?_); rintro e w' ⟨rfl, rfl⟩)
    go_ret2
    exact ⟨rfl, HU.out⟩
  | true =>
    rw [hkn] at HCF hR
    simp only [Bool.not_true] at HCF
    rw [if_pos rfl] at hR
    obtain ⟨D, hD⟩ : ∃ D, D = dedL c := ⟨_, rfl⟩
    rw [← hD] at hR
    have hDl : D.length ≤ c.length := by rw [hD]; exact ded_len c
    have hDk : ∀ x ∈ D, 1 ≤ x.natAbs ∧ x.natAbs ≤ S.n := fun x hx => by
      rw [hD, ded_mem] at hx
      have h1 : (c.all fun x => decide (1 ≤ x.natAbs ∧ x.natAbs ≤ S.n)) = true := hkn
      have := List.all_eq_true.1 h1 x hx
      simpa using this
    have HCF2 := Lib.hid HCF
    have HR := Lib.hid hR
    have HDd := Lib.hid hD
    have HDk := Lib.hid hDk
    have HIn := Lib.hid hI
    have HCi := Lib.hid hcI
    have HCW := Lib.hid hcW
    have HSt : Hid (∀ w', Below W.heap.size W w' → AdSt W w' M M S S 0) := Lib.hid fun w' hb' => AdSt.start hAtW hb'
    have HLt := Lib.hid hlt
    have HNo := Lib.hid hno
    have HHs : Hid (∀ k, M.all S k → k < W.heap.size) := Lib.hid fun k ⟨t, ht⟩ => hAtW.lt t k ht
    have HCp := Lib.hid hcpW
    have hbW : Below W.heap.size W W := Below.refl _ _
    clear HCF hcW hc h hb hlt hAtW hno hkn hI hcI hD hDk hR hcpW
    go_enter Try.func37, Try.ntmps37
    go_upto_region 1 with fail
    rw [← hW]
    have hcpW := HCp.out
    clear hW
    go_wp2_with (go_at_call 58; (with_reducible refine HCF2.out.mono ?_); rintro e w' ⟨rfl, rfl⟩)
    clear hcpW
    go_loopw [7, 19] (fun s7 s19 wr => ∃ (k : Nat) (acc : List Int) (a : Option Addr) (cp : Nat), k ≤ c.length ∧ s19 = .int .i64 k ∧ s7 = .slice a acc.length cp ∧ Hid (acc = dedL (c.take k)) ∧ Hid (Own wr 3 1 (.slice a acc.length cp) acc.length (inC acc)) ∧
      Hid (∀ k, (Value.slice a acc.length cp).ownBlock = some k → W.heap.size ≤ k) ∧ Hid (Below W.heap.size W wr)) (fun _ s _ => c.length - (intOf s).toNat)
    case atStart => exact ⟨0, [], none, 0, by omega, rfl, rfl, Lib.hid rfl, Lib.hid (Own.nil _ _ _), Lib.hid fun k hk => by simp [Value.ownBlock] at hk, Lib.hid hbW⟩
    case round =>
      obtain ⟨k, acc, a, cp, hkl, rfl, rfl, HA, HOw, HNew, HB⟩ := hrel
      have hal : acc.length ≤ 5000 := by
        rw [HA.out]
        have h1 := ded_len (c.take k)
        rw [List.length_take] at h1
        omega
      by_cases hlt : k < c.length
      · have hki : (k : Int) < (c.length : Int) := by omega
        obtain ⟨b, off, rfl, hbl, hcc⟩ := HCW.out (by omega)
        have hck : wr.cell? ⟨b, off + k, none⟩ = some (.int .i64 c[k]) := (World.cell?_of_block (w := W) (HB.out.block b hbl)).trans (hcc k hlt)
        have htk := ded_take (l := c) k hlt
        rw [← HA.out] at htk
        obtain ⟨aoA, capA, eA, hiA⟩ := HOw.out.ints
        injection eA with e1 _ e2
        subst e1 e2
        have HCt := Lib.hid (contains_any c[k] acc a cp wr (by omega) (fun h0 => by
          obtain ⟨b, off, e, _, hh⟩ := hiA h0
          exact ⟨b, off, e, hh⟩))
        generalize c[k] = x at *
        generalize hq : acc.any (fun y => y == x) = q at *
        cases q with
        | true =>
          rw [if_pos rfl] at htk
          have HT := Lib.hid htk
          clear htk hcc hiA hq
          go_wp2_with (go_at_call 59; (with_reducible refine HCt.out.mono ?_); rintro e w' ⟨rfl, rfl⟩)
          go_roundw
          case rel => exact ⟨k + 1, acc, a, cp, by omega, by go_num, rfl, Lib.hid HT.out.symm, HOw, HNew, HB⟩
          case measure => simp [intOf]; omega
        | false =>
          rw [if_neg (by simp)] at htk
          have HT := Lib.hid htk
          have HOw2 := Lib.hid (HOw.out.alloc (.cells #[.int .i64 x] 3))
          have hbB : Below W.heap.size W (wr.alloc (.cells #[.int .i64 x] 3)) := HB.out.alloc HB.out.size _
          have HBB := Lib.hid hbB
          clear htk hcc hbB hiA hq
          go_wp2_with (first
            | (go_at_call 59; (with_reducible refine HCt.out.mono ?_); rintro e w' ⟨rfl, rfl⟩)
            | (at_builtin; refine wpList_append_S _ rfl (.tmp 27) (.tmp 29) _ _ rfl 3 i3 _ 1 8 Try.underlying26 hi3 hz0 hz1 hz2 rfl (by omega) (.slice a acc.length cp) acc.length (inC acc) rfl HOw2.out (in_one _) _ 1 [_] rfl (src_new wr Try.underlying26 3 _ rfl) (by simp only [maxLen]; omega) (by omega) ?_; intro ao2 cap2 w10 hn1 hm1 hown1 hg1 hat1 hlt1; have H1 := Lib.hid hown1; have H2 := Lib.hid hg1; have H3 := Lib.hid hat1; clear hown1 hg1 hat1 hlt1 hn1 hm1))
          go_roundw
          case rel =>
            have hle : (acc ++ [x]).length = acc.length + 1 := by simp
            have hin : inC (acc ++ [x]) = inC acc ++ [.int .i64 x] := by simp [inC]
            refine ⟨k + 1, acc ++ [x], ao2, cap2, by omega, by go_num, by rw [hle], Lib.hid HT.out.symm, Lib.hid (by rw [hle, hin]; exact H1.out), Lib.hid ?_, Lib.hid (grow_below2 HBB.out H2.out HNew.out HBB.out.size)⟩
            rw [hle]
            exact own_above HNew.out H3.out HBB.out.size
          case measure => simp [intOf]; omega
      · obtain rfl : k = c.length := by omega
        have hacc : acc = D := by rw [HA.out, List.take_length, HDd.out]
        subst hacc
        obtain ⟨w5, rfl⟩ : ∃ w5 : World, w5 = wr := ⟨_, rfl⟩
        have hB5 := HB.out
        have hA5 := HSt.out _ hB5
        have hcp5 : w5.cell? ⟨w.heap.size, 0, none⟩ = some (.pointer (some ⟨M.x, 0, none⟩)) := (World.cell?_of_block (w := W) (hB5.block _ HLt.out)).trans HCp.out
        obtain ⟨_, q1, _, _, _, _, _⟩ := hA5.at_.cells
        have hoC : Own w5 26 1 M.vC S.cl.length (rowV S.cl.length M.C) := hA5.at_.part .cls
        obtain ⟨aoC, capC, eC, _, _, _⟩ := hoC.form
        have hltC : ∀ k, M.vC.ownBlock = some k → k < w5.heap.size := hoC.lt
        have hAw : AdSt w5 w5 M M S S 0 := AdSt.start hA5.at_ (Below.refl _ _)
        obtain ⟨S1, hS1⟩ : ∃ S1 : WS, S1 = ⟨S.n, S.es, S.cl ++ [c], S.ls, S.by_, S.done, S.fresh⟩ := ⟨_, rfl⟩
        have HCl : Hid (∀ w', Below w5.heap.size w5 w' → Calls Try.prog 60 #[.slice ao c.length cap] w' fun e w6 => ∃ ao1 cap1, e = .returned (.slice ao1 c.length cap1) ∧ Own w6 3 1 (.slice ao1 c.length cap1) c.length (inC c) ∧ Below w5.heap.size w5 w6 ∧ ∀ k, (Value.slice ao1 c.length cap1).ownBlock = some k → w5.heap.size ≤ k) := Lib.hid fun w' hb' => by
          refine (cloneR_any ao c cap w' ((HCW.out.below hB5).below hb') hcn).mono ?_
          rintro e w6 ⟨v', rfl, ho, hb6, hn6⟩
          obtain ⟨ao1, cap1, rfl, _, _, _⟩ := ho.form
          exact ⟨ao1, cap1, rfl, ho, bel_trans hb' hb6, fun k hk => Nat.le_trans hb'.size (hn6 k hk)⟩
        have HAp : Hid (∀ w6 ao1 cap1 w10 v', Below w5.heap.size w5 w6 → Own w6 3 1 (.slice ao1 c.length cap1) c.length (inC c) → (∀ k, (Value.slice ao1 c.length cap1).ownBlock = some k → w5.heap.size ≤ k) → Own w10 26 1 v' (S.cl.length + 1) (rowV S.cl.length M.C ++ [.slice ao1 c.length cap1]) →
            (w6.alloc (.cells #[.slice ao1 c.length cap1] 26)).grownBy w10 (Value.slice aoC S.cl.length capC).ownBlock → (v'.ownBlock = (Value.slice aoC S.cl.length capC).ownBlock ∨ v'.ownBlock = some (w6.alloc (.cells #[.slice ao1 c.length cap1] 26)).heap.size) →
            (w10.cell? ⟨w.heap.size, 0, none⟩ = some (.pointer (some ⟨M.x, 0, none⟩)) ∧ w10.cell? ⟨M.x, 1, none⟩ = some (.slice aoC S.cl.length capC)) ∧ w10.frozen? ⟨M.x, 1, none⟩ = false ∧ (w10.setCell ⟨M.x, 1, none⟩ v').cell? ⟨w.heap.size, 0, none⟩ = some (.pointer (some ⟨M.x, 0, none⟩)) ∧
            ∃ w7, w7 = w10.setCell ⟨M.x, 1, none⟩ v' ∧ Hid (∃ M1, AdSt W w7 M M1 S S1 0 ∧ AdSt w5 w7 M M1 S S1 0)) := Lib.hid fun w6 ao1 cap1 w10 v' hb6 hv hvn ho hg hat => by
          rw [← eC] at hg hat
          have hal : Below w6.heap.size w6 (w6.alloc (.cells #[.slice ao1 c.length cap1] 26)) := (Below.refl _ _).alloc (Nat.le_refl _) _
          obtain ⟨t1, a1⟩ := hA5.cls hb6 hv hvn hal ho hg hat
          obtain ⟨_, a2⟩ := hAw.cls hb6 hv hvn hal ho hg hat
          rw [← hS1] at a1 a2
          obtain ⟨r1, r2⟩ := hA5.read .cls (fun k hk => hk) (by simp) t1 1 q1
          exact ⟨⟨hA5.box .cls (fun k hk => hk) t1 HLt.out HNo.out hcp5, by rw [← eC]; exact r1⟩, r2, (a2.touch.cell (p := ⟨w.heap.size, 0, none⟩) (Nat.lt_of_lt_of_le HLt.out HB.out.size) HNo.out).trans hcp5, _, rfl, Lib.hid ⟨_, a1, a2⟩⟩
        have HS5 : Hid (∀ w', Below w5.heap.size w5 w' → w'.cell? ⟨w.heap.size, 0, none⟩ = some (.pointer (some ⟨M.x, 0, none⟩)) ∧ w'.cell? ⟨M.x, 1, none⟩ = some (.slice aoC S.cl.length capC)) := Lib.hid fun w' hb' =>
          ⟨(World.cell?_of_block (w := w5) (hb'.block _ (Nat.lt_of_lt_of_le HLt.out hB5.size))).trans hcp5, (World.cell?_of_block (w := w5) (hb'.block _ (hA5.at_.lt .self M.x rfl))).trans (by rw [← eC]; exact q1)⟩
        have HOC : Hid (∀ w', Below w5.heap.size w5 w' → Own w' 26 1 (.slice aoC S.cl.length capC) S.cl.length (rowV S.cl.length M.C)) := Lib.hid fun w' hb' => by
          rw [← eC]
          exact hoC.below hb' hltC
        have HOne := Lib.hid hA5.at_.rowOne
        have HOD := HOw
        rw [eC] at q1
        have hbd : Below w5.heap.size w5 w5.drew := bel_drewN (Below.refl _ _) 1
        have HBox : Hid (∀ w' M' S' d, AdSt W w' M M' S S' d → w'.cell? ⟨w.heap.size, 0, none⟩ = some (.pointer (some ⟨M.x, 0, none⟩))) := Lib.hid fun w' M' S' d ha => (ha.touch.cell (p := ⟨w.heap.size, 0, none⟩) HLt.out HNo.out).trans HCp.out
        obtain ⟨S2, hS2⟩ : ∃ S2 : WS, S2 = ⟨S.n, S.es, S.cl ++ [c], S.ls ++ [acc], S.by_, S.done, S.fresh⟩ := ⟨_, rfl⟩
        obtain ⟨q, hq⟩ : ∃ q, q = chooseE (rankE S.n S.es) S.cl.length acc S.by_ := ⟨_, rfl⟩
        have hS3 : R = ((chS S2 S.cl.length q).wFresh (S.fresh ++ [S.cl.length]), (S.cl.length : Int), 0) := by
          rw [HR.out, hS2, add_state S HIn.out.len c acc q, hq]
        have HS3 := Lib.hid hS3
        obtain ⟨S3, hS3d⟩ : ∃ S3, S3 = chS S2 S.cl.length q := ⟨_, rfl⟩
        have HCh : Hid (∀ w8, Hid (∃ M2, AdSt W w8 M M2 S S2 0) → Calls Try.prog 61 #[.pointer (some ⟨M.x, 0, none⟩), .int .i64 (S.cl.length : Int)] w8 fun e w9 => e = .returned (.tuple #[]) ∧ Hid (∃ M3, AdSt W w9 M M3 S S3 2)) := Lib.hid fun w8 hA => by
          obtain ⟨M2, b2⟩ := hA.out
          have hg1 : S2.ls.getD S.cl.length [] = acc := by
            rw [hS2]
            show (S.ls ++ [acc]).getD S.cl.length [] = acc
            rw [getD_snoc, if_neg (by have := HIn.out.len; omega), if_pos HIn.out.len.symm]
          have hl2 : S2.ls.length = S.ls.length + 1 := by rw [hS2]; simp
          have hn2 : S2.n = S.n := by rw [hS2]
          have he2 : S2.es = S.es := by rw [hS2]
          have hb2 : S2.by_ = S.by_ := by rw [hS2]
          have hCh := wchoose_any w8 M2 S2 b2.at_ (by rw [hn2]; exact hn) S.cl.length (by have := HIn.out.len; omega) (by rw [hg1, hn2]; exact HDk.out) (by rw [hg1]; omega) (fun x => by rw [hb2]; exact Nat.le_trans (HIn.out.byLen x) hcl) (by have := b2.nb; omega)
          rw [b2.x, hg1, hn2, he2, hb2, ← hq, ← hS3d] at hCh
          refine hCh.mono ?_
          rintro e w9 ⟨rfl, hU⟩
          obtain ⟨M3, b3⟩ := b2.call hU
          exact ⟨rfl, Lib.hid ⟨M3, b3⟩⟩
        have hf3 : S3.fresh = S.fresh := by rw [hS3d, hS2]
        have HF3 := Lib.hid hf3
        have HS3d := Lib.hid hS3d
        clear hf3 hS3 hS3d hq
        clear hal HA hA5 hoC eC hltC hAw hB5
        go_upto_region 14 with fail
        clear q1 hcp5
        obtain ⟨hsd, hse⟩ := HS5.out _ hbd
        rw [show Op.load 22 (Operand.tmp 40) = ldC from rfl]
        go_region_held3 (fun w' => w'.cell? ⟨w.heap.size, 0, none⟩ = some (.pointer (some ⟨M.x, 0, none⟩)))
          (first | exact (HS5.out _ (by assumption)).1 | exact (HS5.out _ (Below.alloc (by assumption) (Below.size (by assumption)) _)).1 | assumption)
          ((first
            | (go_at_call 60; (with_reducible refine (HCl.out _ (by assumption)).mono ?_); rintro e w6 ⟨ao1, cap1, rfl, hv1, hb1, hn1⟩; obtain ⟨hs6, hs7⟩ := HS5.out _ hb1; have hs7a := (HS5.out _ (hb1.alloc hb1.size (.cells #[.slice ao1 c.length cap1] 26))).2)
            | (refine step_append_S _ (by rfl) (.tmp 41) (.tmp 44) _ _ (by rfl) 26 iS _ 1 24 Try.underlying22 hiS hs0 hs1 hs2 rfl (by omega) (.slice aoC S.cl.length capC) S.cl.length (rowV S.cl.length M.C) (by rfl) ((HOC.out _ (by assumption)).alloc _) HOne.out _ 1 [_] (by rfl) (src_new w6 Try.underlying22 26 _ rfl) (by simp only [maxLen]; omega) (by omega) ?_; intro ao2 cap2 w10 hn2 hm2 hown2 hg2 hat2 hlt2; obtain ⟨⟨hs8, hs9⟩, hf10, hsb, w7, hw7, m1⟩ := HAp.out w6 ao1 cap1 w10 _ hb1 hv1 hn1 hown2 hg2 hat2; clear hown2 hg2 hat2 hlt2 hn2 hm2)))
        all_goals
          obtain ⟨M1, a1, a2⟩ := m1.out
          have hbox := HBox.out _ _ _ _ a1
          rw [← hw7]
          have hll : S.ls.length ≤ 1000000 := by rw [HIn.out.len]; exact hcl
          obtain ⟨_, _, q2, _, _, _, _⟩ := a1.at_.cells
          rw [a1.x] at q2
          have hoL : Own w7 26 1 M1.vL S.ls.length (rowV S.ls.length M1.L) := by have := a1.at_.part .lits; rw [hS1] at this; exact this
          obtain ⟨aoL, capL, eL, _, _, _⟩ := hoL.form
          have hone : ∀ u ∈ rowV S.ls.length M1.L, u.oneCell' = true := by have := a1.at_.litOne; rw [hS1] at this; exact this
          have hD7 : Own w7 3 1 (.slice a acc.length cp) acc.length (inC acc) := HOD.out.touch a2.touch fun k hk hm => by
            have h1 := HHs.out k hm
            have h2 := HNew.out k hk
            omega
          have hvn : ∀ k, (Value.slice a acc.length cp).ownBlock = some k → W.heap.size ≤ k ∧ ¬ M1.all S1 k := fun k hk => ⟨HNew.out k hk, fun hm => by
            have h2 := HNew.out k hk
            rcases a2.all k hm with h1 | h1
            · have h3 := HHs.out k h1
              omega
            · have h3 := HOD.out.lt k hk
              omega⟩
          have HAp2 : Hid (∀ w10 v', Own w10 26 1 v' (S.ls.length + 1) (rowV S.ls.length M1.L ++ [.slice a acc.length cp]) → (w7.drew.alloc (.cells #[.slice a acc.length cp] 26)).grownBy w10 (Value.slice aoL S.ls.length capL).ownBlock →
              (v'.ownBlock = (Value.slice aoL S.ls.length capL).ownBlock ∨ v'.ownBlock = some (w7.drew.alloc (.cells #[.slice a acc.length cp] 26)).heap.size) →
              w10.cell? ⟨M.x, 2, none⟩ = some (.slice aoL S.ls.length capL) ∧ w10.frozen? ⟨M.x, 2, none⟩ = false ∧ w10.cell? ⟨w.heap.size, 0, none⟩ = some (.pointer (some ⟨M.x, 0, none⟩)) ∧ (w10.setCell ⟨M.x, 2, none⟩ v').cell? ⟨w.heap.size, 0, none⟩ = some (.pointer (some ⟨M.x, 0, none⟩)) ∧
              ∃ w8, w8 = w10.setCell ⟨M.x, 2, none⟩ v' ∧ Hid (∃ M2, AdSt W w8 M M2 S S2 0)) := Lib.hid fun w10 v' ho hg hat => by
            rw [← eL] at hg hat
            have hal : Below w7.heap.size w7 (w7.drew.alloc (.cells #[.slice a acc.length cp] 26)) := (bel_drewN (Below.refl _ _) 1).alloc (Nat.le_refl _) _
            have e1 : S1.ls.length = S.ls.length := by rw [hS1]
            obtain ⟨t1, b1⟩ := a1.lits (c := acc) hD7 hvn hal (by rw [e1]; exact ho) hg hat
            obtain ⟨r1, r2⟩ := a1.read .lits (fun k hk => hk) (by simp) t1 2 q2
            have hbx := a1.box .lits (fun k hk => hk) t1 HLt.out HNo.out hbox
            have hbz := HBox.out _ _ _ _ b1
            rw [hS1] at b1
            rw [hS2, ← eL]
            exact ⟨r1, r2, hbx, hbz, _, rfl, Lib.hid ⟨_, b1⟩⟩
          rw [eL] at q2 hoL
          have HOL := Lib.hid (hoL.drew.alloc (.cells #[.slice a acc.length cp] 26))
          have HOn2 := Lib.hid hone
          clear hoL hone hD7 hvn a1 a2 eL hw7 m1 hS1 hS2
          have q2d : w7.drew.cell? ⟨M.x, 2, none⟩ = some (.slice aoL S.ls.length capL) := q2
          have hal7 : Below w7.heap.size w7 (w7.drew.alloc (.cells #[.slice a acc.length cp] 26)) := (bel_drewN (Below.refl _ _) 1).alloc (Nat.le_refl _) _
          have hx7 : M.x < w7.heap.size := World.block_lt_of_cell? (a := ⟨M.x, 2, none⟩) _ q2
          have hw7l : w.heap.size < w7.heap.size := World.block_lt_of_cell? (a := ⟨w.heap.size, 0, none⟩) _ hbox
          have q2e : (w7.drew.alloc (.cells #[.slice a acc.length cp] 26)).cell? ⟨M.x, 2, none⟩ = some (.slice aoL S.ls.length capL) := (World.cell?_of_block (w := w7) (hal7.block _ hx7)).trans q2
          have hbxd : w7.drew.cell? ⟨w.heap.size, 0, none⟩ = some (.pointer (some ⟨M.x, 0, none⟩)) := hbox
          have hbxe : (w7.drew.alloc (.cells #[.slice a acc.length cp] 26)).cell? ⟨w.heap.size, 0, none⟩ = some (.pointer (some ⟨M.x, 0, none⟩)) := (World.cell?_of_block (w := w7) (hal7.block _ hw7l)).trans hbox
          go_wp2_with fail
          rw [show Op.load 22 (Operand.tmp 51) = ldL from rfl]
          go_region_held3 (fun w' => w'.cell? ⟨w.heap.size, 0, none⟩ = some (.pointer (some ⟨M.x, 0, none⟩))) (assumption)
            ((refine step_append_S _ (by rfl) (.tmp 52) (.tmp 54) _ _ (by rfl) 26 iS _ 1 24 Try.underlying22 hiS hs0 hs1 hs2 rfl (by omega) (.slice aoL S.ls.length capL) S.ls.length (rowV S.ls.length M1.L) (by rfl) HOL.out HOn2.out _ 1 [_] (by rfl) (src_new w7.drew Try.underlying22 26 _ rfl) (by simp only [maxLen]; omega) (by omega) ?_; intro ao3 cap3 w11 hn3 hm3 hown3 hg3 hat3 hlt3; obtain ⟨p1, p2, p3, p4, w8, hw8, m2⟩ := HAp2.out _ _ hown3 hg3 hat3; clear hown3 hg3 hat3 hlt3 hn3 hm3))
          all_goals
            rw [← hw8]
            clear hw8 p1 p2 p3 p4 HOL HOn2 HAp2 q2 hbox hbxd hbxe q2d q2e hal7 hx7 hw7l
            have hbx8 : w8.cell? ⟨w.heap.size, 0, none⟩ = some (.pointer (some ⟨M.x, 0, none⟩)) := m2.out.elim fun _ ha => HBox.out _ _ _ _ ha
            go_wp2_with (go_at_call 61; (with_reducible refine (HCh.out _ m2).mono ?_); rintro e w9 ⟨rfl, m3⟩; have hbx9 := m3.out.elim fun _ ha => HBox.out _ _ _ _ ha)
            obtain ⟨M3, a3⟩ := m3.out
            obtain ⟨_, _, _, _, _, q5, _⟩ := a3.at_.cells
            rw [a3.x] at q5
            have hoF : Own w9 3 1 M3.vF S3.fresh.length (natC S3.fresh) := a3.at_.part .fresh
            rw [HF3.out] at hoF
            obtain ⟨aoF, capF, eF, _, _, _⟩ := hoF.form
            have hal9 : Below w9.heap.size w9 (w9.drew.alloc (.cells #[.int .i64 (S.cl.length : Int)] 3)) := (bel_drewN (Below.refl _ _) 1).alloc (Nat.le_refl _) _
            have HAp3 : Hid (∀ w10 v', Own w10 3 1 v' (S.fresh.length + 1) (natC S.fresh ++ [.int .i64 (S.cl.length : Int)]) → (w9.drew.alloc (.cells #[.int .i64 (S.cl.length : Int)] 3)).grownBy w10 (Value.slice aoF S.fresh.length capF).ownBlock →
                (v'.ownBlock = (Value.slice aoF S.fresh.length capF).ownBlock ∨ v'.ownBlock = some (w9.drew.alloc (.cells #[.int .i64 (S.cl.length : Int)] 3)).heap.size) →
                w10.cell? ⟨M.x, 5, none⟩ = some (.slice aoF S.fresh.length capF) ∧ w10.frozen? ⟨M.x, 5, none⟩ = false ∧ w10.cell? ⟨w.heap.size, 0, none⟩ = some (.pointer (some ⟨M.x, 0, none⟩)) ∧ (w10.setCell ⟨M.x, 5, none⟩ v').cell? ⟨w.heap.size, 0, none⟩ = some (.pointer (some ⟨M.x, 0, none⟩)) ∧ Hid (WUp 2 w (w10.setCell ⟨M.x, 5, none⟩ v') M S R.1)) := Lib.hid fun w10 v' ho hg hat => by
              rw [← eF] at hg hat
              obtain ⟨t1, b1⟩ := a3.fresh (c := S.cl.length) hal9 (by rw [HF3.out]; exact ho) hg hat
              obtain ⟨r1, r2⟩ := a3.read .fresh (fun k hk => hk) (by simp) t1 5 q5
              have hbx := a3.box .fresh (fun k hk => hk) t1 HLt.out HNo.out hbx9
              have hbz := HBox.out _ _ _ _ b1
              have hf := HUp.out (w10.setCell ⟨M.x, 5, none⟩ v') (by
                rw [HS3.out]
                rw [HF3.out, HS3d.out] at b1
                exact b1.up (Nat.le_refl _) (by decide))
              rw [← eF]
              exact ⟨r1, r2, hbx, hbz, Lib.hid hf⟩
            rw [eF] at q5 hoF
            have HOF := Lib.hid (hoF.drew.alloc (.cells #[.int .i64 (S.cl.length : Int)] 3))
            have hR1 : R.2.1 = (S.cl.length : Int) := by rw [HS3.out]
            have hR2 : R.2.2 = 0 := by rw [HS3.out]
            have q5d : w9.drew.cell? ⟨M.x, 5, none⟩ = some (.slice aoF S.fresh.length capF) := q5
            have hx9 : M.x < w9.heap.size := World.block_lt_of_cell? (a := ⟨M.x, 5, none⟩) _ q5
            have hw9l : w.heap.size < w9.heap.size := World.block_lt_of_cell? (a := ⟨w.heap.size, 0, none⟩) _ hbx9
            have q5e : (w9.drew.alloc (.cells #[.int .i64 (S.cl.length : Int)] 3)).cell? ⟨M.x, 5, none⟩ = some (.slice aoF S.fresh.length capF) := (World.cell?_of_block (w := w9) (hal9.block _ hx9)).trans q5
            have hbxd : w9.drew.cell? ⟨w.heap.size, 0, none⟩ = some (.pointer (some ⟨M.x, 0, none⟩)) := hbx9
            have hbxe : (w9.drew.alloc (.cells #[.int .i64 (S.cl.length : Int)] 3)).cell? ⟨w.heap.size, 0, none⟩ = some (.pointer (some ⟨M.x, 0, none⟩)) := (World.cell?_of_block (w := w9) (hal9.block _ hw9l)).trans hbx9
            have q5f : (w9.alloc (.cells #[.int .i64 (S.cl.length : Int)] 3)).cell? ⟨M.x, 5, none⟩ = some (.slice aoF S.fresh.length capF) := q5e
            have hbxf : (w9.alloc (.cells #[.int .i64 (S.cl.length : Int)] 3)).cell? ⟨w.heap.size, 0, none⟩ = some (.pointer (some ⟨M.x, 0, none⟩)) := hbxe
            clear hoF a3 eF m2 m3 hx9 hw9l hal9
            rw [show Op.load 26 (Operand.tmp 64) = ldF from rfl]
            go_region_held3 (fun w' => w'.cell? ⟨w.heap.size, 0, none⟩ = some (.pointer (some ⟨M.x, 0, none⟩))) (assumption)
              ((refine step_append_S _ (by rfl) (.tmp 65) (.tmp 67) _ _ (by rfl) 3 i3 _ 1 8 Try.underlying26 hi3 hz0 hz1 hz2 rfl (by omega) (.slice aoF S.fresh.length capF) S.fresh.length (natC S.fresh) (by rfl) HOF.out (natC_one _) _ 1 [_] (by rfl) (src_new w9.drew Try.underlying26 3 _ rfl) (by simp only [maxLen]; omega) (by omega) ?_; intro ao4 cap4 w12 hn4 hm4 hown4 hg4 hat4 hlt4; obtain ⟨p1, p2, p3, p4, m4⟩ := HAp3.out _ _ hown4 hg4 hat4; clear hown4 hg4 hat4 hlt4 hn4 hm4))
            all_goals
              go_wp2_with fail
              rw [hR1, hR2]
              go_ret2
              exact ⟨rfl, m4.out⟩

end Go.Proofs.Ythinopiobihmaaa

namespace Go.Proofs.Ythinopiobihmaaa
open Go.ChangeShapes Go.WideShapes Go.ChangeAt Go.RowKit Go.Maps Go.Deep
set_option maxRecDepth 100000

/-- The clause that is told. -/
def clauseS (S : WS) (n : Int) : List Int := if n < 0 then [] else S.cl.getD n.toNat []
/-- Numbers in memory of their own. -/
def NewInts (w w' : World) (v : Value) (l : List Int) : Prop := Own w' 3 1 v l.length (inC l) ∧ Below w.heap.size w w' ∧ ∀ k, v.ownBlock = some k → w.heap.size ≤ k
theorem newNone (w : World) : NewInts w w (.slice none 0 0) [] := ⟨Own.nil _ _ _, Below.refl _ _, fun k hk => by simp [Value.ownBlock] at hk⟩

section
variable {w : World} {M : WM} {S : WS}


theorem wtrail (h : WAt w M S) (hg : Good S.n S.es) (hn : S.n ≤ 5000) :
    Calls Try.prog 30 #[.pointer (some ⟨M.x, 0, none⟩)] w fun e w' => ∃ g', e = .returned (.pointer (some ⟨g', 0, none⟩)) ∧ Below w.heap.size w w' ∧ ∃ F', TrA w' F' g' (trE S.n S.es) ∧ ∀ k, F' k → w.heap.size ≤ k := by
  have hl := hg.len_le
  have hT : TrA w M.F M.g (trE S.n S.es) := h.part .trail
  have HV := Lib.hid (copy_any M.F M.g (trE S.n S.es) w hT (by show (varsE S.n S.es).length ≤ 5000; rw [varsE_len]; exact hn) (by simp [trE]; omega) (by have h1 := begs_len hg; have h2 := hi_le_len hg; show (begs S.es).length ≤ 5000; omega))
  obtain ⟨c0, _⟩ := h.cells
  clear h hT
  go_enter Try.func30, Try.ntmps30
  go_wp2_with (go_at_call 49; (with_reducible refine HV.out.mono ?_); rintro e w' ⟨g', rfl, hr⟩; have HN := Lib.hid hr; clear hr)
  go_ret
  exact ⟨_, rfl, HN.out⟩

theorem wadd_nil (c : Value) : Calls Try.prog 37 #[.pointer none, c] w fun e w' => e = .returned (.tuple #[.int .i64 0, .int .i64 2]) ∧ Below w.heap.size w w' := by
  have hbW : Below w.heap.size w (w.alloc (.cells #[.pointer none] 55)) := (Below.refl _ _).alloc (Nat.le_refl _) _
  go_enter Try.func37, Try.ntmps37
  go_wp2_with fail
  go_ret2
  exact ⟨rfl, hbW⟩
theorem wback_nil (l : Int) : Calls Try.prog 31 #[.pointer none, .int .i64 l] w fun e w' => e = .returned (.int .i64 2) ∧ w = w' := by
  go_enter Try.func31, Try.ntmps31
  go_wp2_with fail
  go_ret
  exact ⟨rfl, rfl⟩
theorem wprop_nil : Calls Try.prog 38 #[.pointer none] w fun e w' => e = .returned (.int .i64 (-1)) ∧ w = w' := by
  go_enter Try.func38, Try.ntmps38
  go_wp2_with fail
  go_ret
  exact ⟨rfl, rfl⟩

theorem wtrail_nil : Calls Try.prog 30 #[.pointer none] w fun e w' => e = .returned (.pointer none) ∧ w = w' := by
  go_enter Try.func30, Try.ntmps30
  go_wp2_with fail
  go_ret
  exact ⟨rfl, rfl⟩
end

end Go.Proofs.Ythinopiobihmaaa
