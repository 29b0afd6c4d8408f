/- A watcher's contracts: look. -/
import Derived.Test.YtnachllhjojlcaaV5
import Derived.StillTailTactics
namespace Go.Proofs.Ytnachllhjojlcaa
open Go.ChangeShapes Go.WideShapes Go.ChangeAt Go.RowKit Go.Maps
set_option maxRecDepth 100000

theorem openL_take {n : Nat} {es : List En} {l : List Int} (k : Nat) (h : k < l.length) : openL n es (l.take (k + 1)) = openL n es (l.take k) ++ if valE n es l[k] = 0 then [l[k]] else [] := by
  unfold openL
  rw [List.take_succ_eq_append_getElem h, List.filter_append]
  congr 1
  by_cases hv : valE n es l[k] = 0 <;> simp [hv]
theorem openL_len {n : Nat} {es : List En} (l : List Int) : (openL n es l).length ≤ l.length := List.length_filter_le _ _

/-- Where the value behind an append lies, in a block that is new. -/
theorem own_above {B : Nat} {ao a : Option Addr} {n cap m c : Nat} {H : Nat} (h : ∀ k, (Value.slice a n c).ownBlock = some k → B ≤ k) (hat : (Value.slice ao m cap).ownBlock = (Value.slice a n c).ownBlock ∨ (Value.slice ao m cap).ownBlock = some H) (hH : B ≤ H) :
    ∀ k, (Value.slice ao m cap).ownBlock = some k → B ≤ k := fun k hk => by
  rcases hat with e | e
  · exact h k (e ▸ hk)
  · rw [e] at hk
    injection hk with hk
    omega
theorem grow_below2 {B : Nat} {a b c : World} {row : Option Nat} (h : Below B a b) (g : b.grownBy c row) (hr : ∀ k, row = some k → B ≤ k) (hB : B ≤ b.heap.size) : Below B a c :=
  h.trans ⟨g.os, g.tape, g.output, g.size, fun k hk => g.block k (by omega) (fun e => by have := hr k e.symm; omega)⟩

set_option maxHeartbeats 2000000 in
theorem wlook_any (w : World) (M : WM) (S : WS) (h : WAt w M S) (hn : S.n ≤ 5000) (hg : Good S.n S.es) (c : Nat) (hc : c < S.ls.length) (hk : ∀ x ∈ S.ls.getD c [], 1 ≤ x.natAbs ∧ x.natAbs ≤ S.n) (hl : (S.ls.getD c []).length ≤ 1000000) :
    Calls Try.prog 43 #[.pointer (some ⟨M.x, 0, none⟩), .int .i64 c] w fun e w' => e = .returned (.bool (lookS S c).2) ∧ WUp 0 w w' M S (lookS S c).1 := by
  obtain ⟨i3, hi3, hz0, hz1, hz2⟩ := info_parts (P := Try.prog) (e := 3) (z := .int .i64 0) (size := 1) (bytes := 8) (by kernel_rfl)
  have hmf : ∀ (fn : Fn) (first cap : Array Value) (w : World), (Instr.makeFunc fn first cap).run Try.prog w = .ok (.func fn first cap) w := fun _ _ _ _ => rfl
  obtain ⟨l, hll⟩ : ∃ l, l = S.ls.getD c [] := ⟨_, rfl⟩
  have hoR : Own w 3 1 (M.L c) _ _ := h.part (.li c) hc
  obtain ⟨aoR, capR, eL, _, _, hfR⟩ := hoR.form
  have hoL : Own w 23 1 M.vL S.ls.length _ := h.part .lits
  obtain ⟨aoL, capL, eLL, _, _, hfL⟩ := hoL.form
  obtain ⟨bL, oL, rfl, hcL, _, hbL⟩ := hfL (by omega)
  have hcl := hcL c (by rw [rowV_len]; exact hc)
  rw [rowV_get _ _ _ hc, eL] at hcl
  have hcs := h.cells
  rw [eLL] at hcs
  rw [← hll] at hk hl hfR hcl
  -- the world with the box
  obtain ⟨W, hW⟩ : ∃ W, W = w.alloc (.cells #[.pointer (some ⟨M.x, 0, none⟩)] 25) := ⟨_, rfl⟩
  have hb : Below w.heap.size w W := by rw [hW]; exact (Below.refl _ _).alloc (Nat.le_refl _) _
  have hcpW : W.cell? ⟨w.heap.size, 0, none⟩ = some (.pointer (some ⟨M.x, 0, none⟩)) := by rw [hW]; exact (Blk.new w _ _).cell 0
  have hlt : w.heap.size < W.heap.size := by rw [hW]; simp
  have hcells : 0 < l.length → ∃ b off, aoR = some ⟨b, off, none⟩ ∧ b < W.heap.size ∧ ∀ j (h : j < l.length), W.cell? ⟨b, off + j, none⟩ = some (.int .i64 l[j]) := fun h0 => by
    obtain ⟨b, off, e, hcc, _, hbl⟩ := hfR h0
    refine ⟨b, off, e, by omega, fun j hj => ?_⟩
    rw [World.cell?_of_block (w := w) (hb.block b hbl), hcc j (by rw [inC_len]; exact hj), inC_getD _ _ hj]
    simp [List.getD, hj]
  have HCF := containsF_wlook1 (fun x => valE S.n S.es x == 1) w.heap.size l aoR capR W (by omega) (fun h0 => by
    obtain ⟨b, off, e, _, hh⟩ := hcells h0
    exact ⟨b, off, e, hh⟩) (fun x hx => wlook1_any (h.below hb) hn hcpW x (by have := hk x hx; exact ⟨by omega, by omega⟩))
  have HAtW : Hid (∀ w', Below W.heap.size W w' → WAt w' M S) := Lib.hid fun w' hb' => h.below (bel_trans hb hb')
  have HCpW : Hid (∀ w', Below W.heap.size W w' → w'.cell? ⟨w.heap.size, 0, none⟩ = some (.pointer (some ⟨M.x, 0, none⟩)) ∧ w'.cell? ⟨M.x, 0, none⟩ = some (.pointer (some ⟨M.g, 0, none⟩))) := Lib.hid fun w' hb' =>
    ⟨(World.cell?_of_block (w := W) (hb'.block _ hlt)).trans hcpW, (h.below (bel_trans hb hb')).cells.1⟩
  have HC := Lib.hid hcells
  have HK := Lib.hid hk
  have hx2 : W.cell? ⟨M.x, 2, none⟩ = some (.slice (some ⟨bL, oL, none⟩) S.ls.length capL) := by
    have := (h.below hb).cells.2.2.1
    rwa [eLL] at this
  have hcl2 : W.cell? ⟨bL, oL + c, none⟩ = some (.slice aoR l.length capR) := (World.cell?_of_block (w := w) (hb.block _ hbL)).trans hcl
  have hci : (c : Int) < (S.ls.length : Int) := by omega
  have HBW := Lib.hid hb
  have HG := Lib.hid hg
  obtain ⟨R, hR⟩ : ∃ R, R = lookS S c := ⟨_, rfl⟩
  rw [← hR]
  unfold lookS at hR
  rw [← hll] at hR
  by_cases hany : (l.any fun x => valE S.n S.es x == 1) = true
  · rw [hany] at HCF
    have HCF2 := Lib.hid HCF
    have HU : Hid (WUp 0 w W M S S) := Lib.hid (h.upBelow hb)
    rw [if_pos hany] at hR
    subst hR
    rw [hW] at HCF2 hx2 hcl2 HU hcpW
    clear HCF hany hcells hk hfR hoR hoL hcL hfL hcs eL eLL hll h hW hg
    go_enter Try.func43, Try.ntmps43
    go_wp2_with (go_at_call 39; (with_reducible refine HCF2.out.mono ?_); rintro e w' ⟨rfl, rfl⟩)
    go_ret
    exact ⟨rfl, HU.out⟩
  · have hany2 : (l.any fun x => valE S.n S.es x == 1) = false := by simpa using hany
    rw [hany2] at HCF
    have HCF2 := Lib.hid HCF
    rw [if_neg hany] at hR
    obtain ⟨O, hO⟩ : ∃ O, O = openL S.n S.es l := ⟨_, rfl⟩
    have hOl : O.length ≤ l.length := by rw [hO]; exact openL_len l
    have HO := Lib.hid hO
    have hok : ∀ x ∈ O, 1 ≤ x.natAbs ∧ x.natAbs ≤ S.n := fun x hx => hk x (by rw [hO] at hx; unfold openL at hx; exact (List.mem_filter.1 hx).1)
    have HOk := Lib.hid hok
    have HUb : Hid (∀ w', Below W.heap.size W w' → WUp 0 w w' M S S) := Lib.hid fun w' hb' => h.upBelow (bel_trans hb hb')
    rw [← hO] at hR
    have HR := Lib.hid hR
    clear hR
    have HTr : Hid (∀ w' x, Below W.heap.size W w' → I64 x → Calls Try.prog 63 #[.pointer (some ⟨M.g, 0, none⟩), .int .i64 x, .int .i64 (c : Int)] w' fun e w'' => e = .returned (.int .i64 (asnC S.n S.es x c).1) ∧ WUp 0 w w'' M S (S.wEs (asnC S.n S.es x c).2)) := Lib.hid fun w' x hb' hx => by
      have h1 := h.below (bel_trans hb hb')
      refine (assign_any M.F M.g S.n S.es x c w' (h1.part .trail) hg hn hx.1 hx.2).mono ?_
      rintro e w'' ⟨rfl, hT⟩
      exact ⟨rfl, (h1.trail hT).after (bel_trans hb hb')⟩
    have HWs : Hid (W = w.alloc (.cells #[.pointer (some ⟨M.x, 0, none⟩)] 25)) := Lib.hid hW
    have hbW : Below W.heap.size W W := Below.refl _ _
    have HV : Hid (∀ w' x, Below W.heap.size W w' → x ∈ l → Calls Try.prog 15 #[.pointer (some ⟨M.x, 0, none⟩), .int .i64 x] w' fun e w'' => e = .returned (.int .i64 (valE S.n S.es x)) ∧ w' = w'') := Lib.hid fun w' x hb' hx =>
      wvalue (HAtW.out w' hb') hn x (by have := HK.out x hx; exact ⟨by omega, by omega⟩)
    clear HCF hany hany2 hcells hk hfR hoR hoL hcL hfL hcs eL eLL hll h hO hok hg hb
    go_enter Try.func43, Try.ntmps43
    go_upto_region 1 with fail
    rw [← hW]
    clear hW
    go_wp2_with (go_at_call 39; (with_reducible refine HCF2.out.mono ?_); rintro e w' ⟨rfl, rfl⟩)
    go_loopw [6, 21] (fun s6 s21 wr => ∃ (k : Nat) (acc : List Int) (a : Option Addr) (cp : Nat), k ≤ l.length ∧ s21 = .int .i64 k ∧ s6 = .slice a acc.length cp ∧ Hid (acc = openL S.n S.es (l.take k)) ∧ Hid (Own wr 3 1 (.slice a acc.length cp) acc.length (inC acc)) ∧
      Hid (∀ k, (Value.slice a acc.length cp).ownBlock = some k → W.heap.size ≤ k) ∧ Hid (Below W.heap.size W wr)) (fun _ s _ => l.length - (intOf s).toNat)
    case atStart => exact ⟨0, [], none, 0, by omega, rfl, rfl, Lib.hid rfl, Lib.hid (Own.nil _ _ _), Lib.hid fun k hk => by simp [Value.ownBlock] at hk, Lib.hid hbW⟩
    case round =>
      obtain ⟨k, acc, a, cp, hkl, rfl, rfl, HA, HOw, HNew, HB⟩ := hrel
      have hal : acc.length ≤ 1000000 := by
        rw [HA.out]
        have h1 := openL_len (n := S.n) (es := S.es) (l.take k)
        rw [List.length_take] at h1
        omega
      by_cases hlt : k < l.length
      · have hki : (k : Int) < (l.length : Int) := by omega
        obtain ⟨b, off, rfl, hbl, hcc⟩ := HC.out (by omega)
        have hck : wr.cell? ⟨b, off + k, none⟩ = some (.int .i64 l[k]) := (World.cell?_of_block (w := W) (HB.out.block b hbl)).trans (hcc k hlt)
        have htk := openL_take (n := S.n) (es := S.es) k hlt
        rw [← HA.out] at htk
        have HVk := Lib.hid (HV.out _ l[k] HB.out (List.getElem_mem _))
        obtain ⟨hcb1, hcb2⟩ := HCpW.out _ HB.out
        generalize l[k] = x at *
        generalize valE S.n S.es x = v at *
        by_cases hv : v = 0
        · subst hv
          rw [if_pos rfl] at htk
          have HT := Lib.hid htk
          have HOw2 := Lib.hid (HOw.out.alloc (.cells #[.int .i64 x] 3))
          have hbB : Below W.heap.size W (wr.alloc (.cells #[.int .i64 x] 3)) := HB.out.alloc HB.out.size _
          have HBB := Lib.hid hbB
          clear htk hcc hbB
          go_wp2_with (first
            | (go_at_call 15; (with_reducible refine HVk.out.mono ?_); rintro e w' ⟨rfl, rfl⟩)
            | (at_builtin; refine wpList_append_S _ rfl (.tmp 29) (.tmp 31) _ _ rfl 3 i3 _ 1 8 Try.underlying23 hi3 hz0 hz1 hz2 rfl (by omega) (.slice a acc.length cp) acc.length (inC acc) rfl HOw2.out (in_one _) _ 1 [_] rfl (src_new wr Try.underlying23 3 _ rfl) (by simp only [maxLen]; omega) (by omega) ?_; intro ao2 cap2 w10 hn1 hm1 hown1 hg1 hat1 hlt1; have H1 := Lib.hid hown1; have H2 := Lib.hid hg1; have H3 := Lib.hid hat1; clear hown1 hg1 hat1 hlt1 hn1 hm1))
          go_roundw
          case rel =>
            have hle : (acc ++ [x]).length = acc.length + 1 := by simp
            have hin : inC (acc ++ [x]) = inC acc ++ [.int .i64 x] := by simp [inC]
            refine ⟨k + 1, acc ++ [x], ao2, cap2, by omega, by go_num, by rw [hle], Lib.hid HT.out.symm, Lib.hid (by rw [hle, hin]; exact H1.out), Lib.hid ?_, Lib.hid (grow_below2 HBB.out H2.out HNew.out HBB.out.size)⟩
            rw [hle]
            exact own_above HNew.out H3.out HBB.out.size
          case measure => simp [intOf]; omega
        · have hv2 : (v == 0) = false := by simpa using hv
          rw [if_neg hv, List.append_nil] at htk
          have HT := Lib.hid htk
          clear htk hcc hv
          go_wp2_with (go_at_call 15; (with_reducible refine HVk.out.mono ?_); rintro e w' ⟨rfl, rfl⟩)
          go_roundw
          case rel => exact ⟨k + 1, acc, a, cp, by omega, by go_num, rfl, Lib.hid HT.out.symm, HOw, HNew, HB⟩
          case measure => simp [intOf]; omega
      · obtain rfl : k = l.length := by omega
        have hacc : acc = O := by rw [HA.out, List.take_length, HO.out]
        subst hacc
        obtain ⟨w5, rfl⟩ : ∃ w5 : World, w5 = wr := ⟨_, rfl⟩
        rcases acc with _ | ⟨x, _ | ⟨y, r⟩⟩
        · obtain rfl : R = (S, true) := HR.out
          have HUw := Lib.hid (HUb.out _ HB.out)
          clear HB HOw HNew HA HR
          go_wp2_with fail
          go_ret
          exact ⟨rfl, HUw.out⟩
        · obtain rfl : R = (S.wEs (asnC S.n S.es x c).2, false) := HR.out
          obtain ⟨hcb1, hcb2⟩ := HCpW.out _ HB.out
          obtain ⟨ao', cap', e, _, _, hf⟩ := HOw.out.form
          injection e with e1 _ _
          subst e1
          obtain ⟨b, off, rfl, hcc, _, _⟩ := hf (by simp)
          have hc0 := hcc 0 (by simp [inC])
          have hc0' : w5.cell? ⟨b, off, none⟩ = some (.int .i64 x) := hc0
          have hxk := HOk.out x (List.mem_cons_self ..)
          have hbd : Below W.heap.size W w5.drew := bel_drewN HB.out 1
          have HTx := Lib.hid (HTr.out _ x hbd ⟨by omega, by omega⟩)
          obtain ⟨hcd1, hcd2⟩ := HCpW.out _ hbd
          have hcd0 : w5.drew.cell? ⟨b, off, none⟩ = some (.int .i64 x) := hc0
          obtain ⟨wd, hwd⟩ : ∃ wd, wd = w5.drew := ⟨_, rfl⟩
          have h1l : ([x] : List Int).length = 1 := rfl
          rw [← hwd] at HTx hcd1 hcd2 hcd0
          simp only [List.length_cons, List.length_nil, Nat.zero_add]
          clear HB HOw HNew HA hf hcc hbd hc0 h1l hal HR
          go_upto_region 15 with fail
          refine wp_region_still_tail 9 (by kernel_rfl) (by kernel_rfl) ?_
          change wpStill _ _ (World.drew w5) (fun a' => wpList _ _ _ _ a' (World.drew w5)) _ _
          rw [← hwd]
          clear hwd
          simp only [List.take_succ_cons, List.take_zero, List.drop_succ_cons, List.drop_zero]
          repeat still_step
          refine wpStill_nil ?_
          go_wp2_with (go_at_call 63; (with_reducible refine HTx.out.mono ?_); rintro e w6 ⟨rfl, hU⟩)
          go_ret
          exact ⟨rfl, hU⟩
        · obtain rfl : R = (S, false) := HR.out
          have HUw := Lib.hid (HUb.out _ HB.out)
          have h2 : (((x :: y :: r).length : Int) == 0) = false := by simp; omega
          have h3 : (((x :: y :: r).length : Int) == 1) = false := by simp; omega
          simp only [List.length_cons] at h2 h3 hal ⊢
          clear HB HOw HNew HA HR
          go_wp2_with fail
          go_ret
          exact ⟨rfl, HUw.out⟩

end Go.Proofs.Ytnachllhjojlcaa
