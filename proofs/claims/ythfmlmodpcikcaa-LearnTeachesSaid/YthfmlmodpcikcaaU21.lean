/- The document's answer for learn: Learn. -/
import Derived.Test.YthfmlmodpcikcaaU20
namespace Go.Proofs.Ythfmlmodpcikcaa
open Go.ChangeShapes Go.WideShapes Go.ChangeAt Go.RowKit Go.Maps Go.Deep
set_option maxRecDepth 100000

theorem ent_of {n : Nat} {es : List En} {x : Int} (h : valE n es x = -1) (hx : 1 ≤ x.natAbs ∧ x.natAbs ≤ n) : ∃ e ∈ es, es.reverse[posX es x]? = some e ∧ e.lit = -x ∧ e.level = levX n es x ∧ e.reason = (ofE n es ((x.natAbs : Int) - 1)).reason := by
  obtain ⟨e, h1, h2, _, _⟩ := val_false h
  have h3 := posV_at h1
  have h4 : ((x.natAbs : Int) - 1) = ((x.natAbs - 1 : Nat) : Int) := by omega
  refine ⟨e, (look_some h1).1, h3, h2, ?_, ?_⟩
  · unfold levX
    rw [h4, of_var _ (by omega), h1]
    rfl
  · rw [h4, of_var _ (by omega), h1]
    rfl

theorem filter_one {C : List Int} (h : C.Nodup) (x : Int) : (C.filter fun y => y == x) = if x ∈ C then [x] else [] := by
  induction C with
  | nil => simp
  | cons a C ih =>
    have h' := List.nodup_cons.1 h
    rw [List.filter_cons, ih h'.2]
    by_cases hax : a = x
    · subst hax
      simp [h'.1]
    · have h1 : (a == x) = false := by simpa using hax
      have h2 : x ≠ a := fun e => hax e.symm
      simp [h1, h2]

/-- The last of the greatest places so far. -/
def LastOf (es : List En) (C : List Int) (j : Nat) (last : Int) : Prop :=
  (j = 0 ∧ last = -1) ∨ ∃ m : Nat, m < j ∧ last = m ∧ ∀ (hm : m < C.length) (i : Nat) (hi : i < C.length), i < j → posX es C[i] ≤ posX es C[m]

theorem highC_take {n : Nat} {es : List En} {C : List Int} (j : Nat) (h : j < C.length) : highC n es (C.take (j + 1)) = highC n es (C.take j) + if levX n es C[j] = hi es then 1 else 0 := by
  unfold highC
  rw [List.take_succ_eq_append_getElem h, List.filter_append, List.length_append]
  congr 1
  by_cases hl : levX n es C[j] = hi es <;> simp [hl]
theorem highC_le {n : Nat} {es : List En} (C : List Int) : highC n es C ≤ C.length := List.length_filter_le _ _

theorem Corr.len {n : Nat} {es : List En} {hp : Nat → Bool} {C : List Int} (h : Corr n es hp C) : C.length ≤ es.length := by
  have h1 := cntB_list (fun _ => true) (C.map (posX es)) es.length (nodup_pos h.nodup h.val) (fun j hj => by
    obtain ⟨x, hx, rfl⟩ := List.mem_map.1 hj
    exact pos_lt (h.val x hx))
  have h2 := cntB_le (fun j => decide (j ∈ C.map (posX es)) && true) es.length
  have h3 : (List.filter (fun _ => true) (C.map (posX es))) = C.map (posX es) := List.filter_eq_self.2 fun _ _ => rfl
  rw [h1, h3, List.length_map] at h2
  exact h2

def LearnRet (w : World) (e : Ending) (w' : World) (R : Taught) : Prop :=
  ∃ a1 c1 a2 c2, e = .returned (.tuple #[.slice a1 R.1.length c1, .int .i64 R.2.1, .slice a2 R.2.2.1.length c2, .int .i64 R.2.2.2]) ∧ Ints w' a1 R.1 ∧ Ints w' a2 R.2.2.1 ∧ Below w.heap.size w w'
theorem ret_none {w w' : World} (b e : Int) (hb : Below w.heap.size w w') : LearnRet w (.returned (.tuple #[.slice none 0 0, .int .i64 b, .slice none 0 0, .int .i64 e])) w' ([], b, [], e) :=
  ⟨none, 0, none, 0, rfl, fun h => absurd h (by simp), fun h => absurd h (by simp), hb⟩

set_option maxHeartbeats 8000000 in
theorem rlearn_any (X : Nat → Prop) (x n : Nat) (es : List En) (cls : List (List Int)) (ao : Option Addr) (cap : Nat) (conflict : Int) (w : World) (hR : RefA w X x n es) (hg : Good n es) (hn : n ≤ 5000)
    (hc : IsCls w ao cls) (hcl : ∀ c ∈ cls, c.length ≤ 1000) (hln : cls.length ≤ 1000000) (hi64 : ∀ c ∈ cls, ∀ x ∈ c, I64 x) :
    Calls Try.prog 19 #[.pointer (some ⟨x, 0, none⟩), .slice ao cls.length cap, .int .i64 conflict] w fun e w' => LearnRet w e w' (learnE n es cls conflict) := by
  obtain ⟨i3, hi3, hz0, hz1, hz2⟩ := info_parts (P := Try.prog) (e := 3) (z := .int .i64 0) (size := 1) (bytes := 8) (by kernel_rfl)
  obtain ⟨R, hRR⟩ : ∃ R, R = learnE n es cls conflict := ⟨_, rfl⟩
  have hlen := hg.len_le
  rw [← hRR]
  by_cases h0 : conflict < 0 ∨ (cls.length : Int) ≤ conflict
  · have e1 : R = ([], 0, [], 1) := by rw [hRR]; unfold learnE; rw [if_pos h0]
    subst e1
    clear hRR
    by_cases h1 : conflict < 0
    · go_enter Try.func19, Try.ntmps19
      go_wp2_with fail
      (try simp only [Exit.inBlock, Exit.then])
      refine bodyPost_ret (results_tmp4 rfl _ _ _) rfl ?_
      exact ret_none _ _ (Below.refl _ _)
    · have h2 : decide (conflict < 0) = false := by simpa using h1
      have h3 : (cls.length : Int) ≤ conflict := by omega
      go_enter Try.func19, Try.ntmps19
      go_wp2_with fail
      (try simp only [Exit.inBlock, Exit.then])
      refine bodyPost_ret (results_tmp4 rfl _ _ _) rfl ?_
      exact ret_none _ _ (Below.refl _ _)
  · obtain ⟨c, rfl⟩ : ∃ c : Nat, conflict = c := ⟨conflict.toNat, by omega⟩
    have hcc : c < cls.length := by omega
    have hci : (c : Int) < (cls.length : Int) := by omega
    unfold learnE at hRR
    rw [if_neg h0] at hRR
    simp only [Int.toNat_natCast] at hRR
    have hgetD : ∀ j (h : j < cls.length), cls.getD j [] = cls[j] := fun j h => by rw [List.getD_eq_getElem?_getD, List.getElem?_eq_getElem h]; rfl
    rw [hgetD c hcc] at hRR
    have HGD := Lib.hid hgetD
    have HG := Lib.hid hg
    -- the clauses, at whatever world
    obtain ⟨cb, co, hao, _, hrows⟩ := hc (by omega)
    obtain ⟨Y, hY⟩ := choose_lt (n := cls.length) (p := fun j (y : Option Addr × Nat) => ∀ h : j < cls.length, w.cell? ⟨cb, co + j, none⟩ = some (.slice y.1 cls[j].length y.2) ∧ Ints w y.1 cls[j]) (fun j h => by
      obtain ⟨a', c', h1, h2⟩ := hrows j h
      exact ⟨(a', c'), fun _ => ⟨h1, h2⟩⟩)
    subst hao
    have hcbl : cb < w.heap.size := by assumption
    have HCl : Hid (∀ w', Below w.heap.size w w' → ∀ j (h : j < cls.length), w'.cell? ⟨cb, co + j, none⟩ = some (.slice (Y j).1 cls[j].length (Y j).2) ∧ Ints w' (Y j).1 cls[j]) := Lib.hid fun w' hb j h =>
      ⟨(World.cell?_of_block (w := w) (hb.block cb hcbl)).trans (hY j h h).1, (hY j h h).2.below hb⟩
    have HLe : Hid (∀ j (h : j < cls.length), cls[j].length ≤ 1000) := Lib.hid fun j h => hcl _ (List.getElem_mem h)
    -- the functions, at whatever world
    have HKn : Hid (∀ w' (l : List Int) a' c', Below w.heap.size w w' → Ints w' a' l → l.length ≤ 1000 → (∀ x ∈ l, I64 x) → Calls Try.prog 40 #[.pointer (some ⟨x, 0, none⟩), .slice a' l.length c'] w' fun e w'' => e = .returned (.bool (knownB n l)) ∧ Below w'.heap.size w' w'') := Lib.hid fun w' l a' c' hb hi hl h64 => by
      obtain ⟨v, k1, _, _, _⟩ := hR.below hb
      exact rknown_any x n v _ l a' c' w' k1 hn (by omega) hi h64
    have HAh : Hid (∀ w' (l : List Int) a' c' p, Below w.heap.size w w' → Ints w' a' l → l.length ≤ 1000 → knownB n l = true → Calls Try.prog 41 #[.pointer (some ⟨x, 0, none⟩), .slice a' l.length c', .int .i64 p] w' fun e w'' => e = .returned (.bool (aheadB n es l p)) ∧ w' = w'') :=
      Lib.hid fun w' l a' c' p hb hi hl hk => rahead_any X x n es l a' c' p w' (hR.below hb) hg hn (by omega) hi hk
    have HPl : Hid (∀ w' y, Below w.heap.size w w' → 1 ≤ y.natAbs ∧ y.natAbs ≤ n → valE n es y = -1 → Calls Try.prog 43 #[.pointer (some ⟨x, 0, none⟩), .int .i64 y] w' fun e w'' => e = .returned (.int .i64 (posX es y)) ∧ w' = w'') := Lib.hid fun w' y hb hy hv => by
      have h := rplace_any X x n es y w' (hR.below hb) hg hn hy.1 hy.2
      rwa [place_of hv] at h
    -- the trail's own cells
    obtain ⟨vL, hbk, hO, _, _⟩ := hR
    obtain ⟨aoL, capL, rfl, -, -, -⟩ := hO.form
    have HRf : Hid (∀ w', Below w.heap.size w w' → w'.cell? ⟨x, 1, none⟩ = some (.slice aoL es.length capL) ∧ w'.cell? ⟨x, 2, none⟩ = some (.int .i64 (hi es))) := Lib.hid fun w' hb => by
      have h1 := (hbk.below hb hbk.lt).cell 1
      have h2 := (hbk.below hb hbk.lt).cell 2
      simp at h1 h2
      exact ⟨h1, h2⟩
    have HEn : Hid (∀ w' k e, Below w.heap.size w w' → k < es.length → es.reverse[k]? = some e → ∃ bl off, aoL = some ⟨bl, off, none⟩ ∧ w'.cell? ⟨bl, off + k * 3, none⟩ = some (.int .i64 e.lit) ∧ w'.cell? ⟨bl, off + k * 3 + 1, none⟩ = some (.int .i64 e.level) ∧ w'.cell? ⟨bl, off + k * 3 + 2, none⟩ = some (.int .i64 e.reason)) := Lib.hid fun w' k e hb hk he => by
      obtain ⟨bl, off, cap', e1, h1, h2, h3, _⟩ := ref_at (hO.new hb) k e hk he
      injection e1 with e1 _ _
      exact ⟨bl, off, e1, h1, h2, h3⟩
    have H64 := Lib.hid hi64
    have hn1 : decide ((c : Int) < 0) = false := by simp
    clear hc hcl hi64 hbk hO hgetD hg hY hrows
    have hl5 := HLe.out c hcc
    have h64c := H64.out cls[c] (List.getElem_mem hcc)
    obtain ⟨hcv, hcx⟩ := HCl.out w (Below.refl _ _) c hcc
    have HCc : Hid (∀ w', Below w.heap.size w w' → w'.cell? ⟨cb, co + c, none⟩ = some (.slice (Y c).1 cls[c].length (Y c).2) ∧ Ints w' (Y c).1 cls[c]) := Lib.hid fun w' hb => HCl.out w' hb c hcc
    have hY0 : ∃ a0 c0, Y c = (a0, c0) := ⟨_, _, rfl⟩
    obtain ⟨a0, c0, hY0⟩ := hY0
    rw [hY0] at hcv hcx HCc
    generalize cls[c] = l at *
    clear hY0
    by_cases hkn : knownB n l = true
    · by_cases hah : aheadB n es l es.length = true
      · have hT0 : (takeC n es l 0 es.length (fun _ => false)).1 = 0 := by rw [takeC_ask0 hkn, hah]; rfl
        have hCo := Corr.first hT0
        rw [if_pos hT0, hCo.high] at hRR
        have HCo := Lib.hid hCo
        have HRR := Lib.hid hRR
        have hcolen : (withL [] l).length ≤ 1000 := by have := withL_len [] l; simp at this; omega
        have HK := HKn.out w l a0 c0 (Below.refl _ _) hcx hl5 h64c
        rw [hkn] at HK
        have HKh := Lib.hid HK
        have HA : Hid (∀ w1, Below w.heap.size w w1 → ∀ m, Calls Try.prog 41 #[.pointer (some ⟨x, 0, none⟩), .slice a0 l.length c0, .int .i64 (es.length : Int)] (w1.drewN m) fun e w'' => e = .returned (.bool true) ∧ w'' = w1.drewN m) := Lib.hid fun w1 hb m => by
          have h := HAh.out (w1.drewN m) l a0 c0 es.length (bel_drewN hb m) (HCc.out _ (bel_drewN hb m)).2 hl5 hkn
          rw [hah] at h
          exact h.mono fun _ _ hh => ⟨hh.1, hh.2.symm⟩
        have HWf : Hid (∀ w', Below w.heap.size w w' → Calls Try.prog 42 #[.slice none 0 0, .slice a0 l.length c0] w' fun e w'' => ∃ a c, e = .returned (.slice a (withL [] l).length c) ∧ NewInts w'.heap.size w'' a c (withL [] l) ∧ Below w'.heap.size w' w'') := Lib.hid fun w' hb =>
          rwith_any [] l none a0 0 c0 w' (Own.nil _ _ _) (HCc.out w' hb).2 (by simp) (by omega)
        generalize (takeC n es l 0 es.length (fun _ => false)).2 = hp0 at *
        generalize withL [] l = C0 at *
        clear hRR hCo hT0 HK hah
        go_enter Try.func19, Try.ntmps19
        go_upto_region 3 with (go_at_call 40; (with_reducible refine HKh.out.mono ?_); rintro e w1 ⟨rfl, hb1⟩)
        have hcv1 := (HCc.out _ hb1).1
        obtain ⟨hr1, hr2⟩ := HRf.out _ hb1
        have HA1 := Lib.hid (HA.out _ hb1)
        have HB1 := Lib.hid hb1
        clear hb1 HA hcv HKh
        go_quiet (first | (go_at_call 41; exact Calls.quiet_of_same (HA1.out _)))
        have hb2 : Below w.heap.size w (w1.drewN nq) := bel_drewN HB1.out nq
        have HWf1 := Lib.hid (HWf.out _ hb2)
        have hcv2 := (HCc.out _ hb2).1
        have HB2 := Lib.hid hb2
        clear hb2 HWf HA1 HB1 hcv1 hr1 hr2
        go_wp2_with (go_at_call 42; (with_reducible refine HWf1.out.mono ?_); rintro e w3 ⟨a3, c3, rfl, hN3, hB3⟩)
        have hb4 : Below w.heap.size w w3 := bel_new HB2.out HB2.out.size hB3
        have hb5 : Below w.heap.size w (w3.alloc (.cells #[.int .i64 c] 3)) := hb4.alloc hb4.size _
        have HB5 := Lib.hid hb5
        have HN5 := Lib.hid ((hN3.mono (B' := w.heap.size) HB2.out.size).below ((Below.refl _ w3).alloc (Nat.le_refl _) (.cells #[.int .i64 c] 3)))
        have HO5 : Hid (NewInts w.heap.size (w3.alloc (.cells #[.int .i64 c] 3)) (some ⟨w3.heap.size, 0, none⟩) 1 [(c : Int)]) := Lib.hid ⟨Own.made w3 3 1 #[.int .i64 c] 1 rfl (by decide), fun k hk => by
          simp [Value.ownBlock] at hk
          have := hb4.size
          omega⟩
        clear hB3 hN3 hb4 hb5 HB2 hcv2 HWf1
        go_loopw [10, 11] (fun s10 s11 wr => ∃ (k : Nat) (hp : Nat → Bool) (C bs : List Int) (a1 : Option Addr) (c1 : Nat) (a2 : Option Addr) (c2 : Nat), s10 = .slice a1 C.length c1 ∧ s11 = .slice a2 bs.length c2 ∧ Hid (Corr n es hp C) ∧ Hid (R = if highC n es C = 0 ∧ 0 < hi es then ([], 0, [], 7) else loopL n es cls k hp bs) ∧ Hid (maxH es.length hp + 2 ≤ k) ∧ Hid (bs.length + maxH es.length hp ≤ es.length) ∧
          Hid (NewInts w.heap.size wr a1 c1 C) ∧ Hid (NewInts w.heap.size wr a2 c2 bs) ∧ Hid (Below w.heap.size w wr)) (fun _ x _ => es.length + 2 - sliceLen x)
        case atStart =>
          have hr := maxH_range hp0 es.length
          exact ⟨es.length + 2, hp0, C0, [(c : Int)], a3, c3, _, _, rfl, rfl, HCo, HRR, Lib.hid (by omega), Lib.hid (by simp; omega), HN5, HO5, HB5⟩
        case round =>
          obtain ⟨k, hp, C, bs, a1, c1, a2, c2, rfl, rfl, HCo, HRR, HK, HM, HNC, HNB, HB⟩ := hrel
          have hCl : C.length ≤ 5000 := by have := HCo.out.len; omega
          obtain ⟨wo, rfl⟩ : ∃ wo : World, wo = wr := ⟨_, rfl⟩
          obtain ⟨hv, hhv⟩ : ∃ hv, hv = hi es := ⟨_, rfl⟩
          have HHv := Lib.hid hhv
          rw [← hhv] at HRf HRR
          have HCx : Hid (∀ w', Below wo.heap.size wo w' → ∀ i (h : i < C.length), ∃ b1 o1, a1 = some ⟨b1, o1, none⟩ ∧ w'.cell? ⟨b1, o1 + i, none⟩ = some (.int .i64 C[i])) := Lib.hid fun w' hb i h => by
            obtain ⟨b1, o1, e, _, hh⟩ := (HNC.out.below hb).ints (by omega)
            exact ⟨b1, o1, e, hh i h⟩
          clear hhv HN5 HO5 HB5
          go_wp2_with fail
          go_loopw [12, 13, 14] (fun h l i wq => ∃ (j : Nat) (last : Int), j ≤ C.length ∧ i = .int .i64 j ∧ h = .int .i64 (highC n es (C.take j) : Nat) ∧ l = .int .i64 last ∧ Hid (LastOf es C j last) ∧ Hid (Below wo.heap.size wo wq)) (fun _ _ i _ => C.length - (intOf i).toNat)
          case atStart => exact ⟨0, -1, by omega, rfl, rfl, rfl, Lib.hid (.inl ⟨rfl, rfl⟩), Lib.hid (Below.refl _ _)⟩
          case round =>
            obtain ⟨j, last, hj, rfl, rfl, rfl, HL, HBj⟩ := hrel
            have HBw := Lib.hid (bel_new HB.out HB.out.size HBj.out)
            by_cases hjl : j < C.length
            · have hji : (j : Int) < (C.length : Int) := by omega
              have hyv := HCo.out.val C[j] (List.getElem_mem hjl)
              have hyk := knownB_mem HCo.out.known C[j] (List.getElem_mem hjl)
              obtain ⟨e, he, hrev, hel, hev, _⟩ := ent_of hyv hyk
              have hpl := pos_lt hyv
              have HPy := Lib.hid (HPl.out _ C[j] HBw.out hyk hyv)
              obtain ⟨bl, off, rfl, hcl1, hcl2, hcl3⟩ := HEn.out _ _ e HBw.out hpl hrev
              obtain ⟨hr1, hr2⟩ := HRf.out _ HBw.out
              obtain ⟨b1, o1, rfl, hcj⟩ := HCx.out _ HBj.out j hjl
              have hht := highC_take (n := n) (es := es) j hjl
              rw [hev] at hcl2
              rw [← HHv.out] at hht
              have hhb := highC_le (n := n) (es := es) (C.take j)
              rw [List.length_take] at hhb
              have hlast := HL.out
              generalize hy : C[j] = y at *
              generalize hp' : posX es y = p at *
              generalize hlv' : levX n es y = lv at *
              have hpi : (p : Int) < (es.length : Int) := by omega
              generalize highC n es (C.take j) = hg at *
              have Hy := Lib.hid hy
              have Hp := Lib.hid hp'
              rcases hlast with ⟨hj0, hl0⟩ | ⟨m, hm, hlm, hmax⟩
              · subst hl0
                have HLn : Hid (LastOf es C (j + 1) ((j : Nat) : Int)) := Lib.hid (.inr ⟨j, by omega, rfl, fun _ i hi hij => by
                  have : i = j := by omega
                  subst this
                  exact Nat.le_refl _⟩)
                clear hj0 hy hp' hlv' hev hel he hrev hyv hyk HL
                by_cases hlv : lv = hv
                · have hlv2 : (lv == hv) = true := by simpa using hlv
                  rw [if_pos hlv] at hht
                  have HHt := Lib.hid hht
                  clear hht hlv
                  go_wp2_with (go_at_call 43; (with_reducible refine HPy.out.mono ?_); rintro e w' ⟨rfl, rfl⟩)
                  go_quiet (fail)
                  have hbq : Below w.heap.size w (wr.drewN nq) := bel_drewN HBw.out nq
                  obtain ⟨hq1, hq2⟩ := HRf.out _ hbq
                  have HBq := Lib.hid hbq
                  clear hbq
                  go_wp2_with fail
                  go_roundw
                  case rel => exact ⟨j + 1, ((j : Nat) : Int), by omega, by go_num, by rw [HHt.out]; go_num, rfl, HLn, Lib.hid (bel_drewN HBj.out nq)⟩
                  case measure => simp [intOf]; omega
                · have hlv2 : (lv == hv) = false := by simpa using hlv
                  rw [if_neg hlv] at hht
                  have HHt := Lib.hid hht
                  clear hht hlv
                  go_wp2_with (go_at_call 43; (with_reducible refine HPy.out.mono ?_); rintro e w' ⟨rfl, rfl⟩)
                  go_quiet (fail)
                  have hbq : Below w.heap.size w (wr.drewN nq) := bel_drewN HBw.out nq
                  obtain ⟨hq1, hq2⟩ := HRf.out _ hbq
                  have HBq := Lib.hid hbq
                  clear hbq
                  go_wp2_with fail
                  go_roundw
                  case rel => exact ⟨j + 1, ((j : Nat) : Int), by omega, by go_num, by rw [HHt.out]; rfl, rfl, HLn, Lib.hid (bel_drewN HBj.out nq)⟩
                  case measure => simp [intOf]; omega
              · subst hlm
                have hmC : m < C.length := by omega
                have hmv := HCo.out.val C[m] (List.getElem_mem hmC)
                have hmk := knownB_mem HCo.out.known C[m] (List.getElem_mem hmC)
                have hmax2 := hmax hmC
                have HMax := Lib.hid hmax2
                have hmi : (m : Int) < (C.length : Int) := by omega
                have hm0 : decide ((m : Int) < 0) = false := by simp
                have HCm : Hid (∀ w', Below wo.heap.size wo w' → w'.cell? ⟨b1, o1 + m, none⟩ = some (.int .i64 C[m])) := Lib.hid fun w' hb => by
                  obtain ⟨b1', o1', e1, hh⟩ := HCx.out w' hb m hmC
                  injection e1 with e1
                  injection e1 with e1 e2
                  subst e1 e2
                  exact hh
                have HPm : Hid (∀ w', Below w.heap.size w w' → Calls Try.prog 43 #[.pointer (some ⟨x, 0, none⟩), .int .i64 C[m]] w' fun e w'' => e = .returned (.int .i64 (posX es C[m])) ∧ w' = w'') := Lib.hid fun w' hb => HPl.out w' _ hb hmk hmv
                obtain ⟨q, hq⟩ : ∃ q, q = posX es C[m] := ⟨_, rfl⟩
                have Hq := Lib.hid hq
                rw [← hq] at HPm
                generalize hz : C[m] = z at *
                have Hz := Lib.hid hz
                clear hz
                by_cases hpq : q < p
                · have hpq2 : decide ((q : Int) < (p : Int)) = true := by simpa using hpq
                  have hpq3 : decide (q < p) = true := by simpa using hpq
                  have HLn : Hid (LastOf es C (j + 1) ((j : Nat) : Int)) := Lib.hid (.inr ⟨j, by omega, rfl, fun hjC i hi hij => by
                    by_cases hij2 : i = j
                    · subst hij2; exact Nat.le_refl _
                    · have h1 := HMax.out i hi (by omega)
                      have h2 := Hp.out
                      have h3 := Hq.out
                      rw [← Hy.out] at h2
                      omega⟩)
                  clear hy hp' hlv' hev hel he hrev hyv hyk HL hmax hmax2 hmv hmk hq
                  by_cases hlv : lv = hv
                  · have hlv2 : (lv == hv) = true := by simpa using hlv
                    rw [if_pos hlv] at hht
                    have HHt := Lib.hid hht
                    clear hht hlv
                    go_wp2_with (go_at_call 43; (with_reducible refine HPy.out.mono ?_); rintro e w' ⟨rfl, rfl⟩)
                    go_quiet (fail)
                    have hbq : Below w.heap.size w (wr.drewN nq) := bel_drewN HBw.out nq
                    obtain ⟨hq1, hq2⟩ := HRf.out _ hbq
                    have hcm := HCm.out _ (bel_drewN HBj.out nq)
                    have HPm1 := Lib.hid (HPm.out _ hbq)
                    have HBq := Lib.hid hbq
                    clear hbq
                    go_wp2_with (go_at_call 43; (with_reducible refine HPm1.out.mono ?_); rintro e w' ⟨rfl, rfl⟩)
                    go_roundw
                    case rel => exact ⟨j + 1, ((j : Nat) : Int), by omega, by go_num, by rw [HHt.out]; go_num, rfl, HLn, Lib.hid (bel_drewN HBj.out nq)⟩
                    case measure => simp [intOf]; omega
                  · have hlv2 : (lv == hv) = false := by simpa using hlv
                    rw [if_neg hlv] at hht
                    have HHt := Lib.hid hht
                    clear hht hlv
                    go_wp2_with (go_at_call 43; (with_reducible refine HPy.out.mono ?_); rintro e w' ⟨rfl, rfl⟩)
                    go_quiet (fail)
                    have hbq : Below w.heap.size w (wr.drewN nq) := bel_drewN HBw.out nq
                    obtain ⟨hq1, hq2⟩ := HRf.out _ hbq
                    have hcm := HCm.out _ (bel_drewN HBj.out nq)
                    have HPm1 := Lib.hid (HPm.out _ hbq)
                    have HBq := Lib.hid hbq
                    clear hbq
                    go_wp2_with (go_at_call 43; (with_reducible refine HPm1.out.mono ?_); rintro e w' ⟨rfl, rfl⟩)
                    go_roundw
                    case rel => exact ⟨j + 1, ((j : Nat) : Int), by omega, by go_num, by rw [HHt.out]; rfl, rfl, HLn, Lib.hid (bel_drewN HBj.out nq)⟩
                    case measure => simp [intOf]; omega
                · have hpq2 : decide ((q : Int) < (p : Int)) = false := by simpa using hpq
                  have hpq3 : decide (q < p) = false := by simpa using hpq
                  have HLn : Hid (LastOf es C (j + 1) ((m : Nat) : Int)) := Lib.hid (.inr ⟨m, by omega, rfl, fun hmC i hi hij => by
                    rw [Hz.out]
                    by_cases hij2 : i = j
                    · subst hij2
                      have h2 := Hp.out
                      have h3 := Hq.out
                      rw [← Hy.out] at h2
                      omega
                    · have h1 := HMax.out i hi (by omega)
                      omega⟩)
                  clear hy hp' hlv' hev hel he hrev hyv hyk HL hmax hmax2 hmv hmk hq hpq
                  by_cases hlv : lv = hv
                  · have hlv2 : (lv == hv) = true := by simpa using hlv
                    rw [if_pos hlv] at hht
                    have HHt := Lib.hid hht
                    clear hht hlv
                    go_wp2_with (go_at_call 43; (with_reducible refine HPy.out.mono ?_); rintro e w' ⟨rfl, rfl⟩)
                    go_quiet (fail)
                    have hbq : Below w.heap.size w (wr.drewN nq) := bel_drewN HBw.out nq
                    obtain ⟨hq1, hq2⟩ := HRf.out _ hbq
                    have hcm := HCm.out _ (bel_drewN HBj.out nq)
                    have HPm1 := Lib.hid (HPm.out _ hbq)
                    have HBq := Lib.hid hbq
                    clear hbq
                    go_wp2_with (go_at_call 43; (with_reducible refine HPm1.out.mono ?_); rintro e w' ⟨rfl, rfl⟩)
                    go_roundw
                    case rel => exact ⟨j + 1, ((m : Nat) : Int), by omega, by go_num, by rw [HHt.out]; go_num, rfl, HLn, Lib.hid (bel_drewN HBj.out nq)⟩
                    case measure => simp [intOf]; omega
                  · have hlv2 : (lv == hv) = false := by simpa using hlv
                    rw [if_neg hlv] at hht
                    have HHt := Lib.hid hht
                    clear hht hlv
                    go_wp2_with (go_at_call 43; (with_reducible refine HPy.out.mono ?_); rintro e w' ⟨rfl, rfl⟩)
                    go_quiet (fail)
                    have hbq : Below w.heap.size w (wr.drewN nq) := bel_drewN HBw.out nq
                    obtain ⟨hq1, hq2⟩ := HRf.out _ hbq
                    have hcm := HCm.out _ (bel_drewN HBj.out nq)
                    have HPm1 := Lib.hid (HPm.out _ hbq)
                    have HBq := Lib.hid hbq
                    clear hbq
                    go_wp2_with (go_at_call 43; (with_reducible refine HPm1.out.mono ?_); rintro e w' ⟨rfl, rfl⟩)
                    go_roundw
                    case rel => exact ⟨j + 1, ((m : Nat) : Int), by omega, by go_num, by rw [HHt.out]; rfl, rfl, HLn, Lib.hid (bel_drewN HBj.out nq)⟩
                    case measure => simp [intOf]; omega
            · obtain rfl : j = C.length := by omega
              rw [List.take_length]
              obtain ⟨w5, rfl⟩ : ∃ w5 : World, w5 = wr := ⟨_, rfl⟩
              obtain ⟨hr1, hr2⟩ := HRf.out _ HBw.out
              obtain ⟨k, rfl⟩ : ∃ j, k = j + 1 := ⟨k - 1, by have := HK.out; have := maxH_range hp es.length; omega⟩
              have hE := HRR.out
              unfold loopL at hE
              rw [HCo.out.high, ← HHv.out] at hE
              have hv0 : 0 ≤ hv := by rw [HHv.out]; exact hi_nonneg HG.out
              have hHC := highC_le (n := n) (es := es) C
              have hH0 : hv = 0 → highC n es C = C.length := fun h => HCo.out.levels HG.out (by rw [← HHv.out]; exact h)
              have hL0 := HL.out
              have HNC5 := Lib.hid (HNC.out.below HBj.out)
              have HNB5 := Lib.hid (HNB.out.below HBj.out)
              have HCx5 : Hid (∀ w', Below w5.heap.size w5 w' → ∀ i (h : i < C.length), ∃ b1 o1, a1 = some ⟨b1, o1, none⟩ ∧ w'.cell? ⟨b1, o1 + i, none⟩ = some (.int .i64 C[i])) := Lib.hid fun w' hb i h => HCx.out w' (bel_new HBj.out HBj.out.size hb) i h
              obtain ⟨H, hH⟩ : ∃ H, H = highC n es C := ⟨_, rfl⟩
              rw [← hH] at hE hHC hH0
              have HHC := Lib.hid hH
              rw [← hH]
              clear hH HRR HL HNC HNB HCx
              by_cases hC0 : C.length = 0
              · have hCe : C = [] := List.eq_nil_of_length_eq_zero hC0
                have hC1 : ((C.length : Int) == 0) = true := by simpa using hCe
                obtain rfl : H = 0 := by omega
                by_cases hv1 : hv = 0
                · have e1 : R = ([], -1, bs, 0) := by rw [hE, if_neg (by omega), if_pos ⟨rfl, hv1⟩]
                  subst e1
                  have hv2 : (hv == 0) = true := by simpa using hv1
                  clear hE hv1 hC0 hCe hL0 hH0
                  go_wp2_with fail
                  (try simp only [Exit.inBlock, Exit.then])
                  refine bodyPost_ret (results_tmp4 rfl _ _ _) rfl ?_
                  exact ⟨none, 0, a2, c2, rfl, fun h => absurd h (by simp), HNB5.out.ints, HBw.out⟩
                · have e1 : R = ([], 0, [], 7) := by rw [hE, if_pos ⟨rfl, by omega⟩]
                  subst e1
                  have hv2 : (hv == 0) = false := by simpa using hv1
                  clear hE hv1 hC0 hCe hL0 hH0
                  go_wp2_with fail
                  (try simp only [Exit.inBlock, Exit.then])
                  refine bodyPost_ret (results_tmp4 rfl _ _ _) rfl ?_
                  exact ret_none _ _ HBw.out
              · have hCe : C ≠ [] := fun h => hC0 (by rw [h]; rfl)
                have hC1 : ((C.length : Int) == 0) = false := by simpa using hCe
                rcases hL0 with ⟨hbad, _⟩ | ⟨m, hm, hlm, hmax⟩
                · omega
                subst hlm
                have hlat := HCo.out.latest m hm (fun i hi => hmax hm i hi hi)
                by_cases hH00 : H = 0
                · subst hH00
                  have hv1 : 0 < hv := by
                    by_cases h : hv = 0
                    · have := hH0 h; omega
                    · omega
                  have e1 : R = ([], 0, [], 7) := by rw [hE, if_pos ⟨rfl, hv1⟩]
                  subst e1
                  clear hE hv1 hC0 hCe hH0 hmax hlat
                  go_wp2_with fail
                  (try simp only [Exit.inBlock, Exit.then])
                  refine bodyPost_ret (results_tmp4 rfl _ _ _) rfl ?_
                  exact ret_none _ _ HBw.out
                · have hH1 : ((H : Int) == 0) = false := by simpa using hH00
                  rw [if_neg (fun h => hH00 h.1), if_neg (fun h => hH00 h.1)] at hE
                  by_cases hbr : H = 1 ∧ 0 < hv
                  · rw [if_pos hbr] at hE
                    obtain ⟨rfl, hv1⟩ := hbr
                    have hv2 : decide (0 < hv) = true := by simpa using hv1
                    have HE := Lib.hid hE
                    clear hE hC0 hCe hH0 hmax hlat
                    rw [show (((1 : Nat) : Int)) = (1 : Int) from rfl]
                    have hcoLen : (clauseOf es hp).length ≤ es.length := by
                      unfold clauseOf
                      rw [clauseTo_len]
                      exact cntB_le _ _
                    go_wp2_with fail
                    clear hH1 hv2 hC1 hr1 hr2
                    go_loopw [20, 21] (fun o i wr => ∃ (k : Nat) (out : List Int) (a : Option Addr) (c : Nat) (z : Int), k ≤ es.length ∧ i = .int .i64 z ∧ Hid (z = (k : Int) - 1) ∧ o = .slice a out.length c ∧ Hid (clauseOf es hp = out ++ clauseTo es hp k) ∧ Hid (NewInts w5.heap.size wr a c out) ∧ Hid (Below w5.heap.size w5 wr)) (fun _ i _ => (intOf i + 1).toNat)
                    case atStart => exact ⟨es.length, [], none, 0, _, Nat.le_refl _, rfl, Lib.hid rfl, rfl, Lib.hid rfl, Lib.hid ⟨Own.nil _ _ _, fun k hk => by simp [Value.ownBlock] at hk⟩, Lib.hid (Below.refl _ _)⟩
                    case round =>
                      obtain ⟨k3, out, a6, c6, z, hk3, rfl, HZ, rfl, HO, HN, HB3⟩ := hrel
                      obtain ⟨w6, rfl⟩ : ∃ w6 : World, w6 = wr := ⟨_, rfl⟩
                      have HBw6 := Lib.hid (bel_new HBw.out HBw.out.size HB3.out)
                      have hol : out.length ≤ 5000 := by
                        have := congrArg List.length HO.out
                        rw [List.length_append] at this
                        omega
                      rcases Nat.eq_zero_or_pos k3 with hk0 | hk0
                      · subst hk0
                        obtain rfl : z = -1 := by have := HZ.out; omega
                        have hO := HO.out
                        have hO2 : clauseOf es hp = out := by rw [hO]; simp [clauseTo]
                        have hE2 := HE.out
                        rw [hO2] at hE2
                        have HE2 := Lib.hid hE2
                        have HOut : Hid (∀ i (h : i < out.length), out[i] ∈ C) := Lib.hid fun i h => by
                          have h1 := List.getElem_mem h
                          have h2 : out[i] ∈ clauseTo es hp es.length := by
                            have h3 := hO2
                            unfold clauseOf at h3
                            rw [h3]
                            exact h1
                          obtain ⟨j, hj, hhj, he⟩ := clauseTo_mem h2
                          rw [he]
                          exact (HCo.out.at_ HG.out hj).1 hhj
                        clear hE2 hO hO2 HO HZ
                        go_wp2_with fail
                        go_loopw [23, 24] (fun bk i wr => ∃ (i' : Nat) (bv : Int), 1 ≤ i' ∧ (i' ≤ out.length ∨ i' = 1) ∧ i = .int .i64 i' ∧ bk = .int .i64 bv ∧ Hid (bv = backFrom n es 0 (out.take i').tail) ∧ Hid (Below w6.heap.size w6 wr)) (fun _ i _ => out.length + 1 - (intOf i).toNat)
                        case atStart => exact ⟨1, 0, by omega, .inr rfl, rfl, rfl, Lib.hid (by cases out <;> rfl), Lib.hid (Below.refl _ _)⟩
                        case round =>
                          obtain ⟨i', bv, hi1, hi2, rfl, rfl, HBv, HB7⟩ := hrel
                          have HBw7 := Lib.hid (bel_new HBw6.out HBw6.out.size HB7.out)
                          by_cases hil : i' < out.length
                          · have hii : (i' : Int) < (out.length : Int) := by omega
                            have hyC := HOut.out i' hil
                            have hyv := HCo.out.val _ hyC
                            have hyk := knownB_mem HCo.out.known _ hyC
                            obtain ⟨e, he, hrev, hel, hev, _⟩ := ent_of hyv hyk
                            have hpl := pos_lt hyv
                            obtain ⟨bl, off, rfl, hcl1, hcl2, hcl3⟩ := HEn.out _ _ e HBw7.out hpl hrev
                            obtain ⟨hr5, hr6⟩ := HRf.out _ HBw7.out
                            obtain ⟨b1, o1, rfl, _, hci⟩ := (HN.out.below HB7.out).ints (by omega)
                            have hcy := hci i' hil
                            have hds := deep_succ (n := n) (es := es) i' hil (by omega)
                            rw [← HBv.out] at hds
                            have HPy : Hid (∀ m, Calls Try.prog 43 #[.pointer (some ⟨x, 0, none⟩), .int .i64 out[i']] (wr.drewN m) fun e w'' => e = .returned (.int .i64 (posX es out[i'])) ∧ w'' = wr.drewN m) := Lib.hid fun m => (HPl.out (wr.drewN m) out[i'] (bel_drewN HBw7.out m) hyk hyv).mono fun _ _ hh => ⟨hh.1, hh.2.symm⟩
                            have HPz : Hid (∀ w', Below w.heap.size w w' → Calls Try.prog 43 #[.pointer (some ⟨x, 0, none⟩), .int .i64 out[i']] w' fun e w'' => e = .returned (.int .i64 (posX es out[i'])) ∧ w'' = w') := Lib.hid fun w' hb => (HPl.out w' out[i'] hb hyk hyv).mono fun _ _ hh => ⟨hh.1, hh.2.symm⟩
                            rw [hev] at hcl2
                            have hds2 : backFrom n es 0 (out.take (i' + 1)).tail = max bv (levX n es out[i']) := hds
                            generalize out[i'] = y at *
                            generalize levX n es y = lv at *
                            generalize posX es y = p at *
                            have hpi : (p : Int) < (es.length : Int) := by omega
                            have HDs := Lib.hid hds2
                            clear hds hds2 hev hel he hrev hyv hyk hyC hci hcl1 hcl3
                            by_cases hlb : bv < lv
                            · have hlb2 : decide (bv < lv) = true := by simpa using hlb
                              go_wp2_with fail
                              go_quiet (first | (go_at_call 43; exact Calls.quiet_of_same (HPy.out _)))
                              go_wp2_with fail
                              have hbq : Below w6.heap.size w6 (wr.drewN nq) := bel_drewN HB7.out nq
                              have hq5 : Below w.heap.size w (wr.drewN nq) := bel_drewN HBw7.out nq
                              have hcyq : (wr.drewN nq).cell? ⟨b1, o1 + i', none⟩ = some (.int .i64 y) := hcy
                              have hclq : (wr.drewN nq).cell? ⟨bl, off + p * 3 + 1, none⟩ = some (.int .i64 lv) := hcl2
                              obtain ⟨wz, hwz⟩ : ∃ wz, wz = wr.drewN nq := ⟨_, rfl⟩
                              rw [← hwz] at hbq hq5 hcyq hclq ⊢
                              obtain ⟨hr7, hr8⟩ := HRf.out _ hq5
                              have HPy2 : Hid (∀ m, Calls Try.prog 43 #[.pointer (some ⟨x, 0, none⟩), .int .i64 y] (wz.drewN m) fun e w'' => e = .returned (.int .i64 (p : Int)) ∧ w'' = wz.drewN m) := Lib.hid fun m => HPz.out (wz.drewN m) (bel_drewN hq5 m)
                              have HBq := Lib.hid hbq
                              clear hbq hq5 hwz hcy hcl2 hr5 hr6 HPy
                              go_quiet (first | (go_at_call 43; exact Calls.quiet_of_same (HPy2.out _)))
                              go_wp2_with fail
                              go_roundw
                              case rel => exact ⟨i' + 1, lv, by omega, .inl (by omega), by go_num, rfl, Lib.hid (by rw [HDs.out]; omega), Lib.hid (bel_drewN HBq.out _)⟩
                              case measure => simp [intOf]; omega
                            · have hlb2 : decide (bv < lv) = false := by simpa using hlb
                              go_wp2_with fail
                              go_quiet (first | (go_at_call 43; exact Calls.quiet_of_same (HPy.out _)))
                              go_wp2_with fail
                              go_roundw
                              case rel => exact ⟨i' + 1, bv, by omega, .inl (by omega), by go_num, rfl, Lib.hid (by rw [HDs.out]; omega), Lib.hid (bel_drewN HB7.out nq)⟩
                              case measure => simp [intOf]; omega
                          · have hbv := HBv.out
                            rw [List.take_of_length_le (by omega)] at hbv
                            have hE3 := HE2.out
                            rw [← hbv] at hE3
                            subst hE3
                            have hii : decide ((i' : Int) < (out.length : Int)) = false := by simp; omega
                            have hii2 : decide (i' < out.length) = false := by simp; omega
                            clear hbv
                            go_wp2_with fail
                            (try simp only [Exit.inBlock, Exit.then])
                            refine bodyPost_ret (results_tmp4 rfl _ _ _) rfl ?_
                            exact ⟨a6, c6, a2, c2, rfl, (HN.out.below HB7.out).ints, ((HNB5.out.below HB3.out).below HB7.out).ints, HBw7.out⟩
                      · obtain ⟨j, rfl⟩ : ∃ j, k3 = j + 1 := ⟨k3 - 1, by omega⟩
                        obtain rfl : z = (j : Int) := by have := HZ.out; omega
                        have hjl : j < es.length := by omega
                        have hji : (j : Int) < (es.length : Int) := by omega
                        obtain ⟨e, he, hat, hrev⟩ := at_mem hjl
                        have helit := HG.out.lit e he
                        unfold Lit at helit
                        have hctj : clauseTo es hp (j + 1) = if hp j then -atE es j :: clauseTo es hp j else clauseTo es hp j := rfl
                        have hO := HO.out
                        rw [hctj] at hO
                        have HO2 := Lib.hid hO
                        have HAt := Lib.hid (HCo.out.at_ HG.out hjl)
                        have hneg : IntKind.i64.wrap (-e.lit) = -e.lit := by rw [IntKind.wrap_i64]; omega
                        have HAe := Lib.hid hat
                        have HEj : Hid (∀ w', Below w.heap.size w w' → ∃ bl off, aoL = some ⟨bl, off, none⟩ ∧ w'.cell? ⟨bl, off + j * 3, none⟩ = some (.int .i64 e.lit)) := Lib.hid fun w' hb => by
                          obtain ⟨bl, off, h1, h2, _⟩ := HEn.out w' j e hb hjl hrev
                          exact ⟨bl, off, h1, h2⟩
                        generalize e.lit = el at *
                        clear hO hctj hat hrev he HO HZ hk0
                        go_wp2_with fail
                        go_loopw [20, 22] (fun o q wr => ∃ (r : Nat) (acc : List Int) (a : Option Addr) (c : Nat), r ≤ C.length ∧ q = .int .i64 r ∧ o = .slice a acc.length c ∧ Hid (acc = out ++ (C.take r).filter fun y => y == -el) ∧ Hid (NewInts w5.heap.size wr a c acc) ∧ Hid (Below w5.heap.size w5 wr)) (fun _ q _ => C.length - (intOf q).toNat)
                        case atStart => exact ⟨0, out, a6, c6, by omega, rfl, rfl, Lib.hid (by simp), HN, HB3⟩
                        case round =>
                          obtain ⟨r, acc, a7, c7, hr, rfl, rfl, HA, HN7, HB7⟩ := hrel
                          have HBw7 := Lib.hid (bel_new HBw.out HBw.out.size HB7.out)
                          have hal : acc.length ≤ 10000 := by
                            rw [HA.out, List.length_append]
                            have h1 := List.length_filter_le (fun y => y == -el) (C.take r)
                            rw [List.length_take] at h1
                            omega
                          by_cases hrl : r < C.length
                          · have hri : (r : Int) < (C.length : Int) := by omega
                            obtain ⟨bl, off, rfl, hce⟩ := HEj.out _ HBw7.out
                            obtain ⟨hr5, hr6⟩ := HRf.out _ HBw7.out
                            obtain ⟨b1, o1, rfl, hcy⟩ := HCx5.out _ HB7.out r hrl
                            have hft : ∀ y, y = C[r] → (C.take (r + 1)).filter (fun y => y == -el) = (C.take r).filter (fun y => y == -el) ++ if y = -el then [y] else [] := fun y hy => by
                              rw [List.take_succ_eq_append_getElem hrl, List.filter_append, ← hy]
                              by_cases h : y = -el <;> simp [h]
                            have HFt := Lib.hid (hft _ rfl)
                            generalize C[r] = y at *
                            clear hft
                            by_cases hye : y = -el
                            · subst hye
                              have hft2 := HFt.out
                              rw [if_pos rfl] at hft2
                              have HF2 := Lib.hid hft2
                              clear hft2
                              go_wp2_with fail
                              go_quiet (fail)
                              have hbq : Below w5.heap.size w5 (wr.drewN nq) := bel_drewN HB7.out nq
                              have hNq := HN7.out.below (bel_drewN (Below.refl _ wr) nq)
                              have hcyq : (wr.drewN nq).cell? ⟨b1, o1 + r, none⟩ = some (.int .i64 (-el)) := hcy
                              obtain ⟨wz, hwz⟩ : ∃ wz, wz = wr.drewN nq := ⟨_, rfl⟩
                              rw [← hwz] at hbq hNq hcyq ⊢
                              have HO7 := Lib.hid (hNq.1.alloc (.cells #[.int .i64 (-el)] 3))
                              have HBq := Lib.hid hbq
                              have HNq := Lib.hid hNq
                              clear hbq hNq hwz hcy hr5 hr6 hce hneg
                              go_wp2_with (at_builtin; go_loud (refine wpList_append_S _ rfl (.tmp 214) (.tmp 219) _ _ rfl 3 i3 _ 1 8 Try.underlying30 hi3 hz0 hz1 hz2 rfl (by omega) (.slice a7 acc.length c7) acc.length (inC acc) rfl HO7.out (in_one _) _ 1 [_] rfl (src_new wz Try.underlying30 3 _ rfl) (by simp only [maxLen]; omega) (by omega) ?_); intro ao2 cap2 w10 hn1 hm1 hown1 hg1 hat1 hlt1; have H1 := Lib.hid hown1; have H2 := Lib.hid hg1; have H3 := Lib.hid hat1; clear hown1 hg1 hat1 hlt1 hn1 hm1)
                              go_roundw
                              case rel =>
                                obtain ⟨n1, n2⟩ := HNq.out.pushed HBq.out HBq.out.size H1.out H2.out H3.out
                                have e1 : acc ++ [-el] = out ++ (C.take (r + 1)).filter fun y => y == -el := by
                                  have h1 := HF2.out
                                  have h2 := HA.out
                                  rw [h1, ← List.append_assoc, ← h2]
                                have e2 : (acc ++ [-el]).length = acc.length + 1 := by rw [List.length_append]; rfl
                                refine ⟨r + 1, acc ++ [-el], ao2, cap2, ?_, ?_, ?_, ?_, ?_, ?_⟩
                                · exact hrl
                                · go_num
                                · rw [e2]
                                · exact Lib.hid e1
                                · exact Lib.hid n1
                                · exact Lib.hid n2
                              case measure => simp [intOf]; omega
                            · have hye2 : (y == -el) = false := by simpa using hye
                              have hft2 := HFt.out
                              rw [if_neg hye, List.append_nil] at hft2
                              have HF2 := Lib.hid hft2
                              clear hye hft2
                              go_wp2_with fail
                              go_quiet (fail)
                              go_wp2_with fail
                              go_roundw
                              case rel => exact ⟨r + 1, acc, a7, c7, by omega, by go_num, rfl, Lib.hid (by rw [HF2.out]; exact HA.out), Lib.hid (HN7.out.below (bel_drewN (Below.refl _ wr) nq)), Lib.hid (bel_drewN HB7.out nq)⟩
                              case measure => simp [intOf]; omega
                          · obtain rfl : r = C.length := by omega
                            have hA := HA.out
                            rw [List.take_length, filter_one HCo.out.nodup, ← HAe.out] at hA
                            have hO3 : clauseOf es hp = acc ++ clauseTo es hp j := by
                              rw [HO2.out, hA]
                              by_cases h : hp j = true
                              · rw [if_pos h, if_pos (HAt.out.1 h), List.append_assoc]; rfl
                              · rw [if_neg h, if_neg (fun h2 => h (HAt.out.2 h2)), List.append_nil]
                            have HO3 := Lib.hid hO3
                            clear hA hO3
                            go_wp2_with fail
                            go_roundw
                            case rel => exact ⟨j, acc, a7, c7, (j : Int) - 1, by omega, rfl, Lib.hid rfl, rfl, HO3, HN7, HB7⟩
                            case measure => simp [intOf] <;> omega
                  · rw [if_neg hbr] at hE
                    have hyv := HCo.out.val C[m] (List.getElem_mem hm)
                    have hyk := knownB_mem HCo.out.known C[m] (List.getElem_mem hm)
                    have hyC : C[m] ∈ C := List.getElem_mem hm
                    obtain ⟨e, he, hrev, hel, _, her⟩ := ent_of hyv hyk
                    have hpl := pos_lt hyv
                    have hpa := pos_at hyv
                    obtain ⟨b1, o1, rfl, hcm⟩ := HCx5.out _ (Below.refl _ _) m hm
                    obtain ⟨bl, off, rfl, hcl1, hcl2, hcl3⟩ := HEn.out _ _ e HBw.out hpl hrev
                    have hmi : (m : Int) < (C.length : Int) := by omega
                    have HPy := Lib.hid (HPl.out _ C[m] HBw.out hyk hyv)
                    have HKeep : Hid (∀ l : List Int, 2 ≤ H → 0 < highC n es (withL (woL C C[m]) (woL l (-C[m])))) := Lib.hid fun l h => HCo.out.keeps (by rw [← HHC.out]; exact h)
                    have HNext : Hid (∀ l : List Int, (takeC n es l (-C[m]) (posX es C[m]) (fun j => hp j && !decide ((j : Int) = (posX es C[m] : Nat)))).1 = 0 → Corr n es (takeC n es l (-C[m]) (posX es C[m]) (fun j => hp j && !decide ((j : Int) = (posX es C[m] : Nat)))).2 (withL (woL C C[m]) (woL l (-C[m])))) := Lib.hid fun l h => HCo.out.next hyC rfl h
                    have HMx : Hid (∀ j : Nat, j < es.length → hp j = true → (j : Int) ≤ (posX es C[m] : Nat)) := Lib.hid fun j hj hd => by
                      have := maxH_ge (d := hp) hj hd
                      rw [hlat] at this
                      exact this
                    rw [hlat, hpa] at hE
                    have hab : (-C[m]).natAbs = C[m].natAbs := by omega
                    simp only [hab] at hE
                    rw [← her] at hE
                    have HM5 := HM.out
                    have HK5 := HK.out
                    rw [hlat] at HM5 HK5
                    generalize C[m] = y at *
                    generalize posX es y = p at *
                    generalize e.reason = rs at *
                    have hpi : (p : Int) < (es.length : Int) := by omega
                    have hyneg : IntKind.i64.wrap (-y) = -y := by rw [IntKind.wrap_i64]; omega
                    have hbr2 : ((H : Int) == 1) = false ∨ ((H : Int) == 1) = true ∧ decide (0 < hv) = false := by
                      by_cases h1 : H = 1
                      · refine .inr ⟨by simp; omega, ?_⟩
                        simp
                        have := fun h => hbr ⟨h1, h⟩
                        omega
                      · exact .inl (by simp; omega)
                    have hH2 : 0 < hv → 2 ≤ H := fun h => by
                      have h1 : ¬ H = 1 := fun h1 => hbr ⟨h1, h⟩
                      omega
                    have HE := Lib.hid hE
                    clear hE hC0 hCe hH0 hmax hlat hbr hpa hab her hel hrev he hyv hyC HM HK hcl1 hcl2 HBj
                    go_upto_region 20 with fail
                    go_cut [122] from 114 to 122 (fun s122 wx => s122 = .bool false ∧ wx = w5)
                    case first =>
                      rcases hbr2 with h1 | ⟨h1, h2⟩
                      · go_wp2_with fail
                        go_meet
                        case rel => exact ⟨rfl, rfl⟩
                      · go_wp2_with fail
                        go_meet
                        case rel => exact ⟨rfl, rfl⟩
                    case rest =>
                      obtain ⟨rfl, hw⟩ := hcut
                      rw [hw]
                      clear hw hbr2
                      by_cases hrs : rs < 0 ∨ (cls.length : Int) ≤ rs
                      · have e1 : R = ([], 0, [], 7) := by rw [HE.out, if_pos hrs]
                        subst e1
                        by_cases hrs0 : rs < 0
                        · go_wp2_with (go_at_call 43; (with_reducible refine HPy.out.mono ?_); rintro e w' ⟨rfl, rfl⟩)
                          (try simp only [Exit.inBlock, Exit.then])
                          refine bodyPost_ret (results_tmp4 rfl _ _ _) rfl ?_
                          exact ret_none _ _ HBw.out
                        · have hrs1 : decide (rs < 0) = false := by simpa using hrs0
                          have hrs2 : (cls.length : Int) ≤ rs := by omega
                          clear hrs hrs0
                          go_wp2_with (go_at_call 43; (with_reducible refine HPy.out.mono ?_); rintro e w' ⟨rfl, rfl⟩)
                          (try simp only [Exit.inBlock, Exit.then])
                          refine bodyPost_ret (results_tmp4 rfl _ _ _) rfl ?_
                          exact ret_none _ _ HBw.out
                      · obtain ⟨q, rfl⟩ : ∃ q : Nat, rs = q := ⟨rs.toNat, by omega⟩
                        have hqc : q < cls.length := by omega
                        have hqi : (q : Int) < (cls.length : Int) := by omega
                        have hqn : ¬ (cls.length : Int) ≤ (q : Int) := by omega
                        have hqn2 : decide ((cls.length : Int) ≤ (q : Int)) = false := by simpa using hqn
                        have hqn3 : decide (cls.length ≤ q) = false := by simp; omega
                        have hq0 : decide ((q : Int) < 0) = false := by simp
                        have hE2 := HE.out
                        rw [if_neg hrs] at hE2
                        simp only [Int.toNat_natCast] at hE2
                        rw [HGD.out q hqc] at hE2
                        have hl2 := HLe.out q hqc
                        have h64q := H64.out cls[q] (List.getElem_mem hqc)
                        have HCq : Hid (∀ w', Below w.heap.size w w' → w'.cell? ⟨cb, co + q, none⟩ = some (.slice (Y q).1 cls[q].length (Y q).2) ∧ Ints w' (Y q).1 cls[q]) := Lib.hid fun w' hb => HCl.out w' hb q hqc
                        have hYq : ∃ a0 c0, Y q = (a0, c0) := ⟨_, _, rfl⟩
                        obtain ⟨aq, cq, hYq⟩ := hYq
                        rw [hYq] at HCq
                        simp only at HCq
                        generalize cls[q] = l2 at *
                        have hcq := (HCq.out _ HBw.out).1
                        have HKq := Lib.hid (HKn.out w5 l2 aq cq HBw.out (HCq.out _ HBw.out).2 hl2 h64q)
                        have HE3 := Lib.hid hE2
                        clear hYq hE2 h64q hrs HE
                        by_cases hk2 : knownB n l2 = true
                        · rw [hk2] at HKq
                          have hask := takeC_ask (es := es) (l := l2) (lit := y) (mx := p) (hp := fun j => hp j && !decide ((j : Int) = (p : Nat))) (by omega) hk2
                          have hwl := woL_len l2 (-y)
                          have hkr : knownB n (woL l2 (-y)) = true := knownB_of fun z hz => knownB_mem hk2 z ((woL_mem _ _ _).1 hz).1
                          have HWo : Hid (∀ w', Below w.heap.size w w' → Calls Try.prog 44 #[.slice aq l2.length cq, .int .i64 (-y)] w' fun e w'' => ∃ a c, e = .returned (.slice a (woL l2 (-y)).length c) ∧ NewInts w'.heap.size w'' a c (woL l2 (-y)) ∧ Below w'.heap.size w' w'') := Lib.hid fun w' hb =>
                            rwithout_any l2 (-y) aq cq w' (HCq.out w' hb).2 (by omega)
                          have HAr : Hid (∀ w' a' c', Below w.heap.size w w' → Ints w' a' (woL l2 (-y)) → Calls Try.prog 41 #[.pointer (some ⟨x, 0, none⟩), .slice a' (woL l2 (-y)).length c', .int .i64 (p : Int)] w' fun e w'' => e = .returned (.bool (aheadB n es (woL l2 (-y)) p)) ∧ w' = w'') := Lib.hid fun w' a' c' hb hi =>
                            HAh.out w' _ a' c' p hb hi (by omega) hkr
                          have HNx := Lib.hid (HNext.out l2)
                          have hkeep := HKeep.out l2
                          have HKeep2 := Lib.hid hkeep
                          generalize hrest : woL l2 (-y) = rest at *
                          clear hkr hrest hkeep
                          go_upto_region 29 with (first
                            | (go_at_call 43; (with_reducible refine HPy.out.mono ?_); rintro e w' ⟨rfl, rfl⟩)
                            | (go_at_call 40; (with_reducible refine HKq.out.mono ?_); rintro e w6 ⟨rfl, hb6⟩; have hb6' := bel_new HBw.out HBw.out.size hb6; have hcq6 := (HCq.out _ hb6').1)
                            | (go_at_call 44; (with_reducible refine (HWo.out _ hb6').mono ?_); rintro e w7 ⟨a7, c7, rfl, hN7, hb7⟩))
                          have hb7' := bel_new hb6' hb6'.size hb7
                          have hcq7 := (HCq.out _ hb7').1
                          have HAr7 := Lib.hid (HAr.out _ a7 c7 hb7' hN7.ints)
                          have HB7 := Lib.hid hb7'
                          have HN7 := Lib.hid hN7
                          have HBw57 := Lib.hid (bel_new hb6 hb6.size hb7)
                          have hs6 := hb6.size
                          clear hb7' hN7 hb7 hb6 hb6' hcq6 HAr HWo HKq
                          by_cases hlr : rest.length = l2.length
                          · have hT1 := hask
                            rw [if_pos (.inl hlr)] at hT1
                            have e1 : R = ([], 0, [], 7) := by rw [HE3.out, hT1]; rfl
                            subst e1
                            have hlr2 : ((rest.length : Int) == (l2.length : Int)) = true := by simp; omega
                            have hlr3 : (rest.length == l2.length) = true := by simpa using hlr
                            clear hask hT1 hlr
                            go_wp2_with fail
                            (try simp only [Exit.inBlock, Exit.then])
                            refine bodyPost_ret (results_tmp4 rfl _ _ _) rfl ?_
                            exact ret_none _ _ HB7.out
                          · have hlr2 : ((rest.length : Int) == (l2.length : Int)) = false := by simp; omega
                            have hlr3 : (rest.length == l2.length) = false := by simpa using hlr
                            by_cases har : aheadB n es rest p = false
                            · have hT1 := hask
                              rw [if_pos (.inr har)] at hT1
                              have e1 : R = ([], 0, [], 7) := by rw [HE3.out, hT1]; rfl
                              subst e1
                              rw [har] at HAr7
                              clear hask hT1 hlr har
                              go_wp2_with (go_at_call 41; (with_reducible refine HAr7.out.mono ?_); rintro e w' ⟨rfl, rfl⟩)
                              (try simp only [Exit.inBlock, Exit.then])
                              refine bodyPost_ret (results_tmp4 rfl _ _ _) rfl ?_
                              exact ret_none _ _ HB7.out
                            · have har2 : aheadB n es rest p = true := by simpa using har
                              rw [har2] at HAr7
                              rw [if_neg (by rintro (h | h); exact hlr h; exact har h)] at hask
                              have hE4 := HE3.out
                              rw [if_pos hask] at hE4
                              have hCo2 := HNx.out hask
                              have hmx2 : maxH es.length (takeC n es l2 (-y) p (fun j => hp j && !decide ((j : Int) = (p : Nat)))).2 < (p : Int) := maxH_lt (fun j hj hd => by
                                refine takeC_below (n := n) (es := es) (l := l2) (but := -y) (place := (p : Int)) (hp := fun j => hp j && !decide ((j : Int) = (p : Nat))) (j := j) (fun h => ?_) hd
                                simp only [Bool.and_eq_true, Bool.not_eq_true', decide_eq_false_iff_not] at h
                                have := HMx.out j hj h.1
                                omega) (by omega)
                              generalize (takeC n es l2 (-y) p (fun j => hp j && !decide ((j : Int) = (p : Nat)))).2 = hp2 at *
                              have HMx2 := Lib.hid hmx2
                              have HE5 := Lib.hid hE4
                              have HCo2 := Lib.hid hCo2
                              have hC2l : (withL (woL C y) rest).length ≤ 5000 := by have := hCo2.len; omega
                              have hwC := woL_len C y
                              clear hask hlr har har2 hE4 hCo2 hmx2 HE3 HNx
                              have HW8 : Hid (Calls Try.prog 44 #[.slice (some ⟨b1, o1, none⟩) C.length c1, .int .i64 y] w7 fun e w'' => ∃ a c, e = .returned (.slice a (woL C y).length c) ∧ NewInts w7.heap.size w'' a c (woL C y) ∧ Below w7.heap.size w7 w'') := Lib.hid (rwithout_any C y _ c1 w7 (HNC5.out.below HBw57.out).ints (by omega))
                              have HW9 : Hid (∀ w8 a8 c8, Below w7.heap.size w7 w8 → NewInts w7.heap.size w8 a8 c8 (woL C y) → Calls Try.prog 42 #[.slice a8 (woL C y).length c8, .slice a7 rest.length c7] w8 fun e w'' => ∃ a c, e = .returned (.slice a (withL (woL C y) rest).length c) ∧ NewInts w8.heap.size w'' a c (withL (woL C y) rest) ∧ Below w8.heap.size w8 w'') := Lib.hid fun w8 a8 c8 hb hN =>
                                rwith_any (woL C y) rest a8 a7 c8 c7 w8 hN.1 (HN7.out.below hb).ints (by omega) (by omega)
                              go_wp2_with (first
                                | (go_at_call 41; (with_reducible refine HAr7.out.mono ?_); rintro e w' ⟨rfl, rfl⟩)
                                | (go_at_call 44; (with_reducible refine HW8.out.mono ?_); rintro e w8 ⟨a8, c8, rfl, hN8, hb8⟩; have HN8 := Lib.hid hN8; have HB8 := Lib.hid hb8; clear hN8 hb8)
                                | (go_at_call 42; (with_reducible refine (HW9.out _ _ _ HB8.out HN8.out).mono ?_); rintro e w9 ⟨a9, c9, rfl, hN9, hb9⟩; have HN9 := Lib.hid hN9; have HB9 := Lib.hid hb9; have HO9 := Lib.hid ((((HNB5.out.below HBw57.out).below HB8.out).below hb9).1.alloc (.cells #[.int .i64 (q : Int)] 3)); clear hN9 hb9)
                                | (at_builtin; go_loud (refine wpList_append_S _ rfl (.tmp 180) (.tmp 182) _ _ rfl 3 i3 _ 1 8 Try.underlying30 hi3 hz0 hz1 hz2 rfl (by omega) (.slice a2 bs.length c2) bs.length (inC bs) rfl HO9.out (in_one _) _ 1 [_] rfl (src_new w9 Try.underlying30 3 _ rfl) (by simp only [maxLen]; omega) (by omega) ?_); intro ao2 cap2 w10 hn1 hm1 hown1 hg1 hat1 hlt1))
                              go_roundw
                              case rel =>
                                have hB9 : Below w.heap.size w w9 := bel_new (bel_new HB7.out HB7.out.size HB8.out) (bel_new HB7.out HB7.out.size HB8.out).size HB9.out
                                have hNb9 := ((HNB5.out.below HBw57.out).below HB8.out).below HB9.out
                                obtain ⟨n1, n2⟩ := hNb9.pushed hB9 hB9.size hown1 hg1 hat1
                                have hle : (bs ++ [(q : Int)]).length = bs.length + 1 := by simp
                                have hr2 := maxH_range hp2 es.length
                                have hmx := HMx2.out
                                have hNC9 : NewInts w.heap.size w10 a9 c9 (withL (woL C y) rest) := by
                                  have h1 := HN9.out
                                  refine ⟨(h1.1.alloc (.cells #[.int .i64 (q : Int)] 3)).grown hg1 ?_, fun j hj => ?_⟩
                                  · cases hob : (Value.slice a9 (withL (woL C y) rest).length c9).ownBlock with
                                    | none => exact .inl rfl
                                    | some j =>
                                      refine .inr fun hc => ?_
                                      have h2 := h1.2 j hob
                                      have h3 := ((HNB5.out.below HBw57.out).below HB8.out).1.lt j hc.symm
                                      omega
                                  · have h2 := h1.2 j hj
                                    have h3 := HB7.out.size
                                    have h4 := HB8.out.size
                                    omega
                                refine ⟨k, hp2, withL (woL C y) rest, bs ++ [(q : Int)], a9, c9, ao2, cap2, rfl, by rw [hle], HCo2, Lib.hid ?_, Lib.hid (by omega), Lib.hid (by rw [hle]; omega), Lib.hid hNC9, Lib.hid n1, Lib.hid n2⟩
                                rw [HE5.out, if_neg]
                                rintro ⟨h1, h2⟩
                                have h3 := HKeep2.out (hH2 (by rw [HHv.out]; exact h2))
                                omega
                              case measure => simp [sliceLen]; omega
                        · have hk3 : knownB n l2 = false := by simpa using hk2
                          rw [hk3] at HKq
                          have hT1 : (takeC n es l2 (-y) p (fun j => hp j && !decide ((j : Int) = (p : Nat)))).1 = 1 := by unfold takeC; rw [if_pos hk3]
                          have e1 : R = ([], 0, [], 1) := by rw [HE3.out, hT1]; rfl
                          subst e1
                          clear hk2 hk3 hT1
                          go_wp2_with (first
                            | (go_at_call 43; (with_reducible refine HPy.out.mono ?_); rintro e w' ⟨rfl, rfl⟩)
                            | (go_at_call 40; (with_reducible refine HKq.out.mono ?_); rintro e w6 ⟨rfl, hb6⟩))
                          (try simp only [Exit.inBlock, Exit.then])
                          refine bodyPost_ret (results_tmp4 rfl _ _ _) rfl ?_
                          exact ret_none _ _ (bel_new HBw.out HBw.out.size hb6)
      · have hah2 : aheadB n es l es.length = false := by simpa using hah
        have hT0 : (takeC n es l 0 es.length (fun _ => false)).1 = 7 := by rw [takeC_ask0 hkn, if_pos hah2]
        have e1 : R = ([], 0, [], 7) := by rw [hRR, hT0]; rfl
        subst e1
        have HK := HKn.out w l a0 c0 (Below.refl _ _) hcx hl5 h64c
        rw [hkn] at HK
        have HKh := Lib.hid HK
        have HA : Hid (∀ w1, Below w.heap.size w w1 → ∀ m, Calls Try.prog 41 #[.pointer (some ⟨x, 0, none⟩), .slice a0 l.length c0, .int .i64 (es.length : Int)] (w1.drewN m) fun e w'' => e = .returned (.bool false) ∧ w'' = w1.drewN m) := Lib.hid fun w1 hb m => by
          have h := HAh.out (w1.drewN m) l a0 c0 es.length (bel_drewN hb m) (HCc.out _ (bel_drewN hb m)).2 hl5 hkn
          rw [hah2] at h
          exact h.mono fun _ _ hh => ⟨hh.1, hh.2.symm⟩
        clear hRR hah hah2 HK hT0
        go_enter Try.func19, Try.ntmps19
        go_upto_region 3 with (go_at_call 40; (with_reducible refine HKh.out.mono ?_); rintro e w1 ⟨rfl, hb1⟩)
        have hcv1 := (HCc.out _ hb1).1
        obtain ⟨hr1, hr2⟩ := HRf.out _ hb1
        have HA1 := Lib.hid (HA.out _ hb1)
        have HB1 := Lib.hid hb1
        clear hb1 HA
        go_quiet (first | (go_at_call 41; exact Calls.quiet_of_same (HA1.out _)))
        go_wp2_with fail
        (try simp only [Exit.inBlock, Exit.then])
        refine bodyPost_ret (results_tmp4 rfl _ _ _) rfl ?_
        exact ret_none _ _ (bel_drewN HB1.out nq)
    · have hkn2 : knownB n l = false := by simpa using hkn
      have hT0 : (takeC n es l 0 es.length (fun _ => false)).1 = 1 := by unfold takeC; rw [if_pos hkn2]
      have e1 : R = ([], 0, [], 1) := by rw [hRR, hT0]; rfl
      subst e1
      have HK := HKn.out w l a0 c0 (Below.refl _ _) hcx hl5 h64c
      rw [hkn2] at HK
      have HKh := Lib.hid HK
      clear hRR hkn hkn2 HK hT0
      go_enter Try.func19, Try.ntmps19
      go_wp2_with (go_at_call 40; (with_reducible refine HKh.out.mono ?_); rintro e w1 ⟨rfl, hb1⟩)
      (try simp only [Exit.inBlock, Exit.then])
      refine bodyPost_ret (results_tmp4 rfl _ _ _) rfl ?_
      exact ret_none _ _ hb1

end Go.Proofs.Ythfmlmodpcikcaa
