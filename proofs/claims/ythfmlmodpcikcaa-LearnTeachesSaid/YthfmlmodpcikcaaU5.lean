/- Contracts of package learn: latest. -/
import Derived.Test.YthfmlmodpcikcaaU4
import Derived.Deep.RegionHeld3
namespace Go.Proofs.Ythfmlmodpcikcaa
open Go.ChangeShapes Go.WideShapes Go.ChangeAt Go.RowKit Go.Maps
set_option maxRecDepth 100000

/-! ### The greatest place that is held, and how many -/
def maxH : Nat → (Nat → Bool) → Int
  | 0, _ => -1
  | k + 1, d => if d k then k else maxH k d
def cntB : Nat → (Nat → Bool) → Nat
  | 0, _ => 0
  | k + 1, d => cntB k d + (if d k then 1 else 0)
def topB (n : Nat) (es : List En) (k : Nat) : Bool := decide ((ofE n es (((atE es k).natAbs : Int) - 1)).level = hi es)

theorem maxH_range (d : Nat → Bool) : ∀ len, -1 ≤ maxH len d ∧ maxH len d < len
  | 0 => by simp [maxH]
  | k + 1 => by
    have := maxH_range d k
    simp only [maxH]
    split <;> omega
theorem maxH_congr {d d' : Nat → Bool} : ∀ {len : Nat}, (∀ j, j < len → d j = d' j) → maxH len d = maxH len d'
  | 0, _ => rfl
  | k + 1, h => by
    simp only [maxH]
    rw [h k (by omega), maxH_congr fun j hj => h j (by omega)]
theorem cntB_congr {d d' : Nat → Bool} : ∀ {len : Nat}, (∀ j, j < len → d j = d' j) → cntB len d = cntB len d'
  | 0, _ => rfl
  | k + 1, h => by
    simp only [cntB]
    rw [h k (by omega), cntB_congr fun j hj => h j (by omega)]
theorem cntB_le (d : Nat → Bool) : ∀ len, cntB len d ≤ len
  | 0 => by simp [cntB]
  | k + 1 => by
    have := cntB_le d k
    simp only [cntB]
    split <;> omega
theorem maxH_none : ∀ len, maxH len (fun _ => false) = -1
  | 0 => rfl
  | k + 1 => by simp [maxH, maxH_none k]
theorem cntB_none : ∀ len, cntB len (fun _ => false) = 0
  | 0 => rfl
  | k + 1 => by simp [cntB, cntB_none k]

theorem maxH_put (d : Nat → Bool) (x : Nat) : ∀ {len : Nat}, x < len → maxH len (fun j => decide (j = x) || d j) = max (maxH len d) x
  | 0, h => by omega
  | k + 1, h => by
    have h1 := maxH_range d k
    simp only [maxH]
    by_cases hx : k = x
    · subst hx
      simp only [decide_true, Bool.true_or, if_true]
      split <;> omega
    · have h2 : decide (k = x) = false := by simpa using hx
      simp only [h2, Bool.false_or]
      have ih := maxH_put d x (len := k) (by omega)
      split <;> omega
theorem cntB_put (d : Nat → Bool) (x : Nat) (hd : d x = false) : ∀ {len : Nat}, x < len → cntB len (fun j => decide (j = x) || d j) = cntB len d + 1
  | 0, h => by omega
  | k + 1, h => by
    simp only [cntB]
    by_cases hx : k = x
    · subst hx
      have := cntB_congr (len := k) (d := fun j => decide (j = k) || d j) (d' := d) fun j hj => by
        have : decide (j = k) = false := by simp; omega
        simp [this]
      simp [hd, this]
    · have h2 : decide (k = x) = false := by simpa using hx
      simp only [h2, Bool.false_or]
      have ih := cntB_put d x hd (len := k) (by omega)
      omega

theorem at_mem {es : List En} {k : Nat} (hk : k < es.length) : ∃ e ∈ es, atE es k = e.lit ∧ es.reverse[k]? = some e := by
  have hk2 : k < es.reverse.length := by simpa using hk
  have h : es.reverse[k]? = some es.reverse[k] := List.getElem?_eq_getElem hk2
  exact ⟨es.reverse[k], List.mem_reverse.1 (List.getElem_mem hk2), at_rev h, h⟩
theorem at_lit {n : Nat} {es : List En} {k : Nat} (hg : Good n es) (hk : k < es.length) : Lit n (atE es k) := by
  obtain ⟨e, he, h, _⟩ := at_mem hk
  rw [h]
  exact hg.lit e he

set_option maxHeartbeats 2000000 in
theorem latest_any {w0 w : World} {X : Nat → Prop} {L : List (Nat × TrD)} {g n p bp bm M : Nat} {es : List En} {cv : Value} {hp : Nat → Bool} (hT : Trails w0 w X L) (i : Nat) (hL : L[i]? = some (g, trE n es)) (hg : Good n es) (hn : n ≤ 5000)
    (hS : IsLes w p g bp bm M n es cv hp) :
    Calls Try.prog 38 #[.pointer (some ⟨p, 0, none⟩)] w fun e w' => e = .returned (.tuple #[.int .i64 (maxH es.length hp), .int .i64 (cntB es.length fun k => hp k && topB n es k)]) ∧ Below w.heap.size w w' := by
  have hLt : Hid (∀ w' v x, Below w.heap.size w w' → (ofE n es v).level = x → Calls Try.prog 27 #[.pointer (some ⟨g, 0, none⟩), .int .i64 v] w' fun e w'' => e = .returned (.int .i64 x) ∧ Below w'.heap.size w' w'') := Lib.hid fun w' v x h hv => (levelOf_eq (hT.below h) i hL hn v x hv).mono fun _ _ hh => ⟨hh.1, hh.2.1⟩
  have hLe : Hid (∀ w', Below w.heap.size w w' → Calls Try.prog 22 #[.pointer (some ⟨g, 0, none⟩)] w' fun e w'' => e = .returned (.int .i64 (hi es)) ∧ w' = w'') := Lib.hid fun w' h => level_eq (hT.below h) i hL hg _ rfl
  have hlen := hg.len_le
  have hp0 : ∀ w', Below w.heap.size w w' → w'.cell? ⟨p, 0, none⟩ = some (.pointer (some ⟨g, 0, none⟩)) ∧ w'.cell? ⟨p, 3, none⟩ = some (.map (some bm)) := fun w' h => by
    have h1 := (hS.below h).blk
    have h2 := h1.cell 0
    have h3 := h1.cell 3
    simp at h2 h3
    exact ⟨h2, h3⟩
  have HP := Lib.hid hp0
  obtain ⟨hc0, hc3⟩ := hp0 w (Below.refl _ _)
  obtain ⟨m, D, hown, hmM, hD1, hD2⟩ := hS.held
  have hbm := hS.held.lt
  have HD1 := Lib.hid hD1
  have HD2 := Lib.hid hD2
  obtain ⟨pl, hpl⟩ : ∃ pl, pl = maxH es.length hp := ⟨_, rfl⟩
  obtain ⟨ct, hct⟩ : ∃ ct, ct = cntB es.length fun k => hp k && topB n es k := ⟨_, rfl⟩
  rw [← hpl, ← hct]
  have HPL := Lib.hid hpl
  have HCT := Lib.hid hct
  clear hS hT hD1 hD2 hp0 hpl hct
  go_enter Try.func38, Try.ntmps38
  go_wp2_with (first
    | (at_range; refine wpList_range_own _ rfl _ 64 rfl 3 3 (int_keyed Try.underlying3) Try.underlying64 _ bm m _ rfl hown ?_; intro wr0 hrg0 hg0 hs0)
    | go_in)
  go_loopw [2, 3] (fun a b wr => ∃ (left : Go.Lit → Bool) (cnt : Nat), wr.ranges Try.prog 3 (plainElem Try.prog 3) bm w.heap.size m D left cnt ∧ Hid (∀ kl, left kl = true → Maps.has D kl = true) ∧
      a = .int .i64 (maxH es.length fun k => hp k && !left (.int .i64 k)) ∧ b = .int .i64 (cntB es.length fun k => (hp k && !left (.int .i64 k)) && topB n es k) ∧ Hid (Below w.heap.size w wr))
    (fun _ _ wr => wr.rangeLeft bm w.heap.size)
  case atStart =>
    refine ⟨_, _, hrg0, fun _ h => h, ?_, ?_, ⟨hg0.os, hg0.tape, hg0.output, hg0.size, fun k hk => hg0.block k hk (by simp)⟩⟩
    · have h0 := maxH_congr (d := fun k => hp k && !Maps.has D (.int .i64 k)) (d' := fun _ => false) (len := es.length) fun j hj => by
        rw [HD1.out]
        simp [hj]
      rw [h0, maxH_none]
    · have h0 := cntB_congr (d := fun k => (hp k && !Maps.has D (.int .i64 k)) && topB n es k) (d' := fun _ => false) (len := es.length) fun j hj => by
        rw [HD1.out]
        simp [hj]
      rw [h0, cntB_none]
      rfl
  case round =>
    obtain ⟨left, cnt, hrg, HLs, rfl, rfl, HB⟩ := hrel
    go_wp2_with (first
      | (at_next; refine wpList_next_ranges_ii _ rfl _ rfl 3 3 .i64 .i64 (int_keyed Try.underlying3) Try.underlying3 Try.underlying3 bm w.heap.size m _ _ _ rfl hrg ?_ ?_)
      | go_in)
    · intro hc0 hl0
      have e1 : maxH es.length (fun k => hp k && !left (.int .i64 k)) = pl := by
        rw [HPL.out]
        exact maxH_congr fun j _ => by simp [hl0]
      have e2 : cntB es.length (fun k => (hp k && !left (.int .i64 k)) && topB n es k) = ct := by
        rw [HCT.out]
        exact cntB_congr fun j _ => by simp [hl0]
      rw [e1, e2]
      clear e1 e2 hrg hl0
      go_wp2_with fail
      go_ret2
      exact ⟨rfl, HB.out⟩
    · intro x c wr2 cnt' hwx hwc hlx hat hrg2 hlt hgr hsz hen
      have hhas := HLs.out _ hlx
      rw [HD1.out] at hhas
      simp only [Bool.and_eq_true, decide_eq_true_eq] at hhas
      obtain ⟨⟨hx0, hxl⟩, hhp⟩ := hhas
      obtain ⟨k, rfl⟩ : ∃ k : Nat, x = k := ⟨x.toNat, by omega⟩
      simp only [Int.toNat_natCast] at hhp
      have hkl : k < es.length := by omega
      have hce := (hat (.lit (.int .i64 0))).symm.trans (HD2.out k hkl hhp (.lit (.int .i64 0)))
      injection hce with hce
      injection hce with _ hce
      have hcn : c.natAbs = (atE es k).natAbs := by omega
      have hm0 : wr.rangeLeft bm w.heap.size = cnt := hrg.left_eq
      have hdone : (hp k && !left (.int .i64 k)) = false := by rw [hlx]; simp
      have hnext : ∀ j, j < es.length → (hp j && !(left (.int .i64 j) && !(Go.Lit.int .i64 j).sameKey (.int .i64 k))) = (decide (j = k) || (hp j && !left (.int .i64 j))) := fun j _ => by
        by_cases hjk : j = k
        · subst hjk
          rw [WideAt.sameKey_self (keyI _), hhp]
          simp
        · have : (Go.Lit.int .i64 (j : Int)).sameKey (.int .i64 (k : Int)) = false := by
            cases h : (Go.Lit.int .i64 (j : Int)).sameKey (.int .i64 (k : Int)) with
            | false => rfl
            | true => have := WideAt.sameKey_eq h; injection this with _ this; omega
          rw [this]
          simp [hjk]
      have hm1 : max (maxH es.length fun j => hp j && !left (.int .i64 j)) (k : Int) = maxH es.length fun j => hp j && !(left (.int .i64 j) && !(Go.Lit.int .i64 j).sameKey (.int .i64 k)) := by
        rw [maxH_congr hnext, maxH_put _ k hkl]
      have hc1 : (cntB es.length fun j => (hp j && !(left (.int .i64 j) && !(Go.Lit.int .i64 j).sameKey (.int .i64 k))) && topB n es j) = (cntB es.length fun j => (hp j && !left (.int .i64 j)) && topB n es j) + (if topB n es k then 1 else 0) := by
        rw [cntB_congr (d' := fun j => (decide (j = k) || (hp j && !left (.int .i64 j))) && topB n es j) fun j hj => by rw [hnext j hj]]
        cases ht : topB n es k with
        | true =>
          rw [if_pos rfl, ← cntB_put _ k (by rw [hdone]; rfl) hkl]
          refine cntB_congr fun j _ => ?_
          by_cases hjk : j = k
          · subst hjk; simp [ht]
          · simp [hjk]
        | false =>
          rw [if_neg (by simp)]
          refine cntB_congr fun j _ => ?_
          by_cases hjk : j = k
          · subst hjk; simp [ht]
          · simp [hjk]
      have htop : topB n es k = decide ((ofE n es ((c.natAbs : Int) - 1)).level = hi es) := by unfold topB; rw [hcn]
      have hcl := cntB_le (fun j => (hp j && !left (.int .i64 j)) && topB n es j) es.length
      have hmr := maxH_range (fun j => hp j && !left (.int .i64 j)) es.length
      have hci := at_lit hg hkl
      have HLn : Hid (∀ kl, (left kl && !kl.sameKey (.int .i64 (k : Int))) = true → Maps.has D kl = true) := Lib.hid fun kl h => HLs.out kl (by simp only [Bool.and_eq_true] at h; exact h.1)
      have hbw2 : Below w.heap.size w wr2 := HB.out.trans ⟨hgr.os, hgr.tape, hgr.output, hgr.size, fun k hk => hgr.block k (by have := HB.out.size; omega) (by simp; omega)⟩
      have hnm1 := Lib.hid hm1
      have hnc1 := Lib.hid hc1
      obtain ⟨hci1, hci2⟩ := hci
      rw [← hcn] at hci1 hci2
      obtain ⟨u, hu⟩ : ∃ u : Int, u = (c.natAbs : Int) - 1 := ⟨_, rfl⟩
      have hHv : Hid (∀ w', Calls Try.prog 36 #[.int .i64 c] w' fun e w'' => e = .returned (.int .i64 u) ∧ w' = w'') := Lib.hid fun w' => by rw [hu]; exact lvar_any c w' (by omega) (by omega)
      rw [← hu] at htop
      obtain ⟨lv, hlv⟩ : ∃ lv, lv = (ofE n es u).level := ⟨_, rfl⟩
      have HLv : Hid (∀ w', Below w.heap.size w w' → Calls Try.prog 27 #[.pointer (some ⟨g, 0, none⟩), .int .i64 u] w' fun e w'' => e = .returned (.int .i64 lv) ∧ Below w'.heap.size w' w'') := Lib.hid fun w' h => hLt.out w' u lv h hlv.symm
      rw [← hlv] at htop
      have HSS : Hid (∀ w', Below wr2.heap.size wr2 w' → w'.cell? ⟨p, 0, none⟩ = some (.pointer (some ⟨g, 0, none⟩))) := Lib.hid fun w' h => (HP.out w' (bel_new hbw2 hbw2.size h)).1
      have HBW := Lib.hid hbw2
      have hbd : Below wr2.heap.size wr2 wr2.drew := bel_drewN (Below.refl _ _) 1
      have hkey : Hid (∀ w', Below wr2.heap.size wr2 w' → w'.ranges Try.prog 3 (plainElem Try.prog 3) bm w.heap.size m D (fun z => left z && !z.sameKey (.int .i64 (k : Int))) cnt') := Lib.hid fun w' h => hrg2.kept (row := none) ⟨h.os, h.tape, h.output, h.size, fun k hk _ => h.block k hk⟩ (by simp) (by simp)
      generalize maxH es.length (fun j => hp j && !left (.int .i64 j)) = mx at *
      generalize cntB es.length (fun j => (hp j && !left (.int .i64 j)) && topB n es j) = ct0 at *
      clear hat hx0 hxl hhp hce hdone hnext hm1 hc1 hu hlv hbw2 hrg hgr hrg2 hwx hwc hlx
      generalize topB n es k = tb at *
      cases tb with
      | true =>
        have htp : (lv == hi es) = true := by simpa using htop.symm
        have htp2 : lv = hi es := by simpa using htop.symm
        clear htop
        go_wp2_with fail
        all_goals
          go_region_held3 (fun w' => w'.cell? ⟨p, 0, none⟩ = some (.pointer (some ⟨g, 0, none⟩))) (first | exact HSS.out _ (by assumption)) ((first
            | (go_at_call 36; (with_reducible refine (hHv.out _).mono ?_); rintro e w' ⟨rfl, rfl⟩)
            | (go_at_call 27; (with_reducible refine (HLv.out _ (bel_new HBW.out HBW.out.size hbd)).mono ?_); rintro e w5 ⟨rfl, hb5⟩; have hb5' := bel_new hbd hbd.size hb5)
            | (go_at_call 22; (with_reducible refine (hLe.out _ (bel_new HBW.out HBW.out.size hb5')).mono ?_); rintro e w' ⟨rfl, rfl⟩)
            | (go_at_call 22; (with_reducible refine (hLe.out _ (bel_new HBW.out HBW.out.size hbd)).mono ?_); rintro e w' ⟨rfl, rfl⟩)))
          go_wp2_with fail
          go_roundw
          case rel => exact ⟨_, cnt', hkey.out _ hb5', HLn, by rw [← hnm1.out]; congr 1; omega, by rw [hnc1.out]; go_num, bel_new HBW.out HBW.out.size hb5'⟩
          case measure => rw [(hkey.out _ hb5').left_eq, hm0]; exact hlt
      | false =>
        have htp : (lv == hi es) = false := by simpa using htop.symm
        clear htop
        go_wp2_with fail
        all_goals
          go_region_held3 (fun w' => w'.cell? ⟨p, 0, none⟩ = some (.pointer (some ⟨g, 0, none⟩))) (first | exact HSS.out _ (by assumption)) ((first
            | (go_at_call 36; (with_reducible refine (hHv.out _).mono ?_); rintro e w' ⟨rfl, rfl⟩)
            | (go_at_call 27; (with_reducible refine (HLv.out _ (bel_new HBW.out HBW.out.size hbd)).mono ?_); rintro e w5 ⟨rfl, hb5⟩; have hb5' := bel_new hbd hbd.size hb5)
            | (go_at_call 22; (with_reducible refine (hLe.out _ (bel_new HBW.out HBW.out.size hb5')).mono ?_); rintro e w' ⟨rfl, rfl⟩)
            | (go_at_call 22; (with_reducible refine (hLe.out _ (bel_new HBW.out HBW.out.size hbd)).mono ?_); rintro e w' ⟨rfl, rfl⟩)))
          go_wp2_with fail
          go_roundw
          case rel => exact ⟨_, cnt', hkey.out _ hb5', HLn, by rw [← hnm1.out]; congr 1; omega, by rw [hnc1.out]; go_num, bel_new HBW.out HBW.out.size hb5'⟩
          case measure => rw [(hkey.out _ hb5').left_eq, hm0]; exact hlt

end Go.Proofs.Ythfmlmodpcikcaa
