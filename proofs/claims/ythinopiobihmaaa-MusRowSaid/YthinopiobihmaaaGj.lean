/- Contracts of package learn: latest. -/
import Derived.Test.YthinopiobihmaaaGi
import Derived.Deep.RegionHeld3
import Derived.Deep.CutRange
namespace Go.Proofs.Ythinopiobihmaaa
open Go.ChangeShapes Go.WideShapes Go.ChangeAt Go.RowKit Go.Maps
set_option maxRecDepth 100000

/-! ### The greatest place that is held, and how many -/
def maxH : Nat → (Nat → Bool) → Int
  | 0, _ => -1
  | k + 1, d => if d k then k else maxH k d
def cntB : Nat → (Nat → Bool) → Nat
  | 0, _ => 0
  | k + 1, d => cntB k d + (if d k then 1 else 0)
def topB (n : Nat) (es : List En) (k : Nat) : Bool := decide ((ofE n es (((atE es k).natAbs : Int) - 1)).level = hi es)

theorem maxH_range (d : Nat → Bool) : ∀ len, -1 ≤ maxH len d ∧ maxH len d < len
  | 0 => by simp [maxH]
  | k + 1 => by
    have := maxH_range d k
    simp only [maxH]
    split <;> omega
theorem maxH_congr {d d' : Nat → Bool} : ∀ {len : Nat}, (∀ j, j < len → d j = d' j) → maxH len d = maxH len d'
  | 0, _ => rfl
  | k + 1, h => by
    simp only [maxH]
    rw [h k (by omega), maxH_congr fun j hj => h j (by omega)]
theorem cntB_congr {d d' : Nat → Bool} : ∀ {len : Nat}, (∀ j, j < len → d j = d' j) → cntB len d = cntB len d'
  | 0, _ => rfl
  | k + 1, h => by
    simp only [cntB]
    rw [h k (by omega), cntB_congr fun j hj => h j (by omega)]
theorem cntB_le (d : Nat → Bool) : ∀ len, cntB len d ≤ len
  | 0 => by simp [cntB]
  | k + 1 => by
    have := cntB_le d k
    simp only [cntB]
    split <;> omega
theorem maxH_none : ∀ len, maxH len (fun _ => false) = -1
  | 0 => rfl
  | k + 1 => by simp [maxH, maxH_none k]
theorem cntB_none : ∀ len, cntB len (fun _ => false) = 0
  | 0 => rfl
  | k + 1 => by simp [cntB, cntB_none k]

theorem maxH_put (d : Nat → Bool) (x : Nat) : ∀ {len : Nat}, x < len → maxH len (fun j => decide (j = x) || d j) = max (maxH len d) x
  | 0, h => by omega
  | k + 1, h => by
    have h1 := maxH_range d k
    simp only [maxH]
    by_cases hx : k = x
    · subst hx
      simp only [decide_true, Bool.true_or, if_true]
      split <;> omega
    · have h2 : decide (k = x) = false := by simpa using hx
      simp only [h2, Bool.false_or]
      have ih := maxH_put d x (len := k) (by omega)
      split <;> omega
theorem cntB_put (d : Nat → Bool) (x : Nat) (hd : d x = false) : ∀ {len : Nat}, x < len → cntB len (fun j => decide (j = x) || d j) = cntB len d + 1
  | 0, h => by omega
  | k + 1, h => by
    simp only [cntB]
    by_cases hx : k = x
    · subst hx
      have := cntB_congr (len := k) (d := fun j => decide (j = k) || d j) (d' := d) fun j hj => by
        have : decide (j = k) = false := by simp; omega
        simp [this]
      simp [hd, this]
    · have h2 : decide (k = x) = false := by simpa using hx
      simp only [h2, Bool.false_or]
      have ih := cntB_put d x hd (len := k) (by omega)
      omega

theorem at_mem {es : List En} {k : Nat} (hk : k < es.length) : ∃ e ∈ es, atE es k = e.lit ∧ es.reverse[k]? = some e := by
  have hk2 : k < es.reverse.length := by simpa using hk
  have h : es.reverse[k]? = some es.reverse[k] := List.getElem?_eq_getElem hk2
  exact ⟨es.reverse[k], List.mem_reverse.1 (List.getElem_mem hk2), at_rev h, h⟩
theorem at_lit {n : Nat} {es : List En} {k : Nat} (hg : Good n es) (hk : k < es.length) : Lit n (atE es k) := by
  obtain ⟨e, he, h, _⟩ := at_mem hk
  rw [h]
  exact hg.lit e he

set_option maxHeartbeats 2000000 in
theorem latest_any {w0 w : World} {X : Nat → Prop} {L : List (Nat × TrD)} {g n p bp bm M : Nat} {es : List En} {cv : Value} {hp : Nat → Bool} (hT : Trails w0 w X L) (i : Nat) (hL : L[i]? = some (g, trE n es)) (hg : Good n es) (hn : n ≤ 5000)
    (hS : IsLes w p g bp bm M n es cv hp) :
    Calls Try.prog 45 #[.pointer (some ⟨p, 0, none⟩)] w fun e w' => e = .returned (.tuple #[.int .i64 (maxH es.length hp), .int .i64 (cntB es.length fun k => hp k && topB n es k)]) ∧ Below w.heap.size w w' := by
  have hLt : Hid (∀ w' v x, Below w.heap.size w w' → (ofE n es v).level = x → Calls Try.prog 48 #[.pointer (some ⟨g, 0, none⟩), .int .i64 v] w' fun e w'' => e = .returned (.int .i64 x) ∧ Below w'.heap.size w' w'') := Lib.hid fun w' v x h hv => (levelOf_eq (hT.below h) i hL hn v x hv).mono fun _ _ hh => ⟨hh.1, hh.2.1⟩
  have hLe : Hid (∀ w', Below w.heap.size w w' → Calls Try.prog 46 #[.pointer (some ⟨g, 0, none⟩)] w' fun e w'' => e = .returned (.int .i64 (hi es)) ∧ w' = w'') := Lib.hid fun w' h => level_eq (hT.below h) i hL hg _ rfl
  have hlen := hg.len_le
  have hp0 : ∀ w', Below w.heap.size w w' → w'.cell? ⟨p, 0, none⟩ = some (.pointer (some ⟨g, 0, none⟩)) ∧ w'.cell? ⟨p, 3, none⟩ = some (.map (some bm)) := fun w' h => by
    have h1 := (hS.below h).blk
    have h2 := h1.cell 0
    have h3 := h1.cell 3
    simp at h2 h3
    exact ⟨h2, h3⟩
  have HP := Lib.hid hp0
  obtain ⟨hc0, hc3⟩ := hp0 w (Below.refl _ _)
  obtain ⟨m, D, hown, hmM, hD1, hD2⟩ := hS.held
  have hbm := hS.held.lt
  have HD1 := Lib.hid hD1
  have HD2 := Lib.hid hD2
  obtain ⟨pl, hpl⟩ : ∃ pl, pl = maxH es.length hp := ⟨_, rfl⟩
  obtain ⟨ct, hct⟩ : ∃ ct, ct = cntB es.length fun k => hp k && topB n es k := ⟨_, rfl⟩
  rw [← hpl, ← hct]
  have HPL := Lib.hid hpl
  have HCT := Lib.hid hct
  clear hS hT hD1 hD2 hp0 hpl hct
  go_enter Try.func45, Try.ntmps45
  go_wp2_with (first
    | (at_range; refine wpList_range_own _ rfl _ 71 rfl 3 3 (int_keyed Try.underlying3) Try.underlying71 _ bm m _ rfl hown ?_; intro wr0 hrg0 hg0 hs0)
    | go_in)
  go_loopw [2, 3] (fun a b wr => ∃ (left : Go.Lit → Bool) (cnt : Nat), wr.ranges Try.prog 3 (plainElem Try.prog 3) bm w.heap.size m D left cnt ∧ Hid (∀ kl, left kl = true → Maps.has D kl = true) ∧
      a = .int .i64 (maxH es.length fun k => hp k && !left (.int .i64 k)) ∧ b = .int .i64 (cntB es.length fun k => (hp k && !left (.int .i64 k)) && topB n es k) ∧ Hid (Below w.heap.size w wr))
    (fun _ _ wr => wr.rangeLeft bm w.heap.size)
  case atStart =>
    refine ⟨_, _, hrg0, fun _ h => h, ?_, ?_, ⟨hg0.os, hg0.tape, hg0.output, hg0.size, fun k hk => hg0.block k hk (by simp)⟩⟩
    · have h0 := maxH_congr (d := fun k => hp k && !Maps.has D (.int .i64 k)) (d' := fun _ => false) (len := es.length) fun j hj => by
        rw [HD1.out]
        simp [hj]
      rw [h0, maxH_none]
    · have h0 := cntB_congr (d := fun k => (hp k && !Maps.has D (.int .i64 k)) && topB n es k) (d' := fun _ => false) (len := es.length) fun j hj => by
        rw [HD1.out]
        simp [hj]
      rw [h0, cntB_none]
      rfl
  case round =>
    obtain ⟨left, cnt, hrg, HLs, rfl, rfl, HB⟩ := hrel
    go_wp2_with (first
      | (at_next; refine wpList_next_ranges_ii _ rfl _ rfl 3 3 .i64 .i64 (int_keyed Try.underlying3) Try.underlying3 Try.underlying3 bm w.heap.size m _ _ _ rfl hrg ?_ ?_)
      | go_in)
    · intro hc0 hl0
      have e1 : maxH es.length (fun k => hp k && !left (.int .i64 k)) = pl := by
        rw [HPL.out]
        exact maxH_congr fun j _ => by simp [hl0]
      have e2 : cntB es.length (fun k => (hp k && !left (.int .i64 k)) && topB n es k) = ct := by
        rw [HCT.out]
        exact cntB_congr fun j _ => by simp [hl0]
      rw [e1, e2]
      clear e1 e2 hrg hl0
      go_wp2_with fail
      go_ret2
      exact ⟨rfl, HB.out⟩
    · intro x c wr2 cnt' hwx hwc hlx hat hrg2 hlt hgr hsz hen
      have hhas := HLs.out _ hlx
      rw [HD1.out] at hhas
      simp only [Bool.and_eq_true, decide_eq_true_eq] at hhas
      obtain ⟨⟨hx0, hxl⟩, hhp⟩ := hhas
      obtain ⟨k, rfl⟩ : ∃ k : Nat, x = k := ⟨x.toNat, by omega⟩
      simp only [Int.toNat_natCast] at hhp
      have hkl : k < es.length := by omega
      have hce := (hat (.lit (.int .i64 0))).symm.trans (HD2.out k hkl hhp (.lit (.int .i64 0)))
      injection hce with hce
      injection hce with _ hce
      have hcn : c.natAbs = (atE es k).natAbs := by omega
      have hm0 : wr.rangeLeft bm w.heap.size = cnt := hrg.left_eq
      have hdone : (hp k && !left (.int .i64 k)) = false := by rw [hlx]; simp
      have hnext : ∀ j, j < es.length → (hp j && !(left (.int .i64 j) && !(Go.Lit.int .i64 j).sameKey (.int .i64 k))) = (decide (j = k) || (hp j && !left (.int .i64 j))) := fun j _ => by
        by_cases hjk : j = k
        · subst hjk
          rw [WideAt.sameKey_self (keyIK _), hhp]
          simp
        · have : (Go.Lit.int .i64 (j : Int)).sameKey (.int .i64 (k : Int)) = false := by
            cases h : (Go.Lit.int .i64 (j : Int)).sameKey (.int .i64 (k : Int)) with
            | false => rfl
            | true => have := WideAt.sameKey_eq h; injection this with _ this; omega
          rw [this]
          simp [hjk]
      have hm1 : max (maxH es.length fun j => hp j && !left (.int .i64 j)) (k : Int) = maxH es.length fun j => hp j && !(left (.int .i64 j) && !(Go.Lit.int .i64 j).sameKey (.int .i64 k)) := by
        rw [maxH_congr hnext, maxH_put _ k hkl]
      have hc1 : (cntB es.length fun j => (hp j && !(left (.int .i64 j) && !(Go.Lit.int .i64 j).sameKey (.int .i64 k))) && topB n es j) = (cntB es.length fun j => (hp j && !left (.int .i64 j)) && topB n es j) + (if topB n es k then 1 else 0) := by
        rw [cntB_congr (d' := fun j => (decide (j = k) || (hp j && !left (.int .i64 j))) && topB n es j) fun j hj => by rw [hnext j hj]]
        cases ht : topB n es k with
        | true =>
          rw [if_pos rfl, ← cntB_put _ k (by rw [hdone]; rfl) hkl]
          refine cntB_congr fun j _ => ?_
          by_cases hjk : j = k
          · subst hjk; simp [ht]
          · simp [hjk]
        | false =>
          rw [if_neg (by simp)]
          refine cntB_congr fun j _ => ?_
          by_cases hjk : j = k
          · subst hjk; simp [ht]
          · simp [hjk]
      have htop : topB n es k = decide ((ofE n es ((c.natAbs : Int) - 1)).level = hi es) := by unfold topB; rw [hcn]
      have hcl := cntB_le (fun j => (hp j && !left (.int .i64 j)) && topB n es j) es.length
      have hmr := maxH_range (fun j => hp j && !left (.int .i64 j)) es.length
      have hci := at_lit hg hkl
      have HLn : Hid (∀ kl, (left kl && !kl.sameKey (.int .i64 (k : Int))) = true → Maps.has D kl = true) := Lib.hid fun kl h => HLs.out kl (by simp only [Bool.and_eq_true] at h; exact h.1)
      have hbw2 : Below w.heap.size w wr2 := HB.out.trans ⟨hgr.os, hgr.tape, hgr.output, hgr.size, fun k hk => hgr.block k (by have := HB.out.size; omega) (by simp; omega)⟩
      have hnm1 := Lib.hid hm1
      have hnc1 := Lib.hid hc1
      obtain ⟨hci1, hci2⟩ := hci
      rw [← hcn] at hci1 hci2
      obtain ⟨u, hu⟩ : ∃ u : Int, u = (c.natAbs : Int) - 1 := ⟨_, rfl⟩
      have hHv : Hid (∀ w', Calls Try.prog 42 #[.int .i64 c] w' fun e w'' => e = .returned (.int .i64 u) ∧ w' = w'') := Lib.hid fun w' => by rw [hu]; exact lvar_any c w' (by omega) (by omega)
      rw [← hu] at htop
      obtain ⟨lv, hlv⟩ : ∃ lv, lv = (ofE n es u).level := ⟨_, rfl⟩
      have HLv : Hid (∀ w', Below w.heap.size w w' → Calls Try.prog 48 #[.pointer (some ⟨g, 0, none⟩), .int .i64 u] w' fun e w'' => e = .returned (.int .i64 lv) ∧ Below w'.heap.size w' w'') := Lib.hid fun w' h => hLt.out w' u lv h hlv.symm
      rw [← hlv] at htop
      have HSS : Hid (∀ w', Below wr2.heap.size wr2 w' → w'.cell? ⟨p, 0, none⟩ = some (.pointer (some ⟨g, 0, none⟩))) := Lib.hid fun w' h => (HP.out w' (bel_new hbw2 hbw2.size h)).1
      have HBW := Lib.hid hbw2
      have hbd : Below wr2.heap.size wr2 wr2.drew := bel_drewN (Below.refl _ _) 1
      have hkey : Hid (∀ w', Below wr2.heap.size wr2 w' → w'.ranges Try.prog 3 (plainElem Try.prog 3) bm w.heap.size m D (fun z => left z && !z.sameKey (.int .i64 (k : Int))) cnt') := Lib.hid fun w' h => hrg2.kept (row := none) ⟨h.os, h.tape, h.output, h.size, fun k hk _ => h.block k hk⟩ (by simp) (by simp)
      generalize maxH es.length (fun j => hp j && !left (.int .i64 j)) = mx at *
      generalize cntB es.length (fun j => (hp j && !left (.int .i64 j)) && topB n es j) = ct0 at *
      clear hat hx0 hxl hhp hce hdone hnext hm1 hc1 hu hlv hbw2 hrg hgr hrg2 hwx hwc hlx
      generalize topB n es k = tb at *
      cases tb with
      | true =>
        have htp : (lv == hi es) = true := by simpa using htop.symm
        have htp2 : lv = hi es := by simpa using htop.symm
        clear htop
        go_wp2_with fail
        all_goals
          go_region_held3 (fun w' => w'.cell? ⟨p, 0, none⟩ = some (.pointer (some ⟨g, 0, none⟩))) (first | exact HSS.out _ (by assumption)) ((first
            | (go_at_call 42; (with_reducible refine (hHv.out _).mono ?_); rintro e w' ⟨rfl, rfl⟩)
            | (go_at_call 48; (with_reducible refine (HLv.out _ (bel_new HBW.out HBW.out.size hbd)).mono ?_); rintro e w5 ⟨rfl, hb5⟩; have hb5' := bel_new hbd hbd.size hb5)
            | (go_at_call 46; (with_reducible refine (hLe.out _ (bel_new HBW.out HBW.out.size hb5')).mono ?_); rintro e w' ⟨rfl, rfl⟩)
            | (go_at_call 46; (with_reducible refine (hLe.out _ (bel_new HBW.out HBW.out.size hbd)).mono ?_); rintro e w' ⟨rfl, rfl⟩)))
          go_wp2_with fail
          go_roundw
          case rel => exact ⟨_, cnt', hkey.out _ hb5', HLn, by rw [← hnm1.out]; congr 1; omega, by rw [hnc1.out]; go_num, bel_new HBW.out HBW.out.size hb5'⟩
          case measure => rw [(hkey.out _ hb5').left_eq, hm0]; exact hlt
      | false =>
        have htp : (lv == hi es) = false := by simpa using htop.symm
        clear htop
        go_wp2_with fail
        all_goals
          go_region_held3 (fun w' => w'.cell? ⟨p, 0, none⟩ = some (.pointer (some ⟨g, 0, none⟩))) (first | exact HSS.out _ (by assumption)) ((first
            | (go_at_call 42; (with_reducible refine (hHv.out _).mono ?_); rintro e w' ⟨rfl, rfl⟩)
            | (go_at_call 48; (with_reducible refine (HLv.out _ (bel_new HBW.out HBW.out.size hbd)).mono ?_); rintro e w5 ⟨rfl, hb5⟩; have hb5' := bel_new hbd hbd.size hb5)
            | (go_at_call 46; (with_reducible refine (hLe.out _ (bel_new HBW.out HBW.out.size hb5')).mono ?_); rintro e w' ⟨rfl, rfl⟩)
            | (go_at_call 46; (with_reducible refine (hLe.out _ (bel_new HBW.out HBW.out.size hbd)).mono ?_); rintro e w' ⟨rfl, rfl⟩)))
          go_wp2_with fail
          go_roundw
          case rel => exact ⟨_, cnt', hkey.out _ hb5', HLn, by rw [← hnm1.out]; congr 1; omega, by rw [hnc1.out]; go_num, bel_new HBW.out HBW.out.size hb5'⟩
          case measure => rw [(hkey.out _ hb5').left_eq, hm0]; exact hlt

end Go.Proofs.Ythinopiobihmaaa

namespace Go.Proofs.Ythinopiobihmaaa
open Go.ChangeShapes Go.WideShapes Go.ChangeAt Go.RowKit Go.Maps
set_option maxRecDepth 100000

/-- The literals that are held at places below len, the latest first. -/
def clauseTo (es : List En) (hp : Nat → Bool) : Nat → List Int
  | 0 => []
  | k + 1 => if hp k then -atE es k :: clauseTo es hp k else clauseTo es hp k
def clauseOf (es : List En) (hp : Nat → Bool) : List Int := clauseTo es hp es.length
def backFrom (n : Nat) (es : List En) : Int → List Int → Int
  | b, [] => b
  | b, x :: l => backFrom n es (max b (ofE n es ((x.natAbs : Int) - 1)).level) l

/-- Clause, back, bonds, error. -/
abbrev Taught := List Int × Int × List Int × Int

def loopL (n : Nat) (es : List En) (cls : List (List Int)) : Nat → (Nat → Bool) → List Int → Taught
  | 0, _, _ => ([], 0, [], 7)
  | k + 1, hp, bs =>
    if cntB es.length (fun j => hp j && topB n es j) = 0 ∧ hi es = 0 then ([], -1, bs, 0)
    else if cntB es.length (fun j => hp j && topB n es j) = 1 ∧ 0 < hi es then (clauseOf es hp, backFrom n es 0 (clauseOf es hp).tail, bs, 0)
    else
      let lit := atE es (maxH es.length hp)
      let r := (ofE n es ((lit.natAbs : Int) - 1)).reason
      if r < 0 ∨ (cls.length : Int) ≤ r then ([], 0, [], 7)
      else
        let T := takeC n es (cls.getD r.toNat []) lit (maxH es.length hp) (fun j => hp j && !decide ((j : Int) = maxH es.length hp))
        if T.1 = 0 then loopL n es cls k T.2 (bs ++ [r]) else ([], 0, [], T.1)

def learnE (n : Nat) (es : List En) (cls : List (List Int)) (conflict : Int) : Taught :=
  if conflict < 0 ∨ (cls.length : Int) ≤ conflict then ([], 0, [], 1)
  else
    let T := takeC n es (cls.getD conflict.toNat []) 0 es.length (fun _ => false)
    if T.1 = 0 then (if cntB es.length (fun j => T.2 j && topB n es j) = 0 ∧ 0 < hi es then ([], 0, [], 7) else loopL n es cls (es.length + 2) T.2 [conflict])
    else ([], 0, [], T.1)

/-- Clauses in memory. -/
def IsCls (w : World) (ao : Option Addr) (cls : List (List Int)) : Prop :=
  0 < cls.length → ∃ b off, ao = some ⟨b, off, none⟩ ∧ b < w.heap.size ∧ ∀ j (h : j < cls.length), ∃ ao' cap', w.cell? ⟨b, off + j, none⟩ = some (.slice ao' cls[j].length cap') ∧
    (0 < cls[j].length → ∃ b' off', ao' = some ⟨b', off', none⟩ ∧ b' < w.heap.size ∧ ∀ k (h : k < cls[j].length), w.cell? ⟨b', off' + k, none⟩ = some (.int .i64 cls[j][k]))

theorem IsCls.below {w w' : World} {ao : Option Addr} {cls : List (List Int)} (h : IsCls w ao cls) (hb : Below w.heap.size w w') : IsCls w' ao cls := fun h0 => by
  obtain ⟨b, off, e, hbl, hc⟩ := h h0
  refine ⟨b, off, e, Nat.lt_of_lt_of_le hbl hb.size, fun j hj => ?_⟩
  obtain ⟨ao', cap', h1, h2⟩ := hc j hj
  refine ⟨ao', cap', (World.cell?_of_block (w := w) (hb.block b hbl)).trans h1, fun h3 => ?_⟩
  obtain ⟨b', off', e', hbl', hc'⟩ := h2 h3
  exact ⟨b', off', e', Nat.lt_of_lt_of_le hbl' hb.size, fun k hk => (World.cell?_of_block (w := w) (hb.block b' hbl')).trans (hc' k hk)⟩

theorem results_tmp4 {fn : Func} {t u v x : Tmp} (h : fn.results = #[.tmp t, .tmp u, .tmp v, .tmp x]) (tmps : Array Value) (P : Program) (w : World) :
    (results fn tmps).run P w = .ok (.tuple #[tmps.getD t undef, tmps.getD u undef, tmps.getD v undef, tmps.getD x undef]) w := by
  simp [results, h]

/-! ### The older ones of a trail -/
theorem posV_cons (e : En) (es : List En) (v : Nat) : posV (e :: es) v = if e.lit.natAbs = v + 1 then es.length else posV es v := rfl
theorem placesE_nil (n : Nat) : placesE n [] = List.replicate n 0 := by
  simp only [placesE, posV, List.map_const', List.length_range]
  rfl

theorem takeC_mono {n : Nat} {es : List En} {l : List Int} {but place : Int} {hp : Nat → Bool} : ∀ j, hp j = true → (takeC n es l but place hp).2 j = true := by
  intro j hj
  unfold takeC
  split
  · exact hj
  split
  · exact hj
  split
  · exact hj
  · simp [addH, hj]

/-- What take has added stands ahead of the place. -/
theorem takeC_below {n : Nat} {es : List En} {l : List Int} {but place : Int} {hp : Nat → Bool} {j : Nat} (h0 : hp j = true → (j : Int) < place) : (takeC n es l but place hp).2 j = true → (j : Int) < place := by
  unfold takeC
  split
  · exact h0
  split
  · exact h0
  split
  · exact h0
  · next h =>
    intro h2
    simp only [addH, Bool.or_eq_true, List.any_eq_true, Bool.and_eq_true, decide_eq_true_eq] at h2
    rcases h2 with h2 | ⟨x, hx, h3, h4⟩
    · exact h0 h2
    · have hall : l.all (okT n es but place) = true := by simpa using h
      have h5 := List.all_eq_true.1 hall x hx
      unfold okT at h5
      simp only [Bool.or_eq_true, decide_eq_true_eq, Bool.and_eq_true] at h5
      rcases h5 with h5 | h5
      · exact absurd h5 h3
      · rw [h4] at h5; exact h5.2

theorem maxH_lt {d : Nat → Bool} {place : Int} : ∀ {len : Nat}, (∀ j : Nat, j < len → d j = true → (j : Int) < place) → -1 < place → maxH len d < place
  | 0, _, h => by simpa [maxH] using h
  | k + 1, h, h0 => by
    simp only [maxH]
    split
    · next hk => exact h k (by omega) hk
    · exact maxH_lt (fun j hj => h j (by omega)) h0
theorem maxH_held {d : Nat → Bool} : ∀ {len : Nat}, 0 ≤ maxH len d → d (maxH len d).toNat = true
  | 0, h => by simp [maxH] at h
  | k + 1, h => by
    simp only [maxH] at h ⊢
    split
    · next hk => simpa using hk
    · next hk => rw [if_neg hk] at h; exact maxH_held h
theorem maxH_ge {d : Nat → Bool} : ∀ {len j : Nat}, j < len → d j = true → (j : Int) ≤ maxH len d
  | 0, _, h, _ => by omega
  | k + 1, j, h, hd => by
    simp only [maxH]
    split
    · omega
    · next hk =>
      by_cases hjk : j = k
      · subst hjk; exact absurd hd hk
      · exact maxH_ge (by omega) hd

theorem clauseTo_len {es : List En} {hp : Nat → Bool} : ∀ k, (clauseTo es hp k).length = cntB k hp
  | 0 => rfl
  | k + 1 => by
    simp only [clauseTo, cntB]
    split <;> simp [clauseTo_len k]
theorem clauseTo_mem {es : List En} {hp : Nat → Bool} {x : Int} : ∀ {k : Nat}, x ∈ clauseTo es hp k → ∃ j, j < k ∧ hp j = true ∧ x = -atE es j
  | 0, h => by cases h
  | k + 1, h => by
    simp only [clauseTo] at h
    split at h
    · next hk =>
      rcases List.mem_cons.1 h with rfl | h
      · exact ⟨k, by omega, hk, rfl⟩
      · obtain ⟨j, h1, h2⟩ := clauseTo_mem h
        exact ⟨j, by omega, h2⟩
    · obtain ⟨j, h1, h2⟩ := clauseTo_mem h
      exact ⟨j, by omega, h2⟩
theorem cntB_and_le (d t : Nat → Bool) : ∀ k, cntB k (fun j => d j && t j) ≤ cntB k d
  | 0 => Nat.le_refl _
  | k + 1 => by
    have := cntB_and_le d t k
    simp only [cntB]
    by_cases h1 : d k = true
    · rw [if_pos h1]
      split <;> omega
    · have h2 : d k = false := by simpa using h1
      simp only [h2, Bool.false_and]
      simp
      omega

end Go.Proofs.Ythinopiobihmaaa

namespace Go.Proofs.Ythinopiobihmaaa
open Go.ChangeShapes Go.WideShapes Go.ChangeAt Go.RowKit Go.Maps
set_option maxRecDepth 100000

def LearnPost (w : World) (e : Ending) (w' : World) (R : Taught) : Prop :=
  Below w.heap.size w w' ∧ ∃ vc vs, e = .returned (.tuple #[vc, .int .i64 R.2.1, vs, .int .i64 R.2.2.2]) ∧ Own w' 3 1 vc R.1.length (inC R.1) ∧ Own w' 3 1 vs R.2.2.1.length (inC R.2.2.1) ∧
    (∀ k, vc.ownBlock = some k → w.heap.size ≤ k) ∧ (∀ k, vs.ownBlock = some k → w.heap.size ≤ k)

theorem post_none {w w' : World} (b e : Int) (hb : Below w.heap.size w w') : LearnPost w (.returned (.tuple #[.slice none 0 0, .int .i64 b, .slice none 0 0, .int .i64 e])) w' ([], b, [], e) :=
  ⟨hb, _, _, rfl, Own.nil _ _ _, Own.nil _ _ _, fun k hk => by simp [Value.ownBlock] at hk, fun k hk => by simp [Value.ownBlock] at hk⟩

def sliceLen : Value → Nat
  | .slice _ n _ => n
  | _ => 0

theorem IsLes.far {F : Nat → Prop} {w w' : World} {p g bp bm M n : Nat} {es : List En} {cv : Value} {hp : Nat → Bool} (h : IsLes w p g bp bm M n es cv hp) (ht : Touch F w w') (h1 : ¬ F p) (h2 : ¬ F bp) (h3 : ¬ F bm) : IsLes w' p g bp bm M n es cv hp := by
  refine ⟨h.blk.touch ht h1, h.places.touch ht fun k hk => by injection hk with hk; simp at hk; exact hk ▸ h2, ?_⟩
  have hl := h.held.lt
  obtain ⟨m, D, ⟨es', clock, hb, r⟩, h5⟩ := h.held
  exact ⟨m, D, ⟨es', clock, (ht.block bm hl h3).trans hb, r⟩, h5⟩

theorem HeldM.look {w : World} {bm M len : Nat} {f : Nat → Int} {hp : Nat → Bool} (h : HeldM w bm M len f hp) (j : Nat) (hj : j < len) (h5 : j ≤ 5000) :
    ∃ z : Int, (hp j = true → z = f j) ∧ Sem.run Try.prog (Instr.lookup 71 (.map (some bm)) (.int .i64 (j : Int)) true) w = .ok (.tuple #[.int .i64 z, .bool (hp j)]) w := by
  obtain ⟨m, D, hown, hmM, hD1, hD2⟩ := h
  have hwp : (Go.Lit.int .i64 (j : Int)).wf = true := wf_of_abs (n := 5000) (by omega) (by omega)
  have hb : Maps.has D (.int .i64 (j : Int)) = hp j := by rw [hD1]; simp; omega
  have hz : (zeroValue 3).run Try.prog w = .ok (.int .i64 0) w := by kernel_rfl
  obtain ⟨v, ps, h1, h2⟩ := World.ownsMap.look_ok hown (int_keyed Try.underlying3) Try.underlying71 hz (plainElem_int Try.underlying3 (a := 0) (by decide)) (keyOf_int_mk Try.underlying3 hwp)
  obtain ⟨z, rfl, h3, _⟩ := plainElem_int_inv Try.underlying3 h2
  simp only [Prod.mk.injEq] at h3
  refine ⟨z, fun h => ?_, by rw [h1, hb]⟩
  have h4 := hD2 j hj h (.lit (.int .i64 0))
  rw [h3.1] at h4
  injection h4 with h4
  injection h4

set_option maxHeartbeats 2000000 in
theorem learn_any {w0 w : World} {X : Nat → Prop} {L : List (Nat × TrD)} {g n : Nat} {es : List En} (cls : List (List Int)) (ao : Option Addr) (cap : Nat) (conflict : Int) (hT : Trails w0 w X L) (i : Nat) (hL : L[i]? = some (g, trE n es)) (hg : Good n es) (hn : n ≤ 5000)
    (hc : IsCls w ao cls) (hcl : ∀ c ∈ cls, c.length ≤ 2000) (hln : cls.length ≤ 1000000) :
    Calls Try.prog 29 #[.pointer (some ⟨g, 0, none⟩), .slice ao cls.length cap, .int .i64 conflict] w fun e w' => LearnPost w e w' (learnE n es cls conflict) := by
  obtain ⟨i3, hi3, hz0, hz1, hz2⟩ := info_parts (P := Try.prog) (e := 3) (z := .int .i64 0) (size := 1) (bytes := 8) (by kernel_rfl)
  obtain ⟨R, hR⟩ : ∃ R, R = learnE n es cls conflict := ⟨_, rfl⟩
  have hlen := hg.len_le
  rw [← hR]
  by_cases h0 : conflict < 0 ∨ (cls.length : Int) ≤ conflict
  · have e1 : R = ([], 0, [], 1) := by rw [hR]; unfold learnE; rw [if_pos h0]
    subst e1
    clear hR
    by_cases h1 : conflict < 0
    · go_enter Try.func29, Try.ntmps29
      go_wp2_with fail
      (try simp only [Exit.inBlock, Exit.then])
      refine bodyPost_ret (results_tmp4 rfl _ _ _) rfl ?_
      exact post_none _ _ (Below.refl _ _)
    · have h2 : decide (conflict < 0) = false := by simpa using h1
      have h3 : (cls.length : Int) ≤ conflict := by omega
      go_enter Try.func29, Try.ntmps29
      go_wp2_with fail
      (try simp only [Exit.inBlock, Exit.then])
      refine bodyPost_ret (results_tmp4 rfl _ _ _) rfl ?_
      exact post_none _ _ (Below.refl _ _)
  · obtain ⟨c, rfl⟩ : ∃ c : Nat, conflict = c := ⟨conflict.toNat, by omega⟩
    have hcc : c < cls.length := by omega
    have hci : (c : Int) < (cls.length : Int) := by omega
    have hc0 : decide ((c : Int) < 0) = false := by simp
    have hcn : decide ((cls.length : Int) ≤ (c : Int)) = false := by simp; omega
    have hR2 : R = (let T := takeC n es (cls.getD c []) 0 es.length (fun _ => false)
      if T.1 = 0 then (if cntB es.length (fun j => T.2 j && topB n es j) = 0 ∧ 0 < hi es then ([], 0, [], 7) else loopL n es cls (es.length + 2) T.2 [(c : Int)])
      else ([], 0, [], T.1)) := by rw [hR]; unfold learnE; rw [if_neg h0]; rfl
    clear hR h0
    have HV : Hid (∀ w', Below w.heap.size w w' → Calls Try.prog 40 #[.pointer (some ⟨g, 0, none⟩)] w' fun e w'' => e = .returned (.int .i64 (n : Int)) ∧ w' = w'') := Lib.hid fun w' h => vars_tr (hT.below h) i hL
    have HLn : Hid (∀ w', Below w.heap.size w w' → Calls Try.prog 41 #[.pointer (some ⟨g, 0, none⟩)] w' fun e w'' => e = .returned (.int .i64 (es.length : Int)) ∧ w' = w'') := Lib.hid fun w' h => len_eq (hT.below h) i hL _ rfl
    have HLe : Hid (∀ w', Below w.heap.size w w' → Calls Try.prog 46 #[.pointer (some ⟨g, 0, none⟩)] w' fun e w'' => e = .returned (.int .i64 (hi es)) ∧ w' = w'') := Lib.hid fun w' h => level_eq (hT.below h) i hL hg _ rfl
    have HAt : Hid (∀ w' j x, Below w.heap.size w w' → atE es j = x → Calls Try.prog 43 #[.pointer (some ⟨g, 0, none⟩), .int .i64 j] w' fun e w'' => e = .returned (.int .i64 x) ∧ w' = w'') := Lib.hid fun w' j x h hx => at_eq (hT.below h) i hL j x hx
    have HTr := Lib.hid hT
    have HC := Lib.hid hc
    have HCl := Lib.hid hcl
    have HR := Lib.hid hR2
    have HG := Lib.hid hg
    have hmm : ∀ W : World, Sem.run Try.prog (Instr.makeMap 71 none) W = .ok (.map (some W.heap.size)) (W.alloc (.map #[] 0)) := fun W => run_makeMap 71 W
    clear hT hc hcl hR2 hg
    go_enter Try.func29, Try.ntmps29
    go_upto_region 6 with (first
      | (go_at_call 40; refine (HV.out _ (Below.refl _ _)).mono ?_; rintro e w' ⟨rfl, rfl⟩)
      | (at_make; go_loud (refine wpList_make_full _ rfl (.tmp 40) (.tmp 40) _ rfl 0 3 i3 _ 1 Try.underlying26 hi3 hz0 hz1 .i64 .i64 _ _ n rfl rfl rfl rfl (by rw [hz2]; omega) (by simp only [maxLen]; omega) (Nat.zero_le _) ?_); intro w1 hown hgr)
      | go_in)
    have hO := Own.of_kit hown
    have hB1 : Below w.heap.size w w1 := ⟨hgr.os, hgr.tape, hgr.output, hgr.size, fun k hk => hgr.block k hk (by simp)⟩
    have hcell : (madeCells (Value.int .i64 0).cells (n * 1)).toList = inC (placesE n []) := by
      have e1 : (Value.int .i64 0).cells = #[.int .i64 0] := rfl
      rw [e1, toList_madeCells_one, placesE_nil]
      simp [inC]
    rw [hcell] at hO
    have hbl := hO.lt w.heap.size rfl
    have hH1 := held_new w1 es.length (fun k => -atE es k)
    obtain ⟨W, hW⟩ : ∃ W, W = (w1.alloc (.map #[] 0)).alloc (.cells #[.pointer (some ⟨g, 0, none⟩), .slice ao cls.length cap, .slice (some ⟨w.heap.size, 0, none⟩) n n, .map (some w1.heap.size)] 87) := ⟨_, rfl⟩
    have hBm := (Below.refl w1.heap.size w1).alloc (Nat.le_refl _) (.map #[] 0)
    have hbmsz : (w1.alloc (.map #[] 0)).heap.size = w1.heap.size + 1 := by simp
    have hBW1 : Below (w1.heap.size + 1) (w1.alloc (.map #[] 0)) W := by
      rw [hW, ← hbmsz]
      exact (Below.refl _ _).alloc (Nat.le_refl _) _
    have hBlk : Blk W (w1.heap.size + 1) 87 #[.pointer (some ⟨g, 0, none⟩), .slice ao cls.length cap, .slice (some ⟨w.heap.size, 0, none⟩) n n, .map (some w1.heap.size)] := by
      rw [hW, ← hbmsz]
      exact Blk.new _ _ _
    have hHW : HeldM W w1.heap.size 0 es.length (fun k => -atE es k) (fun _ => false) := hH1.below (by rw [hbmsz]; exact hBW1)
    have hOW : Own W 3 1 (.slice (some ⟨w.heap.size, 0, none⟩) n n) n (inC (placesE n [])) := (hO.new hBm).below hBW1 fun k hk => by injection hk with hk; simp at hk; omega
    have hBW : Below w.heap.size w W := (bel_new hB1 hB1.size hBm).trans (hBW1.mono (by omega))
    rw [← hW]
    obtain ⟨bm, hbm⟩ : ∃ bm, bm = w1.heap.size := ⟨_, rfl⟩
    have hwb : w.heap.size < bm := by omega
    rw [← hbm] at hBlk hHW
    rw [← hbm]
    have hWs : bm + 1 < W.heap.size := hBlk.lt
    clear hBW1 hbmsz hBm hW hH1 hbl hcell hB1 hO hgr hown hbm hmm
    have HOW := Lib.hid hOW
    have HBlk := Lib.hid hBlk
    have HHW := Lib.hid hHW
    have HBW := Lib.hid hBW
    obtain ⟨bp, hbp⟩ : ∃ bp, bp = w.heap.size := ⟨_, rfl⟩
    have HBP := Lib.hid hbp
    rw [← hbp] at HOW hwb HBlk
    rw [← hbp]
    clear hOW hBlk hHW hBW hbp
    go_wp2_with (go_at_call 41; (with_reducible refine (HLn.out _ HBW.out).mono ?_); rintro e w' ⟨rfl, rfl⟩)
    go_loopw [47] (fun x wr => ∃ k : Nat, k ≤ es.length ∧ x = .int .i64 k ∧ Own wr 3 1 (.slice (some ⟨bp, 0, none⟩) n n) n (inC (placesE n (older es k))) ∧ Touch (fun j => j = bp) W wr) (fun x _ => es.length - (intOf x).toNat)
    case atStart => exact ⟨0, by omega, rfl, by rw [older_zero]; exact HOW.out, Touch.refl _ _⟩
    case round =>
      obtain ⟨k, hk, rfl, hO, hT1⟩ := hrel
      have hBr : Below w.heap.size w wr := HBW.out.trans ((hT1.below (B := bp) (by omega) (fun x hx e => by omega)).mono (by rw [HBP.out]; exact Nat.le_refl _))
      by_cases hlt : k < es.length
      · obtain ⟨e, he, hold, hat⟩ := older_succ es k hlt
        have hlit := HG.out.lit e he
        have hlit' := hlit
        unfold Lit at hlit'
        have hgo := older_good (k + 1) HG.out
        have hki : (k : Int) < (es.length : Int) := by omega
        obtain ⟨u, hu⟩ : ∃ u, u = e.lit.natAbs - 1 := ⟨_, rfl⟩
        have hun := nat_pred hu hlit'.1
        have hui : (u : Int) < (n : Int) := by omega
        have hms := placesE_set n (older es k) e hlit
        rw [← hold, ← hu] at hms
        have hol : (older es k).length = k := by simp [older]; omega
        rw [hol] at hms
        obtain ⟨W2, hW2⟩ : ∃ W2, W2 = wr.drew := ⟨_, rfl⟩
        have hTd : Touch (fun j => j = bp) W W2 := by rw [hW2]; exact hT1.drew
        have hOd : Own W2 3 1 (.slice (some ⟨bp, 0, none⟩) n n) n (inC (placesE n (older es k))) := by rw [hW2]; exact hO.drew
        have hBd : Below w.heap.size w W2 := by rw [hW2]; exact bel_drewN hBr 1
        have hbk := HBlk.out.touch hTd (by omega)
        have hp2 := hbk.cell 2
        simp at hp2
        obtain ⟨_, c', e1, _, _, hf⟩ := hOd.form
        obtain ⟨b', o', e', hcm, hfm, _⟩ := hf (by omega)
        subst e'
        injection e1 with e1 e2 e3
        subst e3
        injection e1 with e1
        injection e1 with e1 e4
        subst e1 e4
        have hcu := hcm u (by simp [inC, placesE_len]; omega)
        rw [placesE_get _ _ _ (by omega), Nat.zero_add] at hcu
        have hfu := hfm u
        have HA : Hid (Calls Try.prog 43 #[.pointer (some ⟨g, 0, none⟩), .int .i64 (k : Int)] W2 fun e' w'' => e' = .returned (.int .i64 e.lit) ∧ w'' = W2) := Lib.hid ((HAt.out W2 (k : Int) e.lit hBd hat).mono fun _ _ hh => ⟨hh.1, hh.2.symm⟩)
        have HLv : Hid (Calls Try.prog 42 #[.int .i64 e.lit] W2 fun e' w'' => e' = .returned (.int .i64 (u : Int)) ∧ w'' = W2) := Lib.hid (by
          have h := lvar_any e.lit W2 (by omega) (by omega)
          rw [hun] at h
          exact h.mono fun _ _ hh => ⟨hh.1, hh.2.symm⟩)
        have Hms := Lib.hid hms
        have HOd := Lib.hid hOd
        have HTd := Lib.hid hTd
        clear hms hOd hTd hO hT1 hold hat hgo hbk hcm hfm hf hlit hun hBr hBd hu
        go_upto_region 9 with fail
        refine wp_region_still_tail 10 (by kernel_rfl) (by kernel_rfl) ?_
        change wpStill _ _ (World.drew wr) (fun a' => wpList _ _ _ _ a' (World.drew wr)) _ _
        rw [← hW2]
        clear hW2
        simp only [List.take_succ_cons, List.take_zero, List.drop_succ_cons, List.drop_zero]
        repeat still_step
        still_call HA.out
        still_call HLv.out
        repeat still_step
        refine wpStill_nil ?_
        go_wp2_with fail
        go_roundw
        case rel =>
          refine ⟨k + 1, by omega, by go_num, ?_, HTd.out.trans ((Touch.refl (fun j => j = bp) W2).setCell (p := ⟨bp, u, none⟩) (fun _ => rfl) _) fun _ _ h => h⟩
          rw [← Hms.out]
          have := HOd.out.stored u (.int .i64 (k : Int))
          rw [Nat.zero_add] at this
          exact this
        case measure => simp [intOf]; omega
      · obtain rfl : k = es.length := by omega
        rw [older_all] at hO
        have hTd : Touch (fun j => j = bp) W wr.drew := hT1.drew
        have hS0 : IsLes wr.drew (bm + 1) g bp bm 0 n es (.slice ao cls.length cap) (fun _ => false) := ⟨HBlk.out.touch hTd (by omega), hO.drew, HHW.out.kept (row := some bp) ⟨hTd.os, hTd.tape, hTd.output, hTd.size, fun k hk h => hTd.block k hk (fun e => h (by rw [e]))⟩ (by simp; omega)⟩
        have hBd : Below w.heap.size w wr.drew := bel_drewN hBr 1
        obtain ⟨W3, hW3⟩ : ∃ W3, W3 = wr.drew := ⟨_, rfl⟩
        rw [← hW3] at hS0 hBd
        obtain ⟨cb, coff, e2, hcb, hcel⟩ := (HC.out.below hBd) (by omega)
        obtain ⟨ao', cap', hcv, hcx⟩ := hcel c hcc
        subst e2
        have hW3s := hS0.blk.lt
        have hl5 : cls[c].length ≤ 2000 := HCl.out _ (List.getElem_mem _)
        have hgetD : cls.getD c [] = cls[c] := by rw [List.getD_eq_getElem?_getD, List.getElem?_eq_getElem hcc]; rfl
        have hR3 := HR.out
        rw [hgetD] at hR3
        generalize cls[c] = l at *
        have HTk := Lib.hid (take_any l 0 es.length ao' cap' (HTr.out.below hBd) i hL HG.out hn hS0 (by omega) (by omega) hcx)
        obtain ⟨T1, T2, hTT⟩ : ∃ T1 T2, takeC n es l 0 es.length (fun _ => false) = (T1, T2) := ⟨_, _, rfl⟩
        rw [hTT] at HTk hR3
        simp only at HTk hR3
        have HLn2 : Hid (Calls Try.prog 41 #[.pointer (some ⟨g, 0, none⟩)] W3 fun e' w'' => e' = .returned (.int .i64 (es.length : Int)) ∧ w'' = W3) := Lib.hid ((HLn.out W3 hBd).mono fun _ _ hh => ⟨hh.1, hh.2.symm⟩)
        have HBd := Lib.hid hBd
        have HR3 := Lib.hid hR3
        clear hgetD hR3 hTT HR hO hT1 hBr hTd hS0 hBd hcel hcx
        go_upto_region 11 with fail
        refine wp_region_still_tail 7 (by kernel_rfl) (by kernel_rfl) ?_
        change wpStill _ _ (World.drew wr) (fun a' => wpList _ _ _ _ a' (World.drew wr)) _ _
        rw [← hW3]
        clear hW3
        simp only [List.take_succ_cons, List.take_zero, List.drop_succ_cons, List.drop_zero]
        repeat still_step
        still_call HLn2.out
        repeat still_step
        refine wpStill_nil ?_
        go_upto_region 12 with (go_at_call 44; refine HTk.out.mono ?_; rintro e w4 ⟨rfl, hS4, hT4⟩)
        have hwbp := HBP.out
        have hB4 : Below w.heap.size w w4 := HBd.out.trans ((hT4.below (B := bm) (by omega) (fun x hx e => by omega)).mono (by omega))
        have HS4 := Lib.hid hS4
        have HB4 := Lib.hid hB4
        clear hS4 hB4 hT4 HTk
        by_cases hT10 : T1 = 0
        · have ht1 : (T1 != 0) = false := by simpa using hT10
          have hR4 := HR3.out
          rw [if_pos hT10] at hR4
          have HLt := Lib.hid (latest_any (HTr.out.below HB4.out) i hL HG.out hn HS4.out)
          obtain ⟨mx, hmx⟩ : ∃ mx, mx = maxH es.length T2 := ⟨_, rfl⟩
          obtain ⟨ct, hct⟩ : ∃ ct, ct = cntB es.length fun j => T2 j && topB n es j := ⟨_, rfl⟩
          rw [← hmx, ← hct] at HLt
          rw [← hct] at hR4
          have HR4 := Lib.hid hR4
          clear hR4 hct hmx
          by_cases hz : ct = 0 ∧ 0 < Go.Proofs.Ythinopiobihmaaa.hi es
          · have e1 : R = ([], 0, [], 7) := by rw [HR4.out, if_pos hz]
            subst e1
            obtain ⟨rfl, hz2⟩ := hz
            have hz3 : decide (0 < Go.Proofs.Ythinopiobihmaaa.hi es) = true := by simpa using hz2
            go_wp2_with (first
              | (go_at_call 45; (with_reducible refine HLt.out.mono ?_); rintro e w5 ⟨rfl, hb5⟩; have hb5' := bel_new HB4.out HB4.out.size hb5)
              | (go_at_call 46; (with_reducible refine (HLe.out _ hb5').mono ?_); rintro e w' ⟨rfl, rfl⟩))
            (try simp only [Exit.inBlock, Exit.then])
            refine bodyPost_ret (results_tmp4 rfl _ _ _) rfl ?_
            exact post_none _ _ hb5'
          · go_upto_region 15 with (go_at_call 45; (with_reducible refine HLt.out.mono ?_); rintro e w5 ⟨rfl, hb5⟩)
            have hb5' := bel_new HB4.out HB4.out.size hb5
            have HS5 := Lib.hid (HS4.out.below hb5)
            have HB5 := Lib.hid hb5'
            clear hb5' hb5 HLt
            go_cut [83] from 77 to 83 (fun s83 wx => s83 = .bool false ∧ wx = w5)
            case first =>
              by_cases hz1 : ct = 0
              · subst hz1
                have hz3 : decide (0 < Go.Proofs.Ythinopiobihmaaa.hi es) = false := by simp; omega
                go_wp2_with (go_at_call 46; (with_reducible refine (HLe.out _ HB5.out).mono ?_); rintro e w' ⟨rfl, rfl⟩)
                go_meet
                case rel => exact ⟨rfl, rfl⟩
              · have hz3 : ((ct : Int) == 0) = false := by simp; omega
                go_wp2_with fail
                go_meet
                case rel => exact ⟨rfl, rfl⟩
            case rest =>
              obtain ⟨rfl, hw⟩ := hcut
              rw [hw]
              clear hw
              have e1 : R = loopL n es cls (es.length + 2) T2 [(c : Int)] := by rw [HR4.out, if_neg hz]
              have HE := Lib.hid e1
              clear hz e1
              have hw5s := HS5.out.blk.lt
              have HO5 := Lib.hid (Own.made w5 3 1 #[.int .i64 c] 1 rfl (by decide))
              have HS6 := Lib.hid ((HS5.out.below ((Below.refl _ _).alloc (Nat.le_refl _) (.cells #[.int .i64 c] 3))).mono (M' := 2000) (by omega))
              have HB6 := Lib.hid (HB5.out.alloc HB5.out.size (.cells #[.int .i64 c] 3))
              clear HS5 HS4 HBd HOW HBlk HHW
              go_wp2_with fail
              go_loopw [6, 7, 8] (fun x6 x7 x wr => ∃ (k : Nat) (hp : Nat → Bool) (bs : List Int) (a8 : Option Addr) (c8 : Nat), x6 = .slice none 0 0 ∧ x7 = .int .i64 0 ∧ x = .slice a8 bs.length c8 ∧ Hid (R = loopL n es cls k hp bs) ∧ Hid (maxH es.length hp + 2 ≤ k) ∧ Hid (bs.length + maxH es.length hp ≤ es.length) ∧
                Hid (Own wr 3 1 (.slice a8 bs.length c8) bs.length (inC bs)) ∧ Hid (∀ j, (Value.slice a8 bs.length c8).ownBlock = some j → bm + 2 ≤ j) ∧ Hid (IsLes wr (bm + 1) g bp bm (2000 * bs.length) n es (.slice (some ⟨cb, coff, none⟩) cls.length cap) hp) ∧
                Hid (Below w.heap.size w wr)) (fun _ _ x _ => es.length + 2 - sliceLen x)
              case atStart =>
                have hr := maxH_range T2 es.length
                refine ⟨es.length + 2, T2, [(c : Int)], _, _, rfl, rfl, rfl, HE, Lib.hid (by omega), Lib.hid (by simp; omega), HO5, Lib.hid fun j hj => ?_, HS6, HB6⟩
                simp [Value.ownBlock] at hj
                omega
              case round =>
                obtain ⟨k, hp, bs, a8, c8, rfl, rfl, rfl, HE, HK, HM, HO8, HV8, HS, HB⟩ := hrel
                have hmr := maxH_range hp es.length
                have hK := HK.out
                have hM := HM.out
                obtain ⟨k, rfl⟩ : ∃ j, k = j + 1 := ⟨k - 1, by omega⟩
                have HLt := Lib.hid (latest_any (HTr.out.below HB.out) i hL HG.out hn HS.out)
                have hE := HE.out
                unfold loopL at hE
                obtain ⟨mx, hmx⟩ : ∃ mx, mx = maxH es.length hp := ⟨_, rfl⟩
                obtain ⟨ct, hct⟩ : ∃ ct, ct = cntB es.length fun j => hp j && topB n es j := ⟨_, rfl⟩
                simp only [← hmx, ← hct] at hE
                rw [← hmx, ← hct] at HLt
                have HE2 := Lib.hid hE
                have HMx := Lib.hid hmx
                have HCt := Lib.hid hct
                rw [← hmx] at hmr hK hM
                clear hE hmx hct HK HM HE
                go_upto_region 19 with (go_at_call 45; (with_reducible refine HLt.out.mono ?_); rintro e w6 ⟨rfl, hb6⟩)
                have hb6' := bel_new HB.out HB.out.size hb6
                have HS6 := Lib.hid (HS.out.below hb6)
                have HB6 := Lib.hid hb6'
                have HO6 := Lib.hid (HO8.out.new hb6)
                clear hb6' hb6 HLt
                by_cases hA : ct = 0 ∧ Go.Proofs.Ythinopiobihmaaa.hi es = 0
                · obtain ⟨rfl, hA2⟩ := hA
                  have e1 : R = ([], -1, bs, 0) := by rw [HE2.out, if_pos ⟨rfl, hA2⟩]
                  subst e1
                  have hA3 : (Go.Proofs.Ythinopiobihmaaa.hi es == 0) = true := by simpa using hA2
                  clear hA2
                  go_wp2_with (go_at_call 46; (with_reducible refine (HLe.out _ HB6.out).mono ?_); rintro e w' ⟨rfl, rfl⟩)
                  (try simp only [Exit.inBlock, Exit.then])
                  refine bodyPost_ret (results_tmp4 rfl _ _ _) rfl ?_
                  refine ⟨HB6.out, _, _, rfl, Own.nil _ _ _, HO6.out, fun k hk => by simp [Value.ownBlock] at hk, fun j hj => ?_⟩
                  have := HV8.out j hj
                  have := HBP.out
                  omega
                · have hE3 := HE2.out
                  rw [if_neg hA] at hE3
                  have HE3 := Lib.hid hE3
                  have HA := Lib.hid hA
                  clear hE3 HE2 hA
                  go_cut [97] from 91 to 97 (fun s97 wx => s97 = .bool false ∧ wx = w6)
                  case first =>
                    by_cases hz1 : ct = 0
                    · subst hz1
                      have hz3 : (Go.Proofs.Ythinopiobihmaaa.hi es == 0) = false := by have := HA.out; simp; omega
                      go_wp2_with (go_at_call 46; (with_reducible refine (HLe.out _ HB6.out).mono ?_); rintro e w' ⟨rfl, rfl⟩)
                      go_meet
                      case rel => exact ⟨rfl, rfl⟩
                    · have hz3 : ((ct : Int) == 0) = false := by simp; omega
                      go_wp2_with fail
                      go_meet
                      case rel => exact ⟨rfl, rfl⟩
                  case rest =>
                    obtain ⟨rfl, hw⟩ := hcut
                    rw [hw]
                    clear hw
                    go_upto_region 21 with fail
                    by_cases hBr : ct = 1 ∧ 0 < Go.Proofs.Ythinopiobihmaaa.hi es
                    · obtain ⟨rfl, hz2⟩ := hBr
                      have hE4 := HE3.out
                      rw [if_pos ⟨rfl, hz2⟩] at hE4
                      have hz3 : decide (0 < Go.Proofs.Ythinopiobihmaaa.hi es) = true := by simpa using hz2
                      have hcl1 : 1 ≤ (clauseOf es hp).length := by
                        unfold clauseOf
                        rw [clauseTo_len]
                        have h1 := cntB_and_le hp (topB n es) es.length
                        have h2 := HCt.out
                        omega
                      obtain ⟨CO, hCO⟩ : ∃ CO, CO = clauseOf es hp := ⟨_, rfl⟩
                      rw [← hCO] at hE4 hcl1
                      have hcle : CO.length ≤ es.length := by
                        rw [hCO]
                        unfold clauseOf
                        rw [clauseTo_len]
                        exact cntB_le _ _
                      have HE4 := Lib.hid hE4
                      have HCO := Lib.hid hCO
                      clear hE4 HE3 hz2 hCO
                      go_wp2_with (first
                        | (go_at_call 46; (with_reducible refine (HLe.out _ HB6.out).mono ?_); rintro e w' ⟨rfl, rfl⟩)
                        | (go_at_call 41; (with_reducible refine (HLn.out _ HB6.out).mono ?_); rintro e w' ⟨rfl, rfl⟩))
                      go_loopw [143, 6] (fun x x6 wr => ∃ (k : Nat) (acc : List Int) (a6 : Option Addr) (c6 : Nat), k ≤ es.length ∧ x = .int .i64 k ∧ x6 = .slice a6 acc.length c6 ∧ Hid (CO = acc ++ clauseTo es hp (es.length - k)) ∧
                        Hid (Own wr 3 1 (.slice a6 acc.length c6) acc.length (inC acc)) ∧ Hid (∀ j, (Value.slice a6 acc.length c6).ownBlock = some j → w6.heap.size ≤ j) ∧ Hid (Below w6.heap.size w6 wr)) (fun x _ _ => es.length - (intOf x).toNat)
                      case atStart => exact ⟨0, [], none, 0, by omega, rfl, rfl, Lib.hid (by rw [HCO.out]; rfl), Lib.hid (Own.nil _ _ _), Lib.hid (fun j hj => by simp [Value.ownBlock] at hj), Lib.hid (Below.refl _ _)⟩
                      case round =>
                        obtain ⟨k, acc, a6, c6, hk, rfl, rfl, HC6, HO9, HV9, HB9⟩ := hrel
                        have hBw := bel_new HB6.out HB6.out.size HB9.out
                        by_cases hlt : k < es.length
                        · obtain ⟨j, hj⟩ : ∃ j, es.length = k + 1 + j := ⟨es.length - 1 - k, by omega⟩
                          have hsub : es.length - k = j + 1 := by omega
                          have hC6 := HC6.out
                          rw [hsub] at hC6
                          simp only [clauseTo] at hC6
                          have hacc : acc.length ≤ es.length := by rw [HC6.out] at hcle; simp at hcle; omega
                          have hSr := HS6.out.below HB9.out
                          obtain ⟨W9, hW9⟩ : ∃ W9, W9 = wr.drew := ⟨_, rfl⟩
                          have hSr2 : IsLes W9 (bm + 1) g bp bm (2000 * bs.length) n es (.slice (some ⟨cb, coff, none⟩) cls.length cap) hp := by rw [hW9]; exact hSr.below (bel_drewN (Below.refl _ _) 1)
                          obtain ⟨z, hz1, hz2⟩ := hSr2.held.look j (by omega) (by omega)
                          have hp3 := hSr2.blk.cell 3
                          simp at hp3
                          have hBW9 : Below w6.heap.size w6 W9 := by rw [hW9]; exact bel_drewN HB9.out 1
                          have HO10 : Hid (Own W9 3 1 (.slice a6 acc.length c6) acc.length (inC acc)) := Lib.hid (by rw [hW9]; exact HO9.out)
                          have HLq : Hid (Calls Try.prog 41 #[.pointer (some ⟨g, 0, none⟩)] W9 fun e w'' => e = .returned (.int .i64 (es.length : Int)) ∧ w'' = W9) := Lib.hid ((HLn.out W9 (bel_new HB6.out HB6.out.size hBW9)).mono fun _ _ hh => ⟨hh.1, hh.2.symm⟩)
                          have hw1 : IntKind.i64.wrap ((es.length : Int) - 1) = (es.length : Int) - 1 := by rw [IntKind.wrap_i64]; omega
                          have hw3 : (es.length : Int) - 1 - (k : Int) = (j : Int) := by omega
                          have hw4 : IntKind.i64.wrap (j : Int) = (j : Int) := by rw [IntKind.wrap_i64]; omega
                          have hki : (k : Int) < (es.length : Int) := by omega
                          have HC7 := Lib.hid hC6
                          have HZ := Lib.hid hz1
                          have HJ := Lib.hid hj
                          have HBW9 := Lib.hid hBW9
                          clear hC6 HC6 hz1 hj hsub hSr hSr2 hBw hBW9
                          go_upto_region 34 with fail
                          refine wp_region_still_lit (by kernel_rfl) (by kernel_rfl) ?_
                          rw [show ({ wr with drawn := wr.drawn + 1 } : World) = W9 from hW9.symm]
                          clear hW9
                          repeat still_step
                          still_call HLq.out
                          repeat still_step
                          refine wpStill_nil ?_
                          clear hw1 hw3 hw4 hz2
                          by_cases hpj : hp j = true
                          · have hz := HZ.out hpj
                            subst hz
                            rw [hpj]
                            have hC8 := HC7.out
                            rw [if_pos hpj] at hC8
                            have HC8 := Lib.hid hC8
                            have HO11 := Lib.hid (HO10.out.alloc (.cells #[.int .i64 (-atE es j)] 3))
                            clear hC8 hpj
                            go_wp2_with (at_builtin; go_loud (refine wpList_append_S _ rfl (.tmp 160) (.tmp 162) _ _ rfl 3 i3 _ 1 8 Try.underlying26 hi3 hz0 hz1 hz2 rfl (by omega) (.slice a6 acc.length c6) acc.length (inC acc) rfl HO11.out (in_one _) _ 1 [_] rfl (src_new W9 Try.underlying26 3 _ rfl) (by simp only [maxLen]; omega) (by omega) ?_); intro ao2 cap2 w10 hn1 hm1 hown1 hg1 hat1 hlt1)
                            go_roundw
                            case rel =>
                              have hle : (acc ++ [-atE es j]).length = acc.length + 1 := by simp
                              have hin : inC (acc ++ [-atE es j]) = inC acc ++ [.int .i64 (-atE es j)] := by simp [inC]
                              have hJ := HJ.out
                              have hbs := HBW9.out.size
                              refine ⟨k + 1, acc ++ [-atE es j], ao2, cap2, by omega, by go_num, by rw [hle], Lib.hid ?_, Lib.hid (by rw [hle, hin]; exact hown1), Lib.hid fun x hx => ?_, Lib.hid ?_⟩
                              · rw [HC8.out]
                                have : es.length - (k + 1) = j := by omega
                                rw [this]
                                simp
                              · rw [hle] at hx
                                rcases hat1 with h | h
                                · exact HV9.out x (h ▸ hx)
                                · rw [h] at hx
                                  injection hx with hx
                                  simp at hx
                                  omega
                              · have ht : Touch (fun x => w6.heap.size ≤ x) W9 w10 := ((Touch.refl (fun x => w6.heap.size ≤ x) W9).alloc (.cells #[.int .i64 (-atE es j)] 3)).trans (Touch.of_grown (F := fun x => w6.heap.size ≤ x) hg1 fun x hx => HV9.out x hx) fun _ _ h => h
                                exact HBW9.out.trans (ht.below (B := w6.heap.size) hbs (fun x hx e => by have e2 : w6.heap.size ≤ x := e; omega))
                            case measure => simp [intOf]; have := HJ.out; omega
                          · have hpf : hp j = false := by simpa using hpj
                            rw [hpf]
                            have hC8 := HC7.out
                            rw [if_neg hpj] at hC8
                            have HC8 := Lib.hid hC8
                            clear hC8 hpj hpf
                            go_wp2_with fail
                            go_roundw
                            case rel =>
                              have hJ := HJ.out
                              refine ⟨k + 1, acc, a6, c6, by omega, by go_num, rfl, Lib.hid ?_, HO10, HV9, HBW9⟩
                              rw [HC8.out]
                              have : es.length - (k + 1) = j := by omega
                              rw [this]
                            case measure => simp [intOf]; have := HJ.out; omega
                        · obtain rfl : k = es.length := by omega
                          have hacc : CO = acc := by
                            rw [HC6.out, Nat.sub_self]
                            simp [clauseTo]
                          subst hacc
                          have hxb : Hid (∀ x ∈ CO, x.natAbs ≤ 5000) := Lib.hid fun x hx => by
                            rw [HCO.out] at hx
                            obtain ⟨j, h1, _, h3⟩ := clauseTo_mem hx
                            have h4 := at_lit HG.out h1
                            unfold Lit at h4
                            omega
                          have HO9' := HO9
                          obtain ⟨_, _, e1, hcap6, hcap6m, hf6⟩ := HO9.out.form
                          obtain ⟨b6, o6, e2, hcell6, _, hb6l⟩ := hf6 (by omega)
                          injection e1 with e1 _ e3
                          subst e3
                          rw [e2] at e1
                          subst e1
                          generalize wr = W9 at *
                          have HBw := Lib.hid hBw
                          have HC9 := Lib.hid hcell6
                          obtain ⟨ln, hln2⟩ : ∃ ln, CO.length = ln + 1 := ⟨CO.length - 1, by omega⟩
                          have hlnc : ln + 1 ≤ c6 := by omega
                          have hlni : ((ln + 1 : Nat) : Int) - 1 = (ln : Int) := by omega
                          clear hcell6 hf6 hBw HC6 HO9 hcl1
                          rw [hln2]
                          go_upto_region 39 with fail
                          all_goals
                            go_loopw [168, 7] (fun x x7 wr => ∃ (k : Nat) (b : Int), k ≤ ln ∧ x = .int .i64 k ∧ x7 = .int .i64 b ∧ Hid (backFrom n es b (CO.drop (k + 1)) = backFrom n es 0 CO.tail) ∧ Hid (Below W9.heap.size W9 wr)) (fun x _ _ => ln - (intOf x).toNat)
                            case atStart => exact ⟨0, 0, by omega, rfl, rfl, Lib.hid (by rw [List.drop_one]), Lib.hid (Below.refl _ _)⟩
                            case round =>
                              obtain ⟨k, b, hk, rfl, rfl, HBk, HBr⟩ := hrel
                              by_cases hlt : k < ln
                              · first
                                | (exfalso; omega)
                                | have hk1 : k + 1 < CO.length := by omega
                                  have hce := HC9.out (k + 1) (by simp [inC]; omega)
                                  have hce2 : wr.cell? ⟨b6, o6 + 1 + k, none⟩ = some (.int .i64 CO[k + 1]) := by
                                    rw [World.cell?_of_block (w := W9) (HBr.out.block b6 hb6l)]
                                    have e5 : o6 + 1 + k = o6 + (k + 1) := by omega
                                    rw [e5, hce]
                                    simp [inC, hk1]
                                  have hx5 := hxb.out CO[k + 1] (List.getElem_mem _)
                                  have hBk := HBk.out
                                  rw [List.drop_eq_getElem_cons hk1] at hBk
                                  generalize CO[k + 1] = x at *
                                  simp only [backFrom] at hBk
                                  obtain ⟨u, hu⟩ : ∃ u : Int, u = (x.natAbs : Int) - 1 := ⟨_, rfl⟩
                                  obtain ⟨lv, hlv⟩ : ∃ lv, lv = (ofE n es u).level := ⟨_, rfl⟩
                                  rw [← hu, ← hlv] at hBk
                                  have HA2 : Hid (∀ w', Calls Try.prog 42 #[.int .i64 x] w' fun e w'' => e = .returned (.int .i64 u) ∧ w' = w'') := Lib.hid fun w' => by rw [hu]; exact lvar_any x w' (by omega) (by omega)
                                  have HA3 := Lib.hid (levelOf_eq (HTr.out.below (bel_new HBw.out HBw.out.size HBr.out)) i hL hn u lv hlv.symm)
                                  have hki : (k : Int) < (ln : Int) := by omega
                                  have HBk2 := Lib.hid hBk
                                  clear hce hBk HBk hu hlv
                                  go_wp2_with (first
                                    | (go_at_call 42; (with_reducible refine (HA2.out _).mono ?_); rintro e w' ⟨rfl, rfl⟩)
                                    | (go_at_call 48; (with_reducible refine HA3.out.mono ?_); rintro e w11 ⟨rfl, hb11, _⟩))
                                  all_goals
                                    go_roundw
                                    case rel => exact ⟨k + 1, max b lv, by omega, by go_num, by congr 1; omega, HBk2, Lib.hid (bel_new HBr.out HBr.out.size hb11)⟩
                                    case measure => simp [intOf]; omega
                              · obtain rfl : k = ln := by omega
                                have hdr : CO.drop (k + 1) = [] := List.drop_eq_nil_of_le (by omega)
                                have hb0 : b = backFrom n es 0 CO.tail := by rw [← HBk.out, hdr]; rfl
                                have hRR := HE4.out
                                rw [← hb0] at hRR
                                have HRR := Lib.hid hRR
                                clear hRR HBk hdr hb0
                                go_wp2_with fail
                                (try simp only [Exit.inBlock, Exit.then])
                                refine bodyPost_ret (results_tmp4 rfl _ _ _) rfl ?_
                                rw [HRR.out]
                                rw [← hln2]
                                refine ⟨bel_new HBw.out HBw.out.size HBr.out, _, _, rfl, ?_, ?_, fun j hj => ?_, fun j hj => ?_⟩
                                · have h6 := HO9'.out.new HBr.out
                                  first
                                  | exact h6
                                  | rw [h] at h6; exact h6
                                · exact (HO6.out.new HB9.out).new HBr.out
                                · exact Nat.le_trans HB6.out.size (HV9.out j hj)
                                · have := HV8.out j hj
                                  have := HBP.out
                                  omega
                    · have hE4 := HE3.out
                      rw [if_neg hBr] at hE4
                      have HE4 := Lib.hid hE4
                      have HBr := Lib.hid hBr
                      clear hE4 HE3 hBr
                      go_cut [105] from 99 to 105 (fun s105 wx => s105 = .bool false ∧ wx = w6)
                      case first =>
                        by_cases hz1 : ct = 1
                        · subst hz1
                          have hz3 : decide (0 < Go.Proofs.Ythinopiobihmaaa.hi es) = false := by have := HBr.out; simp; omega
                          go_wp2_with (go_at_call 46; (with_reducible refine (HLe.out _ HB6.out).mono ?_); rintro e w' ⟨rfl, rfl⟩)
                          go_meet
                          case rel => exact ⟨rfl, rfl⟩
                        · have hz3 : ((ct : Int) == 1) = false := by simp; omega
                          go_wp2_with fail
                          go_meet
                          case rel => exact ⟨rfl, rfl⟩
                      case rest =>
                        obtain ⟨rfl, hw⟩ := hcut
                        rw [hw]
                        clear hw
                        obtain ⟨lit, hlit⟩ : ∃ lit, lit = atE es mx := ⟨_, rfl⟩
                        have hlb : lit.natAbs ≤ 5000 := by
                          by_cases h : mx < 0
                          · have : lit = 0 := by rw [hlit]; unfold atE; rw [if_pos h]
                            subst this
                            simp
                          · have h2 := at_lit HG.out (k := mx.toNat) (by omega)
                            have e : ((mx.toNat : Nat) : Int) = mx := by omega
                            rw [e, ← hlit] at h2
                            unfold Lit at h2
                            omega
                        obtain ⟨u, hu⟩ : ∃ u : Int, u = (lit.natAbs : Int) - 1 := ⟨_, rfl⟩
                        obtain ⟨r, hr⟩ : ∃ r, r = (ofE n es u).reason := ⟨_, rfl⟩
                        have HA1 := Lib.hid (HAt.out w6 mx lit HB6.out hlit.symm)
                        have HA2 : Hid (∀ w', Calls Try.prog 42 #[.int .i64 lit] w' fun e w'' => e = .returned (.int .i64 u) ∧ w' = w'') := Lib.hid fun w' => by rw [hu]; exact lvar_any lit w' (by omega) (by omega)
                        have HA3 := Lib.hid (reason_eq (HTr.out.below HB6.out) i hL hn u r hr.symm)
                        have hE5 := HE4.out
                        rw [← hlit, ← hu, ← hr] at hE5
                        have hneg : mx < 0 → r = -1 := fun h => by
                          have : lit = 0 := by rw [hlit]; unfold atE; rw [if_pos h]
                          subst this
                          rw [hr, hu]
                          unfold ofE
                          rw [if_pos (by simp)]
                        have HE5 := Lib.hid hE5
                        clear hE5 HE4 hlit hu hr
                        go_upto_region 24 with (first
                          | (go_at_call 43; (with_reducible refine HA1.out.mono ?_); rintro e w' ⟨rfl, rfl⟩)
                          | (go_at_call 42; (with_reducible refine (HA2.out _).mono ?_); rintro e w' ⟨rfl, rfl⟩)
                          | (go_at_call 47; (with_reducible refine HA3.out.mono ?_); rintro e w7 ⟨rfl, hb7, _⟩))
                        have hb7' := bel_new HB6.out HB6.out.size hb7
                        by_cases hrr : r < 0 ∨ (cls.length : Int) ≤ r
                        · have e1 : R = ([], 0, [], 7) := by rw [HE5.out, if_pos hrr]
                          subst e1
                          by_cases hr1 : r < 0
                          · have hr2 : decide (r < 0) = true := by simpa using hr1
                            go_wp2_with fail
                            (try simp only [Exit.inBlock, Exit.then])
                            refine bodyPost_ret (results_tmp4 rfl _ _ _) rfl ?_
                            exact post_none _ _ hb7'
                          · have hr2 : decide (r < 0) = false := by simpa using hr1
                            have hr3 : (cls.length : Int) ≤ r := by omega
                            have hr4 : decide ((cls.length : Int) ≤ r) = true := by simpa using hr3
                            go_wp2_with fail
                            (try simp only [Exit.inBlock, Exit.then])
                            refine bodyPost_ret (results_tmp4 rfl _ _ _) rfl ?_
                            exact post_none _ _ hb7'
                        · obtain ⟨q, rfl⟩ : ∃ q : Nat, r = q := ⟨r.toNat, by omega⟩
                          obtain ⟨mx, rfl⟩ : ∃ m : Nat, mx = m := ⟨mx.toNat, by omega⟩
                          have hE6 := HE5.out
                          rw [if_neg hrr] at hE6
                          have hqc : q < cls.length := by omega
                          have hqi : (q : Int) < (cls.length : Int) := by omega
                          have hr2 : decide ((q : Int) < 0) = false := by simp
                          have hr4 : decide ((cls.length : Int) ≤ (q : Int)) = false := by simp; omega
                          have HS7 := Lib.hid (HS6.out.below hb7)
                          have HB7 := Lib.hid hb7'
                          have HO7 := Lib.hid (HO6.out.new hb7)
                          obtain ⟨m, D, hown, hmM, hD1, hD2⟩ := HS7.out.held
                          have hp3 := HS7.out.blk.cell 3
                          simp at hp3
                          have hwp : (Go.Lit.int .i64 (mx : Int)).wf = true := wf_of_abs (n := 5000) (by omega) (by omega)
                          have HE6 := Lib.hid hE6
                          have HD1 := Lib.hid hD1
                          have HD2 := Lib.hid hD2
                          clear hE6 HE5 hrr hb7 hb7' hneg hD1 hD2
                          go_upto_region 27 with (at_delete; go_loud (refine wpList_delete_own _ rfl _ _ 71 3 rfl 3 (int_keyed Try.underlying3) Try.underlying71 _ bm m D rfl hown _ _ rfl (keyOf_int_mk Try.underlying3 hwp) ?_); intro w8 hown8 hturn8)
                          have hg8 := hturn8.grown
                          have ht8 : Touch (fun k => k = bm) w7 w8 := Touch.of_grown hg8 fun k hk => by injection hk with hk; exact hk.symm
                          have hh8 := held_del (M := 2000 * bs.length) (len := es.length) (f := fun k => -atE es k) mx hown8 hmM HD1.out HD2.out
                          have HS8 := Lib.hid (HS7.out.turned ht8 hh8)
                          have hB8 : Below w.heap.size w w8 := HB7.out.trans ((ht8.below (B := bm) (by have := HS7.out.blk.lt; omega) (fun x hx e => by omega)).mono (by have := HBP.out; omega))
                          have hO8 := HO7.out.touch ht8 fun j hj e => by have h1 := HV8.out j hj; have h2 : j = bm := e; omega
                          obtain ⟨_, _, e2, hcb8, hcel8⟩ := (HC.out.below hB8) (by omega)
                          injection e2 with e2
                          injection e2 with e2 e3
                          subst e2 e3
                          obtain ⟨ao8, cap8, hcv8, hcx8⟩ := hcel8 q hqc
                          have hl8 : cls[q].length ≤ 2000 := HCl.out _ (List.getElem_mem _)
                          have hgetD : cls.getD ((q : Int).toNat) [] = cls[q] := by rw [Int.toNat_natCast, List.getD_eq_getElem?_getD, List.getElem?_eq_getElem hqc]; rfl
                          have hE7 := HE6.out
                          simp only [hgetD] at hE7
                          generalize cls[q] = l8 at *
                          have hfn : (fun j : Nat => hp j && !decide ((j : Int) = (mx : Int))) = fun j => hp j && !decide (j = mx) := by
                            funext j
                            rw [decide_eq_decide.2 (Int.ofNat_inj (m := j) (n := mx))]
                          rw [hfn] at hE7
                          have HTk := Lib.hid (take_any l8 lit mx ao8 cap8 (HTr.out.below hB8) i hL HG.out hn HS8.out (by omega) (by omega) hcx8)
                          obtain ⟨T3, T4, hTT⟩ : ∃ T3 T4, takeC n es l8 lit mx (fun j => hp j && !decide (j = mx)) = (T3, T4) := ⟨_, _, rfl⟩
                          have hT4b : maxH es.length T4 < mx := maxH_lt (fun j hj hd => by
                            have h1 := takeC_below (n := n) (es := es) (l := l8) (but := lit) (place := mx) (hp := fun j => hp j && !decide (j = mx)) (j := j) (fun h => by
                              simp only [Bool.and_eq_true, Bool.not_eq_true', decide_eq_false_iff_not] at h
                              have h2 := maxH_ge hj h.1
                              rw [← HMx.out] at h2
                              have := h.2
                              omega)
                            rw [hTT] at h1
                            exact h1 hd) (by omega)
                          rw [hTT] at HTk hE7
                          simp only at HTk hE7
                          have HB8 := Lib.hid hB8
                          have HO8' := Lib.hid hO8
                          have HE7 := Lib.hid hE7
                          have HT4b := Lib.hid hT4b
                          have HT8 := Lib.hid ht8
                          clear hE7 HE6 hTT hgetD hfn hh8 hg8 hturn8 hown8 hown hB8 hO8 hT4b hcel8 hcx8 ht8
                          go_upto_region 28 with (go_at_call 44; refine HTk.out.mono ?_; rintro e w9 ⟨rfl, hS9, hT9⟩)
                          have hB9 : Below w.heap.size w w9 := HB8.out.trans ((hT9.below (B := bm) (by have := HS8.out.blk.lt; omega) (fun x hx e => by omega)).mono (by have := HBP.out; omega))
                          have hO9 := HO8'.out.touch hT9 fun j hj e => by have h1 := HV8.out j hj; have h2 : j = bm := e; omega
                          by_cases hT30 : T3 = 0
                          · have ht3 : (T3 != 0) = false := by simpa using hT30
                            have e1 : R = loopL n es cls k T4 (bs ++ [(q : Int)]) := by rw [HE7.out, if_pos hT30]
                            have HE8 := Lib.hid e1
                            have HS9 := Lib.hid hS9
                            have HB9 := Lib.hid hB9
                            have HO9 := Lib.hid (hO9.alloc (.cells #[.int .i64 (q : Int)] 3))
                            have hbs5 : bs.length ≤ 5000 := by omega
                            clear e1 hS9 hT9 hB9 hO9 HTk
                            go_wp2_with (at_builtin; go_loud (refine wpList_append_S _ rfl (.tmp 137) (.tmp 139) _ _ rfl 3 i3 _ 1 8 Try.underlying26 hi3 hz0 hz1 hz2 rfl (by omega) (.slice a8 bs.length c8) bs.length (inC bs) rfl HO9.out (in_one _) _ 1 [_] rfl (src_new w9 Try.underlying26 3 _ rfl) (by simp only [maxLen]; omega) (by omega) ?_); intro ao2 cap2 w10 hn1 hm1 hown1 hg1 hat1 hlt1)
                            go_roundw
                            case rel =>
                              have h9s := HS9.out.blk.lt
                              have hTa : Touch (fun j => bm + 2 ≤ j) w9 w10 := ((Touch.refl (fun j => bm + 2 ≤ j) w9).alloc (.cells #[.int .i64 (q : Int)] 3)).trans (Touch.of_grown (F := fun j => bm + 2 ≤ j) hg1 fun k hk => HV8.out k hk) fun _ _ h => h
                              have hle : (bs ++ [(q : Int)]).length = bs.length + 1 := by simp
                              have hin : inC (bs ++ [(q : Int)]) = inC bs ++ [.int .i64 (q : Int)] := by simp [inC]
                              have hr4 := maxH_range T4 es.length
                              have hT4 := HT4b.out
                              refine ⟨k, T4, bs ++ [(q : Int)], ao2, cap2, rfl, rfl, by rw [hle], HE8, Lib.hid (by omega), Lib.hid (by rw [hle]; omega), Lib.hid (by rw [hle, hin]; exact hown1), Lib.hid fun j hj => ?_, Lib.hid ?_, Lib.hid ?_⟩
                              · rw [hle] at hj
                                rcases hat1 with h | h
                                · exact HV8.out j (h ▸ hj)
                                · rw [h] at hj
                                  injection hj with hj
                                  simp at hj
                                  omega
                              · rw [hle]
                                exact (HS9.out.far hTa (by omega) (by omega) (by omega)).mono (by omega)
                              · exact HB9.out.trans ((hTa.below (B := bm + 2) (by omega) (fun x hx e => by omega)).mono (by have := HBP.out; omega))
                            case measure => simp [sliceLen]; omega
                          · have ht3 : (T3 != 0) = true := by simpa using hT30
                            have e1 : R = ([], 0, [], T3) := by rw [HE7.out, if_neg hT30]
                            subst e1
                            go_wp2_with fail
                            (try simp only [Exit.inBlock, Exit.then])
                            refine bodyPost_ret (results_tmp4 rfl _ _ _) rfl ?_
                            exact post_none _ _ hB9
        · have ht1 : (T1 != 0) = true := by simpa using hT10
          have e1 : R = ([], 0, [], T1) := by rw [HR3.out, if_neg hT10]
          subst e1
          go_wp2_with fail
          (try simp only [Exit.inBlock, Exit.then])
          refine bodyPost_ret (results_tmp4 rfl _ _ _) rfl ?_
          exact post_none _ _ HB4.out

end Go.Proofs.Ythinopiobihmaaa
