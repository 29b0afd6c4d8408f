/- The document's answer for learn: place, known, falseAhead, without, with. -/
import Derived.Test.YthfmlmodpcikcaaU17
import Derived.Test.YthfmlmodpcikcaaT25
import Derived.BigQuiet
import Derived.Deep.QuietTactic
namespace Go.Proofs.Ythfmlmodpcikcaa
open Go.ChangeShapes Go.WideShapes Go.ChangeAt Go.RowKit Go.Maps Go.Deep
set_option maxRecDepth 100000

def placeR (es : List En) (lit : Int) : Int := if (look es (lit.natAbs - 1)).isSome then posV es (lit.natAbs - 1) else -1

set_option maxHeartbeats 1000000 in
theorem rplace_any (X : Nat → Prop) (x n : Nat) (es : List En) (lit : Int) (w : World) (hR : RefA w X x n es) (hg : Good n es) (hn : n ≤ 5000) (h1 : 1 ≤ lit.natAbs) (h2 : lit.natAbs ≤ n) :
    Calls Try.prog 43 #[.pointer (some ⟨x, 0, none⟩), .int .i64 lit] w fun e w' => e = .returned (.int .i64 (placeR es lit)) ∧ w = w' := by
  obtain ⟨v, hb, hO, _, _⟩ := hR
  have hc1 := hb.cell 1
  simp at hc1
  have hlen := hg.len_le
  have HG := Lib.hid hg
  obtain ⟨ao, cap, rfl, -, -, -⟩ := hO.form
  obtain ⟨T, hT⟩ : ∃ T, T = placeR es lit := ⟨_, rfl⟩
  rw [← hT]
  have HT := Lib.hid hT
  have hneg : IntKind.i64.wrap (-lit) = -lit := by rw [IntKind.wrap_i64]; omega
  clear hT hg
  go_enter Try.func43, Try.ntmps43
  go_wp2_with fail
  go_loop [5] (fun i => ∃ k : Nat, k ≤ es.length ∧ i = .int .i64 k ∧ look (older es k) (lit.natAbs - 1) = none) (fun i => es.length - (intOf i).toNat)
  case atStart => exact ⟨0, by omega, rfl, by rw [older_zero]; rfl⟩
  case round =>
    obtain ⟨k, hk, rfl, hnone⟩ := hrel
    by_cases hlt : k < es.length
    · obtain ⟨e, he, hold, hrev, _⟩ := older_rev es k hlt
      obtain ⟨bl, off, cap', ev, hce, _, _, _⟩ := ref_at hO k e hlt hrev
      injection ev with e1 e2 e3
      subst e1 e3
      have hki : (k : Int) < (es.length : Int) := by omega
      have hlm := look_mem HG.out e he
      by_cases h0 : e.lit.natAbs = lit.natAbs
      · have hTk : T = (k : Int) := by
          rw [HT.out]
          unfold placeR
          rw [← h0, hlm, pos_of HG.out hrev]
          rfl
        subst hTk
        by_cases h3 : e.lit = lit
        · have h1' : (e.lit == lit) = true := by simpa using h3
          clear h3 h0 hlm hold hrev he hnone e2
          generalize e.lit = el at *
          go_wp2_with fail
          go_ret
          exact ⟨rfl, rfl⟩
        · have h1' : (e.lit == lit) = false := by simpa using h3
          have h2' : (e.lit == -lit) = true := by simp; omega
          clear h3 h0 hlm hold hrev he hnone e2
          generalize e.lit = el at *
          go_wp2_with fail
          go_ret
          exact ⟨rfl, rfl⟩
      · have h1' : (e.lit == lit) = false := by simp; omega
        have h2' : (e.lit == -lit) = false := by simp; omega
        have hnext : look (older es (k + 1)) (lit.natAbs - 1) = none := by
          rw [hold]
          simp only [look]
          rw [if_neg (by omega)]
          exact hnone
        have HN := Lib.hid hnext
        clear h0 hlm hold hrev he hnone hnext e2
        generalize e.lit = el at *
        go_wp2_with fail
        go_round
        case rel => exact ⟨k + 1, by omega, by go_num, HN.out⟩
        case measure => simp [intOf]; omega
    · obtain rfl : k = es.length := by omega
      rw [older_all] at hnone
      have hTk : T = -1 := by
        rw [HT.out]
        unfold placeR
        rw [hnone]
        rfl
      subst hTk
      clear hnone
      go_wp2_with fail
      go_ret
      exact ⟨rfl, rfl⟩

theorem place_of {n : Nat} {es : List En} {x : Int} (h : valE n es x = -1) : placeR es x = posV es (x.natAbs - 1) := by
  obtain ⟨e, h1, _⟩ := val_false h
  unfold placeR
  rw [h1]
  rfl

def aheadB (n : Nat) (es : List En) (l : List Int) (at_ : Int) : Bool := l.all fun x => decide (valE n es x = -1) && decide ((posV es (x.natAbs - 1) : Int) < at_)

theorem rahead_any (X : Nat → Prop) (x n : Nat) (es : List En) (l : List Int) (ao : Option Addr) (cap : Nat) (at_ : Int) (w : World) (hR : RefA w X x n es) (hg : Good n es) (hn : n ≤ 5000) (hl : l.length ≤ 1000000) (hc : Ints w ao l) (hk : knownB n l = true) :
    Calls Try.prog 41 #[.pointer (some ⟨x, 0, none⟩), .slice ao l.length cap, .int .i64 at_] w fun e w' => e = .returned (.bool (aheadB n es l at_)) ∧ w = w' := by
  have hkk : ∀ x ∈ l, 1 ≤ x.natAbs ∧ x.natAbs ≤ n := fun x hx => by
    have := List.all_eq_true.1 hk x hx
    simpa using this
  have HV : Hid (∀ lit, 1 ≤ lit.natAbs ∧ lit.natAbs ≤ n → Calls Try.prog 33 #[.pointer (some ⟨x, 0, none⟩), .int .i64 lit] w fun e w' => e = .returned (.int .i64 (valE n es lit)) ∧ w = w') := Lib.hid fun lit h => rvalue_any X x n es lit w hR hg hn ⟨by omega, by omega⟩
  have HPl : Hid (∀ lit, 1 ≤ lit.natAbs ∧ lit.natAbs ≤ n → Calls Try.prog 43 #[.pointer (some ⟨x, 0, none⟩), .int .i64 lit] w fun e w' => e = .returned (.int .i64 (placeR es lit)) ∧ w = w') := Lib.hid fun lit h => rplace_any X x n es lit w hR hg hn h.1 h.2
  obtain ⟨T, hT⟩ : ∃ T, T = aheadB n es l at_ := ⟨_, rfl⟩
  rw [← hT]
  have HT := Lib.hid hT
  have HC := Lib.hid hc
  have HK := Lib.hid hkk
  clear hT hc hkk hk hR hg
  go_enter Try.func41, Try.ntmps41
  go_wp2_with fail
  go_loop [7] (fun i => ∃ k : Nat, k ≤ l.length ∧ i = .int .i64 k ∧ Hid (T = aheadB n es (l.drop k) at_)) (fun i => l.length - (intOf i).toNat)
  case atStart => exact ⟨0, by omega, rfl, HT⟩
  case round =>
    obtain ⟨k, hk, rfl, HR⟩ := hrel
    by_cases hlt : k < l.length
    · obtain ⟨b, off, rfl, _, hcell⟩ := HC.out (by omega)
      have hck := hcell k hlt
      have hki : (k : Int) < (l.length : Int) := by omega
      have hxk := HK.out l[k] (List.getElem_mem _)
      have hr := HR.out
      rw [List.drop_eq_getElem_cons hlt] at hr
      have hr2 : T = ((decide (valE n es l[k] = -1) && decide ((posV es (l[k].natAbs - 1) : Int) < at_)) && aheadB n es (l.drop (k + 1)) at_) := hr
      have HVx := Lib.hid (HV.out _ hxk)
      have HPx := Lib.hid (HPl.out _ hxk)
      have hpl := place_of (n := n) (es := es) (x := l[k])
      generalize l[k] = y at *
      clear hcell hr HR
      by_cases hv : valE n es y = -1
      · rw [hpl hv] at HPx
        rw [hv] at HVx
        generalize posV es (y.natAbs - 1) = p at *
        by_cases hp : (p : Int) < at_
        · have hr3 : T = aheadB n es (l.drop (k + 1)) at_ := by rw [hr2]; simp [hv, hp]
          have hp2 : decide (at_ ≤ (p : Int)) = false := by simpa using hp
          have HN := Lib.hid hr3
          clear hr2 hr3 hv hpl
          go_wp2_with (first
            | (go_at_call 33; (with_reducible refine HVx.out.mono ?_); rintro e w' ⟨rfl, rfl⟩)
            | (go_at_call 43; (with_reducible refine HPx.out.mono ?_); rintro e w' ⟨rfl, rfl⟩))
          go_round
          case rel => exact ⟨k + 1, by omega, by go_num, HN⟩
          case measure => simp [intOf]; omega
        · have hr3 : T = false := by rw [hr2]; simp [hp]
          subst hr3
          have hp2 : at_ ≤ (p : Int) := by omega
          clear hr2 hv hpl hp
          go_wp2_with (first
            | (go_at_call 33; (with_reducible refine HVx.out.mono ?_); rintro e w' ⟨rfl, rfl⟩)
            | (go_at_call 43; (with_reducible refine HPx.out.mono ?_); rintro e w' ⟨rfl, rfl⟩))
          go_ret
          exact ⟨rfl, rfl⟩
      · have hr3 : T = false := by rw [hr2]; simp [hv]
        subst hr3
        generalize valE n es y = z at *
        have hz2 : (z != -1) = true := by simpa using hv
        have hz3 : (z == -1) = false := by simpa using hv
        clear hr2 hv hpl HPx
        go_wp2_with (go_at_call 33; (with_reducible refine HVx.out.mono ?_); rintro e w' ⟨rfl, rfl⟩)
        go_ret
        exact ⟨rfl, rfl⟩
    · obtain rfl : k = l.length := by omega
      have hr := HR.out
      rw [List.drop_length] at hr
      obtain rfl : T = true := hr
      clear HR
      go_wp2_with fail
      go_ret
      exact ⟨rfl, rfl⟩

theorem rknown_any (x n : Nat) (v u : Value) (l : List Int) (ao : Option Addr) (cap : Nat) (w : World) (hb : Blk w x 48 #[.int .i64 n, v, u]) (hn : n ≤ 5000) (hl : l.length ≤ 1000000) (hc : Ints w ao l) (hi64 : ∀ x ∈ l, I64 x) :
    Calls Try.prog 40 #[.pointer (some ⟨x, 0, none⟩), .slice ao l.length cap] w fun e w' => e = .returned (.bool (knownB n l)) ∧ Below w.heap.size w w' := by
  obtain ⟨T, hT⟩ : ∃ T, T = knownB n l := ⟨_, rfl⟩
  rw [← hT]
  have HT := Lib.hid hT
  have HC := Lib.hid hc
  have HB := Lib.hid hb
  have HI := Lib.hid hi64
  clear hT hc hb hi64
  go_enter Try.func40, Try.ntmps40
  go_wp2_with fail
  go_loopw [5] (fun i wr => ∃ k : Nat, k ≤ l.length ∧ i = .int .i64 k ∧ Hid (T = knownB n (l.drop k)) ∧ Hid (Below w.heap.size w wr)) (fun i _ => l.length - (intOf i).toNat)
  case atStart => exact ⟨0, by omega, rfl, HT, Lib.hid (Below.refl _ _)⟩
  case round =>
    obtain ⟨k, hk, rfl, HR, HBl⟩ := hrel
    by_cases hlt : k < l.length
    · obtain ⟨b, off, rfl, _, hcell⟩ := HC.out.below HBl.out (by omega)
      have hck := hcell k hlt
      have hki : (k : Int) < (l.length : Int) := by omega
      have hc0 := (HB.out.below HBl.out HB.out.lt).cell 0
      simp at hc0
      have hxi := HI.out l[k] (List.getElem_mem _)
      have hr := HR.out
      rw [List.drop_eq_getElem_cons hlt] at hr
      have hr2 : T = (decide (1 ≤ l[k].natAbs ∧ l[k].natAbs ≤ n) && knownB n (l.drop (k + 1))) := hr
      generalize l[k] = y at *
      clear hcell hr HR
      obtain ⟨i1, i2⟩ := hxi
      by_cases h0 : y = 0
      · subst h0
        have hr3 : T = false := by rw [hr2]; simp
        subst hr3
        clear hr2
        go_wp2_with fail
        go_quiet (fail)
        go_wp2_with fail
        go_ret
        exact ⟨rfl, bel_drewN HBl.out nq⟩
      · have h0' : (y == 0) = false := by simpa using h0
        by_cases h1 : (n : Int) < y
        · have hr3 : T = false := by rw [hr2]; simp; omega
          subst hr3
          clear hr2
          go_wp2_with fail
          go_quiet (fail)
          go_wp2_with fail
          go_ret
          exact ⟨rfl, bel_drewN HBl.out nq⟩
        · have h1' : decide ((n : Int) < y) = false := by simpa using h1
          by_cases h2 : y < -(n : Int)
          · have hr3 : T = false := by rw [hr2]; simp; omega
            subst hr3
            clear hr2
            go_wp2_with fail
            go_quiet (fail)
            go_wp2_with fail
            go_ret
            exact ⟨rfl, bel_drewN HBl.out nq⟩
          · have h2' : decide (y < -(n : Int)) = false := by simpa using h2
            have hr3 : T = knownB n (l.drop (k + 1)) := by
              rw [hr2]
              have : decide (1 ≤ y.natAbs ∧ y.natAbs ≤ n) = true := by simp; omega
              rw [this, Bool.true_and]
            have HN := Lib.hid hr3
            clear hr2 hr3
            go_wp2_with fail
            go_quiet (fail)
            go_wp2_with fail
            go_roundw
            case rel => exact ⟨k + 1, by omega, by go_num, HN, Lib.hid (bel_drewN HBl.out nq)⟩
            case measure => simp [intOf]; omega
    · obtain rfl : k = l.length := by omega
      have hr := HR.out
      rw [List.drop_length] at hr
      obtain rfl : T = true := hr
      clear HR
      go_wp2_with fail
      go_ret
      exact ⟨rfl, HBl.out⟩

end Go.Proofs.Ythfmlmodpcikcaa
