/- Contracts of package learn: take. -/
import Derived.Test.YthfmlmodpcikcaaU3
import Derived.StillTailTactics
import Derived.BigQuiet
import Derived.Deep.QuietTactic
import Derived.Deep.Cut
namespace Go.Proofs.Ythfmlmodpcikcaa
open Go.ChangeShapes Go.WideShapes Go.ChangeAt Go.RowKit Go.Maps
set_option maxRecDepth 100000

/-- A literal that take may take in: but itself; else a false one, ahead of a place. -/
def okT (n : Nat) (es : List En) (but place x : Int) : Bool := decide (x = but) || (decide (valE n es x = -1) && decide ((posV es (x.natAbs - 1) : Int) < place))
def addH (es : List En) (l : List Int) (but : Int) (hp : Nat → Bool) (k : Nat) : Bool := hp k || l.any fun x => decide (x ≠ but) && decide (posV es (x.natAbs - 1) = k)
def knownB (n : Nat) (l : List Int) : Bool := l.all fun x => decide (1 ≤ x.natAbs ∧ x.natAbs ≤ n)
def takeC (n : Nat) (es : List En) (l : List Int) (but place : Int) (hp : Nat → Bool) : Int × (Nat → Bool) :=
  if knownB n l = false then (1, hp) else if but ≠ 0 ∧ (l.any fun x => x == but) = false then (7, hp) else if l.all (okT n es but place) = false then (7, hp) else (0, addH es l but hp)

theorem blk_ne_map {w : World} {g : Nat} {t : TypeId} {cs : Array Value} {bm M len : Nat} {f : Nat → Int} {hp : Nat → Bool} (h : Blk w g t cs) (hm : HeldM w bm M len f hp) : g ≠ bm := by
  rintro rfl
  obtain ⟨m, D, ⟨es, clock, hb, _⟩, _⟩ := hm
  unfold Blk at h
  rw [hb] at h
  cases h
theorem cell_ne_map {w : World} {b off : Nat} {v : Value} {bm M len : Nat} {f : Nat → Int} {hp : Nat → Bool} (h : w.cell? ⟨b, off, none⟩ = some v) (hm : HeldM w bm M len f hp) : b ≠ bm := by
  rintro rfl
  obtain ⟨m, D, ⟨es, clock, hb, _⟩, _⟩ := hm
  simp [World.cell?, hb] at h

theorem IsLes.turned {w w' : World} {p g bp bm M M' n : Nat} {es : List En} {cv : Value} {hp hp' : Nat → Bool} (h : IsLes w p g bp bm M n es cv hp) (ht : Touch (fun k => k = bm) w w') (hm : HeldM w' bm M' es.length (fun k => -atE es k) hp') : IsLes w' p g bp bm M' n es cv hp' := by
  refine ⟨h.blk.touch ht (blk_ne_map h.blk h.held), h.places.touch ht fun k hk e => ?_, hm⟩
  obtain ⟨cur, hb⟩ := h.places.blk hk
  exact blk_ne_map hb h.held e

theorem IsLes.mono {w : World} {p g bp bm M M' n : Nat} {es : List En} {cv : Value} {hp : Nat → Bool} (h : IsLes w p g bp bm M n es cv hp) (hM : M ≤ M') : IsLes w p g bp bm M' n es cv hp := by
  obtain ⟨h1, h2, m, D, h3, h4, h5⟩ := h
  exact ⟨h1, h2, m, D, h3, by omega, h5⟩

theorem at_rev {es : List En} {k : Nat} {e : En} (h : es.reverse[k]? = some e) : atE es k = e.lit := by
  unfold atE
  rw [if_neg (by omega)]
  simp only [Int.toNat_natCast]
  rw [List.getD_eq_getElem?_getD, ← List.map_reverse, List.getElem?_map, h]
  rfl

/-- A false literal's place. -/
theorem nat_pred {x : Int} {u : Nat} (h : u = x.natAbs - 1) (h1 : 1 ≤ x.natAbs) : (x.natAbs : Int) - 1 = (u : Int) := by omega
theorem wf_of_abs {x : Int} {n : Nat} (h : x.natAbs ≤ n) (h1 : n ≤ 5000) : (Lit.int .i64 x).wf = true := by
  simp [Lit.wf, IntKind.min, IntKind.max, IntKind.signed, IntKind.bits]; omega

theorem val_false {n : Nat} {es : List En} {x : Int} (h : valE n es x = -1) : ∃ e, look es (x.natAbs - 1) = some e ∧ e.lit = -x ∧ atE es (posV es (x.natAbs - 1)) = -x ∧ posV es (x.natAbs - 1) < es.length := by
  unfold valE at h
  split at h
  · next hx =>
    cases hl : look es (x.natAbs - 1) with
    | none => rw [hl] at h; cases h
    | some e =>
      rw [hl] at h
      simp only at h
      split at h
      · cases h
      · next hne =>
        have h2 := (look_some hl).2
        have h3 : e.lit = -x := by omega
        exact ⟨e, rfl, h3, by rw [at_rev (posV_at hl), h3], posV_lt hl⟩
  · cases h

set_option maxHeartbeats 2000000 in
theorem take_any {w0 w : World} {X : Nat → Prop} {L : List (Nat × TrD)} {g n p bp bm M : Nat} {es : List En} {cv : Value} {hp : Nat → Bool} (l : List Int) (but place : Int) (ao : Option Addr) (cap : Nat) (hT : Trails w0 w X L) (i : Nat) (hL : L[i]? = some (g, trE n es)) (hg : Good n es) (hn : n ≤ 5000)
    (hS : IsLes w p g bp bm M n es cv hp) (hl : l.length ≤ 5000) (hM : M ≤ 10000000)
    (hc : 0 < l.length → ∃ b off, ao = some ⟨b, off, none⟩ ∧ b < w.heap.size ∧ ∀ j (h : j < l.length), w.cell? ⟨b, off + j, none⟩ = some (.int .i64 l[j])) :
    Calls Try.prog 37 #[.pointer (some ⟨p, 0, none⟩), .slice ao l.length cap, .int .i64 but, .int .i64 place] w fun e w' => e = .returned (.int .i64 (takeC n es l but place hp).1) ∧
      IsLes w' p g bp bm (M + l.length) n es cv (takeC n es l but place hp).2 ∧ Touch (fun k => k = bm) w w' := by
  have hbm := hS.held.lt
  obtain ⟨ao', cap', e1, _, _, hfp⟩ := hS.places.form
  have hpl : ∀ w', Below w.heap.size w w' → ∀ u, u < n → w'.cell? ⟨bp, u, none⟩ = some (.int .i64 (posV es u)) := fun w' h u hu => by
    obtain ⟨b', o', e2, hcc, _, hbl⟩ := hfp (by omega)
    subst e2
    injection e1 with e1 _ _
    injection e1 with e1
    injection e1 with e1 e4
    subst e1 e4
    have h1 := hcc u (by simp [inC, placesE_len]; omega)
    rw [placesE_get _ _ _ hu, Nat.zero_add] at h1
    exact (World.cell?_of_block (w := w) (h.block bp hbl)).trans h1
  have hcl : ∀ w', Below w.heap.size w w' → 0 < l.length → ∃ b off, ao = some ⟨b, off, none⟩ ∧ b < w.heap.size ∧ ∀ j (h : j < l.length), w'.cell? ⟨b, off + j, none⟩ = some (.int .i64 l[j]) := fun w' h h0 => by
    obtain ⟨b, off, e, hbl, hcell⟩ := hc h0
    exact ⟨b, off, e, hbl, fun j hj => (World.cell?_of_block (w := w) (h.block b hbl)).trans (hcell j hj)⟩
  have HK := Lib.hid (lknown_any l ao cap hT i hL hn hS (by omega) hc)
  have HCt : Hid (∀ w', Below w.heap.size w w' → Calls Try.prog 49 #[.slice ao l.length cap, .int .i64 but] w' fun e w'' => e = .returned (.bool (l.any fun x => x == but)) ∧ w' = w'') := Lib.hid fun w' h => contains_any but l ao cap w' (by omega) (fun h0 => let ⟨b, off, e, _, hh⟩ := hcl w' h h0; ⟨b, off, e, hh⟩)
  have HV : Hid (∀ w' x, Below w.heap.size w w' → I64 x → Calls Try.prog 26 #[.pointer (some ⟨g, 0, none⟩), .int .i64 x] w' fun e w'' => e = .returned (.int .i64 (valE n es x)) ∧ w' = w'') := Lib.hid fun w' x h hx => value_eq (hT.below h) i hL hn x hx _ rfl
  have HS := Lib.hid hS
  have HP := Lib.hid hpl
  have HC := Lib.hid hcl
  clear hfp e1 hpl hcl hc hT hS
  change Calls Try.prog 37 #[.pointer (some ⟨p, 0, none⟩), .slice ao l.length cap, .int .i64 but, .int .i64 place] w fun e w' => e = .returned (.int .i64 (takeC n es l but place hp).1) ∧ IsLes w' p g bp bm (M + l.length) n es cv (takeC n es l but place hp).2 ∧ Touch (fun k => k = bm) w w'
  by_cases hkn : knownB n l = false
  · have hd : takeC n es l but place hp = (1, hp) := by simp only [takeC, if_pos hkn]
    rw [hd]
    unfold knownB at hkn
    rw [hkn] at HK
    clear hd hkn
    go_enter Try.func37, Try.ntmps37
    go_wp2_with (go_at_call 48; refine HK.out.mono ?_; rintro e w1 ⟨rfl, hB1⟩)
    go_ret
    exact ⟨rfl, (HS.out.below hB1).mono (by omega), Touch.of_below hB1 _⟩
  · have hkn2 : knownB n l = true := by cases h : knownB n l <;> simp_all
    have hkl : ∀ x ∈ l, 1 ≤ x.natAbs ∧ x.natAbs ≤ n := fun x hx => by
      have := List.all_eq_true.1 hkn2 x hx
      simpa using this
    have hkn3 := hkn2
    unfold knownB at hkn3
    rw [hkn3] at HK
    have HKL := Lib.hid hkl
    clear hkn3 hkl
    by_cases hbt : but ≠ 0 ∧ (l.any fun x => x == but) = false
    · have hd : takeC n es l but place hp = (7, hp) := by simp only [takeC, if_neg hkn, if_pos hbt]
      rw [hd]
      obtain ⟨hb0, hb1⟩ := hbt
      rw [hb1] at HCt
      have hb2 : (but != 0) = true := by simpa using hb0
      clear hd hkn hkn2 hb1 hb0
      go_enter Try.func37, Try.ntmps37
      go_wp2_with (first
        | (go_at_call 48; refine HK.out.mono ?_; rintro e w1 ⟨rfl, hB1⟩)
        | (go_at_call 49; refine (HCt.out _ hB1).mono ?_; rintro e w2 ⟨rfl, rfl⟩))
      go_ret
      exact ⟨rfl, (HS.out.below hB1).mono (by omega), Touch.of_below hB1 _⟩
    · generalize hres : takeC n es l but place hp = res
      have hres2 : res = if l.all (okT n es but place) = false then (7, hp) else (0, addH es l but hp) := by rw [← hres]; simp only [takeC, if_neg hkn, if_neg hbt]
      obtain ⟨r1, r2⟩ := res
      have HRes := Lib.hid hres2
      have hcase : (but != 0) = false ∨ ((but != 0) = true ∧ (l.any fun x => x == but) = true) := by
        by_cases h : but = 0
        · exact .inl (by simpa using h)
        · refine .inr ⟨by simpa using h, ?_⟩
          cases h2 : (l.any fun x => x == but) with
          | true => rfl
          | false => exact absurd ⟨h, h2⟩ hbt
      clear hres hres2 hbt hkn hkn2
      simp only
      go_enter Try.func37, Try.ntmps37
      go_upto_region 3 with (go_at_call 48; refine HK.out.mono ?_; rintro e w1 ⟨rfl, hB1⟩)
      have H1 := Lib.hid hB1
      go_cut [25] from 18 (fun s25 wx => s25 = .bool false ∧ wx = w1)
      case first =>
        rcases hcase with hb | ⟨hb, hct⟩
        · go_wp2_with fail
          go_meet
          case rel => exact ⟨rfl, rfl⟩
        · rw [hct] at HCt
          clear hct
          go_wp2_with (go_at_call 49; refine (HCt.out _ H1.out).mono ?_; rintro e w2 ⟨rfl, rfl⟩)
          go_meet
          case rel => exact ⟨rfl, rfl⟩
      case rest =>
        obtain ⟨rfl, rfl⟩ := hcut
        clear hcase HCt HK hB1
        go_wp2_with fail
        go_loopw [28] (fun x wr => ∃ k : Nat, k ≤ l.length ∧ x = .int .i64 k ∧ (l.take k).all (okT n es but place) = true ∧ Below w.heap.size w wr) (fun x _ => l.length - (intOf x).toNat)
        case atStart => exact ⟨0, by omega, rfl, rfl, H1.out⟩
        case round =>
          obtain ⟨k, hk, rfl, hok, hB⟩ := hrel
          by_cases hlt : k < l.length
          · obtain ⟨b, off, rfl, _, hcell⟩ := HC.out wr hB (by omega)
            have hck := hcell k hlt
            have hki : (k : Int) < (l.length : Int) := by omega
            have hxk := HKL.out l[k] (List.getElem_mem _)
            have htk := List.take_succ_eq_append_getElem hlt
            have hmem : l[k] ∈ l := List.getElem_mem _
            generalize l[k] = x at *
            have HB := Lib.hid hB
            have HTK := Lib.hid htk
            have HOK := Lib.hid hok
            have HMem := Lib.hid hmem
            by_cases hxb : x = but
            · have hx1 : (x == but) = true := by simpa using hxb
              have hnext : (l.take (k + 1)).all (okT n es but place) = true := by
                rw [htk, List.all_append, hok]
                simp [okT, hxb]
              have HN := Lib.hid hnext
              clear hxb hnext hcell htk hok hmem hB
              go_wp2_with fail
              go_roundw
              case rel => exact ⟨k + 1, by omega, by go_num, HN.out, HB.out⟩
              case measure => simp [intOf]; omega
            · have hx1 : (x == but) = false := by simpa using hxb
              obtain ⟨u, hu⟩ : ∃ u, u = x.natAbs - 1 := ⟨_, rfl⟩
              have HLv : Hid (∀ m, Calls Try.prog 36 #[.int .i64 x] (wr.drewN m) fun e w'' => e = .returned (.int .i64 (u : Int)) ∧ w'' = wr.drewN m) := Lib.hid fun m => by
                have h := lvar_any x (wr.drewN m) (by omega) (by omega)
                have e : ((x.natAbs : Int) - 1) = (u : Int) := by omega
                rw [e] at h
                exact h.mono fun _ _ hh => ⟨hh.1, hh.2.symm⟩
              have hpu := HP.out wr hB u (by omega)
              have hbk := HS.out.blk.below hB HS.out.blk.lt
              have hp2 := hbk.cell 2
              have hp0 := hbk.cell 0
              simp at hp2 hp0
              have hui : (u : Int) < (n : Int) := by omega
              have hI : I64 x := ⟨by omega, by omega⟩
              have HV2 : Hid (∀ m, Calls Try.prog 26 #[.pointer (some ⟨g, 0, none⟩), .int .i64 x] (wr.drewN m) fun e w'' => e = .returned (.int .i64 (valE n es x)) ∧ wr.drewN m = w'') := Lib.hid fun m => HV.out (wr.drewN m) x (bel_drewN hB m) hI
              have hokx : okT n es but place x = (decide (valE n es x = -1) && decide ((posV es u : Int) < place)) := by
                unfold okT
                rw [← hu]
                simp [hxb]
              have HOX := Lib.hid hokx
              generalize valE n es x = z at *
              generalize posV es u = pu at *
              have hbadr : okT n es but place x = false → r1 = 7 ∧ r2 = hp := fun h => by
                have h2 := HRes.out
                have h3 : l.all (okT n es but place) = false := by
                  cases h4 : l.all (okT n es but place) with
                  | false => rfl
                  | true =>
                    have := List.all_eq_true.1 h4 x hmem
                    rw [h] at this
                    cases this
                rw [if_pos h3] at h2
                injection h2 with h2 h3
                exact ⟨h2, h3⟩
              by_cases hz : z = -1
              · by_cases hpp : (pu : Int) < place
                · have hnext : (l.take (k + 1)).all (okT n es but place) = true := by
                    rw [htk, List.all_append, hok]
                    simp [hokx, hz, hpp]
                  have HN := Lib.hid hnext
                  have hz1 : (z == -1) = true := by simpa using hz
                  have hz2 : (z != -1) = false := by simpa using hz
                  have hp4 : ¬ place ≤ (pu : Int) := by omega
                  have hp5 : decide (place ≤ (pu : Int)) = false := by simpa using hp4
                  clear hbadr hnext hxb hcell htk hok hmem hB hbk hxk hu hI hokx hz
                  go_wp2_with fail
                  go_quiet (first | (go_at_call 36; exact Calls.quiet_of_same (HLv.out _)))
                  go_wp2_with (go_at_call 26; refine (HV2.out _).mono ?_; rintro e w' ⟨rfl, rfl⟩)
                  go_roundw
                  case rel => exact ⟨k + 1, by omega, by go_num, HN.out, bel_drewN HB.out nq⟩
                  case measure => simp [intOf]; omega
                · obtain ⟨rfl, rfl⟩ := hbadr (by rw [hokx]; simp [hpp])
                  have hz1 : (z == -1) = true := by simpa using hz
                  have hz2 : (z != -1) = false := by simpa using hz
                  have hp4 : place ≤ (pu : Int) := by omega
                  clear hbadr hxb hcell htk hok hmem hB hbk hxk hu hI hokx hz
                  go_wp2_with fail
                  go_quiet (first | (go_at_call 36; exact Calls.quiet_of_same (HLv.out _)))
                  go_wp2_with (go_at_call 26; refine (HV2.out _).mono ?_; rintro e w' ⟨rfl, rfl⟩)
                  go_ret
                  exact ⟨rfl, (HS.out.below (bel_drewN HB.out nq)).mono (by omega), Touch.of_below (bel_drewN HB.out nq) _⟩
              · obtain ⟨rfl, rfl⟩ := hbadr (by rw [hokx]; simp [hz])
                have hz1 : (z == -1) = false := by simpa using hz
                have hz2 : (z != -1) = true := by simpa using hz
                clear hbadr hxb hcell htk hok hmem hB hbk hxk hu hI hokx hz
                go_wp2_with fail
                go_quiet (first | (go_at_call 36; exact Calls.quiet_of_same (HLv.out _)))
                go_wp2_with (go_at_call 26; refine (HV2.out _).mono ?_; rintro e w' ⟨rfl, rfl⟩)
                go_ret
                exact ⟨rfl, (HS.out.below (bel_drewN HB.out nq)).mono (by omega), Touch.of_below (bel_drewN HB.out nq) _⟩
          · obtain rfl : k = l.length := by omega
            rw [List.take_length] at hok
            have hr : r1 = 0 ∧ r2 = addH es l but hp := by
              have h2 := HRes.out
              rw [if_neg (by rw [hok]; simp)] at h2
              injection h2 with h2 h3
              exact ⟨h2, h3⟩
            obtain ⟨rfl, rfl⟩ := hr
            have HOK := Lib.hid hok
            have HB := Lib.hid hB
            clear hok hB HRes
            go_wp2_with fail
            go_loopw [58] (fun x wr => ∃ k : Nat, k ≤ l.length ∧ x = .int .i64 k ∧ IsLes wr p g bp bm (M + k) n es cv (addH es (l.take k) but hp) ∧ Touch (fun k => k = bm) w wr) (fun x _ => l.length - (intOf x).toNat)
            case atStart =>
              refine ⟨0, by omega, rfl, ?_, Touch.of_below HB.out _⟩
              have e0 : addH es (l.take 0) but hp = hp := by funext j; simp [addH]
              rw [e0]
              exact HS.out.below HB.out
            case round =>
              obtain ⟨k, hk2, rfl, hS2, hT2⟩ := hrel
              by_cases hlt2 : k < l.length
              · obtain ⟨b, off, e0, hbl, hcell⟩ := HC.out w (Below.refl _ _) (by omega)
                have hck0 := hcell k hlt2
                have hck := (hT2.cell (p := ⟨b, off + k, none⟩) hbl (cell_ne_map hck0 HS.out.held)).trans hck0
                have hki : (k : Int) < (l.length : Int) := by omega
                have hxk := HKL.out l[k] (List.getElem_mem _)
                have hokx := List.all_eq_true.1 HOK.out l[k] (List.getElem_mem _)
                have htk := List.take_succ_eq_append_getElem hlt2
                generalize l[k] = x at *
                subst e0
                have HS2 := Lib.hid hS2
                have HT2 := Lib.hid hT2
                by_cases hxb : x = but
                · have hnext : addH es (l.take (k + 1)) but hp = addH es (l.take k) but hp := by
                    funext j
                    simp only [addH, htk, List.any_append, List.any_cons, List.any_nil]
                    simp [hxb]
                  have hx1 : (x == but) = true := by simpa using hxb
                  have hx2 : (x != but) = false := by simpa using hxb
                  have HN := Lib.hid hnext
                  clear hxb hnext hcell htk hS2 hT2 hokx hck0
                  go_wp2_with fail
                  go_roundw
                  case rel => exact ⟨k + 1, by omega, by go_num, by rw [HN.out]; exact HS2.out.mono (by omega), HT2.out⟩
                  case measure => simp [intOf]; omega
                · have hx2 : (x != but) = true := by simpa using hxb
                  have hx3 : (x == but) = false := by simpa using hxb
                  have hval : valE n es x = -1 := by
                    unfold okT at hokx
                    simp only [Bool.or_eq_true, decide_eq_true_eq, Bool.and_eq_true] at hokx
                    rcases hokx with h | h
                    · exact absurd h hxb
                    · exact h.1
                  obtain ⟨e, hlk, hel, hat, hpl2⟩ := val_false hval
                  obtain ⟨u, hu⟩ : ∃ u, u = x.natAbs - 1 := ⟨_, rfl⟩
                  rw [← hu] at hat hpl2
                  obtain ⟨pu, hpu⟩ : ∃ pu, pu = posV es u := ⟨_, rfl⟩
                  have hnext : addH es (l.take (k + 1)) but hp = fun j => decide (j = pu) || addH es (l.take k) but hp j := by
                    funext j
                    simp only [addH, htk, List.any_append, List.any_cons, List.any_nil, ← hu, ← hpu]
                    have hd1 : decide (x ≠ but) = true := by simpa using hxb
                    rw [hd1]
                    have hd2 : decide (pu = j) = decide (j = pu) := by simp [eq_comm]
                    rw [hd2]
                    cases hp j <;> cases decide (j = pu) <;> simp
                  rw [← hpu] at hat hpl2
                  obtain ⟨W, hW⟩ : ∃ W, W = wr.drew := ⟨_, rfl⟩
                  have hBW : Below wr.heap.size wr W := by rw [hW]; exact bel_drewN (Below.refl _ _) 1
                  have hSW := hS2.below hBW
                  obtain ⟨ao2, cap2, e1, _, _, hf2⟩ := hSW.places.form
                  obtain ⟨b2, o2, e2, hcc, _, _⟩ := hf2 (by omega)
                  subst e2
                  injection e1 with e1 e3 e4
                  injection e1 with e1
                  injection e1 with e1 e5
                  subst e1 e5 e4
                  have hcu := hcc u (by simp [inC, placesE_len]; omega)
                  rw [placesE_get _ _ _ (by omega), Nat.zero_add, ← hpu] at hcu
                  have hp2 := hSW.blk.cell 2
                  have hp3 := hSW.blk.cell 3
                  simp at hp2 hp3
                  have HLv : Hid (Calls Try.prog 36 #[.int .i64 x] W fun e w'' => e = .returned (.int .i64 (u : Int)) ∧ w'' = W) := Lib.hid (by
                    have h := lvar_any x W (by omega) (by omega)
                    have e := nat_pred hu hxk.1
                    rw [e] at h
                    exact h.mono fun _ _ hh => ⟨hh.1, hh.2.symm⟩)
                  have hui : (u : Int) < (n : Int) := by omega
                  have hwx := wf_of_abs hxk.2 hn
                  have hlen := hg.len_le
                  have hwp : (Lit.int .i64 (pu : Int)).wf = true := by simp [Lit.wf, IntKind.min, IntKind.max, IntKind.signed, IntKind.bits]; omega
                  obtain ⟨m, D, hown, hmM, hD1, hD2⟩ := hSW.held
                  have HN := Lib.hid hnext
                  have HSW := Lib.hid hSW
                  have HBW := Lib.hid hBW
                  have HD1 := Lib.hid hD1
                  have HD2 := Lib.hid hD2
                  have HAt := Lib.hid hat
                  clear hxb hnext hcell htk hS2 hT2 hokx hck0 hval hlk hel hu hpu hSW hBW hcc hf2 hD1 hD2 hat
                  go_upto_region 17 with fail
                  refine wp_region_still_tail 13 (by kernel_rfl) (by kernel_rfl) ?_
                  change wpStill _ _ (World.drew wr) (fun a' => wpList _ _ _ _ a' (World.drew wr)) _ _
                  rw [← hW]
                  clear hW
                  simp only [List.take_succ_cons, List.take_zero, List.drop_succ_cons, List.drop_zero]
                  repeat still_step
                  still_call HLv.out
                  repeat still_step
                  refine wpStill_nil ?_
                  go_wp2_with (at_mapUpdate; go_loud (refine wpList_mapUpdate_own _ rfl (.tmp 68) (.tmp 76) (.tmp 77) 64 rfl 3 3 (int_keyed Try.underlying3) Try.underlying64 (plainElem Try.prog 3) bm m D rfl hown (by simp only [maxLen]; omega) (.int .i64 pu) (.int .i64 x) (.int .i64 pu) rfl rfl (keyOf_int_mk Try.underlying3 hwp) (.lit (.int .i64 x)) [] (plainElem_int Try.underlying3 hwx) ?_); intro w3 hown3 hg3)
                  go_roundw
                  case rel =>
                    have ht3 : Touch (fun k => k = bm) W w3 := Touch.of_grown hg3 fun k hk => by injection hk with hk; exact hk.symm
                    have hneg : -atE es pu = x := by rw [HAt.out]; omega
                    have hown4 := hown3
                    rw [← hneg] at hown4
                    have hh := held_put (M := M + k) (len := es.length) (f := fun k => -atE es k) pu (owns_isMap hown) hown4 hmM hpl2 HD1.out HD2.out
                    refine ⟨k + 1, by omega, by go_num, ?_, (HT2.out.trans (Touch.of_below HBW.out _) fun _ _ h => h).trans ht3 fun _ _ h => h⟩
                    rw [HN.out]
                    exact HSW.out.turned ht3 hh
                  case measure => simp [intOf]; omega
              · obtain rfl : k = l.length := by omega
                rw [List.take_length] at hS2
                have HS2 := Lib.hid hS2
                have HT2 := Lib.hid hT2
                clear hS2 hT2
                go_wp2_with fail
                go_ret
                exact ⟨rfl, HS2.out, HT2.out⟩

end Go.Proofs.Ythfmlmodpcikcaa
