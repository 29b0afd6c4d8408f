/- Items that a law is handed. Conditions: as each theorem names them. -/
import Derived.Test.YthinopiobihmaaaGx
namespace Go.Proofs.Ythinopiobihmaaa
open Go.ChangeShapes Go.WideShapes Go.ChangeAt Go.RowKit Go.Maps Go.Deep
set_option maxRecDepth 100000

theorem cls_trod {H : Type} {enc : TypeId × Value → H} (W : World) {fuel : Nat} {cs : List Value} (d : DataW H) (p : List MemPlace) (hf' : DataW.trod enc Try.prog W 0 (fun _ => true) true fuel 22 cs = some (d, p)) (hfit : Fit Try.prog 22 d) :
    ∃ ao cls cap, cs = [.slice ao (List.length cls) cap] ∧ IsCls W ao cls ∧ (∀ c ∈ cls, c.length ≤ 140737488351232) ∧ (∀ c ∈ cls, ∀ x ∈ c, I64 x) ∧ cls.length ≤ 9223372036854775807 := by
  rcases open_int_rows Try.underlying22 Try.underlying26 Try.underlying3 (by kernel_rfl) (by kernel_rfl) hf' with ⟨rfl, hx⟩ | ⟨a, len, cap, A, L, C, Z, rfl, _, hlc, hcm, hx, hi⟩
  · exact ⟨none, [], 0, rfl, fun h => absurd h (by simp), fun c hc => by simp at hc, fun c hc => by simp at hc, by simp⟩
  · have hlen : len ≤ 9223372036854775807 := by unfold maxLen at hcm; omega
    simp only [Prod.mk.injEq] at hx
    obtain ⟨hd, _⟩ := hx
    rw [hd] at hfit
    have hb8 : Try.prog.bytesOf 3 = 8 := by kernel_rfl
    have hfe := (hfit.slice Try.underlying22).2
    refine ⟨some a, (List.range len).map (fun r => (Z r).take (L r)), cap, by simp, fun h0 => ?_, fun c hc => ?_, fun c hc x hx => ?_, by simpa using hlen⟩
    · have h0' : 0 < len := by simpa using h0
      have hc0 := (hi 0 (by omega)).1
      obtain ⟨b, off, rfl, hb⟩ := addr_of_cell (w := W) (a := a) hc0
      simp only [add_plain] at hi
      refine ⟨b, off, rfl, hb, fun j hj => ?_⟩
      have hj' : j < len := by simpa using hj
      obtain ⟨k1, k2, k3, k4, _, k6, k7⟩ := hi j (by omega)
      have hcl : ((Z j).take (L j)).length = L j := by rw [List.length_take]; omega
      refine ⟨A j, C j, ?_, fun hp => ?_⟩
      · simp only [List.getElem_map, List.getElem_range, hcl]
        exact k1
      · simp only [List.getElem_map, List.getElem_range, hcl] at hp ⊢
        cases hA : A j with
        | none => have := k6 hA; omega
        | some a' =>
          obtain ⟨_, h8⟩ := k7 a' hA
          obtain ⟨b', off', rfl, hb'⟩ := addr_of_cell (w := W) (a := a') (h8 0 (by omega))
          refine ⟨b', off', rfl, hb', fun k hk => ?_⟩
          have h9 := h8 k (by omega)
          rw [add_plain] at h9
          rw [h9, getD_take (n := L j) hk (by omega)]
    · obtain ⟨r, hr, rfl⟩ := List.mem_map.1 hc
      have hrl := List.mem_range.1 hr
      obtain ⟨_, k2, _, k4, _, k6, _⟩ := hi r (by omega)
      have hf := hfe _ (List.mem_map.2 ⟨r, hr, rfl⟩)
      rw [List.length_take]
      cases hA : A r with
      | none => have := k6 hA; omega
      | some a' =>
        rw [hA] at hf
        have h5 := (Fit.slice (elems := lits .i64 ((Z r).take (L r))) (spare := lits .i64 ((Z r).drop (L r))) hf Try.underlying26).1
        rw [hb8] at h5
        simp only [lits, List.length_map, List.length_take, List.length_drop, reachBytes] at h5
        omega
    · obtain ⟨r, hr, rfl⟩ := List.mem_map.1 hc
      have := hi r (by have := List.mem_range.1 hr; omega)
      exact wf_i64b (this.2.2.2.2.1 x (List.mem_of_mem_take hx))

theorem items_of {H : Type} {enc : TypeId × Value → H} (W : World) (v : Value) (d : DataW H) (p : List MemPlace) (hval : Value.okWide Try.prog W .any 0 23 v) (h : DataW.Trod enc Try.prog W 0 (fun _ => true) true 23 v d p) (hfit : Fit Try.prog 23 d) :
    ∃ ai items cap aI cI avI cvI, v = .slice ai (List.length items) cap ∧ IsItems W ai items aI cI avI cvI ∧ ∀ it ∈ items, ∀ c ∈ it, ∀ x ∈ c, I64 x := by
  obtain ⟨ai, len, cap, rfl⟩ := okWide_slice Try.underlying23 hval
  obtain ⟨fuel, hf⟩ := h
  have hf' : DataW.trod enc Try.prog W 0 (fun _ => true) true fuel 23 [.slice ai len cap] = some (d, p) := by simpa [Value.cells] using hf
  rcases open_slice1 Try.underlying23 (by kernel_rfl) hf' with ⟨hcs, hx⟩ | ⟨a, len', cap', m, n, V, D, Pl, hcs, _, hlc, hcm, hm, hx, hi⟩
  · simp only [List.cons.injEq, Value.slice.injEq, and_true] at hcs
    obtain ⟨rfl, rfl, rfl⟩ := hcs
    exact ⟨none, [], 0, fun _ => none, fun _ => 0, fun _ _ => none, fun _ _ => 0, rfl, ⟨fun h => absurd h (by simp), fun j hj => absurd hj (Nat.not_lt_zero _)⟩, fun it hit => by simp at hit⟩
  · simp only [List.cons.injEq, Value.slice.injEq, and_true] at hcs
    obtain ⟨rfl, rfl, rfl⟩ := hcs
    simp only [if_true] at hm
    subst hm
    simp only [Prod.mk.injEq] at hx
    obtain ⟨hd, _⟩ := hx
    rw [hd] at hfit
    have hfe := (hfit.slice Try.underlying23).2
    have each : ∀ r, r < len → ∃ y : Option Addr × List (List Int) × Nat × (Nat → Option Addr) × (Nat → Nat), V r = .slice y.1 y.2.1.length y.2.2.1 ∧ IsRows W y.1 y.2.1 y.2.2.2.1 y.2.2.2.2 ∧ ∀ c ∈ y.2.1, ∀ x ∈ c, I64 x := fun r hr => by
      obtain ⟨ao, cls, c, e, h1, _, h3, _⟩ := cls_trod W (D r) (Pl r) (hi r (by omega)).2 (hfe _ (List.mem_map.2 ⟨r, List.mem_range.2 hr, rfl⟩))
      obtain ⟨av, cv, hr⟩ := rows_cls h1
      simp only [List.cons.injEq, and_true] at e
      exact ⟨(ao, cls, c, av, cv), e, hr, h3⟩
    obtain ⟨y, hy⟩ := choose_lt each
    refine ⟨some a, (List.range len).map fun r => (y r).2.1, m, fun r => (y r).1, fun r => (y r).2.2.1, fun r => (y r).2.2.2.1, fun r => (y r).2.2.2.2, by simp, ⟨fun h0 => ?_, fun j hj => ?_⟩, fun it hit => ?_⟩
    · have h0' : 0 < len := by simpa using h0
      obtain ⟨b, off, rfl, hb⟩ := addr_of_cell (w := W) (a := a) (hi 0 (by omega)).1
      refine ⟨b, off, rfl, hb, fun j hj => ?_⟩
      have hj' : j < len := by simpa using hj
      have h1 := (hi j (by omega)).1
      rw [add_plain, (hy j hj').1] at h1
      simp only [List.getElem_map, List.getElem_range]
      exact h1
    · have hj' : j < len := by simpa using hj
      simp only [List.getElem_map, List.getElem_range]
      exact (hy j hj').2.1
    · obtain ⟨r, hr, rfl⟩ := List.mem_map.1 hit
      exact (hy r (List.mem_range.1 hr)).2.2

end Go.Proofs.Ythinopiobihmaaa

namespace Go.Proofs.Ythinopiobihmaaa
open Go.ChangeShapes Go.WideShapes Go.ChangeAt Go.RowKit Go.Maps Go.Deep
set_option maxRecDepth 100000

def checkAll (vars : Int) (items : List (List (List Int))) : Bool := items.all fun it => decide (checkE vars it 0 = 0)
def rightE (vars : Int) (base : List (List Int)) (items : List (List (List Int))) : Bool := !longM vars base items && decide (checkE vars base 0 = 0) && checkAll vars items
theorem check_cases (vars : Int) (cl : List (List Int)) (b : Int) : checkE vars cl b = 0 ∨ checkE vars cl b = 1 := by
  unfold checkE
  split
  · exact .inr rfl
  · split
    · exact .inl rfl
    · exact .inr rfl
theorem check_yes {vars : Int} {cl : List (List Int)} (h : checkE vars cl 0 = 0) : ∃ n : Nat, vars = n ∧ cl.all (knownS n) = true := by
  have h0 : ¬ vars < 0 := fun h0 => by
    unfold checkE at h
    rw [if_pos (.inl h0)] at h
    cases h
  have h1 : ¬ 2097152 < vars := fun h0 => by
    unfold checkE at h
    rw [if_pos (.inr (.inl h0))] at h
    cases h
  obtain ⟨n, rfl⟩ := Int.eq_ofNat_of_zero_le (show 0 ≤ vars by omega)
  refine ⟨n, rfl, ?_⟩
  rw [checkE_known n cl 0 (by omega) (by omega)] at h
  by_cases hk : cl.all (knownS n) = true
  · exact hk
  · rw [if_neg hk] at h
    cases h
structure Fine (n : Nat) (base : List (List Int)) (items : List (List (List Int))) : Prop where
  n9 : n ≤ 9
  bl : base.length ≤ 60
  il : items.length ≤ 24
  br : ∀ c ∈ base, c.length ≤ 40
  ir : ∀ it ∈ items, it.length ≤ 20 ∧ ∀ c ∈ it, c.length ≤ 40
  known : KnownAll n base items
theorem right_yes {vars : Int} {base : List (List Int)} {items : List (List (List Int))} (h : rightE vars base items = true) : ∃ n : Nat, vars = n ∧ Fine n base items := by
  unfold rightE checkAll at h
  simp only [Bool.and_eq_true, Bool.not_eq_true', decide_eq_true_eq, List.all_eq_true] at h
  obtain ⟨⟨h1, h2⟩, h3⟩ := h
  obtain ⟨a1, a2, a3, a4, a5⟩ := longM_no h1
  obtain ⟨n, rfl, hk⟩ := check_yes h2
  refine ⟨n, rfl, by omega, a2, a3, a4, a5, hk, fun i hi => ?_⟩
  obtain ⟨m, hm, hk2⟩ := check_yes (h3 _ (List.getElem_mem hi))
  obtain rfl : n = m := by omega
  exact hk2
theorem Fine.ok {n : Nat} {base : List (List Int)} {items : List (List (List Int))} (h : Fine n base items) : ItOk n base items :=
  it_ok (M := 20) (by have := h.n9; omega) (by have := h.il; omega) (by have := h.il; have := h.bl; omega) (fun c hc => Nat.le_trans (h.br c hc) (by decide)) fun it hit => ⟨(h.ir it hit).1, fun c hc => Nat.le_trans ((h.ir it hit).2 c hc) (by decide)⟩

set_option maxHeartbeats 1000000 in
theorem right_any (vars : Int) (base : List (List Int)) (items : List (List (List Int))) (ab ai : Option Addr) (cb ci : Nat) (av : Nat → Option Addr) (cv : Nat → Nat) (aI : Nat → Option Addr) (cI : Nat → Nat) (avI : Nat → Nat → Option Addr) (cvI : Nat → Nat → Nat) (w : World)
    (hR : IsRows w ab base av cv) (hI : IsItems w ai items aI cI avI cvI) :
    Calls Try.prog 15 #[.int .i64 vars, .slice ab base.length cb, .slice ai items.length ci] w fun e w' => e = .returned (.bool (rightE vars base items)) ∧ w = w' := by
  have HL := Lib.hid (long_any vars base items ab ai cb ci av cv aI cI avI cvI w hR hI)
  cases hl : longM vars base items with
  | true =>
    rw [hl] at HL
    rw [show rightE vars base items = false by unfold rightE; rw [hl]; rfl]
    clear hR hI hl
    go_enter Try.func15, Try.ntmps15
    go_wp2_with (first
      | (go_at_call 9; (with_reducible refine HL.out.mono ?_); rintro e w1 ⟨rfl, rfl⟩)
      | fail)
    go_ret
    exact ⟨rfl, rfl⟩
  | false =>
    obtain ⟨_, b2, b3, b4, b5⟩ := longM_no hl
    rw [hl] at HL
    have HCb := Lib.hid (check_any vars base 0 ab cb av cv w hR (by omega) fun c hc => by have := b4 c hc; omega)
    rcases check_cases vars base 0 with hc | hc
    rotate_left
    · rw [hc] at HCb
      rw [show rightE vars base items = false by unfold rightE; rw [hl, hc]; rfl]
      clear hR hI hl hc b4 b5
      go_enter Try.func15, Try.ntmps15
      go_wp2_with (first
        | (go_at_call 9; (with_reducible refine HL.out.mono ?_); rintro e w1 ⟨rfl, rfl⟩)
        | (go_at_call 21; (with_reducible refine HCb.out.mono ?_); rintro e w1 ⟨rfl, rfl⟩)
        | fail)
      go_ret
      exact ⟨rfl, rfl⟩
    · rw [hc] at HCb
      rw [show rightE vars base items = checkAll vars items by unfold rightE; rw [hl, hc]; rfl]
      obtain ⟨T, hT⟩ : ∃ T, T = checkAll vars items := ⟨_, rfl⟩
      rw [← hT]
      have HT := Lib.hid (show T = checkAll vars (items.drop 0) from hT)
      have HI := Lib.hid hI
      have HB5 := Lib.hid b5
      clear hR hI hl hc b4 b5 hT
      go_enter Try.func15, Try.ntmps15
      go_wp2_with (first
        | (go_at_call 9; (with_reducible refine HL.out.mono ?_); rintro e w1 ⟨rfl, rfl⟩)
        | (go_at_call 21; (with_reducible refine HCb.out.mono ?_); rintro e w1 ⟨rfl, rfl⟩)
        | fail)
      go_loop [7] (fun i => ∃ k : Nat, k ≤ items.length ∧ i = .int .i64 k ∧ Hid (T = checkAll vars (items.drop k))) (fun i => items.length - (intOf i).toNat)
      case atStart => exact ⟨0, by omega, rfl, HT⟩
      case round =>
        obtain ⟨k, hk, rfl, HK⟩ := hrel
        by_cases hlt : k < items.length
        · have hki : (k : Int) < (items.length : Int) := by omega
          obtain ⟨b, off, rfl, _, hcells⟩ := HI.out.rows (by omega)
          have hck := hcells k hlt
          have hRk := HI.out.item k hlt
          have hbk := HB5.out _ (List.getElem_mem hlt)
          have hTk := HK.out
          rw [List.drop_eq_getElem_cons hlt] at hTk
          have hTk2 : T = (decide (checkE vars items[k] 0 = 0) && checkAll vars (items.drop (k + 1))) := hTk
          generalize items[k] = it at *
          have HCk := Lib.hid (check_any vars it 0 (aI k) (cI k) _ _ w hRk (by omega) fun c hc => by have := hbk.2 c hc; omega)
          clear hcells hRk hbk hTk HK
          rcases check_cases vars it 0 with hc | hc
          · rw [hc] at HCk hTk2
            have HK2 := Lib.hid (show T = checkAll vars (items.drop (k + 1)) by rw [hTk2]; simp)
            clear hc hTk2
            go_wp2_with (first
              | (go_at_call 21; (with_reducible refine HCk.out.mono ?_); rintro e w1 ⟨rfl, rfl⟩)
              | fail)
            go_round
            case rel => exact ⟨k + 1, by omega, by go_num, HK2⟩
            case measure => simp [intOf]; omega
          · rw [hc] at HCk hTk2
            obtain rfl : T = false := by rw [hTk2]; rfl
            clear hc hTk2 HT
            go_wp2_with (first
              | (go_at_call 21; (with_reducible refine HCk.out.mono ?_); rintro e w1 ⟨rfl, rfl⟩)
              | fail)
            go_ret
            exact ⟨rfl, rfl⟩
        · obtain rfl : k = items.length := by omega
          obtain rfl : T = true := by rw [HK.out, List.drop_length]; rfl
          clear HK HT
          go_wp2_with fail
          go_ret
          exact ⟨rfl, rfl⟩

end Go.Proofs.Ythinopiobihmaaa

namespace Go.Proofs.Ythinopiobihmaaa
open Go.ChangeShapes Go.WideShapes Go.ChangeAt Go.RowKit Go.Maps Go.Deep
set_option maxRecDepth 100000

/-- Some items, by their numbers. -/
def pickI (items : List (List (List Int))) (l : List Nat) : List (List (List Int)) := l.map fun x => items.getD x []
/-- All but one. -/
def butS (but : Int) : Nat → Bool := fun i => !decide ((i : Int) = but)
theorem pickI_len (items : List (List (List Int))) (l : List Nat) : (pickI items l).length = l.length := by simp [pickI]
theorem pickI_get {items : List (List (List Int))} {l : List Nat} {k : Nat} (hk : k < l.length) (hx : l[k] < items.length) : (pickI items l).getD k [] = items[l[k]] := by
  simp [pickI, List.getD_eq_getElem?_getD, hk, hx]
theorem pickI_mem {items : List (List (List Int))} {l : List Nat} (hl : ∀ x ∈ l, x < items.length) : ∀ it ∈ pickI items l, it ∈ items := fun it h => by
  obtain ⟨x, hx, rfl⟩ := List.mem_map.1 h
  rw [List.getD_eq_getElem?_getD, List.getElem?_eq_getElem (hl x hx)]
  exact List.getElem_mem _
theorem known_mem {n : Nat} {base : List (List Int)} {items : List (List (List Int))} : KnownAll n base items ↔ base.all (knownS n) = true ∧ ∀ it ∈ items, it.all (knownS n) = true :=
  and_congr_right fun _ => ⟨fun h it hit => by obtain ⟨j, hj, rfl⟩ := List.getElem_of_mem hit; exact h j hj, fun h i hi => h _ (List.getElem_mem hi)⟩
theorem known_pick {n : Nat} {base : List (List Int)} {items : List (List (List Int))} {l : List Nat} (h : KnownAll n base items) (hl : ∀ x ∈ l, x < items.length) : KnownAll n base (pickI items l) :=
  known_mem.2 ⟨h.1, fun it hit => (known_mem.1 h).2 it (pickI_mem hl it hit)⟩

theorem enough_bounds2 (n : Nat) (_ : n ≤ 12) : 0 ≤ enoughE n ∧ enoughE n ≤ 1099511627776 := by
  have := enough_pos n
  omega
set_option maxHeartbeats 2000000 in
theorem nolaw_any (n : Nat) (base : List (List Int)) (items : List (List (List Int))) (l : List Nat) (but : Int) (ab ai al : Option Addr) (cb ci cl : Nat) (av : Nat → Option Addr) (cv : Nat → Nat) (aI : Nat → Option Addr) (cI : Nat → Nat) (avI : Nat → Nat → Option Addr) (cvI : Nat → Nat → Nat) (w : World)
    (hR : IsRows w ab base av cv) (hI : IsItems w ai items aI cI avI cvI) (hL : Ints w al (natsE l)) (hlt : ∀ x ∈ l, x < items.length) (hll : l.length ≤ 1000) (hil : items.length ≤ 1000) (hkn : KnownAll n base items) (hk : ItOk n base (pickI items l)) :
    Calls Try.prog 16 #[.int .i64 n, .slice ab base.length cb, .slice ai items.length ci, .slice al l.length cl, .int .i64 but] w fun e w' => e = .returned (.bool (noB n base (pickI items l) (butS but))) ∧ Below w.heap.size w w' := by
  obtain ⟨iS, hiS, hs0, hs1, hs2⟩ := info_parts (P := Try.prog) (e := 26) (z := .slice none 0 0) (size := 1) (bytes := 24) (by kernel_rfl)
  have hkp := known_pick hkn hlt
  obtain ⟨S, hS⟩ : ∃ S, S = butS but := ⟨_, rfl⟩
  rw [← hS]
  have hpl := pickI_len items l
  have HUp : Hid (∀ k, k ≤ l.length → (uptoE base (pickI items l) S k).length ≤ 2100) := Lib.hid fun k hk2 => Nat.le_trans (upto_mono (by rw [← hpl] at hk2; exact hk2)) (hk.len S)
  have hbl : base.length ≤ 2100 := by
    have h := HUp.out 0 (Nat.zero_le _)
    rwa [upto_zero] at h
  have he := enough_bounds2 n hk.n12
  have hst : ((solveE n (allE base (pickI items l) S)).steps : Int) ≤ enoughE n := by
    rcases solve_steps n (all_known (S := S) hkp) with h | h
    · exact h
    · exact absurd hk.n12 (by omega)
  obtain ⟨E, hE⟩ : ∃ E, E = enoughE n := ⟨_, rfl⟩
  rw [← hE] at he hst
  have HEn := Lib.hid (fun w' : World => show Calls Try.prog 18 #[.int .i64 n] w' fun e w'' => e = .returned (.int .i64 E) ∧ w' = w'' by rw [hE]; exact senough_any n (by have := hk.n12; omega) w')
  have HSo : Hid (∀ w' a c av cv, IsRows w' a (allE base (pickI items l) S) av cv → Calls Try.prog 17 #[.int .i64 n, .slice a (allE base (pickI items l) S).length c, .int .i64 E] w' fun e w'' => Below w'.heap.size w' w'' ∧ ∃ y a1 m1 c1 t a2 m2 c2 a3 m3 c3, Hid (y = (solveE n (allE base (pickI items l) S)).yes) ∧ e = .returned (.tuple #[.agg #[.bool y, .slice a1 m1 c1, .int .i64 t, .slice a2 m2 c2, .slice a3 m3 c3], .int .i64 0])) := Lib.hid fun w' a c av cv h => (solve_good hk.n12 h (hk.len _) (hk.row _) (all_known hkp) E ⟨hst, he.2⟩).mono fun e w'' ⟨h1, a1, c1, a2, c2, a3, c3, h2, _⟩ => ⟨h1, _, a1, _, c1, _, a2, _, c2, a3, _, c3, Lib.hid rfl, h2⟩
  have HR := Lib.hid hR
  have HI := Lib.hid hI
  have HL := Lib.hid hL
  have HLt := Lib.hid hlt
  have HPl := Lib.hid hpl
  have HS := Lib.hid hS
  have HSrc := Lib.hid (rows_src0 (hR.below ((Below.refl w.heap.size w).alloc (Nat.le_refl _) (.cells #[] 26))) cb)
  have HOne := Lib.hid (isRows_vals hR)
  clear hR hI hL hlt hk hkp hkn hpl hS he hst hE
  go_enter Try.func16, Try.ntmps16
  go_wp2_with (first
    | (at_builtin; go_loud (refine wpList_append_S _ rfl (.tmp 15) (.tmp 16) _ _ rfl 26 iS _ 1 24 Try.underlying22 hiS hs0 hs1 hs2 rfl (by omega) (.slice (some ⟨w.heap.size, 0, none⟩) 0 0) 0 [] rfl (Own.made w 26 1 #[] 0 rfl (by simp)) (by simp) (.slice ab base.length cb) base.length (rowVals base av cv) rfl HSrc.out (by simp only [maxLen]; omega) (by omega) ?_); intro ao1 cap1 w1 hn2 hm2 hown2 hg2 hat2 hlt2; simp only [Nat.zero_add, List.nil_append] at hown2 hat2 hlt2 ⊢)
    | fail)
  have hb0 : Below w.heap.size w (w.alloc (.cells #[] 26)) := (Below.refl _ w).alloc (Nat.le_refl _) _
  have hb1 : Below w.heap.size w w1 := hb0.grown hg2 hb0.size fun k e => by injection e with e; exact Nat.le_of_eq e
  have hcl1 : ClAt w w1 ao1 base.length cap1 base := ⟨rfl, ⟨_, hown2, HOne.out⟩, fun k hk => by
    rcases hat2 with e | e
    · rw [hk] at e; injection e with e; exact Nat.le_of_eq e.symm
    · rw [hk] at e; injection e with e; rw [e]; exact hb0.size⟩
  have HC1 := Lib.hid hcl1
  have HB1 := Lib.hid hb1
  clear hn2 hm2 hown2 hg2 hat2 hlt2 hb0 HSrc HOne hb1 hcl1
  go_loopw [11, 12] (fun s i wr => ∃ (k n c : Nat) (a : Option Addr), k ≤ l.length ∧ i = .int .i64 k ∧ s = .slice a n c ∧ Hid (ClAt w wr a n c (uptoE base (pickI items l) S k)) ∧ Hid (Below w.heap.size w wr)) (fun _ i _ => l.length - (intOf i).toNat)
  case atStart => exact ⟨0, base.length, cap1, ao1, by omega, rfl, rfl, by rw [upto_zero]; exact HC1, HB1⟩
  case round =>
    obtain ⟨k, m, c, a, hk, rfl, rfl, HC, HBr⟩ := hrel
    by_cases hlt : k < l.length
    · have hki : (k : Int) < (l.length : Int) := by omega
      obtain ⟨bl, ol, rfl, _, hlc⟩ := HL.out (by unfold natsE; rw [List.length_map]; omega)
      obtain ⟨x, hx⟩ : ∃ x, x = l[k] := ⟨_, rfl⟩
      have hxl : x < items.length := by rw [hx]; exact HLt.out _ (List.getElem_mem hlt)
      have hck0 : w.cell? ⟨bl, ol + k, none⟩ = some (.int .i64 (x : Int)) := by
        rw [hlc k (by unfold natsE; rw [List.length_map]; exact hlt), hx]
        simp [natsE]
      have hck := (bel_cell HBr.out hck0).trans hck0
      have hxi : (x : Int) < (items.length : Int) := by omega
      have hd1 : decide ((x : Int) < 0) = false := by simp
      have hd2 : decide ((items.length : Int) ≤ (x : Int)) = false := by simp; omega
      have hd3 : decide (items.length ≤ x) = false := by simp; omega
      have hgd : (pickI items l).getD k [] = items[x] := by
        rw [pickI_get hlt (by rw [← hx]; exact hxl)]
        congr 1
        exact hx.symm
      have HUs := Lib.hid (upto_succ (base := base) (items := pickI items l) (S := S) k)
      clear hlc hck0 hx
      by_cases hb : (k : Int) = but
      · have hdb : ((k : Int) != but) = false := by simpa using hb
        have HU2 := Lib.hid (show uptoE base (pickI items l) S (k + 1) = uptoE base (pickI items l) S k by rw [HUs.out, HS.out]; simp [butS, hb])
        clear HUs hb hgd
        go_wp2_with fail
        go_roundw
        case rel => exact ⟨k + 1, m, c, a, by omega, by go_num, rfl, by rw [HU2.out]; exact HC, HBr⟩
        case measure => simp [intOf]; omega
      · have hdb : ((k : Int) != but) = true := by simpa using hb
        obtain ⟨b, off, rfl, hbb, hcells⟩ := HI.out.rows (by omega)
        have hckw := (bel_cell HBr.out (hcells x hxl)).trans (hcells x hxl)
        have hRk := HI.out.item x hxl
        obtain ⟨it, hit⟩ : ∃ it, it = items[x] := ⟨_, rfl⟩
        rw [← hit] at hckw hRk hgd
        have HU2 := Lib.hid (show uptoE base (pickI items l) S (k + 1) = uptoE base (pickI items l) S k ++ it by rw [HUs.out, hgd, HS.out]; simp [butS, hb])
        have hll := HUp.out (k + 1) (by omega)
        rw [HU2.out, List.length_append] at hll
        obtain ⟨vals, hO, hv⟩ := HC.out.own
        have hln := HC.out.len
        have hn4 : m ≤ 2100 := by rw [hln]; omega
        have hil4 : it.length ≤ 2100 := by omega
        have hone := hv.one
        have HSrc := Lib.hid (rows_src0 (hRk.below HBr.out) (cI x))
        have HRk := Lib.hid hRk
        have HV := Lib.hid hv
        have HO := Lib.hid hO
        have HLn := Lib.hid hln
        generalize aI x = ak at *
        generalize cI x = ck at *
        generalize avI x = avk at *
        generalize cvI x = cvk at *
        clear HUs hb hcells hRk hit hgd hll hv hO hln
        go_wp2_with (first
          | (at_builtin; go_loud (refine wpList_append_S _ rfl (.tmp 41) (.tmp 48) _ _ rfl 26 iS _ 1 24 Try.underlying22 hiS hs0 hs1 hs2 rfl (by omega) (.slice a m c) m vals rfl HO.out hone (.slice ak it.length ck) it.length (rowVals it avk cvk) rfl HSrc.out (by simp only [maxLen]; omega) (by omega) ?_); intro ao4 cap4 w4 hn4a hm4a hown4 hg4 hat4 hlt4
             have H4 := Lib.hid (ClAt.app HLn.out HV.out HC.out.new HRk.out HBr.out hown4 hg4 hat4)
             clear hown4 hg4 hat4 hlt4 hn4a hm4a)
          | fail)
        go_roundw
        case rel => exact ⟨k + 1, m + it.length, cap4, ao4, by omega, by go_num, rfl, by rw [HU2.out]; exact Lib.hid H4.out.1, Lib.hid H4.out.2⟩
        case measure => simp [intOf]; omega
    · obtain rfl : k = l.length := by omega
      obtain ⟨avc, cvc, hrows⟩ := HC.out.rows HBr.out
      have hln : m = (allE base (pickI items l) S).length := by rw [HC.out.len]; unfold allE; rw [HPl.out]
      have e : uptoE base (pickI items l) S l.length = allE base (pickI items l) S := by unfold allE; rw [HPl.out]
      rw [e] at hrows
      have HSo2 := Lib.hid (HSo.out wr a c avc cvc hrows)
      rw [← hln] at HSo2
      clear hrows hln e HSo
      go_upto_region 10 with (first
        | (go_at_call 18; (with_reducible refine (HEn.out _).mono ?_); rintro e w5 ⟨rfl, rfl⟩)
        | (go_at_call 17; (with_reducible refine HSo2.out.mono ?_); rintro e w5 ⟨hb5, y, a1, m1, c1, t, a2, m2, c2, a3, m3, c3, hy, rfl⟩)
        | fail)
      obtain ⟨w6, hw6, hb6, hk6⟩ := ans_new w5 #[.bool y, .slice a1 m1 c1, .int .i64 t, .slice a2 m2 c2, .slice a3 m3 c3]
      rw [← hw6]
      obtain ⟨g6, hg6⟩ : ∃ g6, g6 = w5.heap.size := ⟨_, rfl⟩
      rw [← hg6] at hk6 ⊢
      have p0 : w6.cell? ⟨g6, 0, none⟩ = some (.bool y) := hk6 w6 (Below.refl _ _) 0
      have HB6 := Lib.hid (bel_new HBr.out HBr.out.size (bel_trans hb5 hb6))
      have HY := Lib.hid (show noB n base (pickI items l) S = !y by rw [hy.out]; rfl)
      clear hw6 hk6 hg6 hb5 hb6 hy
      cases y with
      | true =>
        go_wp2_with fail
        go_ret
        rw [HY.out]
        exact ⟨rfl, HB6.out⟩
      | false =>
        go_wp2_with fail
        go_ret
        rw [HY.out]
        exact ⟨rfl, HB6.out⟩

end Go.Proofs.Ythinopiobihmaaa
