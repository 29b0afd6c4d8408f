/- The laws' large; the walk of CoreTells. Conditions: as each theorem names them. -/
import Derived.Test.YthaonmmjoednnaaC8
namespace Go.Proofs.Ythaonmmjoednnaa
open Go.ChangeShapes Go.WideShapes Go.ChangeAt Go.RowKit Go.Maps Go.Deep
set_option maxRecDepth 100000

/-- Numbers that a law is handed, within the reach. -/
theorem intf_of {H : Type} {enc : TypeId × Value → H} (W : World) (v : Value) (d : DataW H) (p : List MemPlace) (hval : Value.okWide Try.prog W .any 0 24 v) (h : DataW.Trod enc Try.prog W 0 (fun _ => true) true 24 v d p) (hfit : Fit Try.prog 24 d) :
    ∃ ao l cap, v = .slice ao (List.length l) cap ∧ Ints W ao l ∧ l.length ≤ 140737488351232 ∧ (∀ x ∈ l, I64 x) ∧ l.length ≤ cap ∧ cap ≤ 9223372036854775807 := by
  obtain ⟨ao, len, cap, rfl⟩ := okWide_slice Try.underlying24 hval
  obtain ⟨fuel, hf⟩ := h
  have hf' : DataW.trod enc Try.prog W 0 (fun _ => true) true fuel 24 [.slice ao len cap] = some (d, p) := by simpa [Value.cells] using hf
  rcases open_ints Try.underlying24 Try.underlying3 (by kernel_rfl) hf' with ⟨hcs, hx⟩ | ⟨a, len', cap', zs, hcs, _, hlc, hcm, hz, hx, hi, hwf⟩
  · simp only [List.cons.injEq, Value.slice.injEq, and_true] at hcs
    obtain ⟨rfl, rfl, rfl⟩ := hcs
    exact ⟨none, [], 0, rfl, fun h => absurd h (by simp), by simp, fun c hc => by simp at hc, by simp, by simp⟩
  · simp only [List.cons.injEq, Value.slice.injEq, and_true] at hcs
    obtain ⟨rfl, rfl, rfl⟩ := hcs
    simp only [if_true] at hz
    have hlen : cap ≤ 9223372036854775807 := by unfold maxLen at hcm; omega
    have hcl : (zs.take len).length = len := by rw [List.length_take]; omega
    refine ⟨_, zs.take len, cap, by rw [hcl], fun h0 => ?_, ?_, fun x hx => wf_i64b (hwf x (List.mem_of_mem_take hx)), by rw [hcl]; exact hlc, hlen⟩
    · obtain ⟨b, off, rfl, hb⟩ := addr_of_cell (w := W) (a := a) (hi 0 (by omega))
      refine ⟨b, off, rfl, hb, fun k hk => ?_⟩
      have h9 := hi k (by omega)
      rw [add_plain] at h9
      rw [h9, getD_take (n := len) (by omega) (by omega)]
    · have hb8 : Try.prog.bytesOf 3 = 8 := by kernel_rfl
      simp only [Prod.mk.injEq] at hx
      rw [hx.1] at hfit
      have h5 := (Fit.slice (elems := lits .i64 (zs.take len)) (spare := lits .i64 (zs.drop len)) hfit Try.underlying24).1
      rw [hb8] at h5
      simp only [lits, List.length_map, List.length_take, List.length_drop, reachBytes] at h5
      rw [hcl]
      omega

theorem rowl_of {H : Type} {enc : TypeId × Value → H} (W : World) (v : Value) (d : DataW H) (p : List MemPlace) (hval : Value.okWide Try.prog W .any 0 25 v) (h : DataW.Trod enc Try.prog W 0 (fun _ => true) true 25 v d p) (hfit : Fit Try.prog 25 d) :
    ∃ ao cl cap av cv, v = .slice ao (List.length cl) cap ∧ IsRows W ao cl av cv ∧ cl.length ≤ 9223372036854775807 ∧ (∀ c ∈ cl, c.length ≤ 140737488351232) ∧ ∀ c ∈ cl, ∀ x ∈ c, I64 x := by
  obtain ⟨ao, cl, cap, rfl, hc, hn, hm, hI⟩ := cls_of W v d p hval h hfit
  obtain ⟨av, cv, hr⟩ := rows_cls hc
  exact ⟨ao, cl, cap, av, cv, rfl, hr, hn, hm, hI⟩

theorem two_given {w w' : World} {a b : Option Addr} {l m : List Int} {ca cb : Nat} (h : w' = w.alloc (.cells #[.slice a l.length ca, .slice b m.length cb] 24)) (hl : Ints w a l) (hm : Ints w b m) :
    Below w.heap.size w w' ∧ ∃ av cv, IsRows w' (some ⟨w.heap.size, 0, none⟩) [l, m] av cv := by
  subst h
  have hb : Below w.heap.size w (w.alloc (.cells #[.slice a l.length ca, .slice b m.length cb] 24)) := (Below.refl _ w).alloc (Nat.le_refl _) _
  have k := Blk.new w 24 #[.slice a l.length ca, .slice b m.length cb]
  exact ⟨hb, rows_at (n := 2) (cap := 2) (Own.of_blk k 2 rfl (by decide)) rfl ⟨rfl, fun j hj => by
    match j, hj with
    | 0, _ => exact ⟨a, ca, rfl, hl.below hb⟩
    | 1, _ => exact ⟨b, cb, rfl, hm.below hb⟩⟩⟩

theorem numbers_same (l : List Int) (ao bo : Option Addr) (ca cb : Nat) (w : World) (ha : Ints w ao l) (hb : Ints w bo l) (hl : l.length ≤ 1000000) :
    Calls Try.prog 9 #[.slice ao l.length ca, .slice bo l.length cb] w fun e w' => e = .returned (.bool true) ∧ Below w.heap.size w w' := by
  have h := numbers_any l l ao bo ca cb w ha hb hl
  rwa [decide_eq_true (rfl : l = l)] at h
theorem wrap_small {x : Int} (h0 : 0 ≤ x) (h1 : x ≤ 9223372036854775807) : IntKind.i64.wrap x = x := by rw [IntKind.wrap_i64]; omega

def sumL : List (List Int) → Nat → Nat
  | [], n => n
  | c :: r, n => if n < 2000 then sumL r (n + 1 + c.length) else n
def sumM : List (List Int) → Nat → Nat
  | [], n => n
  | c :: r, n => sumM r (n + c.length)
def largeE (cl more : List (List Int)) : Bool := decide (2000 ≤ sumM more (sumL cl 0))
theorem sumL_le : ∀ (cl : List (List Int)) (n : Nat), n ≤ sumL cl n
  | [], n => Nat.le_refl n
  | c :: r, n => by
    unfold sumL
    split
    · have := sumL_le r (n + 1 + c.length)
      omega
    · exact Nat.le_refl n
theorem sumM_le : ∀ (cl : List (List Int)) (n : Nat), n ≤ sumM cl n
  | [], n => Nat.le_refl n
  | c :: r, n => by
    have := sumM_le r (n + c.length)
    unfold sumM
    omega
theorem sumL_small : ∀ (cl : List (List Int)) (n : Nat), sumL cl n < 2000 → n + cl.length < 2000 ∧ ∀ c ∈ cl, c.length < 2000
  | [], n, h => ⟨by simpa [sumL] using h, fun c hc => by simp at hc⟩
  | c :: r, n, h => by
    unfold sumL at h
    by_cases hn : n < 2000
    · rw [if_pos hn] at h
      obtain ⟨h1, h2⟩ := sumL_small r _ h
      refine ⟨by simp only [List.length_cons]; omega, fun d hd => ?_⟩
      rcases List.mem_cons.1 hd with rfl | hd
      · omega
      · exact h2 d hd
    · rw [if_neg hn] at h
      exact absurd h hn
theorem sumM_small : ∀ (cl : List (List Int)) (n : Nat), sumM cl n < 2000 → ∀ c ∈ cl, c.length < 2000
  | [], n, _, c, hc => by simp at hc
  | c :: r, n, h, d, hd => by
    unfold sumM at h
    rcases List.mem_cons.1 hd with rfl | hd
    · have := sumM_le r (n + d.length)
      omega
    · exact sumM_small r _ h d hd
theorem large_bounds {cl more : List (List Int)} (h : largeE cl more = false) : cl.length ≤ 2000 ∧ (∀ c ∈ cl, c.length ≤ 2000) ∧ ∀ c ∈ more, c.length ≤ 2000 := by
  unfold largeE at h
  have h1 : sumM more (sumL cl 0) < 2000 := by simpa using h
  have h2 := sumM_le more (sumL cl 0)
  obtain ⟨h3, h4⟩ := sumL_small cl 0 (by omega)
  exact ⟨by omega, fun c hc => Nat.le_of_lt (h4 c hc), fun c hc => Nat.le_of_lt (sumM_small more _ h1 c hc)⟩
theorem sumL_stop {cl : List (List Int)} {n : Nat} (h : ¬ n < 2000) : sumL cl n = n := by
  cases cl with
  | nil => rfl
  | cons c r => unfold sumL; rw [if_neg h]

set_option maxHeartbeats 2000000 in
theorem large_any (cl more : List (List Int)) (ao am : Option Addr) (cap capm : Nat) (av avm : Nat → Option Addr) (cv cvm : Nat → Nat) (w : World) (hR : IsRows w ao cl av cv) (hM : IsRows w am more avm cvm)
    (hcl : cl.length ≤ 9223372036854775807) (hrl : ∀ c ∈ cl, c.length ≤ 140737488351232) (hml : more.length ≤ 4) (hmr : ∀ c ∈ more, c.length ≤ 140737488351232) :
    Calls Try.prog 11 #[.slice ao cl.length cap, .slice am more.length capm] w fun e w' => e = .returned (.bool (largeE cl more)) ∧ w = w' := by
  obtain ⟨T, hT⟩ : ∃ T, T = largeE cl more := ⟨_, rfl⟩
  rw [← hT]
  have HR := Lib.hid hR
  have HM := Lib.hid hM
  have HL := Lib.hid hrl
  have HML := Lib.hid hmr
  have HT := Lib.hid hT
  clear hR hM hrl hmr hT
  go_enter Try.func11, Try.ntmps11
  go_wp2_with fail
  go_loop [5, 6] (fun s i => ∃ k n : Nat, k ≤ cl.length ∧ i = .int .i64 k ∧ s = .int .i64 n ∧ n ≤ 140737488353232 ∧ Hid (sumL cl 0 = sumL (cl.drop k) n)) (fun _ i => cl.length - (intOf i).toNat)
  case atStart => exact ⟨0, 0, by omega, rfl, rfl, by omega, Lib.hid rfl⟩
  case round =>
    obtain ⟨k, n, hk, rfl, rfl, hn, HA⟩ := hrel
    have hcase : (k < cl.length ∧ n < 2000) ∨ (¬ (k < cl.length) ∨ ¬ (n < 2000)) := by omega
    rcases hcase with ⟨hlt, hn2⟩ | hend
    · have hki : (k : Int) < (cl.length : Int) := by omega
      have hni : (n : Int) < 2000 := by omega
      obtain ⟨b, off, rfl, _, hcells⟩ := HR.out.rows (by omega)
      have hck := hcells k hlt
      obtain ⟨m, hm⟩ : ∃ m : Nat, m = cl[k].length := ⟨_, rfl⟩
      have hml2 : m ≤ 140737488351232 := by rw [hm]; exact HL.out _ (List.getElem_mem hlt)
      have HA2 := Lib.hid (show sumL cl 0 = sumL (cl.drop (k + 1)) (n + 1 + m) by
        rw [HA.out, List.drop_eq_getElem_cons hlt, hm]
        show (if n < 2000 then _ else _) = _
        rw [if_pos hn2])
      rw [← hm] at hck
      have hw1 : IntKind.i64.wrap ((n : Int) + 1) = ((n + 1 : Nat) : Int) := by rw [wrap_small (by omega) (by omega)]; omega
      have hw2 : IntKind.i64.wrap (((n + 1 : Nat) : Int) + (m : Int)) = ((n + 1 + m : Nat) : Int) := by rw [wrap_small (by omega) (by omega)]; omega
      clear hm hcells HA
      go_wp2_with fail
      go_round
      case rel => exact ⟨k + 1, n + 1 + m, by omega, by go_num, rfl, by omega, HA2⟩
      case measure => simp [intOf]; omega
    · have HFin := Lib.hid (show sumL cl 0 = n by
        rw [HA.out]
        by_cases h : n < 2000
        · rw [List.drop_eq_nil_of_le (by omega)]
          rfl
        · exact sumL_stop h)
      have hgo : (((k : Int) < (cl.length : Int)) ∧ ¬ (n : Int) < 2000) ∨ ¬ ((k : Int) < (cl.length : Int)) := by omega
      clear hend HA
      rcases hgo with ⟨hx1, hx2⟩ | hx1
      all_goals
        go_wp2_with fail
        go_loop [5, 7] (fun s i => ∃ j n2 : Nat, j ≤ more.length ∧ i = .int .i64 j ∧ s = .int .i64 n2 ∧ n2 ≤ n + j * 140737488351232 ∧ Hid (sumM more n = sumM (more.drop j) n2)) (fun _ i => more.length - (intOf i).toNat)
        case atStart => exact ⟨0, n, by omega, rfl, rfl, by omega, Lib.hid rfl⟩
        case round =>
          obtain ⟨j, n2, hj, rfl, rfl, hn4, HB⟩ := hrel
          by_cases hjt : j < more.length
          · have hji : (j : Int) < (more.length : Int) := by omega
            obtain ⟨b, off, rfl, _, hcells⟩ := HM.out.rows (by omega)
            have hck := hcells j hjt
            obtain ⟨m, hm⟩ : ∃ m : Nat, m = more[j].length := ⟨_, rfl⟩
            have hml2 : m ≤ 140737488351232 := by rw [hm]; exact HML.out _ (List.getElem_mem hjt)
            have HB2 := Lib.hid (show sumM more n = sumM (more.drop (j + 1)) (n2 + m) by
              rw [HB.out, List.drop_eq_getElem_cons hjt, hm]
              rfl)
            rw [← hm] at hck
            have hw1 : IntKind.i64.wrap ((n2 : Int) + (m : Int)) = ((n2 + m : Nat) : Int) := by rw [wrap_small (by omega) (by omega)]; omega
            clear hm hcells HB
            go_wp2_with fail
            go_round
            case rel => exact ⟨j + 1, n2 + m, by omega, by go_num, rfl, by omega, HB2⟩
            case measure => simp [intOf]; omega
          · obtain rfl : j = more.length := by omega
            have hd : decide ((2000 : Int) ≤ (n2 : Int)) = T := by
              rw [HT.out]
              unfold largeE
              rw [HFin.out, HB.out, List.drop_length]
              exact decide_eq_decide.2 (by show (2000 : Int) ≤ (n2 : Int) ↔ 2000 ≤ n2; omega)
            clear HB HFin HT
            go_wp2_with fail
            go_ret
            exact ⟨rfl, rfl⟩

theorem ofE_len {inputs : Int} {cl : List (List Int)} {last : List Int} {M : Nat} (h : inputs ≤ M ∨ 4194304 < inputs) : (ofE inputs cl last).1.length ≤ M := by
  unfold ofE
  split
  · simp
  · split
    · have := outE_len (marksE inputs.toNat cl last) inputs.toNat
      unfold coreE
      dsimp only
      omega
    · simp

set_option maxHeartbeats 4000000 in
theorem tells_walk (inputs : Int) (cl : List (List Int)) (last group : List Int) (ao al ag : Option Addr) (cap capl capg : Nat) (av : Nat → Option Addr) (cv : Nat → Nat) (w : World) (hR : IsRows w ao cl av cv) (hL : Ints w al last) (hG : Ints w ag group)
    (hcl : cl.length ≤ 9223372036854775807) (hrl : ∀ c ∈ cl, c.length ≤ 140737488351232) (hll : last.length ≤ 140737488351232) (hgl : group.length ≤ 140737488351232) (hI : ∀ x ∈ group, I64 x) :
    Calls Try.prog 4 #[.int .i64 inputs, .slice ao cl.length cap, .slice al last.length capl, .slice ag group.length capg] w fun e w' => e = .returned (.bool true) ∧ Below w.heap.size w w' := by
  have HR := Lib.hid hR
  have HL := Lib.hid hL
  have HG := Lib.hid hG
  have HI := Lib.hid hI
  obtain ⟨w1, hw1⟩ : ∃ w1, w1 = w.alloc (.cells #[.slice al last.length capl, .slice ag group.length capg] 24) := ⟨_, rfl⟩
  obtain ⟨hb1, avm, cvm, hrm⟩ := two_given hw1 hL hG
  have HLg := Lib.hid (large_any cl [last, group] ao (some ⟨w.heap.size, 0, none⟩) cap 2 av avm cv cvm w1 (hR.below hb1) hrm hcl hrl (by simp) (fun c hc => by
    rcases List.mem_cons.1 hc with rfl | hc
    · exact hll
    · rw [List.mem_singleton.1 hc]; exact hgl))
  rw [hw1] at HLg
  rw [show [last, group].length = 2 from rfl] at HLg
  have HB1 := Lib.hid hb1
  have HW1 := Lib.hid hw1
  clear hR hL hG hrl hll hgl hI hrm hb1
  obtain ⟨T, hT⟩ : ∃ T, T = largeE cl [last, group] := ⟨_, rfl⟩
  rw [← hT] at HLg
  have HT := Lib.hid hT
  clear hT hw1
  by_cases hbig : T = true ∨ (5000 < inputs ∧ inputs ≤ 4194304)
  · rcases hbig with rfl | ⟨h1, h2⟩
    · go_enter Try.func4, Try.ntmps4
      go_wp2_with (go_at_call 11; (with_reducible refine HLg.out.mono ?_); rintro e w2 ⟨rfl, rfl⟩)
      go_ret
      exact ⟨rfl, by rw [← HW1.out]; exact HB1.out⟩
    · cases T
      all_goals
        go_enter Try.func4, Try.ntmps4
        go_wp2_with (go_at_call 11; (with_reducible refine HLg.out.mono ?_); rintro e w2 ⟨rfl, rfl⟩)
        go_ret
        exact ⟨rfl, by rw [← HW1.out]; exact HB1.out⟩
  · obtain rfl : T = false := by
      cases T
      · rfl
      · exact absurd (Or.inl rfl) hbig
    have hin : inputs ≤ 5000 ∨ 4194304 < inputs := by
      by_cases h : inputs ≤ 5000
      · exact .inl h
      · exact .inr (Int.not_le.1 fun h2 => hbig (.inr ⟨by omega, h2⟩))
    obtain ⟨b1, b2, b3⟩ := large_bounds HT.out.symm
    have b4 : last.length ≤ 2000 := b3 _ (by simp)
    have b5 : group.length ≤ 2000 := b3 _ (by simp)
    have hb1 := HB1.out
    have HC1 := Lib.hid (cOf_any inputs cl last ao al cap capl av cv w1 (HR.out.below hb1) (HL.out.below hb1) (by omega) (fun c hc => Nat.le_trans (b2 c hc) (by omega)) (by omega))
    have HC2 : Hid (∀ w', Below w.heap.size w w' → Calls Try.prog 12 #[.int .i64 inputs, .slice ao cl.length cap, .slice al last.length capl] w' (RefOut (ofE inputs cl last) w')) := Lib.hid fun w' hb => rOf_any inputs cl last ao al cap capl av cv w' (by omega) (HR.out.below hb) (HL.out.below hb) (by omega) (fun c hc => Nat.le_trans (b2 c hc) (by omega)) (by omega)
    have HC3 : Hid (∀ w', Below w.heap.size w w' → Calls Try.prog 10 #[.slice al last.length capl, .slice ag group.length capg] w' (GrpOut (groupsE group last) w')) := Lib.hid fun w' hb => cGroups_any last group al ag capl capg w' (HL.out.below hb) (HG.out.below hb) (by omega) (by omega) HI.out
    have HC4 : Hid (∀ w', Below w.heap.size w w' → Calls Try.prog 13 #[.slice al last.length capl, .slice ag group.length capg] w' (GrpOut (groupsE group last) w')) := Lib.hid fun w' hb => rGroups_any last group al ag capl capg w' (HL.out.below hb) (HG.out.below hb) (by omega) (by omega)
    have HLo := Lib.hid (ofE_len (inputs := inputs) (cl := cl) (last := last) (M := 5000) hin)
    have HLq := Lib.hid (Nat.le_trans (groupsE_len group last) b4)
    obtain ⟨o, ho⟩ : ∃ o, o = ofE inputs cl last := ⟨_, rfl⟩
    rw [← ho] at HC1 HC2 HLo
    obtain ⟨q, hq⟩ : ∃ q, q = groupsE group last := ⟨_, rfl⟩
    rw [← hq] at HC3 HC4 HLq
    have hlow : decide (5000 < inputs) = true → decide (inputs ≤ 4194304) = false := fun h => by simp at h; simp; omega
    have hcase : decide (5000 < inputs) = false ∨ (decide (5000 < inputs) = true ∧ decide (inputs ≤ 4194304) = false) := by
      cases hd : decide (5000 < inputs)
      · exact .inl rfl
      · exact .inr ⟨rfl, hlow hd⟩
    rw [HW1.out] at HC1
    have HB1' := Lib.hid (show Below w.heap.size w (w.alloc (.cells #[.slice al last.length capl, .slice ag group.length capg] 24)) by rw [← HW1.out]; exact HB1.out)
    clear hbig hlow ho hq b1 b2 b3 b4 b5 hb1 hin HT HB1 HW1
    rcases hcase with hd | ⟨hd, hd2⟩
    all_goals
      go_enter Try.func4, Try.ntmps4
      go_upto_region 5 with (first
        | (go_at_call 11; (with_reducible refine HLg.out.mono ?_); rintro e w2 ⟨rfl, rfl⟩)
        | (go_at_call 8; (with_reducible refine HC1.out.mono ?_); rintro e w3 ⟨a3, c3, rfl, hi3, _, hb3⟩; have hb13 := bel_trans HB1'.out hb3)
        | (go_at_call 12; (with_reducible refine (HC2.out _ hb13).mono ?_); rintro e w4 ⟨a4, c4, rfl, hi4, hb4⟩)
        | fail)
      have hb14 := bel_trans hb13 hb4
      have HN1 := Lib.hid (numbers_same o.1 a3 a4 c3 c4 w4 ((IntsC.ints hi3).below hb4) hi4.ints (by have := HLo.out; omega))
      have HB14 := Lib.hid hb14
      clear hi3 hi4 hb13 hb14 hb3 hb4
      go_wp2_with (first
        | (go_at_call 9; (with_reducible refine HN1.out.mono ?_); rintro e w5 ⟨rfl, hb5⟩; have hb15 := bel_trans HB14.out hb5)
        | (go_at_call 10; (with_reducible refine (HC3.out _ hb15).mono ?_); rintro e w6 ⟨a6, c6, rfl, hi6, hb6⟩; have hb16 := bel_trans hb15 hb6)
        | (go_at_call 13; (with_reducible refine (HC4.out _ hb16).mono ?_); rintro e w7 ⟨a7, c7, rfl, hi7, hb7⟩; have hb17 := bel_trans hb16 hb7; have HN2 := Lib.hid (numbers_same q a6 a7 c6 c7 w7 (hi6.below hb7) hi7 (by have := HLq.out; omega)))
        | (go_at_call 9; (with_reducible refine HN2.out.mono ?_); rintro e w8 ⟨rfl, hb8⟩; have hb18 := bel_trans hb17 hb8)
        | fail)
      go_ret
      exact ⟨rfl, hb18⟩

end Go.Proofs.Ythaonmmjoednnaa
