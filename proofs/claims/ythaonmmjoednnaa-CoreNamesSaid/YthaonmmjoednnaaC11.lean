/- The walk of CoreParts. Conditions: as each theorem names them. -/
import Derived.Test.YthaonmmjoednnaaC10
namespace Go.Proofs.Ythaonmmjoednnaa
open Go.ChangeShapes Go.WideShapes Go.ChangeAt Go.RowKit Go.Maps Go.Deep
set_option maxRecDepth 100000

/-! ### Plain -/
abbrev FitC (N : Nat) (cl : List (List Int)) : Prop := ∀ j (h : j < cl.length), ∀ x ∈ cl[j], 0 ≤ x ∧ x < N + j
theorem ofE_cases {N : Nat} (hN : N ≤ 4194304) (cl : List (List Int)) (last : List Int) : ofE N cl last = ([], 4) ∨ (ofE N cl last = (coreE N cl last, 0) ∧ FitC N cl ∧ ∀ x ∈ last, 0 ≤ x ∧ x < N + cl.length) := by
  unfold ofE
  rw [if_neg (by omega)]
  by_cases h : (fitsF N cl && fitsE last ((N : Int) + cl.length)) = true
  · rw [if_pos h]
    rw [Bool.and_eq_true] at h
    exact .inr ⟨rfl, fun j hj => fitsE_mem (fitsF_at h.1 j hj), fitsE_mem h.2⟩
  · rw [if_neg h]
    exact .inl rfl
theorem fitsF_of : ∀ {cl : List (List Int)} {N : Int}, (∀ j (h : j < cl.length), ∀ x ∈ cl[j], 0 ≤ x ∧ x < N + j) → fitsF N cl = true
  | [], _, _ => rfl
  | c :: r, N, h => by
    unfold fitsF
    rw [Bool.and_eq_true]
    refine ⟨fitsE_yes fun j hj => ?_, fitsF_of fun j hj x hx => ?_⟩
    · have := h 0 (by simp) c[j] (List.getElem_mem hj)
      omega
    · have := h (j + 1) (by simpa using hj) x (by simpa using hx)
      omega
theorem ofE_ok {N : Nat} (hN : N ≤ 4194304) {cl : List (List Int)} {last : List Int} (h1 : FitC N cl) (h2 : ∀ x ∈ last, 0 ≤ x ∧ x < N + cl.length) : ofE N cl last = (coreE N cl last, 0) := by
  unfold ofE
  rw [if_neg (by omega), fitsF_of h1, fitsE_yes fun j hj => h2 _ (List.getElem_mem hj)]
  rfl
theorem core_one {N : Nat} {cl : List (List Int)} {y : Int} (h1 : FitC N cl) (h0 : 0 ≤ y) (hy : y < N) : coreE N cl [y] = [y] :=
  rise_ext (outE_rise _ _) (by simp) fun x => by
    rw [core_mem h1 (fun z hz => by rw [List.mem_singleton.1 hz]; omega)]
    simp only [List.mem_singleton, exists_eq_left]
    constructor
    · exact fun h => h.low hy
    · rintro rfl
      exact .base h0 hy
theorem core_more {N : Nat} {cl : List (List Int)} {last c : List Int} (h1 : FitC N cl) (h2 : ∀ x ∈ last, 0 ≤ x ∧ x < N + cl.length) (h3 : FitC N (cl ++ [c])) : coreE N (cl ++ [c]) last = coreE N cl last :=
  rise_ext (outE_rise _ _) (outE_rise _ _) fun x => by
    rw [core_mem h3 (fun z hz => by have := h2 z hz; rw [List.length_append]; simp; omega), core_mem h1 h2]
    constructor
    · rintro ⟨y, hy, hr⟩
      exact ⟨y, hy, hr.less (fun j hj x hx => (h1 j hj x hx).2) c (h2 y hy).2⟩
    · rintro ⟨y, hy, hr⟩
      exact ⟨y, hy, hr.more c⟩
theorem more_cases {N : Nat} (hN : N ≤ 4194304) {cl : List (List Int)} {last : List Int} (c : List Int) (h1 : FitC N cl) (h2 : ∀ x ∈ last, 0 ≤ x ∧ x < N + cl.length) : ofE N (cl ++ [c]) last = ([], 4) ∨ ofE N (cl ++ [c]) last = (coreE N cl last, 0) := by
  rcases ofE_cases hN (cl ++ [c]) last with h | ⟨h, h3, _⟩
  · exact .inl h
  · rw [core_more h1 h2 h3] at h
    exact .inr h
/-- n is in the core of the first bonds. -/
def someE (N : Nat) (cl : List (List Int)) (last : List Int) (n : Nat) (i : Nat) : Bool := decide ((n : Int) ∈ coreE N cl (last.take i))
theorem take_fit {N : Nat} {cl : List (List Int)} {last : List Int} (h2 : ∀ x ∈ last, 0 ≤ x ∧ x < N + cl.length) (i : Nat) : ∀ x ∈ last.take i, 0 ≤ x ∧ x < N + cl.length := fun x hx => h2 x (List.mem_of_mem_take hx)
theorem someE_zero {N : Nat} {cl : List (List Int)} {last : List Int} (h1 : FitC N cl) (n : Nat) : someE N cl last n 0 = false := by
  unfold someE
  rw [decide_eq_false_iff_not, core_mem h1 (fun x hx => by simp at hx)]
  simp
theorem someE_succ {N : Nat} {cl : List (List Int)} {last : List Int} (h1 : FitC N cl) (h2 : ∀ x ∈ last, 0 ≤ x ∧ x < N + cl.length) {n i : Nat} (hi : i < last.length) (hs : someE N cl last n i = false) : someE N cl last n (i + 1) = decide ((n : Int) ∈ coreE N cl [last[i]]) := by
  unfold someE at hs ⊢
  rw [decide_eq_false_iff_not, core_mem h1 (take_fit h2 i)] at hs
  refine decide_eq_decide.2 ?_
  rw [core_mem h1 (take_fit h2 (i + 1)), core_mem h1 (fun z hz => by rw [List.mem_singleton.1 hz]; exact h2 _ (List.getElem_mem hi)), List.take_succ_eq_append_getElem hi]
  constructor
  · rintro ⟨y, hy, hr⟩
    rcases List.mem_append.1 hy with h | h
    · exact absurd ⟨y, h, hr⟩ hs
    · exact ⟨y, h, hr⟩
  · rintro ⟨y, hy, hr⟩
    exact ⟨y, List.mem_append.2 (.inr hy), hr⟩
theorem someE_end {N : Nat} {cl : List (List Int)} {last : List Int} (h1 : FitC N cl) (h2 : ∀ x ∈ last, 0 ≤ x ∧ x < N + cl.length) {n i : Nat} (h : someE N cl last n i = true ∨ i = last.length) : someE N cl last n i = decide ((n : Int) ∈ coreE N cl last) := by
  rcases h with h | h
  · rw [h]
    unfold someE at h
    rw [decide_eq_true_iff, core_mem h1 (take_fit h2 i)] at h
    obtain ⟨y, hy, hr⟩ := h
    exact (decide_eq_true ((core_mem h1 h2 _).2 ⟨y, List.mem_of_mem_take hy, hr⟩)).symm
  · unfold someE
    rw [h, List.take_length]

/-! ### Memory -/
theorem isRows_vals {w : World} {ao : Option Addr} {cl : List (List Int)} {av : Nat → Option Addr} {cv : Nat → Nat} (h : IsRows w ao cl av cv) : RowsV w (rowVals cl av cv) cl := ⟨vals_len _ _ _, fun j hj => ⟨av j, cv j, by simp [rowVals, hj], h.ints j hj⟩⟩
theorem app_below {w w1 w2 : World} {o1 o2 : Obj} {v1 : Value} (hg1 : (w.alloc o1).grownBy w1 (some w.heap.size)) (hv1 : v1.ownBlock = some w.heap.size ∨ v1.ownBlock = some (w.alloc o1).heap.size) (hg2 : (w1.alloc o2).grownBy w2 v1.ownBlock) : Below w.heap.size w w1 ∧ Below w.heap.size w w2 := by
  have b0 : Below w.heap.size w (w.alloc o1) := (Below.refl _ w).alloc (Nat.le_refl _) _
  have b1 : Below w.heap.size w w1 := b0.grown hg1 b0.size fun k e => by injection e with e; omega
  have b2' := b1.alloc b1.size o2
  exact ⟨b1, b2'.grown hg2 b2'.size fun k e => by
    rcases hv1 with h | h
    · rw [h] at e; injection e with e; omega
    · rw [h] at e; injection e with e; rw [← e]; exact b0.size⟩
theorem one_of {w : World} {b off i : Nat} {l : List Int} (hbl : b < w.heap.size) (hc : ∀ j (h : j < l.length), w.cell? ⟨b, off + j, none⟩ = some (.int .i64 l[j])) (hi : i < l.length) : Ints w (some ⟨b, off + i, none⟩) [l[i]] := fun _ => ⟨b, off + i, rfl, hbl, fun j hj => by
  obtain rfl : j = 0 := by simpa using hj
  exact hc i hi⟩

theorem tail_of {N : Nat} {cl : List (List Int)} {last more : List Int} {w7 : World} {ao al am a7 : Option Addr} {capl capm c7 : Nat} {av : Nat → Option Addr} {cv : Nat → Nat} {o : List Int × Int} (_ : N ≤ 5000) (q1 : cl.length ≤ 2000) (q2 : ∀ c ∈ cl, c.length ≤ 2000) (q4 : last.length ≤ 2000) (q5 : more.length ≤ 2000)
    (hR : IsRows w7 ao cl av cv) (hM : Ints w7 am more) (hL : Ints w7 al last) (h7 : Own w7 24 1 (.slice a7 (cl.length + 1) c7) (cl.length + 1) (rowVals cl av cv ++ [.slice am more.length capm])) (ho : o = ofE N (cl ++ [more]) last) :
    Calls Try.prog 8 #[.int .i64 N, .slice a7 (cl.length + 1) c7, .slice al last.length capl] w7 fun e w'' => ∃ a c, e = .returned (.tuple #[.slice a o.1.length c, .int .i64 o.2]) ∧ Ints w'' a o.1 ∧ Below w7.heap.size w7 w'' := by
  obtain ⟨av7, cv7, hr7⟩ := rows_at h7 (by rw [List.length_append, vals_len]; rfl) ((isRows_vals hR).snoc hM (cap := capm))
  have hl : (cl ++ [more]).length = cl.length + 1 := by simp
  have h := cOf_any N (cl ++ [more]) last a7 al c7 capl av7 cv7 w7 hr7 hL (by rw [hl]; omega) (fun c hc => by
    rcases List.mem_append.1 hc with h | h
    · exact Nat.le_trans (q2 c h) (by omega)
    · rw [List.mem_singleton.1 h]; omega) (by omega)
  rw [hl] at h
  subst ho
  exact h.mono fun e w'' ⟨a, c, h1, h2, _, h4⟩ => ⟨a, c, h1, IntsC.ints h2, h4⟩
theorem one_core {N : Nat} {cl : List (List Int)} {y : Int} {b off k : Nat} {ao : Option Addr} {cap : Nat} {av : Nat → Option Addr} {cv : Nat → Nat} {w : World} (hN : N ≤ 5000) (q1 : cl.length ≤ 2000) (q2 : ∀ c ∈ cl, c.length ≤ 2000) (hf : FitC N cl) (hy : 0 ≤ y ∧ y < N + cl.length) (hR : IsRows w ao cl av cv) (hI : Ints w (some ⟨b, off + k, none⟩) [y]) (c1 : Nat) :
    Calls Try.prog 8 #[.int .i64 N, .slice ao cl.length cap, .slice (some ⟨b, off + k, none⟩) 1 c1] w fun e w'' => ∃ a c, e = .returned (.tuple #[.slice a (coreE N cl [y]).length c, .int .i64 0]) ∧ Ints w'' a (coreE N cl [y]) ∧ Below w.heap.size w w'' := by
  have h := cOf_any N cl [y] ao (some ⟨b, off + k, none⟩) cap c1 av cv w hR hI (by omega) (fun c hc => Nat.le_trans (q2 c hc) (by omega)) (by simp)
  rw [ofE_ok (by omega) hf (fun x hx => by rw [List.mem_singleton.1 hx]; exact hy)] at h
  exact h.mono fun e w'' ⟨a, c, h1, h2, _, h4⟩ => ⟨a, c, h1, IntsC.ints h2, h4⟩

set_option maxHeartbeats 4000000 in
theorem parts_walk (inputs : Int) (cl : List (List Int)) (last more : List Int) (ao al am : Option Addr) (cap capl capm : Nat) (av : Nat → Option Addr) (cv : Nat → Nat) (w : World) (hR : IsRows w ao cl av cv) (hL : Ints w al last) (hM : Ints w am more)
    (hcl : cl.length ≤ 9223372036854775807) (hrl : ∀ c ∈ cl, c.length ≤ 140737488351232) (hll : last.length ≤ 140737488351232) (hml : more.length ≤ 140737488351232) (hlc : last.length ≤ capl) (hcm : capl ≤ 9223372036854775807) :
    Calls Try.prog 5 #[.int .i64 inputs, .slice ao cl.length cap, .slice al last.length capl, .slice am more.length capm] w fun e w' => e = .returned (.bool true) ∧ Below w.heap.size w w' := by
  have HW : Hid (∀ w', Calls Try.prog 6 #[] w' fun e w'' => e = .returned (.bool true) ∧ Below w'.heap.size w' w'') := Lib.hid works_any
  obtain ⟨T, hT⟩ : ∃ T, T = largeE cl [last, more] := ⟨_, rfl⟩
  have HLg : Hid (∀ w', Below w.heap.size w w' → Calls Try.prog 11 #[.slice ao cl.length cap, .slice (some ⟨w'.heap.size, 0, none⟩) 2 2] (w'.alloc (.cells #[.slice al last.length capl, .slice am more.length capm] 24)) fun e w'' => e = .returned (.bool T) ∧ Below w'.heap.size w' w'') := Lib.hid fun w' hb => by
    obtain ⟨w1, hw1⟩ : ∃ w1, w1 = w'.alloc (.cells #[.slice al last.length capl, .slice am more.length capm] 24) := ⟨_, rfl⟩
    obtain ⟨hb1, avm, cvm, hrm⟩ := two_given hw1 (hL.below hb) (hM.below hb)
    have h := large_any cl [last, more] ao (some ⟨w'.heap.size, 0, none⟩) cap 2 av avm cv cvm w1 (hR.below (bel_trans hb hb1)) hrm hcl hrl (by simp) (fun c hc => by
      rcases List.mem_cons.1 hc with rfl | hc
      · exact hll
      · rw [List.mem_singleton.1 hc]; exact hml)
    rw [← hT] at h
    rw [← hw1]
    exact h.mono fun e w'' ⟨h1, h2⟩ => ⟨h1, h2 ▸ hb1⟩
  have HR := Lib.hid hR
  have HL := Lib.hid hL
  have HM := Lib.hid hM
  have HT := Lib.hid hT
  clear hR hL hM hrl hll hml hT
  by_cases hbig : T = true ∨ 5000 < inputs
  · have hcase : T = true ∨ (T = false ∧ decide (5000 < inputs) = true) := by
      cases T
      · exact .inr ⟨rfl, by rcases hbig with h | h; · cases h
                            · simpa using h⟩
      · exact .inl rfl
    clear hbig
    rcases hcase with rfl | ⟨rfl, hd⟩
    all_goals
      go_enter Try.func5, Try.ntmps5
      go_wp2_with (first
        | (go_at_call 11; (with_reducible refine (HLg.out _ hb1).mono ?_); rintro e w2 ⟨rfl, hb2⟩; have hb12 := bel_trans hb1 hb2; clear hb1)
        | (go_at_call 6; (with_reducible refine (HW.out _).mono ?_); rintro e w3 ⟨rfl, hb3⟩; first | (have hb13 := bel_trans hb12 hb3) | have hb1 := hb3)
        | fail)
      go_ret
      exact ⟨rfl, hb13⟩
  · have hin : inputs ≤ 5000 := Int.not_lt.1 fun h => hbig (.inr h)
    obtain rfl : T = false := by
      cases T
      · rfl
      · exact absurd (Or.inl rfl) hbig
    have hd : decide (5000 < inputs) = false := by simpa using hin
    obtain ⟨q1, q2, q3⟩ := large_bounds HT.out.symm
    have q4 : last.length ≤ 2000 := q3 _ (by simp)
    have q5 : more.length ≤ 2000 := q3 _ (by simp)
    have HC : Hid (∀ w', Below w.heap.size w w' → Calls Try.prog 8 #[.int .i64 inputs, .slice ao cl.length cap, .slice al last.length capl] w' fun e w'' => ∃ a c, e = .returned (.tuple #[.slice a (ofE inputs cl last).1.length c, .int .i64 (ofE inputs cl last).2]) ∧ Ints w'' a (ofE inputs cl last).1 ∧ Below w'.heap.size w' w'') := Lib.hid fun w' hb =>
      (cOf_any inputs cl last ao al cap capl av cv w' (HR.out.below hb) (HL.out.below hb) (by omega) (fun c hc => Nat.le_trans (q2 c hc) (by omega)) (by omega)).mono fun e w'' ⟨a, c, h1, h2, _, h4⟩ => ⟨a, c, h1, IntsC.ints h2, h4⟩
    clear hbig HT
    have hneg : inputs < 0 ∨ ∃ N : Nat, inputs = (N : Int) := by
      by_cases h : inputs < 0
      · exact .inl h
      · exact .inr ⟨inputs.toNat, by omega⟩
    have hbad : (∃ c : Int, (c == 0) = false ∧ ofE inputs cl last = ([], c)) ∨ ∃ N : Nat, N ≤ 5000 ∧ inputs = (N : Int) ∧ ofE inputs cl last = (coreE N cl last, 0) ∧ FitC N cl ∧ ∀ x ∈ last, 0 ≤ x ∧ x < N + cl.length := by
      rcases hneg with h | ⟨N, rfl⟩
      · exact .inl ⟨1, rfl, by unfold ofE; rw [if_pos (.inl h)]⟩
      · rcases ofE_cases (N := N) (by omega) cl last with h | h
        · exact .inl ⟨4, rfl, h⟩
        · exact .inr ⟨N, by omega, rfl, h⟩
    clear hneg
    rcases hbad with ⟨c, hc0, ho⟩ | ⟨N, hN, rfl, ho, hf1, hf2⟩
    · rw [ho] at HC
      have hc1 : (c != 0) = true := by simpa using hc0
      clear ho
      go_enter Try.func5, Try.ntmps5
      go_wp2_with (first
        | (go_at_call 11; (with_reducible refine (HLg.out _ hb1).mono ?_); rintro e w2 ⟨rfl, hb2⟩; have hb12 := bel_trans hb1 hb2; clear hb1)
        | (go_at_call 6; (with_reducible refine (HW.out _).mono ?_); rintro e w3 ⟨rfl, hb1⟩)
        | (go_at_call 8; (with_reducible refine (HC.out _ hb12).mono ?_); rintro e w3 ⟨a3, c3, rfl, _, hb3⟩)
        | fail)
      go_ret
      exact ⟨rfl, bel_trans hb12 hb3⟩
    · rw [ho] at HC
      have HF := Lib.hid (show FitC N cl ∧ ∀ x ∈ last, 0 ≤ x ∧ x < N + cl.length from ⟨hf1, hf2⟩)
      have hlen : (coreE N cl last).length ≤ 5000 := by have := outE_len (marksE N cl last) N; unfold coreE; omega
      clear ho hf1 hf2
      go_enter Try.func5, Try.ntmps5
      go_upto_region 6 with (first
        | (go_at_call 11; (with_reducible refine (HLg.out _ hb1).mono ?_); rintro e w2 ⟨rfl, hb2⟩; have hb12 := bel_trans hb1 hb2; clear hb1)
        | (go_at_call 6; (with_reducible refine (HW.out _).mono ?_); rintro e w3 ⟨rfl, hb1⟩)
        | (go_at_call 8; (with_reducible refine (HC.out _ hb12).mono ?_); rintro e w3 ⟨a3, c3, rfl, hi3, hb3⟩)
        | fail)
      obtain ⟨L, hL⟩ : ∃ L, L = coreE N cl last := ⟨_, rfl⟩
      rw [← hL] at hi3 hlen ⊢
      have HI3 := Lib.hid hi3
      have HB3 := Lib.hid (bel_trans hb12 hb3)
      have HLe := Lib.hid hL
      obtain ⟨iS, hiS, hs0, hs1, hs2⟩ := info_parts (P := Try.prog) (e := 24) (z := .slice none 0 0) (size := 1) (bytes := 24) (by kernel_rfl)
      clear hi3 hb12 hb3 hb2 hL
      go_wp2_with fail
      go_loopw [11] (fun i wr => ∃ n : Nat, n ≤ N ∧ i = .int .i64 n ∧ Hid (Below w3.heap.size w3 wr)) (fun i _ => N - (intOf i).toNat)
      case atStart => exact ⟨0, by omega, rfl, Lib.hid (Below.refl _ _)⟩
      case round =>
        obtain ⟨n, hn, rfl, HBr⟩ := hrel
        by_cases hlt : n < N
        · have hni : (n : Int) < (N : Int) := by omega
          obtain ⟨wo, hwo⟩ : ∃ wo : World, wo = wr := ⟨_, rfl⟩
          subst hwo
          go_wp2_with fail
          go_loopw [12, 13] (fun s i wr => ∃ (k : Nat) (b : Bool), k ≤ last.length ∧ s = .bool b ∧ i = .int .i64 k ∧ Hid (b = someE N cl last n k) ∧ Hid (Below w3.heap.size w3 wr)) (fun _ i _ => last.length - (intOf i).toNat)
          case atStart => exact ⟨0, false, by omega, rfl, rfl, Lib.hid (someE_zero HF.out.1 n).symm, HBr⟩
          case round =>
            obtain ⟨k, b, hk, rfl, rfl, HS, HB2⟩ := hrel
            have hgo : (k < last.length ∧ b = false) ∨ (k < last.length ∧ b = true) ∨ k = last.length := by
              by_cases h : k < last.length
              · cases b
                · exact .inl ⟨h, rfl⟩
                · exact .inr (.inl ⟨h, rfl⟩)
              · exact .inr (.inr (by omega))
            rcases hgo with ⟨hkt, rfl⟩ | hend
            · have hki : (k : Int) < (last.length : Int) := by omega
              have hkc : (k : Int) ≤ (capl : Int) := by omega
              have hkc2 : (k : Int) + 1 ≤ (capl : Int) := by omega
              obtain ⟨b2, off, e, hbl, hcells⟩ := (HL.out.below HB3.out).below HB2.out (by omega)
              subst e
              have hck := hcells k hkt
              have hyr := HF.out.2 last[k] (List.getElem_mem hkt)
              have HS2 := Lib.hid (someE_succ HF.out.1 HF.out.2 hkt HS.out.symm)
              have hone := one_of hbl hcells hkt
              obtain ⟨y, hy⟩ : ∃ y, y = last[k] := ⟨_, rfl⟩
              rw [← hy] at hck hyr HS2 hone
              have HCk := Lib.hid (one_core (b := b2) (off := off) (cl := cl) (ao := ao) (cap := cap) (w := wr) (by omega) q1 q2 HF.out.1 hyr ((HR.out.below HB3.out).below HB2.out) hone (capl - k))
              have HOn := Lib.hid hone
              clear hcells hy hone HS
              have hw : IntKind.i64.wrap ((k : Int) + 1) = (k : Int) + 1 := wrap_small (by omega) (by omega)
              by_cases hyN : y < N
              · have hdy : decide (y < (N : Int)) = true := by simpa using hyN
                have hco := core_one HF.out.1 hyr.1 hyN
                rw [hco] at HS2 HCk
                have HIn : Hid (∀ (w' : World) a c, Ints w' a [y] → Calls Try.prog 14 #[.slice a 1 c, .int .i64 n] w' fun e w'' => e = .returned (.bool (decide ((n : Int) ∈ [y]))) ∧ w' = w'') := Lib.hid fun w' a c h => in_any [y] n a c w' h (by simp)
                have HNu : Hid (∀ (w' : World) a c, Below wr.heap.size wr w' → Ints w' a [y] → Calls Try.prog 9 #[.slice a 1 c, .slice (some ⟨b2, off + k, none⟩) 1 (capl - k)] w' fun e w'' => e = .returned (.bool true) ∧ Below w'.heap.size w' w'') := Lib.hid fun w' a c hb h => numbers_same [y] a _ c (capl - k) w' h (HOn.out.below hb) (by simp)
                generalize decide ((n : Int) ∈ [y]) = t at *
                clear hco hyN hyr
                go_wp2_with (first
                  | (go_at_call 8; (with_reducible refine HCk.out.mono ?_); rintro e w4 ⟨a4, c4, rfl, hi4, hb4⟩; have hck4 := (bel_cell hb4 hck).trans hck)
                  | (go_at_call 14; (with_reducible refine (HIn.out _ _ _ hi4).mono ?_); rintro e w5 ⟨rfl, rfl⟩)
                  | (go_at_call 9; (with_reducible refine (HNu.out _ _ _ hb4 hi4).mono ?_); rintro e w6 ⟨rfl, hb6⟩)
                  | fail)
                go_roundw
                case rel => exact ⟨k + 1, t, by omega, rfl, by go_num, Lib.hid HS2.out.symm, Lib.hid (bel_trans HB2.out (bel_trans hb4 hb6))⟩
                case measure => simp [intOf]; omega
              · have hdy : decide (y < (N : Int)) = false := by simpa using hyN
                obtain ⟨L2, hL2⟩ : ∃ L2, L2 = coreE N cl [y] := ⟨_, rfl⟩
                have hl2 : L2.length ≤ 1000000 := by have := outE_len (marksE N cl [y]) N; rw [hL2]; unfold coreE; omega
                rw [← hL2] at HS2 HCk
                have HIn : Hid (∀ (w' : World) a c, Ints w' a L2 → Calls Try.prog 14 #[.slice a L2.length c, .int .i64 n] w' fun e w'' => e = .returned (.bool (decide ((n : Int) ∈ L2))) ∧ w' = w'') := Lib.hid fun w' a c h => in_any L2 n a c w' h hl2
                generalize decide ((n : Int) ∈ L2) = t at *
                clear hL2 hl2 hyN hyr
                go_wp2_with (first
                  | (go_at_call 8; (with_reducible refine HCk.out.mono ?_); rintro e w4 ⟨a4, c4, rfl, hi4, hb4⟩; have hck4 := (bel_cell hb4 hck).trans hck)
                  | (go_at_call 14; (with_reducible refine (HIn.out _ _ _ hi4).mono ?_); rintro e w5 ⟨rfl, rfl⟩)
                  | fail)
                go_roundw
                case rel => exact ⟨k + 1, t, by omega, rfl, by go_num, Lib.hid HS2.out.symm, Lib.hid (bel_trans HB2.out hb4)⟩
                case measure => simp [intOf]; omega
            · have hse : b = decide ((n : Int) ∈ L) := by
                rw [HS.out, HLe.out]
                refine someE_end HF.out.1 HF.out.2 ?_
                rcases hend with ⟨_, h⟩ | h
                · exact .inl (by rw [← HS.out]; exact h)
                · exact .inr h
              have HIn : Hid (Calls Try.prog 14 #[.slice a3 L.length c3, .int .i64 n] wr fun e w' => e = .returned (.bool b) ∧ wr = w') := Lib.hid (by
                rw [hse]
                exact in_any L n a3 c3 wr (HI3.out.below HB2.out) (by omega))
              have hbb : (b != b) = false := by simp
              have hdec : ((k : Int) < (last.length : Int) ∧ b = true) ∨ ¬ (k : Int) < (last.length : Int) := by
                rcases hend with ⟨h, h2⟩ | h
                · exact .inl ⟨by omega, h2⟩
                · exact .inr (by omega)
              clear hse HS hend
              rcases hdec with ⟨hki, rfl⟩ | hki
              all_goals
                go_upto_region 19 with (go_at_call 14; (with_reducible refine HIn.out.mono ?_); rintro e w4 ⟨rfl, rfl⟩)
                by_cases h20 : (20 : Int) < (n : Int)
                · have hbX := bel_trans HB3.out HB2.out
                  have HB4X := HB2
                  have hRr := HR.out.below hbX
                  have HSrc := Lib.hid (show ∀ w', Below wr.heap.size wr w' → Src Try.prog 1 25 (.slice ao cl.length cap) cl.length (rowVals cl av cv) w' from fun w' hb => rows_src0 (hRr.below hb) cap)
                  have hone := (isRows_vals hRr).one
                  have HBX := Lib.hid hbX
                  obtain ⟨o7, ho7⟩ : ∃ o7, o7 = ofE N (cl ++ [more]) last := ⟨_, rfl⟩
                  have HO7 := Lib.hid ho7
                  have h7 : o7 = ([], 4) ∨ o7 = (L, 0) := by rw [ho7, HLe.out]; exact more_cases (by omega) more HF.out.1 HF.out.2
                  clear hRr hbX ho7
                  rcases h7 with rfl | rfl
                  all_goals
                    have HT7 := Lib.hid (fun (w7 : World) (a7 : Option Addr) (c7 : Nat) (hb : Below w.heap.size w w7) (h : Own w7 24 1 (.slice a7 (cl.length + 1) c7) (cl.length + 1) (rowVals cl av cv ++ [.slice am more.length capm])) => tail_of (capl := capl) hN q1 q2 q4 q5 (HR.out.below hb) (HM.out.below hb) (HL.out.below hb) h HO7.out)
                    go_wp2_with (first
                      | (at_builtin; refine wpList_append_S _ rfl (.tmp 106) (.tmp 107) _ _ rfl 24 iS _ 1 24 Try.underlying25 hiS hs0 hs1 hs2 rfl (by omega) (.slice (some ⟨wr.heap.size, 0, none⟩) 0 0) 0 [] rfl (Own.made wr 24 1 #[] 0 rfl (by decide)) (by simp) (.slice ao cl.length cap) cl.length (rowVals cl av cv) rfl (HSrc.out _ ((Below.refl _ _).alloc (Nat.le_refl _) _)) (by simp only [maxLen]; omega) (by omega) ?_; intro a6 c6 w6 hn6 hm6 hown6 hg6 hat6 hlt6; simp only [Nat.zero_add, List.nil_append] at hown6 hat6 hlt6 ⊢
                         have HO6 := Lib.hid hown6; have HG6 := Lib.hid (show _ ∧ _ from ⟨hg6, hat6⟩); clear hown6 hg6 hat6 hlt6 hn6 hm6)
                      | (at_builtin; refine wpList_append_S _ rfl (.tmp 108) (.tmp 110) _ _ rfl 24 iS _ 1 24 Try.underlying25 hiS hs0 hs1 hs2 rfl (by omega) (.slice a6 cl.length c6) cl.length (rowVals cl av cv) rfl (HO6.out.alloc (.cells #[.slice am more.length capm] 24)) hone (.slice (some ⟨w6.heap.size, 0, none⟩) 1 1) 1 [.slice am more.length capm] rfl (src_new w6 Try.underlying25 24 (.slice am more.length capm) rfl) (by simp only [maxLen]; omega) (by omega) ?_; intro a7 c7 w7 hn7 hm7 hown7 hg7 hat7 hlt7
                         have hb7 := Lib.hid (app_below HG6.out.1 HG6.out.2 hg7); have HO7b := Lib.hid hown7
                         clear hown7 hg7 hat7 hlt7 hn7 hm7)
                      | (go_at_call 8; refine (HT7.out _ _ _ (bel_trans HBX.out hb7.out.2) HO7b.out).mono ?_; rintro e w8 ⟨a8, c8, rfl, hi8, hb8⟩; have hb78 := bel_trans hb7.out.2 hb8)
                      | (go_at_call 9; (with_reducible refine (numbers_same L a3 a8 c3 c8 w8 (HI3.out.below (bel_trans HB4X.out hb78)) hi8 (by omega)).mono ?_); rintro e w9 ⟨rfl, hb9⟩; have hb79 := bel_trans hb78 hb9)
                      | fail)
                    go_ret
                    first
                      | exact ⟨rfl, bel_trans HBX.out hb79⟩
                      | exact ⟨rfl, bel_trans HBX.out hb78⟩
                · go_wp2_with fail
                  go_roundw
                  case rel => exact ⟨n + 1, by omega, by go_num, HB2⟩
                  case measure => simp [intOf]; omega
        · have hni : ¬ (n : Int) < (N : Int) := by omega
          have hbX := bel_trans HB3.out HBr.out
          have HB4X := HBr
          have hRr := HR.out.below hbX
          have HSrc := Lib.hid (show ∀ w', Below wr.heap.size wr w' → Src Try.prog 1 25 (.slice ao cl.length cap) cl.length (rowVals cl av cv) w' from fun w' hb => rows_src0 (hRr.below hb) cap)
          have hone := (isRows_vals hRr).one
          have HBX := Lib.hid hbX
          obtain ⟨o7, ho7⟩ : ∃ o7, o7 = ofE N (cl ++ [more]) last := ⟨_, rfl⟩
          have HO7 := Lib.hid ho7
          have h7 : o7 = ([], 4) ∨ o7 = (L, 0) := by rw [ho7, HLe.out]; exact more_cases (by omega) more HF.out.1 HF.out.2
          clear hRr hbX ho7
          rcases h7 with rfl | rfl
          all_goals
            have HT7 := Lib.hid (fun (w7 : World) (a7 : Option Addr) (c7 : Nat) (hb : Below w.heap.size w w7) (h : Own w7 24 1 (.slice a7 (cl.length + 1) c7) (cl.length + 1) (rowVals cl av cv ++ [.slice am more.length capm])) => tail_of (capl := capl) hN q1 q2 q4 q5 (HR.out.below hb) (HM.out.below hb) (HL.out.below hb) h HO7.out)
            go_wp2_with (first
              | (at_builtin; refine wpList_append_S _ rfl (.tmp 106) (.tmp 107) _ _ rfl 24 iS _ 1 24 Try.underlying25 hiS hs0 hs1 hs2 rfl (by omega) (.slice (some ⟨wr.heap.size, 0, none⟩) 0 0) 0 [] rfl (Own.made wr 24 1 #[] 0 rfl (by decide)) (by simp) (.slice ao cl.length cap) cl.length (rowVals cl av cv) rfl (HSrc.out _ ((Below.refl _ _).alloc (Nat.le_refl _) _)) (by simp only [maxLen]; omega) (by omega) ?_; intro a6 c6 w6 hn6 hm6 hown6 hg6 hat6 hlt6; simp only [Nat.zero_add, List.nil_append] at hown6 hat6 hlt6 ⊢
                 have HO6 := Lib.hid hown6; have HG6 := Lib.hid (show _ ∧ _ from ⟨hg6, hat6⟩); clear hown6 hg6 hat6 hlt6 hn6 hm6)
              | (at_builtin; refine wpList_append_S _ rfl (.tmp 108) (.tmp 110) _ _ rfl 24 iS _ 1 24 Try.underlying25 hiS hs0 hs1 hs2 rfl (by omega) (.slice a6 cl.length c6) cl.length (rowVals cl av cv) rfl (HO6.out.alloc (.cells #[.slice am more.length capm] 24)) hone (.slice (some ⟨w6.heap.size, 0, none⟩) 1 1) 1 [.slice am more.length capm] rfl (src_new w6 Try.underlying25 24 (.slice am more.length capm) rfl) (by simp only [maxLen]; omega) (by omega) ?_; intro a7 c7 w7 hn7 hm7 hown7 hg7 hat7 hlt7
                 have hb7 := Lib.hid (app_below HG6.out.1 HG6.out.2 hg7); have HO7b := Lib.hid hown7
                 clear hown7 hg7 hat7 hlt7 hn7 hm7)
              | (go_at_call 8; refine (HT7.out _ _ _ (bel_trans HBX.out hb7.out.2) HO7b.out).mono ?_; rintro e w8 ⟨a8, c8, rfl, hi8, hb8⟩; have hb78 := bel_trans hb7.out.2 hb8)
              | (go_at_call 9; (with_reducible refine (numbers_same L a3 a8 c3 c8 w8 (HI3.out.below (bel_trans HB4X.out hb78)) hi8 (by omega)).mono ?_); rintro e w9 ⟨rfl, hb9⟩; have hb79 := bel_trans hb78 hb9)
              | fail)
            go_ret
            first
              | exact ⟨rfl, bel_trans HBX.out hb79⟩
              | exact ⟨rfl, bel_trans HBX.out hb78⟩

end Go.Proofs.Ythaonmmjoednnaa
