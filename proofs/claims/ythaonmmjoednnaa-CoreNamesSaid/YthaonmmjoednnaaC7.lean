/- The document's Of and Groups. Conditions: as each theorem names them. -/
import Derived.Test.YthaonmmjoednnaaC6
namespace Go.Proofs.Ythaonmmjoednnaa
open Go.ChangeShapes Go.WideShapes Go.ChangeAt Go.RowKit Go.Maps Go.Deep
set_option maxRecDepth 100000

theorem restE_good {rs : List (List Int)} {N : Nat} {l : List Int} (hr : ∀ j (h : j < rs.length), GoodL N rs[j]) (hl : ∀ y ∈ l, 0 ≤ y ∧ y < N + rs.length) : GoodL N (restE rs N l) := ⟨restE_rise _ _ _, fun x hx => by
  obtain ⟨y, hy, h | h⟩ := (restE_mem rs N l x).1 hx
  · have := hl y hy
    omega
  · have h1 := hl y hy
    have hlt : y.toNat - N < rs.length := by omega
    have h2 := h.2
    rw [List.getD_eq_getElem?_getD, List.getElem?_eq_getElem hlt] at h2
    exact (hr _ hlt).2 x h2⟩
abbrev RefOut (o : List Int × Int) (w : World) (e : Ending) (w' : World) : Prop :=
  ∃ ao' cap', e = .returned (.tuple #[.slice ao' o.1.length cap', .int .i64 o.2]) ∧ IntsC w' ao' cap' o.1 ∧ Below w.heap.size w w'
theorem rests_push {w w2 w6 : World} {a a2 : Option Addr} {n c c2 : Nat} {vals : List Value} {X : List (List Int)} {r : List Int} (ho : Own w 24 1 (.slice a n c) n vals) (hr : RowsN w vals X) (hb : Below w.heap.size w w2) (hi : IntsC w2 a2 c2 r)
    (hg : (w2.alloc (.cells #[.slice a2 r.length c2] 24)).grownBy w6 (Value.slice a n c).ownBlock) (hn : n = vals.length) : n + 1 = (vals ++ [Value.slice a2 r.length c2]).length ∧ RowsN w6 (vals ++ [.slice a2 r.length c2]) (X ++ [r]) := by
  refine ⟨by simp [hn], ?_⟩
  have b1 : Below w2.heap.size w2 (w2.alloc (.cells #[.slice a2 r.length c2] 24)) := (Below.refl _ _).alloc (Nat.le_refl _) _
  exact (((hr.new hb).snoc hi).new b1).grown ((ho.new hb).new b1) hg

set_option maxHeartbeats 4000000 in
theorem rOf_any (inputs : Int) (cl : List (List Int)) (last : List Int) (ao al : Option Addr) (cap capl : Nat) (av : Nat → Option Addr) (cv : Nat → Nat) (w : World) (hi : inputs ≤ 100000 ∨ 4194304 < inputs) (hR : IsRows w ao cl av cv) (hL : Ints w al last)
    (hcl : cl.length ≤ 100000) (hrl : ∀ c ∈ cl, c.length ≤ 1000000) (hll : last.length ≤ 1000000) :
    Calls Try.prog 12 #[.int .i64 inputs, .slice ao cl.length cap, .slice al last.length capl] w (RefOut (ofE inputs cl last) w) := by
  obtain ⟨o, ho⟩ : ∃ o, o = ofE inputs cl last := ⟨_, rfl⟩
  rw [← ho]
  have HR := Lib.hid hR
  have HL := Lib.hid hL
  clear hR hL
  have HE0 : ∀ (c : Int) (w' : World), Hid (Below w.heap.size w w') → Hid (RefOut ([], c) w (.returned (.tuple #[.slice none 0 0, .int .i64 c])) w') := fun c w' hb => Lib.hid ⟨none, 0, rfl, IntsC.nil _, hb.out⟩
  have HE := Lib.hid HE0
  clear HE0
  by_cases hbad : inputs < 0 ∨ 4194304 < inputs
  · have he : o = ([], 1) := by rw [ho]; unfold ofE; rw [if_pos hbad]
    subst he
    clear ho
    by_cases hn : inputs < 0
    · have hd : decide (inputs < 0) = true := by simpa using hn
      clear hbad hn hi
      go_enter Try.func12, Try.ntmps12
      go_wp2_with fail
      go_ret2
      exact (HE.out 1 _ (Lib.hid (Below.refl _ _))).out
    · have hd : decide (inputs < 0) = false := by simpa using hn
      have hd2 : decide (4194304 < inputs) = true := by simp; omega
      clear hbad hn hi
      go_enter Try.func12, Try.ntmps12
      go_wp2_with fail
      go_ret2
      exact (HE.out 1 _ (Lib.hid (Below.refl _ _))).out
  · obtain ⟨N, rfl⟩ : ∃ N : Nat, inputs = (N : Int) := ⟨inputs.toNat, by omega⟩
    have hN : N ≤ 100000 := by omega
    have hd : decide ((N : Int) < 0) = false := by simp
    have hd2 : decide ((4194304 : Int) < (N : Int)) = false := by simp; omega
    have he : o = if fitsF N cl && fitsE last ((N : Int) + cl.length) then (coreE N cl last, 0) else ([], 4) := by
      rw [ho]
      unfold ofE
      rw [if_neg (by omega)]
      rfl
    obtain ⟨iS, hiS, hs0, hs1, hs2⟩ := info_parts (P := Try.prog) (e := 24) (z := .slice none 0 0) (size := 1) (bytes := 24) (by kernel_rfl)
    clear hbad ho hi
    have HEo := Lib.hid he
    clear he
    go_enter Try.func12, Try.ntmps12
    go_wp2_with fail
    go_loopw [8, 9] (fun s i wr => ∃ (k c : Nat) (a : Option Addr) (vals : List Value), k ≤ cl.length ∧ i = .int .i64 k ∧ s = .slice a k c ∧ Hid (k = vals.length ∧ Own wr 24 1 (.slice a k c) k vals ∧ RowsN wr vals (restsE N (cl.take k)) ∧ (∀ b, (Value.slice a k c).ownBlock = some b → w.heap.size ≤ b)) ∧ Hid (Below w.heap.size w wr) ∧
      Hid (fitsF N cl = fitsF (N + k) (cl.drop k) ∧ (∀ j (h : j < cl.length), j < k → fitsE cl[j] (N + j) = true) ∧ ∀ j (h : j < (restsE N (cl.take k)).length), GoodL N (restsE N (cl.take k))[j])) (fun _ i _ => cl.length - (intOf i).toNat)
    case atStart => exact ⟨0, 0, none, [], by omega, rfl, rfl, Lib.hid ⟨rfl, Own.nil _ _ _, RowsN.nil _, fun b hb => by simp [Value.ownBlock] at hb⟩, Lib.hid (Below.refl _ _), Lib.hid ⟨by simp, fun j _ h => absurd h (Nat.not_lt_zero _), fun j h => by simp [restsE] at h⟩⟩
    case round =>
      obtain ⟨k, c, a, vals, hk, rfl, rfl, HV, HB, HF⟩ := hrel
      have hlenk : (restsE N (cl.take k)).length = k := by rw [restsE_len, List.length_take]; omega
      obtain ⟨avR, cvR, hRk⟩ := rows_at HV.out.2.1 HV.out.1 HV.out.2.2.1.rowsV
      by_cases hlt : k < cl.length
      · have hki : (k : Int) < (cl.length : Int) := by omega
        have hRr := HR.out.below HB.out
        obtain ⟨b, off, rfl, _, hcells⟩ := hRr.rows (by omega)
        have hck := hcells k hlt
        have hws : IntKind.i64.wrap ((N : Int) + (k : Int)) = (N : Int) + (k : Int) := sum_i64 (by omega) (by omega) (by omega) (by omega)
        have hrest := rest_any N (restsE N (cl.take k)) cl[k] ((N : Int) + (k : Int)) a (av k) c (cv k) avR cvR wr hN hRk (hRr.ints k hlt) HF.out.2.2 (by rw [hlenk]; exact Int.le_refl _) (by omega) (hrl _ (List.getElem_mem hlt))
        rw [hlenk] at hrest
        have hfd := HF.out.1
        rw [fitsF_drop hlt] at hfd
        have hfl := HF.out.2.1
        clear hRr hcells hRk
        by_cases hf : fitsE cl[k] ((N : Int) + (k : Int)) = true
        · have hro : restO (restsE N (cl.take k)) N cl[k] ((N : Int) + (k : Int)) = (restE (restsE N (cl.take k)) N cl[k], true) := by unfold restO; rw [hf]; rfl
          rw [hro] at hrest
          rw [hf, Bool.true_and] at hfd
          have hnext : restsE N (cl.take (k + 1)) = restsE N (cl.take k) ++ [restE (restsE N (cl.take k)) N cl[k]] := by rw [List.take_succ_eq_append_getElem hlt, restsE_snoc]
          have HN := Lib.hid hnext
          have HFd := Lib.hid (show fitsF N cl = fitsF (N + (k + 1 : Nat)) (cl.drop (k + 1)) ∧ (∀ j (h : j < cl.length), j < k + 1 → fitsE cl[j] (N + j) = true) ∧ ∀ j (h : j < (restsE N (cl.take (k + 1))).length), GoodL N (restsE N (cl.take (k + 1)))[j] from ⟨hfd, fun j h hj => by
            rcases Nat.lt_succ_iff_lt_or_eq.1 hj with h1 | h1
            · exact hfl j h h1
            · subst h1; exact hf, fun j h => by
            have hg : GoodL N (restE (restsE N (cl.take k)) N cl[k]) := restE_good HF.out.2.2 (by rw [hlenk]; exact fitsE_mem hf)
            have h2 : j < (restsE N (cl.take k) ++ [restE (restsE N (cl.take k)) N cl[k]]).length := by rw [← hnext]; exact h
            have e : (restsE N (cl.take (k + 1)))[j] = (restsE N (cl.take k) ++ [restE (restsE N (cl.take k)) N cl[k]])[j] := by simp only [hnext]
            rw [e, List.getElem_append]
            split
            · exact HF.out.2.2 j _
            · simp only [List.getElem_singleton]; exact hg⟩)
          have HRest := Lib.hid hrest
          clear hf hfd hfl hro hnext hrest HF hlenk
          generalize restE (restsE N (cl.take k)) N cl[k] = r at *
          generalize cl[k] = ck at *
          go_wp2_with (first
            | (go_at_call 20; (with_reducible refine HRest.out.mono ?_); rintro e w2 ⟨a2, c2, rfl, hi2, hb2⟩; have hown := HV.out.2.1.new hb2; have HO2 := Lib.hid (hown.alloc (.cells #[.slice a2 r.length c2] 24)); have hone := HV.out.2.2.1.rowsV.one; clear hown)
            | (at_builtin; refine wpList_append_S _ rfl (.tmp 41) (.tmp 43) _ _ rfl 24 iS _ 1 24 Try.underlying25 hiS hs0 hs1 hs2 rfl (by omega) (.slice a k c) k vals rfl HO2.out hone _ 1 [_] rfl (src_new w2 Try.underlying25 24 _ rfl) (by simp only [maxLen]; omega) (by omega) ?_; intro a6 c6 w6 hn6 hm6 hown6 hg6 hat6 hlt6
               have H6 := Lib.hid (rests_push HV.out.2.1 HV.out.2.2.1 hb2 hi2 hg6 HV.out.1)
               have HO6 := Lib.hid hown6
               have HS6 := Lib.hid (out_snoc (bel_trans HB.out hb2) HV.out.2.2.2 hg6 hat6)
               clear hown6 hg6 hat6 hlt6 hn6 hm6)
            | fail)
          go_roundw
          case rel => exact ⟨k + 1, c6, a6, _, by omega, by go_num, rfl, Lib.hid ⟨H6.out.1, HO6.out, by rw [HN.out]; exact H6.out.2, HS6.out.1⟩, Lib.hid HS6.out.2, HFd⟩
          case measure => simp [intOf]; omega
        · have hf2 : fitsE cl[k] ((N : Int) + (k : Int)) = false := by simpa using hf
          have hro : restO (restsE N (cl.take k)) N cl[k] ((N : Int) + (k : Int)) = ([], false) := by unfold restO; rw [hf2]; rfl
          rw [hro] at hrest
          rw [hf2, Bool.false_and] at hfd
          have HRest := Lib.hid hrest
          obtain rfl : o = ([], 4) := by rw [HEo.out, hfd]; rfl
          clear hf hf2 hfd hfl HEo hrest hro HF hlenk
          generalize cl[k] = ck at *
          go_wp2_with (go_at_call 20; (with_reducible refine HRest.out.mono ?_); rintro e w2 ⟨a2, c2, rfl, _, hb2⟩)
          go_ret2
          exact (HE.out 4 _ (Lib.hid (bel_trans HB.out hb2))).out
      · obtain rfl : k = cl.length := by omega
        have hfd : fitsF N cl = true := by rw [HF.out.1, List.drop_length]; rfl
        have hfa : ∀ j (h : j < cl.length), fitsE cl[j] (N + j) = true := fun j h => HF.out.2.1 j h h
        have hws : IntKind.i64.wrap ((N : Int) + (cl.length : Int)) = (N : Int) + (cl.length : Int) := sum_i64 (by omega) (by omega) (by omega) (by omega)
        have hrest := rest_any N (restsE N (cl.take cl.length)) last ((N : Int) + (cl.length : Int)) a al c capl avR cvR wr hN hRk (HL.out.below HB.out) HF.out.2.2 (by rw [hlenk]; exact Int.le_refl _) (by omega) hll
        rw [hlenk, List.take_length] at hrest
        have he := HEo.out
        rw [hfd, Bool.true_and] at he
        by_cases hf : fitsE last ((N : Int) + (cl.length : Int)) = true
        · rw [hf, if_pos rfl] at he
          have hro : restO (restsE N cl) N last ((N : Int) + (cl.length : Int)) = (coreE N cl last, true) := by
            unfold restO
            rw [hf, core_rest (fun j h => fitsE_mem (hfa j h)) (fitsE_mem hf)]
            rfl
          rw [hro] at hrest
          have HRest := Lib.hid hrest
          subst he
          clear hf hro hrest hfd hfa HEo HF hlenk hRk
          go_wp2_with (go_at_call 20; (with_reducible refine HRest.out.mono ?_); rintro e w2 ⟨a2, c2, rfl, hi2, hb2⟩)
          go_ret2
          exact ⟨a2, c2, rfl, hi2, bel_trans HB.out hb2⟩
        · have hf2 : fitsE last ((N : Int) + (cl.length : Int)) = false := by simpa using hf
          have hro : restO (restsE N cl) N last ((N : Int) + (cl.length : Int)) = ([], false) := by unfold restO; rw [hf2]; rfl
          rw [hro] at hrest
          rw [hf2] at he
          obtain rfl : o = ([], 4) := by rw [he]; rfl
          have HRest := Lib.hid hrest
          clear hf hf2 hro hrest hfd hfa HEo HF hlenk hRk he
          go_wp2_with (go_at_call 20; (with_reducible refine HRest.out.mono ?_); rintro e w2 ⟨a2, c2, rfl, hi2, hb2⟩)
          go_ret2
          exact (HE.out 4 _ (Lib.hid (bel_trans HB.out hb2))).out

end Go.Proofs.Ythaonmmjoednnaa
