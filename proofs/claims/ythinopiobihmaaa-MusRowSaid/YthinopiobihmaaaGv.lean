/- The least no: what is enough. Conditions: as each theorem names them. -/
import Derived.Test.YthinopiobihmaaaGr
import Derived.Test.YthinopiobihmaaaGu
namespace Go.Proofs.Ythinopiobihmaaa
open Go.ChangeShapes Go.WideShapes Go.ChangeAt Go.RowKit Go.Maps Go.Deep
set_option maxRecDepth 100000

theorem enough_pos (v : Nat) : 2 ≤ enoughE v ∧ enoughE v ≤ 1099511627776 := by
  by_cases h : v ≤ 40
  · rw [enough_small h]
    have h1 : (2 : Int) ^ 1 ≤ 2 ^ (v + 1) := pow_big (by omega)
    have h2 : (1 : Int) * 2 ^ (v + 1) ≤ ((v : Int) + 1) * 2 ^ (v + 1) := Int.mul_le_mul_of_nonneg_right (by omega) (by omega)
    omega
  · unfold enoughE
    rw [if_neg (by omega), if_pos (by omega)]
    decide
def enoughM (n v : Nat) : Int := min (((n : Int) + 1) * enoughE v) 1099511627776
theorem quo_over {m one : Int} (h1 : 2 ≤ one) (h : 1099511627776 / one < m) : 1099511627776 < m * one := by
  have h2 := Int.lt_mul_of_ediv_lt (show 0 < one by omega) h
  omega
theorem quo_under {m one : Int} (h1 : 2 ≤ one) (h : m ≤ 1099511627776 / one) : m * one ≤ 1099511627776 :=
  (Int.le_ediv_iff_mul_le (by omega)).1 h

abbrev PosI (x z : Int) : Prop := (0 ≤ x ∧ z = x) ∨ (x < 0 ∧ z = 0)
theorem posI_of (x : Int) : PosI x (x.toNat : Int) := by
  by_cases h : x < 0
  · exact .inr ⟨h, by omega⟩
  · exact .inl ⟨by omega, by omega⟩
theorem menough_over (n vars m v : Int) (E : Int) (hn : PosI n m) (hv : PosI vars v) (hm : m ≤ 1048576) (HE : Hid (∀ w, Calls Try.prog 18 #[.int .i64 v] w fun e w' => e = .returned (.int .i64 E) ∧ w = w')) (e1 : 2 ≤ E) (e2 : E ≤ 1099511627776) (hc : 1099511627776 / E < m + 1) (w : World) :
    Calls Try.prog 19 #[.int .i64 n, .int .i64 vars] w fun e w' => e = .returned (.int .i64 1099511627776) ∧ w = w' := by
  have hne : ¬ E = 0 := by omega
  have hz0 : 0 ≤ 1099511627776 / E := Int.ediv_nonneg (by decide) (by omega)
  rcases hn with ⟨hn0, rfl⟩ | ⟨hn0, rfl⟩
  all_goals
    rcases hv with ⟨hv0, rfl⟩ | ⟨hv0, rfl⟩
    all_goals
      go_enter Try.func19, Try.ntmps19
      go_wp2_with (first
        | (go_at_call 18; (with_reducible refine (HE.out _).mono ?_); rintro e w' ⟨rfl, rfl⟩)
        | fail)
      go_ret
      exact ⟨rfl, rfl⟩
theorem menough_under (n vars m v : Int) (E : Int) (hn : PosI n m) (hv : PosI vars v) (hm : m ≤ 1048576) (HE : Hid (∀ w, Calls Try.prog 18 #[.int .i64 v] w fun e w' => e = .returned (.int .i64 E) ∧ w = w')) (e1 : 2 ≤ E) (e2 : E ≤ 1099511627776) (hc : m + 1 ≤ 1099511627776 / E) (w : World) :
    Calls Try.prog 19 #[.int .i64 n, .int .i64 vars] w fun e w' => e = .returned (.int .i64 ((m + 1) * E)) ∧ w = w' := by
  have hne : ¬ E = 0 := by omega
  have hb := quo_under e1 hc
  have hm0 : 0 ≤ m := by rcases hn with ⟨h, h2⟩ | ⟨h, h2⟩ <;> omega
  have hb2 : 0 ≤ (m + 1) * E := Int.mul_nonneg (by omega) (by omega)
  have hwr : wrap64 ((m + 1) * E) = (m + 1) * E := by
    generalize (m + 1) * E = x at hb hb2
    unfold wrap64
    omega
  have hwr2 : wrap64 E = E := by
    unfold wrap64
    omega
  have hnc : ¬ 1099511627776 / E < m + 1 := by omega
  have hz0 : 0 ≤ 1099511627776 / E := Int.ediv_nonneg (by decide) (by omega)
  clear hb hb2 hm0
  rcases hn with ⟨hn0, rfl⟩ | ⟨hn0, rfl⟩
  all_goals
    rcases hv with ⟨hv0, rfl⟩ | ⟨hv0, rfl⟩
    all_goals
      go_enter Try.func19, Try.ntmps19
      go_wp2_with (first
        | (go_at_call 18; (with_reducible refine (HE.out _).mono ?_); rintro e w' ⟨rfl, rfl⟩)
        | fail)
      go_ret
      first
        | exact ⟨rfl, rfl⟩
        | (refine ⟨?_, rfl⟩; simp; done)
        | (refine ⟨?_, rfl⟩; simp; exact hwr)
        | fail

theorem menough_any (n vars : Int) (hn : n ≤ 1048576) (hv : vars ≤ 1099511627776) (w : World) :
    Calls Try.prog 19 #[.int .i64 n, .int .i64 vars] w fun e w' => e = .returned (.int .i64 (enoughM n.toNat vars.toNat)) ∧ w = w' := by
  obtain ⟨e1, e2⟩ := enough_pos vars.toNat
  have HE : Hid (∀ w, Calls Try.prog 18 #[.int .i64 vars.toNat] w fun e w' => e = .returned (.int .i64 (enoughE vars.toNat)) ∧ w = w') := Lib.hid fun w => senough_any _ (by omega) w
  by_cases hc : 1099511627776 / enoughE vars.toNat < (n.toNat : Int) + 1
  · have h2 := quo_over e1 hc
    rw [show enoughM n.toNat vars.toNat = 1099511627776 by unfold enoughM; omega]
    exact menough_over n vars _ _ _ (posI_of n) (posI_of vars) (by omega) HE e1 e2 hc w
  · have h2 := quo_under e1 (show (n.toNat : Int) + 1 ≤ 1099511627776 / enoughE vars.toNat by omega)
    rw [show enoughM n.toNat vars.toNat = ((n.toNat : Int) + 1) * enoughE vars.toNat by unfold enoughM; omega]
    exact menough_under n vars _ _ _ (posI_of n) (posI_of vars) (by omega) HE e1 e2 (by omega) w

/-- The document's. -/
theorem rmenough_aux (n vars m v : Int) (E T : Int) (hn : PosI n m) (hv : PosI vars v) (hm : m ≤ 1048576) (HE : Hid (∀ w, Calls Try.prog 20 #[.int .i64 v] w fun e w' => e = .returned (.int .i64 E) ∧ w = w')) (e1 : 2 ≤ E) (e2 : E ≤ 1099511627776) (x : Int) (HX : Hid (x = (m + 1) * E)) (hx0 : 0 ≤ x) (hx : x ≤ 2305843009213693952) (HT : Hid (T = min x 1099511627776)) (w : World) :
    Calls Try.prog 13 #[.int .i64 n, .int .i64 vars] w fun e w' => e = .returned (.int .i64 T) ∧ w = w' := by
  rcases hn with ⟨hn0, rfl⟩ | ⟨hn0, rfl⟩
  · have hwr : wrap64 ((m + 1) * E) = x := by
      rw [← HX.out]
      unfold wrap64
      omega
    rcases hv with ⟨hv0, rfl⟩ | ⟨hv0, rfl⟩
    all_goals
      go_enter Try.func13, Try.ntmps13
      go_wp2_with (first
        | (go_at_call 20; (with_reducible refine (HE.out _).mono ?_); rintro e w' ⟨rfl, rfl⟩)
        | fail)
      all_goals
        go_ret
        rw [HT.out]
        first
          | (rw [show min x 1099511627776 = 1099511627776 from by omega]; exact ⟨rfl, rfl⟩)
          | (rw [show min x 1099511627776 = x from by omega]; exact ⟨rfl, rfl⟩)
  · obtain rfl : x = E := by
      have := HX.out
      simpa using this
    have hwr : wrap64 x = x := by
      unfold wrap64
      omega
    rcases hv with ⟨hv0, rfl⟩ | ⟨hv0, rfl⟩
    all_goals
      go_enter Try.func13, Try.ntmps13
      go_wp2_with (first
        | (go_at_call 20; (with_reducible refine (HE.out _).mono ?_); rintro e w' ⟨rfl, rfl⟩)
        | fail)
      all_goals
        go_ret
        rw [HT.out]
        first
          | (rw [show min x 1099511627776 = 1099511627776 from by omega]; exact ⟨rfl, rfl⟩)
          | (rw [show min x 1099511627776 = x from by omega]; exact ⟨rfl, rfl⟩)
theorem rmenough_any (n vars : Int) (hn : n ≤ 1048576) (hv : vars ≤ 1099511627776) (w : World) :
    Calls Try.prog 13 #[.int .i64 n, .int .i64 vars] w fun e w' => e = .returned (.int .i64 (enoughM n.toNat vars.toNat)) ∧ w = w' := by
  obtain ⟨e1, e2⟩ := enough_pos vars.toNat
  have HE : Hid (∀ w, Calls Try.prog 20 #[.int .i64 vars.toNat] w fun e w' => e = .returned (.int .i64 (enoughE vars.toNat)) ∧ w = w') := Lib.hid fun w => renough_any _ (by omega) w
  have h1 : ((n.toNat : Int) + 1) * enoughE vars.toNat ≤ 1048577 * 1099511627776 := Int.mul_le_mul (by omega) e2 (by omega) (by omega)
  exact rmenough_aux n vars n.toNat vars.toNat _ _ (posI_of n) (posI_of vars) (by omega) HE e1 e2 _ (Lib.hid rfl) (Int.mul_nonneg (by omega) (by omega)) (by omega) (Lib.hid rfl) w

end Go.Proofs.Ythinopiobihmaaa

namespace Go.Proofs.Ythinopiobihmaaa
open Go.ChangeShapes Go.WideShapes Go.ChangeAt Go.RowKit Go.Maps Go.Deep
set_option maxRecDepth 100000

theorem RowsV.append {w : World} {v1 v2 : List Value} {c1 c2 : List (List Int)} (h1 : RowsV w v1 c1) (h2 : RowsV w v2 c2) : RowsV w (v1 ++ v2) (c1 ++ c2) := by
  refine ⟨by simp [h1.1, h2.1], fun j hj => ?_⟩
  by_cases hjl : j < c1.length
  · rw [List.getElem?_append_left (by rw [h1.1]; exact hjl), List.getElem_append_left hjl]
    exact h1.2 j hjl
  · rw [List.getElem?_append_right (by rw [h1.1]; omega), List.getElem_append_right (by omega), h1.1]
    exact h2.2 (j - c1.length) (by simp at hj; omega)
/-- More clauses, behind an append of rows that were there. -/
theorem ClAt.app {w0 w1 w2 : World} {a a2 : Option Addr} {n c c2 : Nat} {cl d : List (List Int)} {ao : Option Addr} {av : Nat → Option Addr} {cv : Nat → Nat} {vals : List Value} (hl : n = cl.length) (hv : RowsV w0 vals cl) (hn : ∀ k, (Value.slice a n c).ownBlock = some k → w0.heap.size ≤ k) (hd : IsRows w0 ao d av cv)
    (hb : Below w0.heap.size w0 w1) (ho : Own w2 26 1 (.slice a2 (n + d.length) c2) (n + d.length) (vals ++ rowVals d av cv)) (hg : w1.grownBy w2 (Value.slice a n c).ownBlock) (hat : (Value.slice a2 (n + d.length) c2).ownBlock = (Value.slice a n c).ownBlock ∨ (Value.slice a2 (n + d.length) c2).ownBlock = some w1.heap.size) :
    ClAt w0 w2 a2 (n + d.length) c2 (cl ++ d) ∧ Below w0.heap.size w0 w2 := by
  refine ⟨⟨by rw [hl, List.length_append], ⟨_, ho, hv.append (isRows_vals hd)⟩, fun k e => ?_⟩, hb.grown hg hb.size fun k e => hn k e⟩
  rcases hat with e2 | e2
  · exact hn k (e2 ▸ e)
  · rw [e2] at e
    injection e with e
    rw [← e]
    exact hb.size

def AllPost (w : World) (cl : List (List Int)) (e : Ending) (w' : World) : Prop := Below w.heap.size w w' ∧ ∃ a c av cv, e = .returned (.slice a cl.length c) ∧ IsRows w' a cl av cv

set_option maxHeartbeats 2000000 in
theorem rall_any (base : List (List Int)) (items : List (List (List Int))) (ab ai : Option Addr) (cb ci : Nat) (av : Nat → Option Addr) (cv : Nat → Nat) (aI : Nat → Option Addr) (cI : Nat → Nat) (avI : Nat → Nat → Option Addr) (cvI : Nat → Nat → Nat) (g : Nat) (S : Nat → Bool) (w : World)
    (hR : IsRows w ab base av cv) (hI : IsItems w ai items aI cI avI cvI) (hB : Blk w g 4 (boR S items.length).toArray) (hil : items.length ≤ 100000) (hal : (allE base items S).length ≤ 4000) :
    Calls Try.prog 22 #[.slice ab base.length cb, .slice ai items.length ci, .slice (some ⟨g, 0, none⟩) items.length items.length] w (AllPost w (allE base items S)) := by
  obtain ⟨iS, hiS, hs0, hs1, hs2⟩ := info_parts (P := Try.prog) (e := 26) (z := .slice none 0 0) (size := 1) (bytes := 24) (by kernel_rfl)
  have HUp : Hid (∀ k, k ≤ items.length → (uptoE base items S k).length ≤ 4000) := Lib.hid fun k hk => Nat.le_trans (upto_mono hk) hal
  have hbl : base.length ≤ 4000 := by
    have h := HUp.out 0 (Nat.zero_le _)
    rwa [upto_zero] at h
  have HR := Lib.hid hR
  have HI := Lib.hid hI
  have HB := Lib.hid hB
  have HSrc := Lib.hid (rows_src0 (hR.below ((Below.refl w.heap.size w).alloc (Nat.le_refl _) (.cells #[] 26))) cb)
  have HOne := Lib.hid (isRows_vals hR)
  clear hR hI hB hal
  go_enter Try.func22, Try.ntmps22
  go_wp2_with (first
    | (at_builtin; go_loud (refine wpList_append_S _ rfl (.tmp 9) (.tmp 10) _ _ rfl 26 iS _ 1 24 Try.underlying22 hiS hs0 hs1 hs2 rfl (by omega) (.slice (some ⟨w.heap.size, 0, none⟩) 0 0) 0 [] rfl (Own.made w 26 1 #[] 0 rfl (by simp)) (by simp) (.slice ab base.length cb) base.length (rowVals base av cv) rfl HSrc.out (by simp only [maxLen]; omega) (by omega) ?_); intro ao1 cap1 w1 hn2 hm2 hown2 hg2 hat2 hlt2; simp only [Nat.zero_add, List.nil_append] at hown2 hat2 hlt2 ⊢)
    | fail)
  have hb0 : Below w.heap.size w (w.alloc (.cells #[] 26)) := (Below.refl _ w).alloc (Nat.le_refl _) _
  have hb1 : Below w.heap.size w w1 := hb0.grown hg2 hb0.size fun k e => by injection e with e; exact Nat.le_of_eq e
  have hcl1 : ClAt w w1 ao1 base.length cap1 base := ⟨rfl, ⟨_, hown2, HOne.out⟩, fun k hk => by
    rcases hat2 with e | e
    · rw [hk] at e; injection e with e; exact Nat.le_of_eq e.symm
    · rw [hk] at e; injection e with e; rw [e]; exact hb0.size⟩
  have HC1 := Lib.hid hcl1
  have HB1 := Lib.hid hb1
  clear hn2 hm2 hown2 hg2 hat2 hlt2 hb0 HSrc HOne hb1 hcl1
  go_loopw [7, 8] (fun s i wr => ∃ (k n c : Nat) (a : Option Addr), k ≤ items.length ∧ i = .int .i64 k ∧ s = .slice a n c ∧ Hid (ClAt w wr a n c (uptoE base items S k)) ∧ Hid (Below w.heap.size w wr)) (fun _ i _ => items.length - (intOf i).toNat)
  case atStart => exact ⟨0, base.length, cap1, ao1, by omega, rfl, rfl, by rw [upto_zero]; exact HC1, HB1⟩
  case round =>
    obtain ⟨k, n, c, a, hk, rfl, rfl, HC, HBr⟩ := hrel
    by_cases hlt : k < items.length
    · have hki : (k : Int) < (items.length : Int) := by omega
      have hck := ((HB.out.below HBr.out HB.out.lt).cell k).trans (show (boR S items.length).toArray[k]? = some (.bool (S k)) by simp [boR, hlt])
      have HUs := Lib.hid (upto_succ (base := base) (items := items) (S := S) k)
      cases hS : S k with
      | false =>
        rw [hS] at hck
        have HU2 := Lib.hid (show uptoE base items S (k + 1) = uptoE base items S k by rw [HUs.out, hS]; simp)
        clear HUs hS
        go_wp2_with fail
        go_roundw
        case rel => exact ⟨k + 1, n, c, a, by omega, by go_num, rfl, by rw [HU2.out]; exact HC, HBr⟩
        case measure => simp [intOf]; omega
      | true =>
        rw [hS] at hck
        obtain ⟨b, off, rfl, hbb, hcells⟩ := HI.out.rows (by omega)
        have hckw := (bel_cell HBr.out (hcells k hlt)).trans (hcells k hlt)
        have hRk := HI.out.item k hlt
        obtain ⟨it, hit⟩ : ∃ it, it = items[k] := ⟨_, rfl⟩
        have hgd : items.getD k [] = it := by rw [hit, List.getD_eq_getElem?_getD, List.getElem?_eq_getElem hlt]; rfl
        rw [← hit] at hckw hRk
        have HU2 := Lib.hid (show uptoE base items S (k + 1) = uptoE base items S k ++ it by rw [HUs.out, hS, if_pos rfl, hgd])
        have hll := HUp.out (k + 1) (by omega)
        rw [HU2.out, List.length_append] at hll
        obtain ⟨vals, hO, hv⟩ := HC.out.own
        have hln := HC.out.len
        have hn4 : n ≤ 4000 := by rw [hln]; omega
        have hil4 : it.length ≤ 4000 := by omega
        have hone := hv.one
        have HSrc := Lib.hid (rows_src0 (hRk.below HBr.out) (cI k))
        have HRk := Lib.hid hRk
        have HV := Lib.hid hv
        have HO := Lib.hid hO
        have HLn := Lib.hid hln
        generalize aI k = ak at *
        generalize cI k = ck at *
        generalize avI k = avk at *
        generalize cvI k = cvk at *
        clear HUs hS hcells hRk hit hgd hll hv hO hln
        go_wp2_with (first
          | (at_builtin; go_loud (refine wpList_append_S _ rfl (.tmp 22) (.tmp 26) _ _ rfl 26 iS _ 1 24 Try.underlying22 hiS hs0 hs1 hs2 rfl (by omega) (.slice a n c) n vals rfl HO.out hone (.slice ak it.length ck) it.length (rowVals it avk cvk) rfl HSrc.out (by simp only [maxLen]; omega) (by omega) ?_); intro ao4 cap4 w4 hn4a hm4a hown4 hg4 hat4 hlt4
             have H4 := Lib.hid (ClAt.app HLn.out HV.out HC.out.new HRk.out HBr.out hown4 hg4 hat4)
             clear hown4 hg4 hat4 hlt4 hn4a hm4a)
          | fail)
        go_roundw
        case rel => exact ⟨k + 1, n + it.length, cap4, ao4, by omega, by go_num, rfl, by rw [HU2.out]; exact Lib.hid H4.out.1, Lib.hid H4.out.2⟩
        case measure => simp [intOf]; omega
    · obtain rfl : k = items.length := by omega
      obtain ⟨avc, cvc, hrows⟩ := HC.out.rows HBr.out
      have HRw := Lib.hid hrows
      have HLn := Lib.hid HC.out.len
      clear hrows
      go_wp2_with fail
      go_ret
      refine ⟨HBr.out, a, c, avc, cvc, ?_, HRw.out⟩
      rw [HLn.out]
      rfl

end Go.Proofs.Ythinopiobihmaaa
