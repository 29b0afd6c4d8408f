/- The least no: plain: MusRow. Conditions: as each theorem names them. -/
import Derived.Test.YthinopiobihmaaaG3
import Derived.Test.YthinopiobihmaaaGn
import Derived.Deep.RegionHeld3
namespace Go.Proofs.Ythinopiobihmaaa
open Go.ChangeShapes Go.WideShapes Go.ChangeAt Go.RowKit Go.Maps Go.Deep
set_option maxRecDepth 100000

section
variable {n : Nat} {base : List (List Int)} {items : List (List (List Int))}
/-- An item that later ones cover is not named. -/
theorem not_kept (h : KnownAll n base items) (h0 : (solveE n (allE base items (everyS items))).yes = false) {x : Nat} (hc : ∀ c ∈ items.getD x [], ∃ y, x < y ∧ y < items.length ∧ c ∈ items.getD y []) : x ∉ kept n base items := fun hx => by
  have h1 := (keepR_mem hx).1
  have h2 := keepR_no (no := noB n base items) (by show noB n base items (everyS items) = true; exact (yes_no n base items).1 h0) x
  rw [noB_same h h (S := askR items.length (keepR items.length (noB n base items) x) x) (S' := inR items.length (keepR items.length (noB n base items) x) x), h2] at h1
  · cases h1
  · intro c
    rw [mem_all, mem_all]
    refine or_congr_right ⟨?_, ?_⟩
    · rintro ⟨i, k1, k2, k3⟩
      exact ⟨i, k1, askR_sub _ _ i k2, k3⟩
    · rintro ⟨i, k1, k2, k3⟩
      by_cases hix : i = x
      · subst hix
        obtain ⟨y, y1, y2, y3⟩ := hc c k3
        exact ⟨y, y2, by unfold askR; simp [y1, y2], y3⟩
      · refine ⟨i, k1, ?_, k3⟩
        rw [← askS_in fun z hz => keepR_lt hz]
        unfold askS
        rw [k2]
        simp [hix]
/-- A clause of none. -/
theorem none_no (h : KnownAll n base items) {S : Nat → Bool} {i : Nat} (hi : i < items.length) (hS : S i = true) (hc : [] ∈ items.getD i []) : noB n base items S = true := by
  rw [noB_iff h]
  intro A hA
  have := hA [] (mem_all.2 (.inr ⟨i, hi, hS, hc⟩))
  simp [holdsA] at this
theorem last_get : (items ++ [[[]]]).getD items.length [] = [[]] := by simp [List.getD_eq_getElem?_getD]
/-- Behind all a clause of none: it is named alone, or nothing is. -/
theorem never_keep (h : KnownAll n base (items ++ [[[]]])) : ∀ i, i ≤ items.length → keepR (items ++ [[[]]]).length (noB n base (items ++ [[[]]])) i = []
  | 0, _ => rfl
  | i + 1, hi => by
    have ih := never_keep h i (by omega)
    show (if _ then _ else _) = _
    rw [ih, if_pos]
    refine none_no h (i := items.length) (by simp) ?_ (by rw [last_get]; simp)
    unfold askR
    simp
    omega
theorem never_kept (h : KnownAll n base (items ++ [[[]]])) : kept n base (items ++ [[[]]]) = if (solveE n base).yes then [items.length] else [] := by
  have hl : (items ++ [[[]]] : List (List (List Int))).length = items.length + 1 := by simp
  unfold kept
  rw [hl]
  have h1 := never_keep h items.length (Nat.le_refl _)
  rw [hl] at h1
  have e : allE base (items ++ [[[]]]) (askR (items.length + 1) [] items.length) = base := by
    unfold allE uptoE
    have : (List.range (items ++ [[[]]]).length).filter (askR (items.length + 1) [] items.length) = [] := by
      rw [List.filter_eq_nil_iff]
      intro j hj
      have := List.mem_range.1 hj
      simp at this
      simp [askR]
      omega
    rw [this]
    simp
  show (if _ then _ else _) = _
  rw [h1]
  unfold noB
  rw [e]
  cases (solveE n base).yes <;> rfl
theorem never_yes (h : KnownAll n base (items ++ [[[]]])) : (solveE n (allE base (items ++ [[[]]]) (everyS (items ++ [[[]]])))).yes = false := by
  rw [yes_no]
  exact none_no h (i := items.length) (by simp) (by simp [everyS]) (by rw [last_get]; simp)
end

end Go.Proofs.Ythinopiobihmaaa

namespace Go.Proofs.Ythinopiobihmaaa
open Go.ChangeShapes Go.WideShapes Go.ChangeAt Go.RowKit Go.Maps Go.Deep
set_option maxRecDepth 100000

theorem row_index (which : Int) (l : Nat) (h0 : 0 < l) (hl : l ≤ 1000) : ∃ k : Nat, k < l ∧ wrap64 ((IntKind.u64.wrap which).tmod (l : Int)) = (k : Int) := by
  have h1 : 0 ≤ IntKind.u64.wrap which := by rw [IntKind.wrap_u64]; omega
  have h2 := Int.tmod_nonneg (l : Int) h1
  have h3 := Int.tmod_lt_of_pos (IntKind.u64.wrap which) (show (0 : Int) < l by omega)
  refine ⟨((IntKind.u64.wrap which).tmod (l : Int)).toNat, by omega, ?_⟩
  unfold wrap64
  omega

theorem two_src {w : World} {b : Nat} {u v : Value} (hB : Blk w b 22 #[u, v]) (h1 : u.oneCell' = true) (h2 : v.oneCell' = true) : Src Try.prog 1 23 (.slice (some ⟨b, 0, none⟩) 2 2) 2 [u, v] w :=
  (Own.of_blk hB 2 rfl (by decide)).src Try.underlying23 (fun x hx => by
    rcases List.mem_cons.1 hx with rfl | hx
    · exact h1
    · rw [List.mem_singleton.1 hx]; exact h2)
theorem row_one {w1 Wx w5 : World} {g n c5 : Nat} {a5 : Option Addr} {items : List (List (List Int))} {vals : List Value} (hb : Below w1.heap.size w1 Wx) (hg1 : w1.heap.size ≤ g) (hv : ItemsV w1 vals items) (hn : n = items.length) (hown : Own w5 22 1 (.slice a5 n c5) n vals)
    (hg : Wx.grownBy w5 (Value.slice (some ⟨g, 0, none⟩) 0 0).ownBlock) (hat : (Value.slice a5 n c5).ownBlock = (Value.slice (some ⟨g, 0, none⟩) 0 0).ownBlock ∨ (Value.slice a5 n c5).ownBlock = some Wx.heap.size) : ItAt w1 w5 a5 n c5 items ∧ Below w1.heap.size w1 w5 := by
  refine ⟨⟨hn, ⟨_, hown, hv⟩, fun k hk => ?_⟩, hb.grown hg hb.size fun k e => by
    injection e with e
    have e2 : g = k := e
    omega⟩
  rcases hat with e | e
  · rw [hk] at e
    injection e with e
    have e2 : k = g := e
    omega
  · rw [hk] at e
    injection e with e
    rw [e]
    exact hb.size
theorem row_two {w1 Wx w6 : World} {n c5 c6 k : Nat} {a5 a6 : Option Addr} {items : List (List (List Int))} {aI : Nat → Option Addr} {cI : Nat → Nat} {ai : Option Addr} {avI : Nat → Nat → Option Addr} {cvI : Nat → Nat → Nat} (hI : IsItems w1 ai items aI cI avI cvI) (hk : k < items.length) (h5 : ItAt w1 Wx a5 n c5 items) (hb : Below w1.heap.size w1 Wx)
    (hown : Own w6 22 1 (.slice a6 (n + 2) c6) (n + 2) (itemVals items aI cI ++ [.slice (aI k) items[k].length (cI k), .slice none 0 0])) (hg : Wx.grownBy w6 (Value.slice a5 n c5).ownBlock) (hat : (Value.slice a6 (n + 2) c6).ownBlock = (Value.slice a5 n c5).ownBlock ∨ (Value.slice a6 (n + 2) c6).ownBlock = some Wx.heap.size) :
    ItAt w1 w6 a6 (n + 2) c6 (items ++ [items[k], []]) ∧ Below w1.heap.size w1 w6 :=
  it_app (m := 2) h5.len (items_vals hI) h5.new rfl (ItemsV.append (v1 := [.slice (aI k) items[k].length (cI k)]) (c1 := [items[k]]) (v2 := [.slice none 0 0]) (c2 := [[]]) (ItemsV.one (hI.item k hk)) (ItemsV.one (base_none w1))) hb hown hg hat

theorem nil_item {w5 w7 : World} {o : Obj} {row : Option Nat} (hg : (((w5.alloc (.cells #[] 3)).alloc (.cells #[.slice (some ⟨w5.heap.size, 0, none⟩) 0 0] 26)).alloc o).grownBy w7 row) (hne : ∀ k, row = some k → k < w5.heap.size) : ∃ av cv, IsRows w7 (some ⟨w5.heap.size + 1, 0, none⟩) [[]] av cv := by
  have hk : Blk ((w5.alloc (.cells #[] 3)).alloc (.cells #[.slice (some ⟨w5.heap.size, 0, none⟩) 0 0] 26)) (w5.heap.size + 1) 26 #[.slice (some ⟨w5.heap.size, 0, none⟩) 0 0] := by
    have h := Blk.new (w5.alloc (.cells #[] 3)) 26 #[.slice (some ⟨w5.heap.size, 0, none⟩) 0 0]
    rwa [show (w5.alloc (.cells #[] 3)).heap.size = w5.heap.size + 1 by simp] at h
  have hk2 := (hk.alloc o).grown hg (fun e => by have := hne _ e.symm; omega)
  exact ⟨fun _ => some ⟨w5.heap.size, 0, none⟩, fun _ => 0, fun _ => ⟨_, 0, rfl, hk2.lt, fun j hj => by
    match j, hj with
    | 0, _ => exact hk2.cell 0⟩, fun j hj => by
    match j, hj with
    | 0, _ => exact fun h => absurd h (Nat.not_lt_zero _)⟩

set_option maxHeartbeats 4000000 in
theorem mrow_walk (vars which : Int) (base : List (List Int)) (items : List (List (List Int))) (ab ai : Option Addr) (cb ci : Nat) (av : Nat → Option Addr) (cv : Nat → Nat) (aI : Nat → Option Addr) (cI : Nat → Nat) (avI : Nat → Nat → Option Addr) (cvI : Nat → Nat → Nat) (w : World)
    (hR : IsRows w ab base av cv) (hI : IsItems w ai items aI cI avI cvI) :
    Calls Try.prog 5 #[.int .i64 vars, .slice ab base.length cb, .slice ai items.length ci, .int .i64 which] w fun e w' => e = .returned (.bool true) ∧ Below w.heap.size w w' := by
  have HRt : Hid (∀ w', Below w.heap.size w w' → Calls Try.prog 15 #[.int .i64 vars, .slice ab base.length cb, .slice ai items.length ci] w' fun e w'' => e = .returned (.bool (rightE vars base items)) ∧ w' = w'') := Lib.hid fun w' hb => right_any vars base items ab ai cb ci av cv aI cI avI cvI w' (hR.below hb) (hI.below hb)
  by_cases hbad : rightE vars base items = false ∨ (rightE vars base items = true ∧ items.length = 0)
  · rcases hbad with hr | ⟨hr, hz⟩
    · rw [hr] at HRt
      clear hR hI hr
      go_enter Try.func5, Try.ntmps5
      go_wp2_with (first
        | (go_at_call 15; (with_reducible refine (HRt.out _ hb1).mono ?_); rintro e w2 ⟨rfl, rfl⟩; have Hd := Lib.hid hb1; clear hb1)
        | (go_at_call 10; (with_reducible refine (awake_any _).mono ?_); rintro e w1 ⟨rfl, hb1⟩)
        | fail)
      go_ret
      exact ⟨rfl, bel_trans Hd.out hb1⟩
    · rw [hr] at HRt
      have hz2 : ((items.length : Int) == 0) = true := by simp [hz]
      clear hR hI hr hz
      go_enter Try.func5, Try.ntmps5
      go_wp2_with (first
        | (go_at_call 15; (with_reducible refine (HRt.out _ hb1).mono ?_); rintro e w2 ⟨rfl, rfl⟩; have Hd := Lib.hid hb1; clear hb1)
        | (go_at_call 10; (with_reducible refine (awake_any _).mono ?_); rintro e w1 ⟨rfl, hb1⟩)
        | fail)
      go_ret
      exact ⟨rfl, bel_trans Hd.out hb1⟩
  · have hr : rightE vars base items = true := by
      cases h : rightE vars base items
      · exact absurd (.inl h) hbad
      · rfl
    have h0 : 0 < items.length := by
      rcases Nat.eq_zero_or_pos items.length with h | h
      · exact absurd (.inr ⟨hr, h⟩) hbad
      · exact h
    obtain ⟨n, rfl, hf⟩ := right_yes hr
    rw [hr] at HRt
    have hil := hf.il
    have hz2 : ((items.length : Int) == 0) = false := by simp; intro h; simp [h] at h0
    obtain ⟨k, hkl, hkd⟩ := row_index which items.length h0 (by omega)
    have hki : (k : Int) < (items.length : Int) := by omega
    obtain ⟨bi, oi, hai, hbi, hcells⟩ := hI.rows h0
    subst hai
    have hck := hcells k hkl
    have HR := Lib.hid hR
    have HI := Lib.hid hI
    have HF := Lib.hid hf
    obtain ⟨iI, hiI, hv0, hv1, hv2⟩ := info_parts (P := Try.prog) (e := 22) (z := .slice none 0 0) (size := 1) (bytes := 24) (by kernel_rfl)
    clear hR hI hr hf hbad hcells h0
    go_enter Try.func5, Try.ntmps5
    go_upto_region 4 with (first
      | (go_at_call 15; (with_reducible refine (HRt.out _ hb1).mono ?_); rintro e w2 ⟨rfl, rfl⟩)
      | (go_at_call 10; (with_reducible refine (awake_any _).mono ?_); rintro e w1 ⟨rfl, hb1⟩)
      | fail)
    rw [hkd]
    have hI1 := HI.out.below hb1
    have hb1d : Below w1.heap.size w1 w1.drew := bel_drewN (Below.refl _ w1) 1
    obtain ⟨au, hau⟩ : ∃ au, au = aI k := ⟨_, rfl⟩
    obtain ⟨lu, hlu⟩ : ∃ lu, lu = items[k].length := ⟨_, rfl⟩
    obtain ⟨cu, hcu⟩ : ∃ cu, cu = cI k := ⟨_, rfl⟩
    have hu : Value.slice au lu cu = Value.slice (aI k) items[k].length (cI k) := by rw [hau, hlu, hcu]
    rw [← hu] at hck
    have HCk : Hid (∀ w', Below w1.heap.size w1 w' → w'.cell? ⟨bi, oi + k, none⟩ = some (.slice au lu cu)) := Lib.hid fun w' hb => (bel_cell (bel_trans hb1 hb) hck).trans hck
    have hA1 : Below w1.heap.size w1 (w1.drew.alloc (.cells #[] 22)) := hb1d.alloc (Nat.le_refl _) _
    have hA2 : Below w1.heap.size w1 (w1.drew.alloc (.cells #[.slice au lu cu, .slice none 0 0] 22)) := hb1d.alloc (Nat.le_refl _) _
    have hA3 : Below w1.heap.size w1 ((w1.drew.alloc (.cells #[] 22)).alloc (.cells #[.slice au lu cu, .slice none 0 0] 22)) := hA1.alloc hA1.size _
    have hA4 : Below w1.heap.size w1 ((w1.drew.alloc (.cells #[.slice au lu cu, .slice none 0 0] 22)).alloc (.cells #[] 22)) := hA2.alloc hA2.size _
    have HAa := Lib.hid hA1
    have HAb := Lib.hid hA3
    have HAc := Lib.hid hA4
    have HA2 := Lib.hid hA2
    have HBd := Lib.hid hb1d
    have HI1 := Lib.hid hI1
    have HVa := Lib.hid (items_vals hI1)
    have hone1 := (items_vals hI1).cell
    have HOa := Lib.hid (show Own (w1.drew.alloc (.cells #[] 22)) 22 1 (.slice (some ⟨w1.heap.size, 0, none⟩) 0 0) 0 [] from Own.made w1.drew 22 1 #[] 0 rfl (by decide))
    have HOb := Lib.hid (HOa.out.alloc (.cells #[.slice au lu cu, .slice none 0 0] 22))
    have HOc := Lib.hid (show Own ((w1.drew.alloc (.cells #[.slice au lu cu, .slice none 0 0] 22)).alloc (.cells #[] 22)) 22 1 (.slice (some ⟨w1.heap.size + 1, 0, none⟩) 0 0) 0 [] by
      have h := Own.made (w1.drew.alloc (.cells #[.slice au lu cu, .slice none 0 0] 22)) 22 1 #[] 0 rfl (by decide)
      rw [show (w1.drew.alloc (.cells #[.slice au lu cu, .slice none 0 0] 22)).heap.size = w1.heap.size + 1 by simp] at h
      exact h)
    have HBb := Lib.hid (show Blk ((w1.drew.alloc (.cells #[] 22)).alloc (.cells #[.slice au lu cu, .slice none 0 0] 22)) (w1.heap.size + 1) 22 #[.slice au lu cu, .slice none 0 0] by
      have h := Blk.new (w1.drew.alloc (.cells #[] 22)) 22 #[.slice au lu cu, .slice none 0 0]
      rw [show (w1.drew.alloc (.cells #[] 22)).heap.size = w1.heap.size + 1 by simp] at h
      exact h)
    have HBc := Lib.hid (show Blk ((w1.drew.alloc (.cells #[.slice au lu cu, .slice none 0 0] 22)).alloc (.cells #[] 22)) w1.heap.size 22 #[.slice au lu cu, .slice none 0 0] from (Blk.new w1.drew 22 #[.slice au lu cu, .slice none 0 0]).alloc _)
    have HU := Lib.hid hu
    have HB1 := Lib.hid hb1
    have tok : True := trivial
    clear hI1 hb1d hck hA1 hA2 hA3 hA4 hu hb1 HRt hau hlu hcu
    go_cut [10] from 43 to 51 (fun s10 wx => ∃ (a : Option Addr) (c : Nat), s10 = .slice a (items.length + 2) c ∧ Hid (ItAt w1 wx a (items.length + 2) c (items ++ [items[k], []])) ∧ Hid (Below w1.heap.size w1 wx))
    case first =>
      go_region_held3 (fun w' => w'.cell? ⟨bi, oi + k, none⟩ = some (.slice au lu cu)) (first | exact HCk.out _ HBd.out | exact HCk.out _ HAa.out | exact HCk.out _ HAb.out | exact HCk.out _ HAc.out | exact HCk.out _ HA2.out | exact HCk.out _ H5.out.2 | exact HCk.out _ (H5.out.2.alloc H5.out.2.size _) | exact HCk.out _ H6.out.2)
        ((first
          | (refine step_append_S _ (by rfl) (.tmp 43) (.tmp 44) _ _ (by rfl) 22 iI _ 1 24 Try.underlying23 hiI hv0 hv1 hv2 rfl (by omega) (.slice (some ⟨w1.heap.size, 0, none⟩) 0 0) 0 [] (by rfl) HOa.out (by simp) (.slice (some ⟨bi, oi, none⟩) items.length ci) items.length (itemVals items aI cI) (by rfl) (items_src (HI1.out.below HAa.out) ci) (by simp only [maxLen]; omega) (by omega) ?_; intro ao5 cap5 w5 hn2 hm2 hown2 hg2 hat2 hlt2; simp only [Nat.zero_add, List.nil_append] at hown2 hat2 hlt2 ⊢
             have H5 := Lib.hid (row_one HAa.out (Nat.le_refl _) HVa.out rfl hown2 hg2 hat2)
             have HO5 := Lib.hid (hown2.alloc (.cells #[.slice au lu cu, .slice none 0 0] 22))
             have HSb := Lib.hid (two_src (Blk.new w5 22 #[.slice au lu cu, .slice none 0 0]) rfl rfl)
             have HBx := Lib.hid (H5.out.2.alloc H5.out.2.size (.cells #[.slice au lu cu, .slice none 0 0] 22))
             have HI5 := Lib.hid (H5.out.1.below ((Below.refl w5.heap.size w5).alloc (Nat.le_refl _) (.cells #[.slice au lu cu, .slice none 0 0] 22)))
             clear hown2 hg2 hat2 hlt2 hn2 hm2)
          | (refine step_append_S _ (by rfl) (.tmp 43) (.tmp 44) _ _ (by rfl) 22 iI _ 1 24 Try.underlying23 hiI hv0 hv1 hv2 rfl (by omega) (.slice (some ⟨w1.heap.size, 0, none⟩) 0 0) 0 [] (by rfl) HOb.out (by simp) (.slice (some ⟨bi, oi, none⟩) items.length ci) items.length (itemVals items aI cI) (by rfl) (items_src (HI1.out.below HAb.out) ci) (by simp only [maxLen]; omega) (by omega) ?_; intro ao5 cap5 w5 hn2 hm2 hown2 hg2 hat2 hlt2; simp only [Nat.zero_add, List.nil_append] at hown2 hat2 hlt2 ⊢
             have H5 := Lib.hid (row_one HAb.out (Nat.le_refl _) HVa.out rfl hown2 hg2 hat2)
             have HO5 := Lib.hid hown2
             have HSb := Lib.hid (two_src (HBb.out.grown hg2 (by simp [Value.ownBlock])) rfl rfl)
             have HBx := Lib.hid H5.out.2
             have HI5 := Lib.hid H5.out.1
             clear hown2 hg2 hat2 hlt2 hn2 hm2)
          | (refine step_append_S _ (by rfl) (.tmp 43) (.tmp 44) _ _ (by rfl) 22 iI _ 1 24 Try.underlying23 hiI hv0 hv1 hv2 rfl (by omega) (.slice (some ⟨w1.heap.size + 1, 0, none⟩) 0 0) 0 [] (by rfl) HOc.out (by simp) (.slice (some ⟨bi, oi, none⟩) items.length ci) items.length (itemVals items aI cI) (by rfl) (items_src (HI1.out.below HAc.out) ci) (by simp only [maxLen]; omega) (by omega) ?_; intro ao5 cap5 w5 hn2 hm2 hown2 hg2 hat2 hlt2; simp only [Nat.zero_add, List.nil_append] at hown2 hat2 hlt2 ⊢
             have H5 := Lib.hid (row_one HAc.out (Nat.le_succ _) HVa.out rfl hown2 hg2 hat2)
             have HO5 := Lib.hid hown2
             have HSb := Lib.hid (two_src (HBc.out.grown hg2 (by simp [Value.ownBlock])) rfl rfl)
             have HBx := Lib.hid H5.out.2
             have HI5 := Lib.hid H5.out.1
             clear hown2 hg2 hat2 hlt2 hn2 hm2)
          | (refine step_append_S _ (by rfl) (.tmp 45) (.tmp 50) _ _ (by rfl) 22 iI _ 1 24 Try.underlying23 hiI hv0 hv1 hv2 rfl (by omega) (.slice ao5 items.length cap5) items.length (itemVals items aI cI) (by rfl) HO5.out hone1 _ 2 [.slice au lu cu, .slice none 0 0] (by rfl) HSb.out (by simp only [maxLen]; omega) (by omega) ?_; intro ao6 cap6 w6 hn2 hm2 hown2 hg2 hat2 hlt2
             rw [HU.out] at hown2
             have H6 := Lib.hid (row_two HI1.out hkl HI5.out HBx.out hown2 hg2 hat2)
             clear hown2 hg2 hat2 hlt2 hn2 hm2)))
      all_goals
        go_wp2_with fail
        go_meet
        case rel => exact ⟨ao6, cap6, rfl, Lib.hid H6.out.1, Lib.hid H6.out.2⟩
    case rest =>
      obtain ⟨aw, cw, rfl, HW, HBw⟩ := hcut
      obtain ⟨w2, rfl⟩ : ∃ w2, w2 = wc := ⟨_, rfl⟩
      have hf := HF.out
      obtain ⟨W, hW⟩ : ∃ W, W = items ++ [items[k], []] := ⟨_, rfl⟩
      have hWl : W.length = items.length + 2 := by rw [hW]; simp
      have hWm : ∀ it ∈ W, it ∈ items ∨ it = [] := fun it hit => by
        rw [hW] at hit
        rcases List.mem_append.1 hit with h | h
        · exact .inl h
        · rcases List.mem_cons.1 h with h | h
          · exact .inl (h ▸ List.getElem_mem _)
          · exact .inr (List.mem_singleton.1 h)
      have hkW : KnownAll n base W := known_mem.2 ⟨hf.known.1, fun it hit => by
        rcases hWm it hit with h | rfl
        · exact (known_mem.1 hf.known).2 it h
        · rfl⟩
      have hokW : ItOk n base W := it_ok (M := 20) (by have := hf.n9; omega) (by rw [hWl]; omega) (by rw [hWl]; have := hf.bl; omega) (fun c hc => Nat.le_trans (hf.br c hc) (by decide)) fun it hit => by
        rcases hWm it hit with h | rfl
        · exact ⟨(hf.ir it h).1, fun c hc => Nat.le_trans ((hf.ir it h).2 c hc) (by decide)⟩
        · exact ⟨Nat.zero_le _, fun c hc => by cases hc⟩
      have hbw2 := bel_trans HB1.out HBw.out
      obtain ⟨aJ, cJ, avJ, cvJ, hJ⟩ := HW.out.items HBw.out
      rw [← hW] at hJ
      obtain ⟨N, hN⟩ : ∃ N, N = items.length + 2 := ⟨_, rfl⟩
      rw [← hN] at hWl ⊢
      have HB2 := Lib.hid hbw2
      have HJ := Lib.hid hJ
      have HWl := Lib.hid hWl
      have HNN := Lib.hid hN
      cases hy : (solveE n (allE base W (everyS W))).yes with
      | true =>
        have h := full_yes (cb := cb) (ci := cw) hokW hkW (HR.out.below hbw2) hJ hy
        unfold GotYes at h
        rw [hWl] at h
        have HLe := Lib.hid h
        clear hf hW hWl hWm hkW hokW hbw2 hJ hy h hN HW HBw
        go_wp2_with (first
          | (go_at_call 12; (with_reducible refine HLe.out.mono ?_); rintro e w3 ⟨hb3, a3, c3, s3, rfl⟩)
          | fail)
        go_ret
        exact ⟨rfl, bel_trans HB2.out hb3⟩
      | false =>
        obtain ⟨q, hq⟩ : ∃ q, q = kept n base W := ⟨_, rfl⟩
        obtain ⟨m, hm⟩ : ∃ m, m = q.length := ⟨_, rfl⟩
        have h := full_no (cb := cb) (ci := cw) hokW hkW (HR.out.below hbw2) hJ hy
        unfold GotNo at h
        rw [hWl, ← hq, ← hm] at h
        have HLe := Lib.hid h
        have hgk : W.getD k [] = items[k] := by rw [hW, List.getD_eq_getElem?_getD, List.getElem?_append_left hkl]; simp [hkl]
        have hgc : W.getD items.length [] = items[k] := by rw [hW]; simp [List.getD_eq_getElem?_getD]
        have hgl : W.getD (items.length + 1) [] = [] := by rw [hW]; simp [List.getD_eq_getElem?_getD]
        have hqx : ∀ x ∈ q, x < N ∧ x ≠ k ∧ x + 1 ≠ N ∧ ∀ h : x < W.length, W[x].length ≠ 0 := fun x hx => by
          rw [hq] at hx
          have hxl := kept_lt x hx
          refine ⟨by omega, fun e => ?_, fun e => ?_, fun hxW e => ?_⟩
          · subst e
            exact not_kept hkW hy (fun c hc => ⟨items.length, hkl, by omega, by rw [hgc, ← hgk]; exact hc⟩) hx
          · have e2 : x = items.length + 1 := by omega
            subst e2
            exact not_kept hkW hy (fun c hc => by rw [hgl] at hc; cases hc) hx
          · refine not_kept hkW hy (fun c hc => ?_) hx
            rw [List.getD_eq_getElem?_getD, List.getElem?_eq_getElem hxW] at hc
            have e2 : W[x] = [] := List.eq_nil_of_length_eq_zero e
            rw [show ((some W[x] : Option (List (List Int))).getD []) = W[x] from rfl, e2] at hc
            cases hc
        have HQx := Lib.hid hqx
        have HMq := Lib.hid hm
        have hN26 : N ≤ 26 := by omega
        have hmN : m ≤ N := by
          rw [hm, hq, ← hWl]
          exact kept_len
        clear hf hW hWl hWm hkW hokW hbw2 hJ hy h hN hq hm hgk hgc hgl hqx HW HBw
        go_upto_region 6 with (first
          | (go_at_call 12; (with_reducible refine HLe.out.mono ?_); rintro e w3 ⟨hb3, a3, c3, s3, rfl, hi3⟩)
          | fail)
        have HB3 := Lib.hid (bel_trans HB2.out hb3)
        have HI3 := Lib.hid hi3
        have HJ3 := Lib.hid (HJ.out.below hb3)
        clear hb3 hi3 HLe HJ
        go_wp2_with fail
        go_loop [14] (fun i => ∃ j : Nat, j ≤ m ∧ i = .int .i64 j) (fun i => m - (intOf i).toNat)
        case atStart => exact ⟨0, by omega, rfl⟩
        case round =>
          obtain ⟨j, hj, rfl⟩ := hrel
          by_cases hjt : j < m
          · have hji : (j : Int) < (m : Int) := by omega
            have hjq : j < q.length := by rw [← HMq.out]; exact hjt
            obtain ⟨bl, ol, rfl, hlc⟩ := nats_cell HI3.out hjq
            have hcj := hlc j hjq
            obtain ⟨x1, x2, x3, x4⟩ := HQx.out _ (List.getElem_mem hjq)
            generalize q[j] = x at *
            have hxW : x < W.length := by rw [HWl.out]; exact x1
            obtain ⟨b4, o4, rfl, _, hcells⟩ := HJ3.out.rows (by omega)
            have hcx := hcells x hxW
            have hlx := x4 hxW
            obtain ⟨lx, hlxe⟩ : ∃ lx, lx = W[x].length := ⟨_, rfl⟩
            rw [← hlxe] at hcx hlx
            have hxi : (x : Int) < (N : Int) := by omega
            have hd0 : ((x : Int) == (k : Int)) = false := by simp; omega
            have hd1 : ((x : Int) == (N : Int) - 1) = false := by simp; omega
            have hd2 : decide ((x : Int) < 0) = false := by simp
            have hd3 : decide ((N : Int) ≤ (x : Int)) = false := by simp; omega
            have hd4 : decide (N ≤ x) = false := by simp; omega
            have hd5 : ((lx : Int) == 0) = false := by simp; omega
            clear hlc hcells hjq x1 x2 x3 x4 hxW hlx hlxe
            go_wp2_with fail
            go_round
            case rel => exact ⟨j + 1, by omega, by go_num⟩
            case measure => simp [intOf]; omega
          · obtain rfl : j = m := by omega
            go_upto_region 13 with fail
            have hI3 := HI.out.below HB3.out
            have HS3 := Lib.hid (items_src (hI3.below ((Below.refl w3.heap.size w3).alloc (Nat.le_refl _) (.cells #[] 22))) ci)
            have HV3 := Lib.hid (items_vals hI3)
            have HA0 := Lib.hid (show Below w3.heap.size w3 (w3.alloc (.cells #[] 22)) from (Below.refl _ _).alloc (Nat.le_refl _) _)
            clear HQx HMq HJ3 HI3 HCk HAa HAb HAc HA2 HBd HI1 HVa HOa HOb HOc HBb HBc HU hI3 HWl HNN
            go_upto_region 14 with (first
              | (at_builtin; (refine wpList_append_S _ rfl (.tmp 113) (.tmp 114) _ _ rfl 22 iI _ 1 24 Try.underlying23 hiI hv0 hv1 hv2 rfl (by omega) (.slice (some ⟨w3.heap.size, 0, none⟩) 0 0) 0 [] rfl (Own.made w3 22 1 #[] 0 rfl (by simp)) (by simp) (.slice (some ⟨bi, oi, none⟩) items.length ci) items.length (itemVals items aI cI) rfl HS3.out (by simp only [maxLen]; omega) (by omega) ?_); intro ao5 cap5 w5 hn5 hm5 hown5 hg5 hat5 hlt5; simp only [Nat.zero_add, List.nil_append] at hown5 hat5 hlt5 ⊢
                 have H5 := Lib.hid (row_one HA0.out (Nat.le_refl _) HV3.out rfl hown5 hg5 hat5)
                 have HO5 := Lib.hid (((hown5.alloc (.cells #[] 3)).alloc (.cells #[.slice (some ⟨w5.heap.size, 0, none⟩) 0 0] 26)).alloc (.cells #[.slice (some ⟨w5.heap.size + 1, 0, none⟩) 1 1] 22))
                 have HS5 := Lib.hid (show Src Try.prog 1 23 (.slice (some ⟨w5.heap.size + 1 + 1, 0, none⟩) 1 1) 1 [.slice (some ⟨w5.heap.size + 1, 0, none⟩) 1 1] (((w5.alloc (.cells #[] 3)).alloc (.cells #[.slice (some ⟨w5.heap.size, 0, none⟩) 0 0] 26)).alloc (.cells #[.slice (some ⟨w5.heap.size + 1, 0, none⟩) 1 1] 22)) by
                   have h := src_new (P := Try.prog) ((w5.alloc (.cells #[] 3)).alloc (.cells #[.slice (some ⟨w5.heap.size, 0, none⟩) 0 0] 26)) Try.underlying23 22 (.slice (some ⟨w5.heap.size + 1, 0, none⟩) 1 1) rfl
                   rw [show ((w5.alloc (.cells #[] 3)).alloc (.cells #[.slice (some ⟨w5.heap.size, 0, none⟩) 0 0] 26)).heap.size = w5.heap.size + 1 + 1 by simp] at h
                   exact h)
                 have HLt := Lib.hid (show ∀ k, (Value.slice ao5 items.length cap5).ownBlock = some k → k < w5.heap.size from hown5.lt)
                 clear hn5 hm5 hown5 hg5 hat5 hlt5)
              | (at_builtin; go_loud (refine wpList_append_S _ rfl (.tmp 115) (.tmp 118) _ _ rfl 22 iI _ 1 24 Try.underlying23 hiI hv0 hv1 hv2 rfl (by omega) (.slice ao5 items.length cap5) items.length (itemVals items aI cI) rfl HO5.out hone1 (.slice (some ⟨w5.heap.size + 1 + 1, 0, none⟩) 1 1) 1 [.slice (some ⟨w5.heap.size + 1, 0, none⟩) 1 1] rfl HS5.out (by simp only [maxLen]; omega) (by omega) ?_); intro ao6 cap6 w6 hn6 hm6 hown6 hg6 hat6 hlt6
                 have H6 := Lib.hid (show _ ∧ _ from ⟨hown6, hg6⟩)
                 clear hn6 hm6 hown6 hg6 hat6 hlt6)
              | fail)
            have hb36 : Below w3.heap.size w3 w6 := by
              have h5 := H5.out.2
              have ha := h5.alloc h5.size (.cells #[] 3)
              have hb := ha.alloc ha.size (.cells #[.slice (some ⟨w5.heap.size, 0, none⟩) 0 0] 26)
              have hc := hb.alloc hb.size (.cells #[.slice (some ⟨w5.heap.size + 1, 0, none⟩) 1 1] 22)
              exact hc.grown H6.out.2 hc.size fun k e => H5.out.1.new k e
            obtain ⟨av6, cv6, hr6⟩ := nil_item H6.out.2 HLt.out
            obtain ⟨aK, cK, avK, cvK, hK6⟩ := items_at H6.out.1 (ItemsV.append (HV3.out.below hb36) (ItemsV.one (it := [[]]) (c := 1) hr6)) (show items.length + 1 = (items ++ [[[]]]).length by simp)
            have hf := HF.out
            have hbw6 := bel_trans HB3.out hb36
            have hVm : ∀ it ∈ items ++ [[[]]], it ∈ items ∨ it = [[]] := fun it hit => by
              rcases List.mem_append.1 hit with h | h
              · exact .inl h
              · exact .inr (List.mem_singleton.1 h)
            have hVl : (items ++ [[[]]] : List (List (List Int))).length = items.length + 1 := by simp
            have hkV : KnownAll n base (items ++ [[[]]]) := known_mem.2 ⟨hf.known.1, fun it hit => by
              rcases hVm it hit with h | rfl
              · exact (known_mem.1 hf.known).2 it h
              · rfl⟩
            have hokV : ItOk n base (items ++ [[[]]]) := it_ok (M := 20) (by have := hf.n9; omega) (by rw [hVl]; omega) (by rw [hVl]; have := hf.bl; omega) (fun c hc => Nat.le_trans (hf.br c hc) (by decide)) fun it hit => by
              rcases hVm it hit with h | rfl
              · exact ⟨(hf.ir it h).1, fun c hc => Nat.le_trans ((hf.ir it h).2 c hc) (by decide)⟩
              · exact ⟨by decide, fun c hc => by rw [List.mem_singleton.1 hc]; exact Nat.zero_le _⟩
            have h := full_no (cb := cb) (ci := cap6) hokV hkV (HR.out.below hbw6) hK6 (never_yes hkV)
            rw [never_kept hkV] at h
            unfold GotNo at h
            rw [hVl] at h
            obtain ⟨N1, hN1⟩ : ∃ N1, N1 = items.length + 1 := ⟨_, rfl⟩
            rw [← hN1] at h ⊢
            have hN1i : (N1 : Int) - 1 = (items.length : Int) := by omega
            obtain ⟨y, hy⟩ : ∃ y, y = (solveE n base).yes := ⟨_, rfl⟩
            rw [← hy] at h
            have he := enough_bounds2 n (by have := hf.n9; omega)
            have hkb : base.all (knownS n) = true := hf.known.1
            have hst : ((solveE n base).steps : Int) ≤ enoughE n := by
              rcases solve_steps n hkb with h | h
              · exact h
              · have := hf.n9
                omega
            obtain ⟨E, hE⟩ : ∃ E, E = enoughE n := ⟨_, rfl⟩
            rw [← hE] at he hst
            have HEn := Lib.hid (fun w' : World => show Calls Try.prog 18 #[.int .i64 n] w' fun e w'' => e = .returned (.int .i64 E) ∧ w' = w'' by rw [hE]; exact senough_any n (by have := hf.n9; omega) w')
            have HSo : Hid (∀ w', Below w.heap.size w w' → Calls Try.prog 17 #[.int .i64 n, .slice ab base.length cb, .int .i64 E] w' fun e w'' => Below w'.heap.size w' w'' ∧ ∃ a1 m1 c1 t a2 m2 c2 a3 m3 c3, e = .returned (.tuple #[.agg #[.bool y, .slice a1 m1 c1, .int .i64 t, .slice a2 m2 c2, .slice a3 m3 c3], .int .i64 0])) := Lib.hid fun w' hb => (solve_good (by have := hf.n9; omega) (HR.out.below hb) (by have := hf.bl; omega) (fun c hc => Nat.le_trans (hf.br c hc) (by decide)) hkb E ⟨hst, he.2⟩).mono fun e w'' ⟨h1, a1, c1, a2, c2, a3, c3, h2, _⟩ => ⟨h1, a1, (solveE n base).state.length, c1, ((solveE n base).steps : Int), a2, (solveE n base).bonds.length, c2, a3, (solveE n base).last.length, c3, by rw [hy]; exact h2⟩
            have HLe := Lib.hid h
            have HB6 := Lib.hid hbw6
            have HN1i := Lib.hid hN1i
            have hN1s : N1 ≤ 25 := by omega
            clear hb36 hr6 hK6 hf hbw6 hVm hVl hkV hokV h hN1 hN1i hy he hkb hst hE H5 H6 HO5 HS5 HLt HV3 HS3 HA0 hone1
            cases y with
            | true =>
              rw [if_pos rfl, show [items.length].length = 1 from rfl, show natsE [items.length] = [(items.length : Int)] from rfl, ← HN1i.out] at HLe
              go_upto_region 18 with (first
                | (go_at_call 12; (with_reducible refine HLe.out.mono ?_); rintro e w7 ⟨hb7, a7, c7, s7, rfl, hi7⟩; have HB7 := Lib.hid (bel_trans HB6.out hb7))
                | (go_at_call 18; (with_reducible refine (HEn.out _).mono ?_); rintro e w8 ⟨rfl, rfl⟩)
                | (go_at_call 17; (with_reducible refine (HSo.out _ HB7.out).mono ?_); rintro e w8 ⟨hb8, d1, m1, f1, t1, d2, m2, f2, d3, m3, f3, rfl⟩)
                | fail)
              obtain ⟨w9, hw9, hb9, hk9⟩ := ans_new w8 #[.bool true, .slice d1 m1 f1, .int .i64 t1, .slice d2 m2 f2, .slice d3 m3 f3]
              rw [← hw9]
              obtain ⟨g9, hg9⟩ : ∃ g9, g9 = w8.heap.size := ⟨_, rfl⟩
              rw [← hg9] at hk9 ⊢
              have p0 : w9.cell? ⟨g9, 0, none⟩ = some (.bool true) := hk9 w9 (Below.refl _ _) 0
              have hb79 := bel_trans hb8 hb9
              have HNu : Hid (Calls Try.prog 14 #[.slice a7 1 c7, .slice (some ⟨w9.heap.size, 0, none⟩) 1 1] (w9.alloc (.cells #[.int .i64 ((N1 : Int) - 1)] 3)) fun e w'' => e = .returned (.bool true) ∧ Below w9.heap.size w9 w'') := Lib.hid (by
                have h := num_at (c := c7) hi7 hb79 (by simp) [(N1 : Int) - 1]
                rw [decide_eq_true rfl] at h
                exact h)
              have HB9 := Lib.hid (bel_trans HB7.out hb79)
              clear hw9 hk9 hg9 hb8 hb9 hb79 hi7 hb7
              go_wp2_with (first
                | (go_at_call 14; (with_reducible refine HNu.out.mono ?_); rintro e wz ⟨rfl, hbz⟩)
                | fail)
              go_ret
              exact ⟨rfl, bel_trans HB9.out hbz⟩
            | false =>
              rw [if_neg (by decide), show ([] : List Nat).length = 0 from rfl] at HLe
              go_upto_region 18 with (first
                | (go_at_call 12; (with_reducible refine HLe.out.mono ?_); rintro e w7 ⟨hb7, a7, c7, s7, rfl, hi7⟩; have HB7 := Lib.hid (bel_trans HB6.out hb7))
                | (go_at_call 18; (with_reducible refine (HEn.out _).mono ?_); rintro e w8 ⟨rfl, rfl⟩)
                | (go_at_call 17; (with_reducible refine (HSo.out _ HB7.out).mono ?_); rintro e w8 ⟨hb8, d1, m1, f1, t1, d2, m2, f2, d3, m3, f3, rfl⟩)
                | fail)
              obtain ⟨w9, hw9, hb9, hk9⟩ := ans_new w8 #[.bool false, .slice d1 m1 f1, .int .i64 t1, .slice d2 m2 f2, .slice d3 m3 f3]
              rw [← hw9]
              obtain ⟨g9, hg9⟩ : ∃ g9, g9 = w8.heap.size := ⟨_, rfl⟩
              rw [← hg9] at hk9 ⊢
              have p0 : w9.cell? ⟨g9, 0, none⟩ = some (.bool false) := hk9 w9 (Below.refl _ _) 0
              have HB9 := Lib.hid (bel_trans HB7.out (bel_trans hb8 hb9))
              clear hw9 hk9 hg9 hb8 hb9 hi7 hb7
              go_wp2_with fail
              go_ret
              exact ⟨rfl, HB9.out⟩

end Go.Proofs.Ythinopiobihmaaa
