/- A watcher's contracts: Clause, Trail, and nobody's. -/
import Derived.Test.YtnachllhjojlcaaV14
namespace Go.Proofs.Ytnachllhjojlcaa
open Go.ChangeShapes Go.WideShapes Go.ChangeAt Go.RowKit Go.Maps Go.Deep
set_option maxRecDepth 100000

/-- The clause that is told. -/
def clauseS (S : WS) (n : Int) : List Int := if n < 0 then [] else S.cl.getD n.toNat []
/-- Numbers in memory of their own. -/
def NewInts (w w' : World) (v : Value) (l : List Int) : Prop := Own w' 3 1 v l.length (inC l) ∧ Below w.heap.size w w' ∧ ∀ k, v.ownBlock = some k → w.heap.size ≤ k
theorem newNone (w : World) : NewInts w w (.slice none 0 0) [] := ⟨Own.nil _ _ _, Below.refl _ _, fun k hk => by simp [Value.ownBlock] at hk⟩

section
variable {w : World} {M : WM} {S : WS}

theorem wclause (h : WAt w M S) (hcl : S.cl.length ≤ 1000000) (hc : ∀ c ∈ S.cl, c.length ≤ 5000) (n : Int) :
    Calls Try.prog 27 #[.pointer (some ⟨M.x, 0, none⟩), .int .i64 n] w fun e w' => ∃ v, e = .returned v ∧ NewInts w w' v (clauseS S n) := by
  obtain ⟨_, c1, _⟩ := h.cells
  have ho : Own w 23 1 M.vC S.cl.length (rowV S.cl.length M.C) := h.part .cls
  obtain ⟨ao, cap, e1, _, _, hf⟩ := ho.form
  rw [e1] at c1
  unfold clauseS
  by_cases h0 : n < 0
  · rw [if_pos h0]
    have hd : decide (n < 0) = true := by simpa using h0
    clear h ho e1 hf
    go_enter Try.func27, Try.ntmps27
    go_wp2_with fail
    go_ret
    exact ⟨_, rfl, newNone w⟩
  · rw [if_neg h0]
    obtain ⟨k, rfl⟩ := Int.eq_ofNat_of_zero_le (by omega : 0 ≤ n)
    rw [Int.toNat_natCast]
    by_cases hk : k < S.cl.length
    · obtain ⟨b, off, rfl, hcc, _, _⟩ := hf (by omega)
      have hcell := hcc k (by rw [rowV_len]; exact hk)
      rw [rowV_get _ _ _ hk] at hcell
      have hoK : Own w 3 1 (M.C k) (S.cl.getD k []).length (inC (S.cl.getD k [])) := h.part (.cl k) hk
      have hlen : (S.cl.getD k []).length ≤ 5000 := by
        rw [List.getD_eq_getElem?_getD, List.getElem?_eq_getElem hk]
        exact hc _ (List.getElem_mem hk)
      generalize S.cl.getD k [] = c at *
      obtain ⟨aoK, capK, eK, hiK⟩ := hoK.ints
      rw [eK] at hcell
      have HC := Lib.hid (cloneR_any aoK c capK w hiK hlen)
      have hki : (k : Int) < (S.cl.length : Int) := by omega
      have hki2 : ¬ (S.cl.length : Int) ≤ (k : Int) := by omega
      clear h ho e1 hf hcc hoK eK hiK hc h0
      go_enter Try.func27, Try.ntmps27
      go_wp2_with (go_at_call 41; (with_reducible refine HC.out.mono ?_); rintro e w' ⟨v, rfl, o1, o2, o3⟩; have HN := Lib.hid (show NewInts w w' v c from ⟨o1, o2, o3⟩); clear o1 o2 o3)
      go_ret
      exact ⟨_, rfl, HN.out⟩
    · have hg : S.cl.getD k [] = [] := by rw [List.getD_eq_getElem?_getD, List.getElem?_eq_none (by omega)]; rfl
      rw [hg]
      have hki : (S.cl.length : Int) ≤ (k : Int) := by omega
      clear h ho e1 hf hg h0
      go_enter Try.func27, Try.ntmps27
      go_wp2_with fail
      go_ret
      exact ⟨_, rfl, newNone w⟩

theorem wtrail (h : WAt w M S) (hg : Good S.n S.es) (hn : S.n ≤ 5000) :
    Calls Try.prog 31 #[.pointer (some ⟨M.x, 0, none⟩)] w fun e w' => ∃ g', e = .returned (.pointer (some ⟨g', 0, none⟩)) ∧ Below w.heap.size w w' ∧ ∃ F', TrA w' F' g' (trE S.n S.es) ∧ ∀ k, F' k → w.heap.size ≤ k := by
  have hl := hg.len_le
  have hT : TrA w M.F M.g (trE S.n S.es) := h.part .trail
  have HV := Lib.hid (copy_any M.F M.g (trE S.n S.es) w hT (by show (varsE S.n S.es).length ≤ 5000; rw [varsE_len]; exact hn) (by simp [trE]; omega) (by have h1 := begs_len hg; have h2 := hi_le_len hg; show (begs S.es).length ≤ 5000; omega))
  obtain ⟨c0, _⟩ := h.cells
  clear h hT
  go_enter Try.func31, Try.ntmps31
  go_wp2_with (go_at_call 52; (with_reducible refine HV.out.mono ?_); rintro e w' ⟨g', rfl, hr⟩; have HN := Lib.hid hr; clear hr)
  go_ret
  exact ⟨_, rfl, HN.out⟩

theorem wadd_nil (c : Value) : Calls Try.prog 12 #[.pointer none, c] w fun e w' => e = .returned (.tuple #[.int .i64 0, .int .i64 2]) ∧ Below w.heap.size w w' := by
  have hbW : Below w.heap.size w (w.alloc (.cells #[.pointer none] 25)) := (Below.refl _ _).alloc (Nat.le_refl _) _
  go_enter Try.func12, Try.ntmps12
  go_wp2_with fail
  go_ret2
  exact ⟨rfl, hbW⟩
theorem wback_nil (l : Int) : Calls Try.prog 20 #[.pointer none, .int .i64 l] w fun e w' => e = .returned (.int .i64 2) ∧ w = w' := by
  go_enter Try.func20, Try.ntmps20
  go_wp2_with fail
  go_ret
  exact ⟨rfl, rfl⟩
theorem wprop_nil : Calls Try.prog 14 #[.pointer none] w fun e w' => e = .returned (.int .i64 (-1)) ∧ w = w' := by
  go_enter Try.func14, Try.ntmps14
  go_wp2_with fail
  go_ret
  exact ⟨rfl, rfl⟩
theorem wclause_nil (n : Int) : Calls Try.prog 27 #[.pointer none, .int .i64 n] w fun e w' => e = .returned (.slice none 0 0) ∧ w = w' := by
  go_enter Try.func27, Try.ntmps27
  go_wp2_with fail
  go_ret
  exact ⟨rfl, rfl⟩
theorem wtrail_nil : Calls Try.prog 31 #[.pointer none] w fun e w' => e = .returned (.pointer none) ∧ w = w' := by
  go_enter Try.func31, Try.ntmps31
  go_wp2_with fail
  go_ret
  exact ⟨rfl, rfl⟩
end

end Go.Proofs.Ytnachllhjojlcaa
