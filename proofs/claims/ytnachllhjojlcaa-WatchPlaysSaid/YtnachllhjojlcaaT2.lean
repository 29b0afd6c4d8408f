/- Contracts of package trail: open, and what a variable reads. -/
import Derived.Test.YtnachllhjojlcaaT1
namespace Go.Proofs.Ytnachllhjojlcaa
open Go.ChangeShapes Go.WideShapes Go.ChangeAt Go.RowKit
set_option maxRecDepth 100000

theorem knC_len (l : List Kn) : (knC l).length = 3 * l.length := by
  induction l with
  | nil => rfl
  | cons a l ih => simp [knC, Kn.cells] at ih ⊢; omega

theorem knC_get (l : List Kn) : ∀ (i : Nat) (h : i < l.length), (knC l)[i * 3]? = some (.int .i64 l[i].value) ∧ (knC l)[i * 3 + 1]? = some (.int .i64 l[i].level) ∧ (knC l)[i * 3 + 2]? = some (.int .i64 l[i].reason) := by
  induction l with
  | nil => intro i h; exact absurd h (by simp)
  | cons a l ih =>
    intro i h
    have he : knC (a :: l) = .int .i64 a.value :: .int .i64 a.level :: .int .i64 a.reason :: knC l := rfl
    rw [he]
    cases i with
    | zero => exact ⟨rfl, rfl, rfl⟩
    | succ i =>
      obtain ⟨h1, h2, h3⟩ := ih i (by simpa using h)
      have e : (i + 1) * 3 = i * 3 + 1 + 1 + 1 := by omega
      rw [e]
      simp only [List.getElem?_cons_succ, List.getElem_cons_succ]
      exact ⟨h1, h2, h3⟩

def knAt (T : TrD) (v : Int) : Kn := T.vars.getD v.toNat ⟨0, -1, -1⟩

/-- What a variable's cells hold. -/
theorem IsT.at_ {w : World} {g : Nat} {a b c : Value} {T : TrD} (h : IsT w g a b c T) (i : Nat) (hi : i < T.vars.length) :
    ∃ bl off cap, a = .slice (some ⟨bl, off, none⟩) T.vars.length cap ∧ w.cell? ⟨bl, off + i * 3, none⟩ = some (.int .i64 (knAt T i).value) ∧ w.cell? ⟨bl, off + i * 3 + 1, none⟩ = some (.int .i64 (knAt T i).level) ∧
      w.cell? ⟨bl, off + i * 3 + 2, none⟩ = some (.int .i64 (knAt T i).reason) ∧ (∀ j, w.frozen? ⟨bl, j, none⟩ = false) ∧ bl < w.heap.size := by
  obtain ⟨ao, cap, rfl, _, _, hf⟩ := h.vars.form
  obtain ⟨bl, off, rfl, hc, hfr, hbl⟩ := hf (by omega)
  have hk : knAt T i = T.vars[i] := by simp [knAt, List.getD, hi]
  obtain ⟨h1, h2, h3⟩ := knC_get T.vars i hi
  rw [← hk] at h1 h2 h3
  have hl := knC_len T.vars
  refine ⟨bl, off, cap, rfl, ?_, ?_, ?_, ?_⟩
  · rw [hc (i * 3) (by omega)]; exact h1
  · rw [Nat.add_assoc, hc (i * 3 + 1) (by omega)]; exact h2
  · rw [Nat.add_assoc, hc (i * 3 + 2) (by omega)]; exact h3
  · exact ⟨hfr, hbl⟩

def openE (T : TrD) (lit : Int) : Int := if varN T.vars.length lit < 0 then 1 else if (knAt T (varN T.vars.length lit)).value ≠ 0 then 7 else 0

theorem varN_lt (n : Nat) (lit : Int) : varN n lit < n ∧ -1 ≤ varN n lit := by
  unfold varN
  split
  · omega
  · split <;> split <;> omega

theorem open_any (g : Nat) (a b c : Value) (T : TrD) (lit : Int) (w : World) (hT : IsT w g a b c T) (hn : T.vars.length ≤ 140737488351232) (h1 : -9223372036854775808 ≤ lit) (h2 : lit ≤ 9223372036854775807) :
    Calls Try.prog 53 #[.pointer (some ⟨g, 0, none⟩), .int .i64 lit] w fun e w' => e = .returned (.int .i64 (openE T lit)) ∧ w = w' := by
  obtain ⟨ao, cap, rfl, _, _, _⟩ := hT.vars.form
  have hc0 := hT.blk.cell 0
  simp at hc0
  have HV := Lib.hid (variable_any g ao T.vars.length cap b c lit w hT.blk hn h1 h2)
  obtain ⟨hv1, hv2⟩ := varN_lt T.vars.length lit
  unfold openE
  generalize varN T.vars.length lit = v at *
  go_enter Try.func53, Try.ntmps53
  by_cases hv : v < 0
  · rw [if_pos hv]
    go_wp2_with (go_at_call 55; refine HV.out.mono ?_; rintro e w' ⟨rfl, rfl⟩)
    go_ret
    exact ⟨rfl, rfl⟩
  · rw [if_neg hv]
    obtain ⟨i, rfl⟩ := Int.eq_ofNat_of_zero_le (by omega : 0 ≤ v)
    obtain ⟨bl, off, cap', e, hcv, _, _, _⟩ := hT.at_ i (by omega)
    cases e
    have hv' : decide ((i : Int) < 0) = false := by simp
    have hi : (i : Int) < (T.vars.length : Int) := by omega
    by_cases hz : (knAt T i).value ≠ 0
    · rw [if_pos hz]
      have hz' : ((knAt T i).value == 0) = false := by simpa using hz
      go_wp2_with (go_at_call 55; refine HV.out.mono ?_; rintro e w' ⟨rfl, rfl⟩)
      go_ret
      exact ⟨rfl, rfl⟩
    · rw [if_neg hz]
      have hz' : ((knAt T i).value == 0) = true := by simpa using hz
      go_wp2_with (go_at_call 55; refine HV.out.mono ?_; rintro e w' ⟨rfl, rfl⟩)
      go_ret
      exact ⟨rfl, rfl⟩

end Go.Proofs.Ytnachllhjojlcaa
