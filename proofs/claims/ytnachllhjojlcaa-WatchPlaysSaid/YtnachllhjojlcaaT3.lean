/- Contracts of package trail: what is told. -/
import Derived.Test.YtnachllhjojlcaaT2
namespace Go.Proofs.Ytnachllhjojlcaa
open Go.ChangeShapes Go.WideShapes Go.ChangeAt Go.RowKit
set_option maxRecDepth 100000

def valT (T : TrD) (lit : Int) : Int := if varN T.vars.length lit < 0 then 0 else if lit < 0 then -(knAt T (varN T.vars.length lit)).value else (knAt T (varN T.vars.length lit)).value

theorem value_any (g : Nat) (a b c : Value) (T : TrD) (lit : Int) (w : World) (hT : IsT w g a b c T) (hn : T.vars.length ≤ 140737488351232) (h1 : -9223372036854775808 ≤ lit) (h2 : lit ≤ 9223372036854775807) (hx : ∀ v, -1 ≤ (knAt T v).value ∧ (knAt T v).value ≤ 1) :
    Calls Try.prog 46 #[.pointer (some ⟨g, 0, none⟩), .int .i64 lit] w fun e w' => e = .returned (.int .i64 (valT T lit)) ∧ w = w' := by
  obtain ⟨ao, cap, rfl, _, _, _⟩ := hT.vars.form
  have hc0 := hT.blk.cell 0
  simp at hc0
  have HV := Lib.hid (variable_any g ao T.vars.length cap b c lit w hT.blk hn h1 h2)
  obtain ⟨hv1, hv2⟩ := varN_lt T.vars.length lit
  unfold valT
  generalize varN T.vars.length lit = v at *
  go_enter Try.func46, Try.ntmps46
  by_cases hv : v < 0
  · rw [if_pos hv]
    go_wp2_with (go_at_call 55; refine HV.out.mono ?_; rintro e w' ⟨rfl, rfl⟩)
    go_ret
    exact ⟨rfl, rfl⟩
  · rw [if_neg hv]
    obtain ⟨i, rfl⟩ := Int.eq_ofNat_of_zero_le (by omega : 0 ≤ v)
    obtain ⟨bl, off, cap', e, hcv, _, _, _⟩ := hT.at_ i (by omega)
    cases e
    have hv' : decide ((i : Int) < 0) = false := by simp
    have hi : (i : Int) < (T.vars.length : Int) := by omega
    obtain ⟨hx1, hx2⟩ := hx i
    generalize (knAt T i).value = x at *
    have hwx : IntKind.i64.wrap (-x) = -x := by rw [IntKind.wrap_i64]; omega
    by_cases hz : lit < 0
    · rw [if_pos hz]
      go_wp2_with (go_at_call 55; refine HV.out.mono ?_; rintro e w' ⟨rfl, rfl⟩)
      go_ret
      exact ⟨rfl, rfl⟩
    · rw [if_neg hz]
      have hz' : decide (lit < 0) = false := by simpa using hz
      go_wp2_with (go_at_call 55; refine HV.out.mono ?_; rintro e w' ⟨rfl, rfl⟩)
      go_ret
      exact ⟨rfl, rfl⟩

theorem value_nil (lit : Int) (w : World) : Calls Try.prog 46 #[.pointer none, .int .i64 lit] w fun e w' => e = .returned (.int .i64 0) ∧ w = w' := by
  go_enter Try.func46, Try.ntmps46
  go_wp2_with fail
  go_ret
  exact ⟨rfl, rfl⟩

theorem field_kn (x y z : Int) (W : World) : (Instr.field 82 (.agg #[.int .i64 x, .int .i64 y, .int .i64 z]) 1).run Try.prog W = .ok (.int .i64 y) W ∧ (Instr.field 82 (.agg #[.int .i64 x, .int .i64 y, .int .i64 z]) 2).run Try.prog W = .ok (.int .i64 z) W ∧ (Instr.field 82 (.agg #[.int .i64 x, .int .i64 y, .int .i64 z]) 0).run Try.prog W = .ok (.int .i64 x) W :=
  ⟨by kernel_rfl, by kernel_rfl, by kernel_rfl⟩

/-- What is known of a variable, any number. -/
def ofT (T : TrD) (v : Int) : Kn := if v < 0 ∨ (T.vars.length : Int) ≤ v then ⟨0, -1, -1⟩ else knAt T v

def Kn.agg (k : Kn) : Value := .agg #[.int .i64 k.value, .int .i64 k.level, .int .i64 k.reason]

theorem of_any (g : Nat) (a b c : Value) (T : TrD) (v : Int) (w : World) (hT : IsT w g a b c T) (_hn : T.vars.length ≤ 140737488351232) :
    Calls Try.prog 66 #[.pointer (some ⟨g, 0, none⟩), .int .i64 v] w fun e w' => e = .returned (ofT T v).agg ∧ Below w.heap.size w w' := by
  obtain ⟨ao, cap, rfl, _, _, _⟩ := hT.vars.form
  have hc0 := hT.blk.cell 0
  simp at hc0
  have hgl := hT.blk.lt
  have hgne : ¬ w.heap.size = g := by omega
  have hgne' : ¬ g = w.heap.size := by omega
  unfold ofT
  go_enter Try.func66, Try.ntmps66
  by_cases hv : v < 0
  · rw [if_pos (.inl hv)]
    go_wp2_with fail
    simp [bodyPost, results, Try.results66, go_sem, Kn.agg]
    exact (Below.refl _ _).alloc (Nat.le_refl _) _
  · have hv' : decide (v < 0) = false := by simpa using hv
    by_cases hv2 : (T.vars.length : Int) ≤ v
    · rw [if_pos (.inr hv2)]
      go_wp2_with fail
      simp [bodyPost, results, Try.results66, go_sem, Kn.agg]
      exact (Below.refl _ _).alloc (Nat.le_refl _) _
    · rw [if_neg (by omega)]
      have hv2' : decide ((T.vars.length : Int) ≤ v) = false := by simpa using hv2
      obtain ⟨i, rfl⟩ := Int.eq_ofNat_of_zero_le (by omega : 0 ≤ v)
      obtain ⟨bl, off, cap', e, hcv, hcl, hcr, _, hbl⟩ := hT.at_ i (by omega)
      have hbne : ¬ bl = w.heap.size := by omega
      have hbne' : ¬ w.heap.size = bl := by omega
      cases e
      have hi : (i : Int) < (T.vars.length : Int) := by omega
      go_wp2_with fail
      simp [bodyPost, results, Try.results66, go_sem, Kn.agg]
      exact (Below.refl _ _).alloc (Nat.le_refl _) _

theorem of_nil (v : Int) (w : World) :
    Calls Try.prog 66 #[.pointer none, .int .i64 v] w fun e w' => e = .returned (Kn.agg ⟨0, -1, -1⟩) ∧ Below w.heap.size w w' := by
  go_enter Try.func66, Try.ntmps66
  go_wp2_with fail
  simp [bodyPost, results, Try.results66, go_sem, Kn.agg]
  exact (Below.refl _ _).alloc (Nat.le_refl _) _

theorem levelOf_any (g : Nat) (a b c : Value) (T : TrD) (v : Int) (w : World) (hT : IsT w g a b c T) (hn : T.vars.length ≤ 140737488351232) :
    Calls Try.prog 68 #[.pointer (some ⟨g, 0, none⟩), .int .i64 v] w fun e w' => e = .returned (.int .i64 (ofT T v).level) ∧ Below w.heap.size w w' := by
  have HO := of_any g a b c T v w hT hn
  generalize ofT T v = k at *
  obtain ⟨x, y, z⟩ := k
  simp only [Kn.agg] at HO ⊢
  have HO := Lib.hid HO
  have hfd := fun W => (field_kn x y z W).1
  have hfd2 := fun W => (field_kn x y z W).2.1
  go_enter Try.func68, Try.ntmps68
  go_wp2_with (go_at_call 66; refine HO.out.mono ?_; rintro e w1 ⟨rfl, hB⟩)
  go_ret
  exact ⟨rfl, hB⟩

theorem reason_any (g : Nat) (a b c : Value) (T : TrD) (v : Int) (w : World) (hT : IsT w g a b c T) (hn : T.vars.length ≤ 140737488351232) :
    Calls Try.prog 57 #[.pointer (some ⟨g, 0, none⟩), .int .i64 v] w fun e w' => e = .returned (.int .i64 (ofT T v).reason) ∧ Below w.heap.size w w' := by
  have HO := of_any g a b c T v w hT hn
  generalize ofT T v = k at *
  obtain ⟨x, y, z⟩ := k
  simp only [Kn.agg] at HO ⊢
  have HO := Lib.hid HO
  have hfd := fun W => (field_kn x y z W).1
  have hfd2 := fun W => (field_kn x y z W).2.1
  go_enter Try.func57, Try.ntmps57
  go_wp2_with (go_at_call 66; refine HO.out.mono ?_; rintro e w1 ⟨rfl, hB⟩)
  go_ret
  exact ⟨rfl, hB⟩

theorem level_any (g : Nat) (a b c : Value) (T : TrD) (w : World) (hT : IsT w g a b c T) :
    Calls Try.prog 51 #[.pointer (some ⟨g, 0, none⟩)] w fun e w' => e = .returned (.int .i64 T.begins.length) ∧ w = w' := by
  obtain ⟨ao, cap, rfl, _, _, _⟩ := hT.begins.form
  have hc2 := hT.blk.cell 2
  simp at hc2
  go_enter Try.func51, Try.ntmps51
  go_wp2_with fail
  go_ret
  exact ⟨rfl, rfl⟩

theorem vars_any (g : Nat) (a b c : Value) (T : TrD) (w : World) (hT : IsT w g a b c T) :
    Calls Try.prog 35 #[.pointer (some ⟨g, 0, none⟩)] w fun e w' => e = .returned (.int .i64 T.vars.length) ∧ w = w' := by
  obtain ⟨ao, cap, rfl, _, _, _⟩ := hT.vars.form
  have hc0 := hT.blk.cell 0
  simp at hc0
  go_enter Try.func35, Try.ntmps35
  go_wp2_with fail
  go_ret
  exact ⟨rfl, rfl⟩

theorem len_any (g : Nat) (a b c : Value) (T : TrD) (w : World) (hT : IsT w g a b c T) :
    Calls Try.prog 32 #[.pointer (some ⟨g, 0, none⟩)] w fun e w' => e = .returned (.int .i64 T.lits.length) ∧ w = w' := by
  obtain ⟨ao, cap, rfl, _, _, _⟩ := hT.lits.form
  have hc1 := hT.blk.cell 1
  simp at hc1
  go_enter Try.func32, Try.ntmps32
  go_wp2_with fail
  go_ret
  exact ⟨rfl, rfl⟩

end Go.Proofs.Ytnachllhjojlcaa
