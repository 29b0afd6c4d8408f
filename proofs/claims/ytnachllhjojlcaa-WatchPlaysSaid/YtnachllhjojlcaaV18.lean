/- Steps: what they are, do, long. -/
import Derived.Test.YtnachllhjojlcaaV17
import Derived.Deep.Matrix
namespace Go.Proofs.Ytnachllhjojlcaa
open Go.ChangeShapes Go.WideShapes Go.ChangeAt Go.RowKit Go.Maps Go.Deep
set_option maxRecDepth 100000

structure Stp where
  kind : Int
  c : List Int
  n : Int
structure Stp.wf (s : Stp) : Prop where
  kind : 0 ≤ s.kind ∧ s.kind ≤ 255
  c : ∀ x ∈ s.c, I64 x
  len : s.c.length ≤ 9223372036854775807
  n : I64 s.n
/-- The steps' cells, in blocks below B. -/
structure IsStp (w : World) (B : Nat) (ao : Option Addr) (b off : Nat) (l : List Stp) (ca : Nat → Option Addr) (cc : Nat → Nat) : Prop where
  ptr : 0 < l.length → ao = some ⟨b, off, none⟩ ∧ b < B
  wf : ∀ i (h : i < l.length), l[i].wf
  kind : ∀ i (h : i < l.length), w.cell? ⟨b, off + i * 3, none⟩ = some (.int .u8 l[i].kind)
  clause : ∀ i (h : i < l.length), w.cell? ⟨b, off + i * 3 + 1, none⟩ = some (.slice (ca i) l[i].c.length (cc i))
  n : ∀ i (h : i < l.length), w.cell? ⟨b, off + i * 3 + 2, none⟩ = some (.int .i64 l[i].n)
  ints : ∀ i (h : i < l.length) j (hj : j < l[i].c.length), ∃ b' off', ca i = some ⟨b', off', none⟩ ∧ b' < B ∧ w.cell? ⟨b', off' + j, none⟩ = some (.int .i64 l[i].c[j])

theorem IsStp.below {w w' : World} {B b off : Nat} {ao : Option Addr} {l : List Stp} {ca : Nat → Option Addr} {cc : Nat → Nat} (h : IsStp w B ao b off l ca cc) (hb : Below B w w') : IsStp w' B ao b off l ca cc := by
  have hc : ∀ j, 0 < l.length → w'.cell? ⟨b, j, none⟩ = w.cell? ⟨b, j, none⟩ := fun j hl => World.cell?_of_block (w := w) (hb.block b (h.ptr hl).2)
  exact ⟨h.ptr, h.wf, fun i hi => (hc _ (by omega)).trans (h.kind i hi), fun i hi => (hc _ (by omega)).trans (h.clause i hi), fun i hi => (hc _ (by omega)).trans (h.n i hi), fun i hi j hj => by
    obtain ⟨b', off', e, hB, hcc⟩ := h.ints i hi j hj
    exact ⟨b', off', e, hB, (World.cell?_of_block (w := w) (hb.block b' hB)).trans hcc⟩⟩
theorem IsStp.row {w : World} {B b off : Nat} {ao : Option Addr} {l : List Stp} {ca : Nat → Option Addr} {cc : Nat → Nat} (h : IsStp w B ao b off l ca cc) (hB : B ≤ w.heap.size) (i : Nat) (hi : i < l.length) : Ints w (ca i) l[i].c := fun h0 => by
  obtain ⟨b', off', e, hb, _⟩ := h.ints i hi 0 h0
  refine ⟨b', off', e, by omega, fun j hj => ?_⟩
  obtain ⟨b2, off2, e2, _, hc⟩ := h.ints i hi j hj
  rw [e] at e2
  simp only [Option.some.injEq, Addr.mk.injEq, and_true] at e2
  obtain ⟨rfl, rfl⟩ := e2
  exact hc

def doS (S : WS) (s : Stp) : WS × Int := if s.kind = 0 then ((addS S s.c).1, -1) else if s.kind = 1 then ((decS S s.n).1, -1) else if s.kind = 2 then ((backS S s.n).1, -1) else propS S

section
variable {W w : World} {C : Ast → Ast} {x n t : Nat} {S : WS}
theorem on_do (hC : Ctx C) (h : On W w (C (wat x n t S))) (hn : n ≤ 60) (ht : t ≤ 999) (ao : Option Addr) (cap : Nat) (s : Stp) (hs : s.wf) (hc : Ints w ao s.c) (hl : s.c.length ≤ 40) :
    Calls Try.prog 30 #[.pointer (some ⟨x, 0, none⟩), .agg #[.int .u8 s.kind, .slice ao s.c.length cap, .int .i64 s.n]] w fun e w' => e = .returned (.int .i64 (doS S s).2) ∧ On W w' (C (wat x n (t + 1) (doS S s).1)) := by
  obtain ⟨k, c, y⟩ := s
  obtain ⟨⟨hk0, hk1⟩, hcI, _, hy⟩ := hs
  simp only at hk0 hk1 hcI hy hc hl ⊢
  obtain ⟨w1, hw1⟩ : ∃ w1, w1 = w.alloc (.cells #[.int .u8 k, .slice ao c.length cap, .int .i64 y] 42) := ⟨_, rfl⟩
  have hb : Below w.heap.size w w1 := by rw [hw1]; exact (Below.refl _ _).alloc (Nat.le_refl _) _
  have h1 := h.below (hC.solid (Solid.wat ..)) hb
  have hc1 := hc.below hb
  unfold doS
  simp only
  by_cases h0 : k = 0
  · subst h0
    rw [if_pos rfl]
    have HA := Lib.hid (on_add hC h1 hn ht ao c cap hc1 hl hcI)
    generalize addS S c = r at *
    rw [hw1] at HA
    clear h h1 hc hc1 hb hw1
    go_enter Try.func30, Try.ntmps30
    go_wp2_with (go_at_call 12; (with_reducible refine HA.out.mono ?_); rintro e w2 ⟨rfl, h2⟩)
    go_ret
    exact ⟨rfl, h2⟩
  · rw [if_neg h0]
    have h0' : (k == 0) = false := by simpa using h0
    by_cases h01 : k = 1
    · subst h01
      rw [if_pos rfl]
      have HA := Lib.hid (on_decide hC h1 hn y hy)
      generalize decS S y = r at *
      rw [hw1] at HA
      clear h h1 hc hc1 hb hw1
      go_enter Try.func30, Try.ntmps30
      go_wp2_with (go_at_call 13; (with_reducible refine HA.out.mono ?_); rintro e w2 ⟨rfl, h2⟩)
      go_ret
      exact ⟨rfl, h2⟩
    · rw [if_neg h01]
      have h01' : (k == 1) = false := by simpa using h01
      by_cases h02 : k = 2
      · subst h02
        rw [if_pos rfl]
        have HA := Lib.hid (on_back hC h1 hn ht y hy)
        generalize backS S y = r at *
        rw [hw1] at HA
        clear h h1 hc hc1 hb hw1
        go_enter Try.func30, Try.ntmps30
        go_wp2_with (go_at_call 20; (with_reducible refine HA.out.mono ?_); rintro e w2 ⟨rfl, h2⟩)
        go_ret
        exact ⟨rfl, h2⟩
      · rw [if_neg h02]
        have h02' : (k == 2) = false := by simpa using h02
        have HA := Lib.hid (on_prop hC h1 hn ht)
        generalize propS S = r at *
        rw [hw1] at HA
        clear h h1 hc hc1 hb hw1
        go_enter Try.func30, Try.ntmps30
        go_wp2_with (go_at_call 14; (with_reducible refine HA.out.mono ?_); rintro e w2 ⟨rfl, h2⟩)
        go_ret
        exact ⟨rfl, h2⟩
end

/-! ### long -/
def longS (vars : Int) (l : List Stp) : Bool := decide (60 < vars) || decide (80 < l.length) || l.any fun s => decide (40 < s.c.length)
theorem any_take {α : Type} (f : α → Bool) (l : List α) (k : Nat) (h : k < l.length) : (l.take (k + 1)).any f = ((l.take k).any f || f l[k]) := by
  rw [List.take_succ_eq_append_getElem h, List.any_append]
  simp
theorem long_any (vars : Int) (w : World) (B : Nat) (ao : Option Addr) (l : List Stp) (cap b off : Nat) (ca : Nat → Option Addr) (cc : Nat → Nat) (hl : IsStp w B ao b off l ca cc) :
    Calls Try.prog 16 #[.int .i64 vars, .slice ao l.length cap] w fun e w' => e = .returned (.bool (longS vars l)) ∧ w = w' := by
  unfold longS
  by_cases h0 : 60 < vars
  · have hd : decide (60 < vars) = true := by simpa using h0
    rw [hd]
    go_enter Try.func16, Try.ntmps16
    go_wp2_with fail
    go_ret
    exact ⟨rfl, rfl⟩
  · have hd : decide (60 < vars) = false := by simpa using h0
    rw [hd]
    by_cases h1 : 80 < l.length
    · have hd1 : decide ((80 : Int) < (l.length : Int)) = true := by simp; omega
      have hd2 : decide (80 < l.length) = true := by simpa using h1
      rw [hd2]
      have hi : (80 : Int) < (l.length : Int) := by omega
      go_enter Try.func16, Try.ntmps16
      go_wp2_with fail
      go_ret
      exact ⟨rfl, rfl⟩
    · have hd1 : decide ((80 : Int) < (l.length : Int)) = false := by simp; omega
      have hd2 : decide (80 < l.length) = false := by simpa using h1
      rw [hd2]
      have hi : ¬ (80 : Int) < (l.length : Int) := by omega
      have HS := Lib.hid hl
      simp only [Bool.false_or]
      obtain ⟨R, hR⟩ : ∃ R, R = l.any fun s => decide (40 < s.c.length) := ⟨_, rfl⟩
      rw [← hR]
      have HR := Lib.hid hR
      clear hl hR
      go_enter Try.func16, Try.ntmps16
      go_wp2_with fail
      go_loopw [5] (fun s wr => ∃ k : Nat, k ≤ l.length ∧ s = .int .i64 k ∧ (l.take k).any (fun s => decide (40 < s.c.length)) = false ∧ w = wr) (fun s _ => l.length - (intOf s).toNat)
      case atStart => exact ⟨0, by omega, rfl, rfl, rfl⟩
      case round =>
        obtain ⟨k, hk, rfl, hany, rfl⟩ := hrel
        by_cases hlt : k < l.length
        · have hki : (k : Int) < (l.length : Int) := by omega
          have hap := any_take (fun s : Stp => decide (40 < s.c.length)) l k hlt
          rw [hany, Bool.false_or] at hap
          obtain ⟨rfl, hB⟩ := HS.out.ptr (by omega)
          have hcc := HS.out.clause k hlt
          have hmem : l[k] ∈ l := List.getElem_mem hlt
          generalize l[k] = s at *
          by_cases h40 : 40 < s.c.length
          · have hi40 : (40 : Int) < (s.c.length : Int) := by omega
            have hall : (l.any fun s => decide (40 < s.c.length)) = true := List.any_eq_true.2 ⟨s, hmem, by simpa using h40⟩
            obtain rfl : R = true := HR.out.trans hall
            clear hap hany hmem hall
            go_wp2_with fail
            go_ret
            exact ⟨rfl, rfl⟩
          · have hi40 : ¬ (40 : Int) < (s.c.length : Int) := by omega
            have hd40 : decide ((40 : Int) < (s.c.length : Int)) = false := by simpa using hi40
            have hd41 : decide (40 < s.c.length) = false := by simpa using h40
            rw [hd41] at hap
            have HAP := Lib.hid hap
            clear hap hany hmem hd41
            go_wp2_with fail
            go_roundw
            case rel => exact ⟨k + 1, by omega, by go_num, HAP.out, by first | rfl | trivial⟩
            case measure => simp [intOf]; omega
        · obtain rfl : k = l.length := by omega
          rw [List.take_length] at hany
          obtain rfl : R = false := HR.out.trans hany
          clear hany
          go_wp2_with fail
          go_ret
          exact ⟨rfl, rfl⟩

theorem long_spec {vars : Int} {l : List Stp} (h : longS vars l = false) : vars ≤ 60 ∧ l.length ≤ 80 ∧ ∀ s ∈ l, s.c.length ≤ 40 := by
  unfold longS at h
  rw [Bool.or_eq_false_iff, Bool.or_eq_false_iff, List.any_eq_false] at h
  obtain ⟨⟨h1, h2⟩, h3⟩ := h
  simp only [decide_eq_false_iff_not, Nat.not_lt, Int.not_lt] at h1 h2
  exact ⟨h1, h2, fun s hs => by
    have := h3 s hs
    simpa using this⟩

end Go.Proofs.Ytnachllhjojlcaa
