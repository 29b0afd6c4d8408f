/- Contracts of package learn: variable, known; slices.IndexFunc, slices.ContainsFunc over a closure that only reads. -/
import Derived.Test.YthfmlmodpcikcaaT17
namespace Go.Proofs.Ythfmlmodpcikcaa
open Go.ChangeShapes Go.WideShapes Go.ChangeAt Go.RowKit
set_option maxRecDepth 100000

theorem lvar_any (lit : Int) (w : World) (h1 : -4611686018427387904 ≤ lit) (h2 : lit ≤ 4611686018427387904) :
    Calls Try.prog 36 #[.int .i64 lit] w fun e w' => e = .returned (.int .i64 ((lit.natAbs : Int) - 1)) ∧ w = w' := by
  obtain ⟨r, hr⟩ : ∃ r : Int, r = (lit.natAbs : Int) - 1 := ⟨_, rfl⟩
  rw [← hr]
  by_cases hneg : lit < 0
  · have h3 : -lit - 1 = r := by omega
    clear hr
    go_enter Try.func36, Try.ntmps36
    go_wp2_with fail
    go_ret
    exact ⟨rfl, rfl⟩
  · have h3 : lit - 1 = r := by omega
    have hneg' : decide (lit < 0) = false := by simpa using hneg
    clear hr
    go_enter Try.func36, Try.ntmps36
    go_wp2_with fail
    go_ret
    exact ⟨rfl, rfl⟩

/-- The first place at which f holds; -1: nowhere. -/
def firstAt (f : Int → Bool) : List Int → Nat → Int
  | [], _ => -1
  | x :: xs, k => if f x then k else firstAt f xs (k + 1)

theorem firstAt_any (f : Int → Bool) : ∀ (l : List Int) (k : Nat), decide (0 ≤ firstAt f l k) = l.any f
  | [], k => by simp [firstAt]
  | x :: xs, k => by
    unfold firstAt
    by_cases h : f x = true
    · rw [if_pos h]
      simp [h]
    · rw [if_neg h, firstAt_any f xs (k + 1)]
      simp [h]

theorem indexFunc_any (f : Int → Bool) (cp : Nat) (l : List Int) (ao : Option Addr) (cap : Nat) (w : World) (hl : l.length ≤ 4611686018427387904)
    (hc : 0 < l.length → ∃ b off, ao = some ⟨b, off, none⟩ ∧ ∀ j (h : j < l.length), w.cell? ⟨b, off + j, none⟩ = some (.int .i64 l[j]))
    (hf : ∀ x ∈ l, Calls Try.prog 53 #[.int .i64 x, .pointer (some ⟨cp, 0, none⟩)] w fun e w' => e = .returned (.bool (f x)) ∧ w = w') :
    Calls Try.prog 55 #[.slice ao l.length cap, .func (.func 53) #[] #[.pointer (some ⟨cp, 0, none⟩)]] w fun e w' => e = .returned (.int .i64 (firstAt f l 0)) ∧ w = w' := by
  obtain ⟨T, hT⟩ : ∃ T, T = firstAt f l 0 := ⟨_, rfl⟩
  have HT := Lib.hid hT
  have HF := Lib.hid hf
  rw [← hT]
  clear hT hf
  go_enter Try.func55, Try.ntmps55
  go_wp2_with fail
  go_loop [8] (fun i => ∃ k : Nat, k ≤ l.length ∧ i = .int .i64 k ∧ T = firstAt f (l.drop k) k) (fun i => l.length - (intOf i).toNat)
  case atStart => exact ⟨0, by omega, rfl, HT.out⟩
  case round =>
    obtain ⟨k, hk, rfl, hrest⟩ := hrel
    by_cases hlt : k < l.length
    · obtain ⟨b, off, rfl, hcell⟩ := hc (by omega)
      have hck := hcell k hlt
      have hki : (k : Int) < (l.length : Int) := by omega
      rw [List.drop_eq_getElem_cons hlt] at hrest
      unfold firstAt at hrest
      have HC := Lib.hid (HF.out l[k] (List.getElem_mem _))
      generalize l[k] = x at *
      generalize hfx : f x = b1 at *
      cases b1 with
      | true =>
        rw [if_pos rfl] at hrest
        subst hrest
        clear hfx hc hcell
        go_wp2_with (go_at_call 53; refine HC.out.mono ?_; rintro e w' ⟨rfl, rfl⟩)
        go_ret
        exact ⟨rfl, rfl⟩
      | false =>
        have HR := Lib.hid hrest
        clear hfx hc hcell hrest
        go_wp2_with (go_at_call 53; refine HC.out.mono ?_; rintro e w' ⟨rfl, rfl⟩)
        go_round
        case rel => exact ⟨k + 1, by omega, by go_num, by have h := HR.out; rw [if_neg (by simp)] at h; exact h⟩
        case measure => simp [intOf]; omega
    · obtain rfl : k = l.length := by omega
      have hT : T = -1 := by rw [hrest, List.drop_length]; rfl
      subst hT
      clear hrest hc
      go_wp2_with fail
      go_ret
      exact ⟨rfl, rfl⟩

theorem containsFunc_any (f : Int → Bool) (cp : Nat) (l : List Int) (ao : Option Addr) (cap : Nat) (w : World) (hl : l.length ≤ 4611686018427387904)
    (hc : 0 < l.length → ∃ b off, ao = some ⟨b, off, none⟩ ∧ ∀ j (h : j < l.length), w.cell? ⟨b, off + j, none⟩ = some (.int .i64 l[j]))
    (hf : ∀ x ∈ l, Calls Try.prog 53 #[.int .i64 x, .pointer (some ⟨cp, 0, none⟩)] w fun e w' => e = .returned (.bool (f x)) ∧ w = w') :
    Calls Try.prog 52 #[.slice ao l.length cap, .func (.func 53) #[] #[.pointer (some ⟨cp, 0, none⟩)]] w fun e w' => e = .returned (.bool (l.any f)) ∧ w = w' := by
  have HI := Lib.hid (indexFunc_any f cp l ao cap w hl hc hf)
  have h := firstAt_any f l 0
  generalize firstAt f l 0 = r at *
  rw [← h]
  clear h hf hc
  go_enter Try.func52, Try.ntmps52
  go_wp2_with (go_at_call 55; refine HI.out.mono ?_; rintro e w' ⟨rfl, rfl⟩)
  go_ret
  exact ⟨rfl, rfl⟩

/-- The lesson lies at p; what its trail tells. -/
theorem known1_any {w0 w : World} {X : Nat → Prop} {L : List (Nat × TrD)} {g n p cp : Nat} {es : List En} {v1 v2 v3 : Value} (x : Int) (hT : Trails w0 w X L) (i : Nat) (hL : L[i]? = some (g, trE n es)) (hn : n ≤ 5000)
    (hb : Blk w p 66 #[.pointer (some ⟨g, 0, none⟩), v1, v2, v3]) (hcp : w.cell? ⟨cp, 0, none⟩ = some (.pointer (some ⟨p, 0, none⟩))) :
    Calls Try.prog 53 #[.int .i64 x, .pointer (some ⟨cp, 0, none⟩)] w fun e w' => e = .returned (.bool (!decide (1 ≤ x.natAbs ∧ x.natAbs ≤ n))) ∧ w = w' := by
  have HV := Lib.hid (vars_tr hT i hL)
  have hc0 := hb.cell 0
  simp at hc0
  clear hT
  by_cases h0 : x = 0
  · subst h0
    go_enter Try.func53, Try.ntmps53
    go_wp2_with (go_at_call 35; refine HV.out.mono ?_; rintro e w' ⟨rfl, rfl⟩)
    go_ret
    exact ⟨by simp, rfl⟩
  · have h0' : (x == 0) = false := by simpa using h0
    by_cases h1 : (n : Int) < x
    · have h5 : (!decide (1 ≤ x.natAbs ∧ x.natAbs ≤ n)) = true := by simp; omega
      rw [h5]
      go_enter Try.func53, Try.ntmps53
      go_wp2_with (go_at_call 35; refine HV.out.mono ?_; rintro e w' ⟨rfl, rfl⟩)
      go_ret
      exact ⟨rfl, rfl⟩
    · have h1' : decide ((n : Int) < x) = false := by simpa using h1
      by_cases h2 : x < -(n : Int)
      · have h5 : (!decide (1 ≤ x.natAbs ∧ x.natAbs ≤ n)) = true := by simp; omega
        rw [h5]
        go_enter Try.func53, Try.ntmps53
        go_wp2_with (go_at_call 35; refine HV.out.mono ?_; rintro e w' ⟨rfl, rfl⟩)
        go_ret
        exact ⟨rfl, rfl⟩
      · have h2' : decide (x < -(n : Int)) = false := by simpa using h2
        have h5 : (!decide (1 ≤ x.natAbs ∧ x.natAbs ≤ n)) = false := by simp; omega
        rw [h5]
        go_enter Try.func53, Try.ntmps53
        go_wp2_with (go_at_call 35; refine HV.out.mono ?_; rintro e w' ⟨rfl, rfl⟩)
        go_ret
        exact ⟨rfl, rfl⟩

end Go.Proofs.Ythfmlmodpcikcaa
