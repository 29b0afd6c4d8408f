/- slices.IndexFunc, slices.ContainsFunc over the watcher's closures. -/
import Derived.Test.YtnachllhjojlcaaV4
namespace Go.Proofs.Ytnachllhjojlcaa
open Go.ChangeShapes Go.WideShapes Go.ChangeAt Go.RowKit Go.Maps
set_option maxRecDepth 100000

theorem firstAt_any (f : Int → Bool) : ∀ (l : List Int) (k : Nat), decide (0 ≤ firstAt f l k) = l.any f
  | [], k => by simp [firstAt]
  | x :: xs, k => by
    unfold firstAt
    by_cases h : f x = true
    · rw [if_pos h]
      simp [h]
    · rw [if_neg h, firstAt_any f xs (k + 1)]
      simp [h]

theorem WAt.upBelow {w w' : World} {M : WM} {S : WS} (h : WAt w M S) (hb : Below w.heap.size w w') : WUp 0 w w' M S S :=
  ⟨M, h.below hb, rfl, Nat.le_refl _, Touch.of_below hb _, fun _ hk => .inl hk, fun _ => rfl⟩
theorem WUp.after {d : Nat} {w w1 w' : World} {M : WM} {S S' : WS} (hb : Below w.heap.size w w1) (h : WUp d w1 w' M S S') : WUp d w w' M S S' := by
  have := WUp.trans (d := 0) (M := M) rfl (Nat.le_refl _) (Touch.of_below hb (M.all S)) (fun k hk => .inl hk) (fun _ => rfl) h
  rwa [Nat.zero_add] at this

/-- The watcher lies at x: what its closures tell. -/
theorem wlook1_any {w : World} {M : WM} {S : WS} (h : WAt w M S) (hn : S.n ≤ 5000) {cp : Nat} (hcp : w.cell? ⟨cp, 0, none⟩ = some (.pointer (some ⟨M.x, 0, none⟩))) (x : Int) (hx : I64 x) :
    Calls Try.prog 62 #[.int .i64 x, .pointer (some ⟨cp, 0, none⟩)] w fun e w' => e = .returned (.bool (valE S.n S.es x == 1)) ∧ w = w' := by
  have HV := Lib.hid (wvalue h hn x hx)
  generalize valE S.n S.es x = v at *
  clear h
  go_enter Try.func62, Try.ntmps62
  go_wp2_with (go_at_call 15; (with_reducible refine HV.out.mono ?_); rintro e w' ⟨rfl, rfl⟩)
  go_ret
  exact ⟨rfl, rfl⟩
theorem wmoves1_any {w : World} {M : WM} {S : WS} (h : WAt w M S) (hn : S.n ≤ 5000) {cp : Nat} (hcp : w.cell? ⟨cp, 0, none⟩ = some (.pointer (some ⟨M.x, 0, none⟩))) (x : Int) (hx : I64 x) :
    Calls Try.prog 64 #[.int .i64 x, .pointer (some ⟨cp, 0, none⟩)] w fun e w' => e = .returned (.bool (decide (0 ≤ valE S.n S.es x))) ∧ w = w' := by
  have HV := Lib.hid (wvalue h hn x hx)
  generalize valE S.n S.es x = v at *
  clear h
  go_enter Try.func64, Try.ntmps64
  go_wp2_with (go_at_call 15; (with_reducible refine HV.out.mono ?_); rintro e w' ⟨rfl, rfl⟩)
  go_ret
  exact ⟨rfl, rfl⟩
theorem wAdd1_any {w : World} {M : WM} {S : WS} (h : WAt w M S) (hn : S.n ≤ 5000) {cp : Nat} (hcp : w.cell? ⟨cp, 0, none⟩ = some (.pointer (some ⟨M.x, 0, none⟩))) (x : Int) :
    Calls Try.prog 38 #[.int .i64 x, .pointer (some ⟨cp, 0, none⟩)] w fun e w' => e = .returned (.bool (!decide (1 ≤ x.natAbs ∧ x.natAbs ≤ S.n))) ∧ w = w' := by
  have HV := Lib.hid (tr_vars (h.part .trail))
  obtain ⟨c0, _⟩ := h.cells
  clear h
  generalize S.n = n at *
  by_cases h0 : x = 0
  · subst h0
    go_enter Try.func38, Try.ntmps38
    go_wp2_with (go_at_call 35; refine HV.out.mono ?_; rintro e w' ⟨rfl, rfl⟩)
    go_ret
    exact ⟨by simp, rfl⟩
  · have h0' : (x == 0) = false := by simpa using h0
    by_cases h1 : (n : Int) < x
    · have h5 : (!decide (1 ≤ x.natAbs ∧ x.natAbs ≤ n)) = true := by simp; omega
      rw [h5]
      go_enter Try.func38, Try.ntmps38
      go_wp2_with (go_at_call 35; refine HV.out.mono ?_; rintro e w' ⟨rfl, rfl⟩)
      go_ret
      exact ⟨rfl, rfl⟩
    · have h1' : decide ((n : Int) < x) = false := by simpa using h1
      by_cases h2 : x < -(n : Int)
      · have h5 : (!decide (1 ≤ x.natAbs ∧ x.natAbs ≤ n)) = true := by simp; omega
        rw [h5]
        go_enter Try.func38, Try.ntmps38
        go_wp2_with (go_at_call 35; refine HV.out.mono ?_; rintro e w' ⟨rfl, rfl⟩)
        go_ret
        exact ⟨rfl, rfl⟩
      · have h2' : decide (x < -(n : Int)) = false := by simpa using h2
        have h5 : (!decide (1 ≤ x.natAbs ∧ x.natAbs ≤ n)) = false := by simp; omega
        rw [h5]
        go_enter Try.func38, Try.ntmps38
        go_wp2_with (go_at_call 35; refine HV.out.mono ?_; rintro e w' ⟨rfl, rfl⟩)
        go_ret
        exact ⟨rfl, rfl⟩

theorem indexF_wlook1 (f : Int → Bool) (cp : Nat) (l : List Int) (ao : Option Addr) (cap : Nat) (w : World) (hl : l.length ≤ 4611686018427387904)
    (hc : 0 < l.length → ∃ b off, ao = some ⟨b, off, none⟩ ∧ ∀ j (h : j < l.length), w.cell? ⟨b, off + j, none⟩ = some (.int .i64 l[j]))
    (hf : ∀ x ∈ l, Calls Try.prog 62 #[.int .i64 x, .pointer (some ⟨cp, 0, none⟩)] w fun e w' => e = .returned (.bool (f x)) ∧ w = w') :
    Calls Try.prog 59 #[.slice ao l.length cap, .func (.func 62) #[] #[.pointer (some ⟨cp, 0, none⟩)]] w fun e w' => e = .returned (.int .i64 (firstAt f l 0)) ∧ w = w' := by
  obtain ⟨T, hT⟩ : ∃ T, T = firstAt f l 0 := ⟨_, rfl⟩
  have HT := Lib.hid hT
  have HF := Lib.hid hf
  rw [← hT]
  clear hT hf
  go_enter Try.func59, Try.ntmps59
  go_wp2_with fail
  go_loop [8] (fun i => ∃ k : Nat, k ≤ l.length ∧ i = .int .i64 k ∧ T = firstAt f (l.drop k) k) (fun i => l.length - (intOf i).toNat)
  case atStart => exact ⟨0, by omega, rfl, HT.out⟩
  case round =>
    obtain ⟨k, hk, rfl, hrest⟩ := hrel
    by_cases hlt : k < l.length
    · obtain ⟨b, off, rfl, hcell⟩ := hc (by omega)
      have hck := hcell k hlt
      have hki : (k : Int) < (l.length : Int) := by omega
      rw [List.drop_eq_getElem_cons hlt] at hrest
      unfold firstAt at hrest
      have HC := Lib.hid (HF.out l[k] (List.getElem_mem _))
      generalize l[k] = x at *
      generalize hfx : f x = b1 at *
      cases b1 with
      | true =>
        rw [if_pos rfl] at hrest
        subst hrest
        clear hfx hc hcell
        go_wp2_with (go_at_call 62; refine HC.out.mono ?_; rintro e w' ⟨rfl, rfl⟩)
        go_ret
        exact ⟨rfl, rfl⟩
      | false =>
        have HR := Lib.hid hrest
        clear hfx hc hcell hrest
        go_wp2_with (go_at_call 62; refine HC.out.mono ?_; rintro e w' ⟨rfl, rfl⟩)
        go_round
        case rel => exact ⟨k + 1, by omega, by go_num, by have h := HR.out; rw [if_neg (by simp)] at h; exact h⟩
        case measure => simp [intOf]; omega
    · obtain rfl : k = l.length := by omega
      have hT : T = -1 := by rw [hrest, List.drop_length]; rfl
      subst hT
      clear hrest hc
      go_wp2_with fail
      go_ret
      exact ⟨rfl, rfl⟩

theorem containsF_wlook1 (f : Int → Bool) (cp : Nat) (l : List Int) (ao : Option Addr) (cap : Nat) (w : World) (hl : l.length ≤ 4611686018427387904)
    (hc : 0 < l.length → ∃ b off, ao = some ⟨b, off, none⟩ ∧ ∀ j (h : j < l.length), w.cell? ⟨b, off + j, none⟩ = some (.int .i64 l[j]))
    (hf : ∀ x ∈ l, Calls Try.prog 62 #[.int .i64 x, .pointer (some ⟨cp, 0, none⟩)] w fun e w' => e = .returned (.bool (f x)) ∧ w = w') :
    Calls Try.prog 39 #[.slice ao l.length cap, .func (.func 62) #[] #[.pointer (some ⟨cp, 0, none⟩)]] w fun e w' => e = .returned (.bool (l.any f)) ∧ w = w' := by
  have HI := Lib.hid (indexF_wlook1 f cp l ao cap w hl hc hf)
  have h := firstAt_any f l 0
  generalize firstAt f l 0 = r at *
  rw [← h]
  clear h hf hc
  go_enter Try.func39, Try.ntmps39
  go_wp2_with (go_at_call 59; refine HI.out.mono ?_; rintro e w' ⟨rfl, rfl⟩)
  go_ret
  exact ⟨rfl, rfl⟩

theorem indexF_wmoves1 (f : Int → Bool) (cp : Nat) (l : List Int) (ao : Option Addr) (cap : Nat) (w : World) (hl : l.length ≤ 4611686018427387904)
    (hc : 0 < l.length → ∃ b off, ao = some ⟨b, off, none⟩ ∧ ∀ j (h : j < l.length), w.cell? ⟨b, off + j, none⟩ = some (.int .i64 l[j]))
    (hf : ∀ x ∈ l, Calls Try.prog 64 #[.int .i64 x, .pointer (some ⟨cp, 0, none⟩)] w fun e w' => e = .returned (.bool (f x)) ∧ w = w') :
    Calls Try.prog 59 #[.slice ao l.length cap, .func (.func 64) #[] #[.pointer (some ⟨cp, 0, none⟩)]] w fun e w' => e = .returned (.int .i64 (firstAt f l 0)) ∧ w = w' := by
  obtain ⟨T, hT⟩ : ∃ T, T = firstAt f l 0 := ⟨_, rfl⟩
  have HT := Lib.hid hT
  have HF := Lib.hid hf
  rw [← hT]
  clear hT hf
  go_enter Try.func59, Try.ntmps59
  go_wp2_with fail
  go_loop [8] (fun i => ∃ k : Nat, k ≤ l.length ∧ i = .int .i64 k ∧ T = firstAt f (l.drop k) k) (fun i => l.length - (intOf i).toNat)
  case atStart => exact ⟨0, by omega, rfl, HT.out⟩
  case round =>
    obtain ⟨k, hk, rfl, hrest⟩ := hrel
    by_cases hlt : k < l.length
    · obtain ⟨b, off, rfl, hcell⟩ := hc (by omega)
      have hck := hcell k hlt
      have hki : (k : Int) < (l.length : Int) := by omega
      rw [List.drop_eq_getElem_cons hlt] at hrest
      unfold firstAt at hrest
      have HC := Lib.hid (HF.out l[k] (List.getElem_mem _))
      generalize l[k] = x at *
      generalize hfx : f x = b1 at *
      cases b1 with
      | true =>
        rw [if_pos rfl] at hrest
        subst hrest
        clear hfx hc hcell
        go_wp2_with (go_at_call 64; refine HC.out.mono ?_; rintro e w' ⟨rfl, rfl⟩)
        go_ret
        exact ⟨rfl, rfl⟩
      | false =>
        have HR := Lib.hid hrest
        clear hfx hc hcell hrest
        go_wp2_with (go_at_call 64; refine HC.out.mono ?_; rintro e w' ⟨rfl, rfl⟩)
        go_round
        case rel => exact ⟨k + 1, by omega, by go_num, by have h := HR.out; rw [if_neg (by simp)] at h; exact h⟩
        case measure => simp [intOf]; omega
    · obtain rfl : k = l.length := by omega
      have hT : T = -1 := by rw [hrest, List.drop_length]; rfl
      subst hT
      clear hrest hc
      go_wp2_with fail
      go_ret
      exact ⟨rfl, rfl⟩

theorem indexF_wAdd1 (f : Int → Bool) (cp : Nat) (l : List Int) (ao : Option Addr) (cap : Nat) (w : World) (hl : l.length ≤ 4611686018427387904)
    (hc : 0 < l.length → ∃ b off, ao = some ⟨b, off, none⟩ ∧ ∀ j (h : j < l.length), w.cell? ⟨b, off + j, none⟩ = some (.int .i64 l[j]))
    (hf : ∀ x ∈ l, Calls Try.prog 38 #[.int .i64 x, .pointer (some ⟨cp, 0, none⟩)] w fun e w' => e = .returned (.bool (f x)) ∧ w = w') :
    Calls Try.prog 59 #[.slice ao l.length cap, .func (.func 38) #[] #[.pointer (some ⟨cp, 0, none⟩)]] w fun e w' => e = .returned (.int .i64 (firstAt f l 0)) ∧ w = w' := by
  obtain ⟨T, hT⟩ : ∃ T, T = firstAt f l 0 := ⟨_, rfl⟩
  have HT := Lib.hid hT
  have HF := Lib.hid hf
  rw [← hT]
  clear hT hf
  go_enter Try.func59, Try.ntmps59
  go_wp2_with fail
  go_loop [8] (fun i => ∃ k : Nat, k ≤ l.length ∧ i = .int .i64 k ∧ T = firstAt f (l.drop k) k) (fun i => l.length - (intOf i).toNat)
  case atStart => exact ⟨0, by omega, rfl, HT.out⟩
  case round =>
    obtain ⟨k, hk, rfl, hrest⟩ := hrel
    by_cases hlt : k < l.length
    · obtain ⟨b, off, rfl, hcell⟩ := hc (by omega)
      have hck := hcell k hlt
      have hki : (k : Int) < (l.length : Int) := by omega
      rw [List.drop_eq_getElem_cons hlt] at hrest
      unfold firstAt at hrest
      have HC := Lib.hid (HF.out l[k] (List.getElem_mem _))
      generalize l[k] = x at *
      generalize hfx : f x = b1 at *
      cases b1 with
      | true =>
        rw [if_pos rfl] at hrest
        subst hrest
        clear hfx hc hcell
        go_wp2_with (go_at_call 38; refine HC.out.mono ?_; rintro e w' ⟨rfl, rfl⟩)
        go_ret
        exact ⟨rfl, rfl⟩
      | false =>
        have HR := Lib.hid hrest
        clear hfx hc hcell hrest
        go_wp2_with (go_at_call 38; refine HC.out.mono ?_; rintro e w' ⟨rfl, rfl⟩)
        go_round
        case rel => exact ⟨k + 1, by omega, by go_num, by have h := HR.out; rw [if_neg (by simp)] at h; exact h⟩
        case measure => simp [intOf]; omega
    · obtain rfl : k = l.length := by omega
      have hT : T = -1 := by rw [hrest, List.drop_length]; rfl
      subst hT
      clear hrest hc
      go_wp2_with fail
      go_ret
      exact ⟨rfl, rfl⟩

theorem containsF_wAdd1 (f : Int → Bool) (cp : Nat) (l : List Int) (ao : Option Addr) (cap : Nat) (w : World) (hl : l.length ≤ 4611686018427387904)
    (hc : 0 < l.length → ∃ b off, ao = some ⟨b, off, none⟩ ∧ ∀ j (h : j < l.length), w.cell? ⟨b, off + j, none⟩ = some (.int .i64 l[j]))
    (hf : ∀ x ∈ l, Calls Try.prog 38 #[.int .i64 x, .pointer (some ⟨cp, 0, none⟩)] w fun e w' => e = .returned (.bool (f x)) ∧ w = w') :
    Calls Try.prog 39 #[.slice ao l.length cap, .func (.func 38) #[] #[.pointer (some ⟨cp, 0, none⟩)]] w fun e w' => e = .returned (.bool (l.any f)) ∧ w = w' := by
  have HI := Lib.hid (indexF_wAdd1 f cp l ao cap w hl hc hf)
  have h := firstAt_any f l 0
  generalize firstAt f l 0 = r at *
  rw [← h]
  clear h hf hc
  go_enter Try.func39, Try.ntmps39
  go_wp2_with (go_at_call 59; refine HI.out.mono ?_; rintro e w' ⟨rfl, rfl⟩)
  go_ret
  exact ⟨rfl, rfl⟩

end Go.Proofs.Ytnachllhjojlcaa
