/- The document's watcher: where it lies; New, Reads. -/
import Derived.Test.YtnachllhjojlcaaV20
import Derived.Test.YtnachllhjojlcaaV25
import Derived.Test.YtnachllhjojlcaaR25
namespace Go.Proofs.Ytnachllhjojlcaa
open Go.ChangeShapes Go.WideShapes Go.ChangeAt Go.RowKit Go.Maps Go.Deep
set_option maxRecDepth 100000

/-- The document's trail, as a thing. -/
def rtr (xt n : Nat) (es : List En) : Ast := fun w F => RefA w F xt n es ∧ ∀ k, F k → k < w.heap.size
theorem Solid.rtr (xt n : Nat) (es : List En) : Solid (rtr xt n es) := ⟨fun ⟨a, b⟩ ht hG => ⟨a.touch ht hG, fun k hk => Nat.lt_of_lt_of_le (b k hk) ht.size⟩, fun h => h.2⟩
theorem goes_rtr {w w' : World} {F : Nat → Prop} {xt n : Nat} {es : List En} (hF : ∀ k, F k → k < w.heap.size) (h : RefUp w w' F xt n es) : Goes w w' F (rtr xt n es) := by
  obtain ⟨X, a, b, c⟩ := h
  have hs := b.size
  exact ⟨X, ⟨a, fun k hk => by
    rcases c k hk with h | h
    · have := hF k h; omega
    · exact h.2⟩, b, fun k hk => (c k hk).imp id And.left⟩

/-- The document's watcher at xr: its cell, its clauses; its trail lies at xt. -/
def rwt (xr xt : Nat) (cl : List (List Int)) : Ast := fun w F => ∃ vL C, Blk w xr 45 #[.pointer (some ⟨xt, 0, none⟩), vL] ∧ Own w 23 1 vL cl.length (rowV cl.length C) ∧
  (∀ i, i < cl.length → Own w 3 1 (C i) (cl.getD i []).length (inC (cl.getD i []))) ∧ ∀ k, F k ↔ k = xr ∨ vL.ownBlock = some k ∨ ∃ i, i < cl.length ∧ (C i).ownBlock = some k
theorem Solid.rwt (xr xt : Nat) (cl : List (List Int)) : Solid (rwt xr xt cl) where
  stay := fun ⟨vL, C, a, b, c, e⟩ ht hG => ⟨vL, C, a.touch ht (hG _ ((e _).2 (.inl rfl))), b.touch ht fun k hk => hG k ((e k).2 (.inr (.inl hk))), fun i hi => (c i hi).touch ht fun k hk => hG k ((e k).2 (.inr (.inr ⟨i, hi, hk⟩))), e⟩
  lt := fun ⟨vL, C, a, b, c, e⟩ k hk => by
    rcases (e k).1 hk with rfl | h | ⟨i, hi, h⟩
    · exact a.lt
    · exact b.lt k h
    · exact (c i hi).lt k h

section
variable {W w : World} {C : Ast → Ast} {xr xt n : Nat} {es : List En} {cl : List (List Int)}
theorem on_rnew {A : Ast} (hA : Solid A) (h : On W w A) (hn : n ≤ 60) :
    Calls Try.prog 17 #[.int .i64 n] w fun e w' => ∃ xr xt, e = .returned (.tuple #[.pointer (some ⟨xr, 0, none⟩), .int .i64 0]) ∧ On W w' ((A.and (rtr xt n [])).and (rwt xr xt [])) := by
  have HN := Lib.hid (rnew_any n w (by omega))
  have HO : Hid (∀ w1 xt, RefA w1 (fun k => k = xt) xt n [] → Below w.heap.size w w1 → w.heap.size ≤ xt → xt < w1.heap.size → On W (w1.alloc (.cells #[.pointer (some ⟨xt, 0, none⟩), .slice none 0 0] 45)) ((A.and (rtr xt n [])).and (rwt w1.heap.size xt []))) := Lib.hid fun w1 xt hR hb h1 h2 => by
    have g1 : On W w1 (A.and (rtr xt n [])) := h.new hA hb (B := rtr xt n []) ⟨hR, fun k hk => by rw [hk]; exact h2⟩ fun k hk => by rw [hk]; exact h1
    have hb2 : Below w1.heap.size w1 (w1.alloc (.cells #[.pointer (some ⟨xt, 0, none⟩), .slice none 0 0] 45)) := (Below.refl _ _).alloc (Nat.le_refl _) _
    refine g1.new (hA.and (Solid.rtr ..)) hb2 (B := rwt w1.heap.size xt []) (F' := fun k => k = w1.heap.size) ⟨.slice none 0 0, fun _ => nilV, Blk.new .., Own.nil .., fun i hi => absurd hi (by simp), fun k => ⟨.inl, fun h => ?_⟩⟩ fun k hk => by rw [hk]; exact Nat.le_refl _
    rcases h with h | h | ⟨i, hi, _⟩
    · exact h
    · simp [Value.ownBlock] at h
    · simp at hi
  clear h
  go_enter Try.func17, Try.ntmps17
  go_wp2_with (go_at_call 47; (with_reducible refine HN.out.mono ?_); rintro e w1 ⟨xt, rfl, hR, hb, h1, h2⟩; have HX := Lib.hid (HO.out w1 xt hR hb h1 h2); clear hR hb h1 h2)
  go_ret2
  exact ⟨_, xt, rfl, HX.out⟩
theorem on_rnew_bad (v : Int) (hv : v < 0) : Calls Try.prog 17 #[.int .i64 v] w fun e w' => e = .returned (.tuple #[.pointer none, .int .i64 1]) ∧ w = w' := by
  have HN := Lib.hid (rnew_bad v w hv)
  go_enter Try.func17, Try.ntmps17
  go_wp2_with (go_at_call 47; (with_reducible refine HN.out.mono ?_); rintro e w1 ⟨rfl, rfl⟩)
  go_ret2
  exact ⟨rfl, rfl⟩
theorem on_rdecide (hC : Ctx C) (h : On W w (C (rtr xt n es))) (hg : Good n es) (hn : n ≤ 60) (i : Int) (hi : I64 i) :
    Calls Try.prog 19 #[.pointer (some ⟨xt, 0, none⟩), .int .i64 i] w fun e w' => e = .returned (.int .i64 (decC n es i).1) ∧ On W w' (C (rtr xt n (decC n es i).2)) := by
  obtain ⟨F, ⟨a, b⟩, go⟩ := hC.use h
  refine (rdecide_any F xt n es i w a hg (by omega) hi).mono ?_
  rintro e w' ⟨rfl, hu⟩
  exact ⟨rfl, go _ _ (goes_rtr b hu)⟩
theorem on_rback (hC : Ctx C) (h : On W w (C (rtr xt n es))) (hg : Good n es) (hn : n ≤ 60) (i : Int) (hi : I64 i) :
    Calls Try.prog 21 #[.pointer (some ⟨xt, 0, none⟩), .int .i64 i] w fun e w' => e = .returned (.int .i64 (backC es i).1) ∧ On W w' (C (rtr xt n (backC es i).2)) := by
  obtain ⟨F, ⟨a, b⟩, go⟩ := hC.use h
  refine (rback_any F xt n es i w a hg (by omega) hi).mono ?_
  rintro e w' ⟨rfl, hu⟩
  exact ⟨rfl, go _ _ (goes_rtr b hu)⟩
theorem on_rassign (hC : Ctx C) (h : On W w (C (rtr xt n es))) (hg : Good n es) (hn : n ≤ 60) (i r : Int) (hi : I64 i) :
    Calls Try.prog 50 #[.pointer (some ⟨xt, 0, none⟩), .int .i64 i, .int .i64 r] w fun e w' => e = .returned (.int .i64 (asnC n es i r).1) ∧ On W w' (C (rtr xt n (asnC n es i r).2)) := by
  obtain ⟨F, ⟨a, b⟩, go⟩ := hC.use h
  refine (rassign_any F xt n es i r w a hg (by omega) hi).mono ?_
  rintro e w' ⟨rfl, hu⟩
  exact ⟨rfl, go _ _ (goes_rtr b hu)⟩
theorem on_rvalue (hC : Ctx C) (h : On W w (C (rtr xt n es))) (hg : Good n es) (hn : n ≤ 60) (i : Int) (hi : I64 i) :
    Calls Try.prog 26 #[.pointer (some ⟨xt, 0, none⟩), .int .i64 i] w fun e w' => e = .returned (.int .i64 (valE n es i)) ∧ w = w' := by
  obtain ⟨F, ⟨a, b⟩, go⟩ := hC.use h
  exact rvalue_any F xt n es i w a hg (by omega) hi
end

/-! ### Reads -/
def readR (n : Nat) (es : List En) : List Int → Int → Int × Int
  | [], u => if u = 0 then (2, 0) else (1, u)
  | x :: l, u => if valE n es x = 1 then (0, 0) else if valE n es x = 0 then (if u ≠ 0 ∧ u ≠ x then (0, 0) else readR n es l x) else readR n es l u
theorem rreads_any (w : World) (X : Nat → Prop) (xt n : Nat) (es : List En) (hR : RefA w X xt n es) (hg : Good n es) (hn : n ≤ 60) (ao : Option Addr) (c : List Int) (cap : Nat) (hc : Ints w ao c) (hl : c.length ≤ 40) (hI : ∀ x ∈ c, I64 x) :
    Calls Try.prog 24 #[.pointer (some ⟨xt, 0, none⟩), .slice ao c.length cap] w fun e w' => e = .returned (.tuple #[.int .i64 (readR n es c 0).1, .int .i64 (readR n es c 0).2]) ∧ w = w' := by
  obtain ⟨R, hRe⟩ : ∃ R, R = readR n es c 0 := ⟨_, rfl⟩
  rw [← hRe]
  have HRe : Hid (R = readR n es (c.drop 0) 0) := Lib.hid (by rw [List.drop_zero]; exact hRe)
  have HC := Lib.hid hc
  have HI := Lib.hid hI
  have HV : Hid (∀ x, I64 x → Calls Try.prog 26 #[.pointer (some ⟨xt, 0, none⟩), .int .i64 x] w fun e w' => e = .returned (.int .i64 (valE n es x)) ∧ w = w') := Lib.hid fun x hx => rvalue_any X xt n es x w hR hg (by omega) hx
  clear hRe hc hI hR
  go_enter Try.func24, Try.ntmps24
  go_wp2_with fail
  go_loopw [6, 7] (fun s6 s7 wr => ∃ (k : Nat) (u : Int), k ≤ c.length ∧ s7 = .int .i64 k ∧ s6 = .int .i64 u ∧ Hid (R = readR n es (c.drop k) u) ∧ w = wr) (fun _ s _ => c.length - (intOf s).toNat)
  case atStart => exact ⟨0, 0, by omega, rfl, rfl, HRe, rfl⟩
  case round =>
    obtain ⟨k, u, hk, rfl, rfl, HK, rfl⟩ := hrel
    by_cases hlt : k < c.length
    · have hki : (k : Int) < (c.length : Int) := by omega
      obtain ⟨b, off, rfl, hbl, hcc⟩ := HC.out (by omega)
      have hck := hcc k hlt
      have hdr : R = readR n es (c[k] :: c.drop (k + 1)) u := by rw [← List.drop_eq_getElem_cons hlt]; exact HK.out
      have hxI := HI.out _ (List.getElem_mem hlt)
      generalize c[k] = x at *
      have HVx := Lib.hid (HV.out x hxI)
      unfold readR at hdr
      generalize valE n es x = v at *
      clear hcc hxI
      by_cases h1 : v = 1
      · subst h1
        rw [if_pos rfl] at hdr
        subst hdr
        go_wp2_with (go_at_call 26; (with_reducible refine HVx.out.mono ?_); rintro e w2 ⟨rfl, rfl⟩)
        go_ret2
        exact ⟨rfl, rfl⟩
      · have h1f : (v == 1) = false := by simpa using h1
        rw [if_neg h1] at hdr
        by_cases h0 : v = 0
        · subst h0
          rw [if_pos rfl] at hdr
          by_cases hu0 : u = 0
          · subst hu0
            rw [if_neg (by simp)] at hdr
            have HD := Lib.hid hdr
            clear hdr
            go_wp2_with (go_at_call 26; (with_reducible refine HVx.out.mono ?_); rintro e w2 ⟨rfl, rfl⟩)
            go_roundw
            case rel => exact ⟨k + 1, x, by omega, by go_num, rfl, HD, by first | rfl | trivial⟩
            case measure => simp [intOf]; omega
          · have hu1 : (u != 0) = true := by simpa using hu0
            by_cases hux : u = x
            · subst hux
              rw [if_neg (by simp)] at hdr
              have HD := Lib.hid hdr
              clear hdr
              go_wp2_with (go_at_call 26; (with_reducible refine HVx.out.mono ?_); rintro e w2 ⟨rfl, rfl⟩)
              go_roundw
              case rel => exact ⟨k + 1, u, by omega, by go_num, rfl, HD, by first | rfl | trivial⟩
              case measure => simp [intOf]; omega
            · have hux1 : (u != x) = true := by simpa using hux
              rw [if_pos ⟨hu0, hux⟩] at hdr
              subst hdr
              go_wp2_with (go_at_call 26; (with_reducible refine HVx.out.mono ?_); rintro e w2 ⟨rfl, rfl⟩)
              go_ret2
              exact ⟨rfl, rfl⟩
        · have h0f : (v == 0) = false := by simpa using h0
          rw [if_neg h0] at hdr
          have HD := Lib.hid hdr
          clear hdr
          go_wp2_with (go_at_call 26; (with_reducible refine HVx.out.mono ?_); rintro e w2 ⟨rfl, rfl⟩)
          go_roundw
          case rel => exact ⟨k + 1, u, by omega, by go_num, rfl, HD, by first | rfl | trivial⟩
          case measure => simp [intOf]; omega
    · obtain rfl : k = c.length := by omega
      have hK := HK.out
      rw [List.drop_length] at hK
      unfold readR at hK
      by_cases hu0 : u = 0
      · subst hu0
        rw [if_pos rfl] at hK
        subst hK
        go_wp2_with fail
        go_ret2
        exact ⟨rfl, rfl⟩
      · have hu1 : (u == 0) = false := by simpa using hu0
        rw [if_neg hu0] at hK
        subst hK
        go_wp2_with fail
        go_ret2
        exact ⟨rfl, rfl⟩

end Go.Proofs.Ytnachllhjojlcaa
