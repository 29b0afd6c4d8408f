/- The document's put. Conditions: as each theorem names them. -/
import Derived.Test.YthaonmmjoednnaaCB
namespace Go.Proofs.Ythaonmmjoednnaa
open Go.ChangeShapes Go.WideShapes Go.ChangeAt Go.RowKit Go.Maps Go.Deep
set_option maxRecDepth 100000

/-- A number into a list that rises, once. -/
def putE : List Int → Int → List Int
  | [], n => [n]
  | x :: xs, n => if x < n then x :: putE xs n else if x = n then x :: xs else n :: x :: xs
theorem putE_len : ∀ (l : List Int) (n : Int), (putE l n).length ≤ l.length + 1
  | [], n => by simp [putE]
  | x :: xs, n => by
    unfold putE
    have := putE_len xs n
    split
    · simpa using this
    · split <;> simp
theorem putE_in : ∀ {l : List Int} {n : Int} {k : Nat} (_ : ∀ i (h : i < l.length), i < k → l[i] < n) (hk : k < l.length) (_ : l[k] = n), putE l n = l
  | x :: xs, n, 0, _, _, h => by
    have h : x = n := h
    unfold putE
    rw [if_neg (by omega), if_pos h]
  | x :: xs, n, k + 1, h1, hk, h => by
    have h2 : x < n := h1 0 (by simp) (by omega)
    unfold putE
    rw [if_pos h2, putE_in (k := k) (fun i hi hk => h1 (i + 1) (by simpa using hi) (by omega)) (by simpa using hk) h]
theorem putE_new : ∀ {l : List Int} {n : Int} {k : Nat} (_ : ∀ i (h : i < l.length), i < k → l[i] < n) (_ : k ≤ l.length) (_ : ∀ (h : k < l.length), n < l[k]), putE l n = l.take k ++ [n] ++ l.drop k
  | [], n, k, _, hk, _ => by
    obtain rfl : k = 0 := by simpa using hk
    rfl
  | x :: xs, n, 0, _, _, h => by
    have h : n < x := h (by simp)
    unfold putE
    rw [if_neg (by omega), if_neg (by omega)]
    rfl
  | x :: xs, n, k + 1, h1, hk, h => by
    have h2 : x < n := h1 0 (by simp) (by omega)
    unfold putE
    rw [if_pos h2, putE_new (k := k) (fun i hi hk => h1 (i + 1) (by simpa using hi) (by omega)) (by simpa using hk) (fun hi => h (by simpa using hi))]
    rfl

/-- Numbers in memory of their own, and the capacity. -/
abbrev IntsC (w : World) (ao : Option Addr) (cap : Nat) (l : List Int) : Prop := Own w 3 1 (.slice ao l.length cap) l.length (inC l)
theorem IntsC.nil (w : World) : IntsC w none 0 [] := Own.nil _ _ _
theorem IntsC.ints {w : World} {ao : Option Addr} {cap : Nat} {l : List Int} (h : IntsC w ao cap l) : Ints w ao l := by
  obtain ⟨ao2, cap2, e, hI⟩ := Own.ints h
  injection e with e1 _ e3
  subst e1
  exact hI
theorem intsC_form {w : World} {ao : Option Addr} {cap : Nat} {l : List Int} (h : IntsC w ao cap l) :
    l.length ≤ cap ∧ ((ao = none ∧ l = [] ∧ cap = 0) ∨ ∃ b off, ao = some ⟨b, off, none⟩ ∧ b < w.heap.size ∧ ∀ j (h : j < l.length), w.cell? ⟨b, off + j, none⟩ = some (.int .i64 l[j])) := by
  refine ⟨own_cap h, ?_⟩
  rcases h.2 with ⟨e, h0⟩ | ⟨g, off, cap2, cur, e, hb, _, _, _, hc⟩
  · injection e with e1 _ e3
    exact .inl ⟨e1, List.eq_nil_of_length_eq_zero h0, e3⟩
  · injection e with e1 _ e3
    refine .inr ⟨g, off, e1, hb.lt, fun j hj => ?_⟩
    rw [hb.cell, hc j (by rw [inC_len]; exact hj)]
    simp [inC, hj]
theorem tail_ints {w : World} {b off k cap : Nat} {l : List Int} (hb : b < w.heap.size) (hc : ∀ j (h : j < l.length), w.cell? ⟨b, off + j, none⟩ = some (.int .i64 l[j])) (hk : k ≤ l.length) (hcap : l.length ≤ cap) :
    Ints w (if cap = k then some ⟨b, off, none⟩ else some ⟨b, off + k, none⟩) (l.drop k) := fun h0 => by
  rw [List.length_drop] at h0
  rw [if_neg (by omega)]
  refine ⟨b, off + k, rfl, hb, fun j hj => ?_⟩
  rw [List.length_drop] at hj
  rw [Nat.add_assoc, hc (k + j) (by omega)]
  simp
theorem head_ints {w : World} {b off k : Nat} {l : List Int} (hb : b < w.heap.size) (hc : ∀ j (h : j < l.length), w.cell? ⟨b, off + j, none⟩ = some (.int .i64 l[j])) : Ints w (some ⟨b, off, none⟩) (l.take k) := fun _ => by
  refine ⟨b, off, rfl, hb, fun j hj => ?_⟩
  rw [List.length_take] at hj
  rw [hc j (by omega)]
  simp

abbrev PutOut (l : List Int) (w : World) (e : Ending) (w' : World) : Prop :=
  ∃ ao' cap', e = .returned (.slice ao' l.length cap') ∧ IntsC w' ao' cap' l ∧ Below w.heap.size w w'

/-- What the three appends make. -/
theorem put_made {w w1 w2 w3 : World} {l : List Int} {n : Int} {k : Nat} {v1 v2 : Value} {a3 : Option Addr} {c3 m : Nat} (hk : k ≤ l.length) (hm : m = l.length + 1)
    (hg1 : (w.alloc (.cells #[] 3)).grownBy w1 (some w.heap.size)) (hv1 : v1.ownBlock = some w.heap.size ∨ v1.ownBlock = some (w.alloc (.cells #[] 3)).heap.size)
    (hg2 : (w1.alloc (.cells #[.int .i64 n] 3)).grownBy w2 v1.ownBlock) (hv2 : v2.ownBlock = v1.ownBlock ∨ v2.ownBlock = some (w1.alloc (.cells #[.int .i64 n] 3)).heap.size)
    (hg3 : w2.grownBy w3 v2.ownBlock) (h3 : Own w3 3 1 (.slice a3 m c3) m (inC (l.take k) ++ [.int .i64 n] ++ inC (l.drop k))) :
    Below w.heap.size w w3 ∧ IntsC w3 a3 c3 (l.take k ++ [n] ++ l.drop k) ∧ (l.take k ++ [n] ++ l.drop k).length = m := by
  have b0 : Below w.heap.size w (w.alloc (.cells #[] 3)) := (Below.refl _ w).alloc (Nat.le_refl _) _
  have b1 : Below w.heap.size w w1 := b0.grown hg1 b0.size fun k e => by injection e with e; omega
  have n1 : ∀ b, v1.ownBlock = some b → w.heap.size ≤ b := fun b e => by
    rcases hv1 with h | h
    · rw [h] at e; injection e with e; omega
    · rw [h] at e; injection e with e; rw [← e]; exact b0.size
  have b2' := b1.alloc b1.size (.cells #[.int .i64 n] 3)
  have b2 : Below w.heap.size w w2 := b2'.grown hg2 b2'.size fun k e => n1 k e
  have n2 : ∀ b, v2.ownBlock = some b → w.heap.size ≤ b := fun b e => by
    rcases hv2 with h | h
    · exact n1 b (h ▸ e)
    · rw [h] at e; injection e with e; rw [← e]; exact b2'.size
  have b3 : Below w.heap.size w w3 := b2.grown hg3 b2.size fun k e => n2 k e
  have hlen : (l.take k ++ [n] ++ l.drop k).length = m := by
    simp only [List.length_append, List.length_take, List.length_drop, List.length_cons, List.length_nil]
    omega
  refine ⟨b3, ?_, hlen⟩
  show Own _ _ _ _ _ _
  rw [hlen]
  have e : inC (l.take k) ++ [Value.int .i64 n] ++ inC (l.drop k) = inC (l.take k ++ [n] ++ l.drop k) := by simp [inC]
  rw [← e]
  exact h3

theorem put_below {w w1 w2 : World} {n : Int} {v1 : Value} (hg1 : (w.alloc (.cells #[] 3)).grownBy w1 (some w.heap.size)) (hv1 : v1.ownBlock = some w.heap.size ∨ v1.ownBlock = some (w.alloc (.cells #[] 3)).heap.size)
    (hg2 : (w1.alloc (.cells #[.int .i64 n] 3)).grownBy w2 v1.ownBlock) : Below w.heap.size w w2 := by
  have b0 : Below w.heap.size w (w.alloc (.cells #[] 3)) := (Below.refl _ w).alloc (Nat.le_refl _) _
  have b1 : Below w.heap.size w w1 := b0.grown hg1 b0.size fun k e => by injection e with e; omega
  have b2' := b1.alloc b1.size (.cells #[.int .i64 n] 3)
  exact b2'.grown hg2 b2'.size fun k e => by
    rcases hv1 with h | h
    · rw [h] at e; injection e with e; omega
    · rw [h] at e; injection e with e; rw [← e]; exact b0.size
theorem one_snoc (l : List Int) (n : Int) : ∀ u ∈ inC l ++ [Value.int .i64 n], u.oneCell' = true := fun u hu => by
  rcases List.mem_append.1 hu with h | h
  · exact in_one l u h
  · rw [List.mem_singleton.1 h]; rfl

set_option maxHeartbeats 2000000 in
theorem put_any (l : List Int) (n : Int) (ao : Option Addr) (cap : Nat) (w : World) (hI : IntsC w ao cap l) (hl : l.length ≤ 100000) :
    Calls Try.prog 21 #[.slice ao l.length cap, .int .i64 n] w (PutOut (putE l n) w) := by
  obtain ⟨o, ho⟩ : ∃ o, o = putE l n := ⟨_, rfl⟩
  rw [← ho]
  obtain ⟨i3, hi3, hz0, hz1, hz2⟩ := info_parts (P := Try.prog) (e := 3) (z := .int .i64 0) (size := 1) (bytes := 8) (by kernel_rfl)
  have HI := Lib.hid hI
  have HO := Lib.hid ho
  have hF := intsC_form hI
  have hcap := hF.1
  rcases hF.2 with ⟨rfl, rfl, rfl⟩ | ⟨b, off, rfl, hbl, hcells⟩
  · obtain rfl : o = [n] := ho
    clear hI hF hcap HO
    go_enter Try.func21, Try.ntmps21
    go_wp2_with fail
    go_loop [5] (fun i => i = .int .i64 0) (fun _ => 0)
    case atStart => exact rfl
    case round =>
      obtain rfl := hrel
      go_wp2_with (first
        | (at_builtin; refine wpList_append_S _ rfl (.tmp 34) (.tmp 37) _ _ rfl 3 i3 _ 1 8 Try.underlying24 hi3 hz0 hz1 hz2 rfl (by omega) (.slice (some ⟨w.heap.size, 0, none⟩) 0 0) 0 [] rfl (Own.made w 3 1 #[] 0 rfl (by decide)) (by simp) (.slice none 0 0) 0 (inC []) rfl (Src.ofNil _ Try.underlying24 0) (by simp only [maxLen]; omega) (by omega) ?_; intro a1 c1 w1 hn1 hm1 hown1 hg1 hat1 hlt1; simp only [Nat.zero_add, List.nil_append] at hown1 hat1 hlt1 ⊢
           have HO1 := Lib.hid hown1; have HG1 := Lib.hid (show _ ∧ _ from ⟨hg1, hat1⟩); clear hown1 hg1 hat1 hlt1 hn1 hm1)
        | (at_builtin; refine wpList_append_S _ rfl (.tmp 38) (.tmp 40) _ _ rfl 3 i3 _ 1 8 Try.underlying24 hi3 hz0 hz1 hz2 rfl (by omega) (.slice a1 0 c1) 0 (inC []) rfl (HO1.out.alloc (.cells #[.int .i64 n] 3)) (in_one _) _ 1 [_] rfl (src_new w1 Try.underlying24 3 _ rfl) (by simp only [maxLen]; omega) (by omega) ?_; intro a2 c2 w2 hn2 hm2 hown2 hg2 hat2 hlt2
           have HO2 := Lib.hid hown2; have HG2 := Lib.hid (show _ ∧ _ from ⟨hg2, hat2⟩); have HB2 := Lib.hid (put_below HG1.out.1 HG1.out.2 hg2); clear hown2 hg2 hat2 hlt2 hn2 hm2)
        | (at_builtin; refine wpList_append_S _ rfl (.tmp 42) (.tmp 45) _ _ rfl 3 i3 _ 1 8 Try.underlying24 hi3 hz0 hz1 hz2 rfl (by omega) (.slice a2 (0 + 1) c2) (0 + 1) (inC [] ++ [.int .i64 n]) rfl HO2.out (one_snoc _ _) (.slice none 0 0) 0 (inC []) rfl (Src.ofNil _ Try.underlying24 0) (by simp only [maxLen]; omega) (by omega) ?_; intro a3 c3 w3 hn3 hm3 hown3 hg3 hat3 hlt3
           have HO3 := Lib.hid hown3; have HG3 := Lib.hid hg3; clear hown3 hg3 hat3 hlt3 hn3 hm3)
        | fail)
      go_ret
      obtain ⟨h1, h2, h3⟩ := put_made (l := []) (n := n) (k := 0) (by simp) (show 1 = _ by rfl) HG1.out.1 HG1.out.2 HG2.out.1 HG2.out.2 HG3.out HO3.out
      exact ⟨_, _, rfl, h2, h1⟩
  · have HC := Lib.hid hcells
    clear hI hF ho hcells
    have hcapi : (l.length : Int) ≤ (cap : Int) := by omega
    go_enter Try.func21, Try.ntmps21
    go_wp2_with fail
    go_loop [5] (fun i => ∃ k : Nat, k ≤ l.length ∧ i = .int .i64 k ∧ Hid (∀ i (h : i < l.length), i < k → l[i] < n)) (fun i => l.length - (intOf i).toNat)
    case atStart => exact ⟨0, by omega, rfl, Lib.hid fun i _ h => absurd h (Nat.not_lt_zero _)⟩
    case round =>
      obtain ⟨k, hk, rfl, HL⟩ := hrel
      by_cases hgo : ∃ h : k < l.length, l[k] < n
      · obtain ⟨hlt, hx⟩ := hgo
        have hki : (k : Int) < (l.length : Int) := by omega
        have hck := HC.out k hlt
        have HL2 := Lib.hid (show ∀ i (h : i < l.length), i < k + 1 → l[i] < n from fun i h hi => by
          rcases Nat.lt_succ_iff_lt_or_eq.1 hi with h1 | h1
          · exact HL.out i h h1
          · subst h1; exact hx)
        generalize l[k] = x at *
        clear HL
        go_wp2_with fail
        go_round
        case rel => exact ⟨k + 1, by omega, by go_num, HL2⟩
        case measure => simp [intOf]; omega
      · by_cases heq : ∃ h : k < l.length, l[k] = n
        · obtain ⟨hlt, hx⟩ := heq
          have hki : (k : Int) < (l.length : Int) := by omega
          have hck := HC.out k hlt
          obtain rfl : o = l := by rw [HO.out]; exact putE_in HL.out hlt hx
          rw [hx] at hck
          have hd : decide (n < n) = false := by simp
          clear hgo hx HL HO
          go_wp2_with fail
          go_ret
          exact ⟨_, _, rfl, HI.out, Below.refl _ _⟩
        · have hnew : o = l.take k ++ [n] ++ l.drop k := by
            rw [HO.out]
            exact putE_new HL.out hk fun h => by
              rcases Int.lt_trichotomy l[k] n with h1 | h1 | h1
              · exact absurd ⟨h, h1⟩ hgo
              · exact absurd ⟨h, h1⟩ heq
              · exact h1
          have HNew := Lib.hid hnew
          have hki : (k : Int) ≤ (l.length : Int) := by omega
          have hkc : (k : Int) ≤ (cap : Int) := by omega
          have HT1 := Lib.hid (show ∀ w', Below w.heap.size w w' → Src Try.prog 1 24 (.slice (some ⟨b, off, none⟩) k cap) k (inC (l.take k)) w' from fun w' hb => by
            have h := ints_src cap ((head_ints (k := k) hbl HC.out).below hb)
            rwa [List.length_take, Nat.min_eq_left hk] at h)
          have HT2 := Lib.hid (show ∀ w', Below w.heap.size w w' → Src Try.prog 1 24 (.slice (if cap = k then some ⟨b, off, none⟩ else some ⟨b, off + k, none⟩) (l.length - k) (cap - k)) (l.length - k) (inC (l.drop k)) w' from fun w' hb => by
            have h := ints_src (cap - k) ((tail_ints (cap := cap) hbl HC.out hk hcap).below hb)
            rwa [List.length_drop] at h)
          have hcase : (∃ x : Int, k < l.length ∧ w.cell? ⟨b, off + k, none⟩ = some (.int .i64 x) ∧ decide (x < n) = false ∧ (x == n) = false) ∨ k = l.length := by
            by_cases h : k < l.length
            · refine .inl ⟨l[k], h, HC.out k h, ?_, ?_⟩
              · simp; exact Int.not_lt.1 fun h1 => hgo ⟨h, h1⟩
              · simp; exact fun h1 => heq ⟨h, h1⟩
            · exact .inr (by omega)
          clear hgo heq hnew HL HO
          rcases hcase with ⟨x, hlt, hck, hd1, hd2⟩ | hke
          rotate_left
          · have hd0 : ¬ (k : Int) < (l.length : Int) := by omega
            clear hke
            go_wp2_with (first
              | (at_builtin; refine wpList_append_S _ rfl (.tmp 34) (.tmp 37) _ _ rfl 3 i3 _ 1 8 Try.underlying24 hi3 hz0 hz1 hz2 rfl (by omega) (.slice (some ⟨w.heap.size, 0, none⟩) 0 0) 0 [] rfl (Own.made w 3 1 #[] 0 rfl (by decide)) (by simp) (.slice (some ⟨b, off, none⟩) k cap) k (inC (l.take k)) rfl (HT1.out _ ((Below.refl _ w).alloc (Nat.le_refl _) _)) (by simp only [maxLen]; omega) (by omega) ?_; intro a1 c1 w1 hn1 hm1 hown1 hg1 hat1 hlt1; simp only [Nat.zero_add, List.nil_append] at hown1 hat1 hlt1 ⊢
                 have HO1 := Lib.hid hown1; have HG1 := Lib.hid (show _ ∧ _ from ⟨hg1, hat1⟩); clear hown1 hg1 hat1 hlt1 hn1 hm1)
              | (at_builtin; refine wpList_append_S _ rfl (.tmp 38) (.tmp 40) _ _ rfl 3 i3 _ 1 8 Try.underlying24 hi3 hz0 hz1 hz2 rfl (by omega) (.slice a1 k c1) k (inC (l.take k)) rfl (HO1.out.alloc (.cells #[.int .i64 n] 3)) (in_one _) _ 1 [_] rfl (src_new w1 Try.underlying24 3 _ rfl) (by simp only [maxLen]; omega) (by omega) ?_; intro a2 c2 w2 hn2 hm2 hown2 hg2 hat2 hlt2
                 have HO2 := Lib.hid hown2; have HG2 := Lib.hid (show _ ∧ _ from ⟨hg2, hat2⟩); have HB2 := Lib.hid (put_below HG1.out.1 HG1.out.2 hg2); clear hown2 hg2 hat2 hlt2 hn2 hm2)
              | (at_builtin; refine wpList_append_S _ rfl (.tmp 42) (.tmp 45) _ _ rfl 3 i3 _ 1 8 Try.underlying24 hi3 hz0 hz1 hz2 rfl (by omega) (.slice a2 (k + 1) c2) (k + 1) (inC (l.take k) ++ [.int .i64 n]) rfl HO2.out (one_snoc _ _) (.slice (if cap = k then some ⟨b, off, none⟩ else some ⟨b, off + k, none⟩) (l.length - k) (cap - k)) (l.length - k) (inC (l.drop k)) rfl (HT2.out _ HB2.out) (by simp only [maxLen]; omega) (by omega) ?_; intro a3 c3 w3 hn3 hm3 hown3 hg3 hat3 hlt3
                 have HO3 := Lib.hid hown3; have HG3 := Lib.hid hg3; clear hown3 hg3 hat3 hlt3 hn3 hm3)
              | fail)
            all_goals
              go_ret
              obtain ⟨h1, h2, h3⟩ := put_made (n := n) hk (show k + 1 + (l.length - k) = l.length + 1 by omega) HG1.out.1 HG1.out.2 HG2.out.1 HG2.out.2 HG3.out HO3.out
              rw [← HNew.out] at h2 h3
              rw [← h3]
              exact ⟨_, _, rfl, h2, h1⟩
          · have hki2 : (k : Int) < (l.length : Int) := by omega
            have HT3 := Lib.hid (show ∀ w', Below w.heap.size w w' → Src Try.prog 1 24 (.slice (some ⟨b, off + k, none⟩) (l.length - k) (cap - k)) (l.length - k) (inC (l.drop k)) w' from fun w' hb => by
              have h := HT2.out w' hb
              rwa [if_neg (by omega)] at h)
            go_wp2_with (first
              | (at_builtin; refine wpList_append_S _ rfl (.tmp 34) (.tmp 37) _ _ rfl 3 i3 _ 1 8 Try.underlying24 hi3 hz0 hz1 hz2 rfl (by omega) (.slice (some ⟨w.heap.size, 0, none⟩) 0 0) 0 [] rfl (Own.made w 3 1 #[] 0 rfl (by decide)) (by simp) (.slice (some ⟨b, off, none⟩) k cap) k (inC (l.take k)) rfl (HT1.out _ ((Below.refl _ w).alloc (Nat.le_refl _) _)) (by simp only [maxLen]; omega) (by omega) ?_; intro a1 c1 w1 hn1 hm1 hown1 hg1 hat1 hlt1; simp only [Nat.zero_add, List.nil_append] at hown1 hat1 hlt1 ⊢
                 have HO1 := Lib.hid hown1; have HG1 := Lib.hid (show _ ∧ _ from ⟨hg1, hat1⟩); clear hown1 hg1 hat1 hlt1 hn1 hm1)
              | (at_builtin; refine wpList_append_S _ rfl (.tmp 38) (.tmp 40) _ _ rfl 3 i3 _ 1 8 Try.underlying24 hi3 hz0 hz1 hz2 rfl (by omega) (.slice a1 k c1) k (inC (l.take k)) rfl (HO1.out.alloc (.cells #[.int .i64 n] 3)) (in_one _) _ 1 [_] rfl (src_new w1 Try.underlying24 3 _ rfl) (by simp only [maxLen]; omega) (by omega) ?_; intro a2 c2 w2 hn2 hm2 hown2 hg2 hat2 hlt2
                 have HO2 := Lib.hid hown2; have HG2 := Lib.hid (show _ ∧ _ from ⟨hg2, hat2⟩); have HB2 := Lib.hid (put_below HG1.out.1 HG1.out.2 hg2); clear hown2 hg2 hat2 hlt2 hn2 hm2)
              | (at_builtin; refine wpList_append_S _ rfl (.tmp 42) (.tmp 45) _ _ rfl 3 i3 _ 1 8 Try.underlying24 hi3 hz0 hz1 hz2 rfl (by omega) (.slice a2 (k + 1) c2) (k + 1) (inC (l.take k) ++ [.int .i64 n]) rfl HO2.out (one_snoc _ _) (.slice (some ⟨b, off + k, none⟩) (l.length - k) (cap - k)) (l.length - k) (inC (l.drop k)) rfl (HT3.out _ HB2.out) (by simp only [maxLen]; omega) (by omega) ?_; intro a3 c3 w3 hn3 hm3 hown3 hg3 hat3 hlt3
                 have HO3 := Lib.hid hown3; have HG3 := Lib.hid hg3; clear hown3 hg3 hat3 hlt3 hn3 hm3)
              | fail)
            go_ret
            obtain ⟨h1, h2, h3⟩ := put_made (n := n) hk (show k + 1 + (l.length - k) = l.length + 1 by omega) HG1.out.1 HG1.out.2 HG2.out.1 HG2.out.2 HG3.out HO3.out
            rw [← HNew.out] at h2 h3
            rw [← h3]
            exact ⟨_, _, rfl, h2, h1⟩

end Go.Proofs.Ythaonmmjoednnaa
