/- A state's truth: Holds, of the program and of the document; Check; long; may; Enough. -/
import Derived.Test.YtoainmkebdpikaaGn
namespace Go.Proofs.Ytoainmkebdpikaa
open Go.ChangeShapes Go.WideShapes Go.ChangeAt Go.RowKit Go.Maps Go.Deep
set_option maxRecDepth 100000

/-! ### Plain -/
def trueE (st : List Bool) (x : Int) : Bool := if 1 ≤ x ∧ x ≤ st.length then st.getD (x - 1).toNat false else if x ≤ -1 ∧ -(st.length : Int) ≤ x then !st.getD (-x - 1).toNat false else false
def holdsC (st : List Bool) (c : List Int) : Bool := c.any (trueE st)
def holdsCl (st : List Bool) (cl : List (List Int)) : Bool := cl.all (holdsC st)
theorem trueE_pos {st : List Bool} {j : Nat} (h : j < st.length) : trueE st ((j : Int) + 1) = st[j] := by
  unfold trueE
  rw [if_pos (by omega)]
  have : ((j : Int) + 1 - 1).toNat = j := by omega
  rw [this, List.getD_eq_getElem?_getD, List.getElem?_eq_getElem h]
  rfl
theorem trueE_neg {st : List Bool} {j : Nat} (h : j < st.length) : trueE st (-(j : Int) - 1) = !st[j] := by
  unfold trueE
  rw [if_neg (by omega), if_pos (by omega)]
  have : (-(-(j : Int) - 1) - 1).toNat = j := by omega
  rw [this, List.getD_eq_getElem?_getD, List.getElem?_eq_getElem h]
  rfl
theorem lit_cases (n : Nat) (x : Int) : (∃ j : Nat, j < n ∧ x = (j : Int) + 1) ∨ (∃ j : Nat, j < n ∧ x = -(j : Int) - 1) ∨ ((x < 1 ∨ (n : Int) < x) ∧ (-1 < x ∨ x < -(n : Int))) := by
  by_cases h : 1 ≤ x ∧ x ≤ n
  · exact .inl ⟨(x - 1).toNat, by omega, by omega⟩
  · by_cases h2 : x ≤ -1 ∧ -(n : Int) ≤ x
    · exact .inr (.inl ⟨(-x - 1).toNat, by omega, by omega⟩)
    · exact .inr (.inr (by omega))
theorem trueE_out {st : List Bool} {x : Int} (h : (x < 1 ∨ (st.length : Int) < x) ∧ (-1 < x ∨ x < -(st.length : Int))) : trueE st x = false := by
  unfold trueE
  rw [if_neg (by omega), if_neg (by omega)]

/-! ### Values in memory -/
def Bools (w : World) (ao : Option Addr) (l : List Bool) : Prop :=
  0 < l.length → ∃ b off, ao = some ⟨b, off, none⟩ ∧ b < w.heap.size ∧ ∀ j (h : j < l.length), w.cell? ⟨b, off + j, none⟩ = some (.bool l[j])
theorem Bools.below {w w' : World} {ao : Option Addr} {l : List Bool} (h : Bools w ao l) (hb : Below w.heap.size w w') : Bools w' ao l := fun h0 => by
  obtain ⟨b, off, e, hbl, hc⟩ := h h0
  exact ⟨b, off, e, Nat.lt_of_lt_of_le hbl hb.size, fun j hj => (World.cell?_of_block (w := w) (hb.block b hbl)).trans (hc j hj)⟩
theorem Own.bools {w : World} {v : Value} {l : List Bool} (h : Own w 4 1 v l.length (boC l)) : ∃ ao cap, v = .slice ao l.length cap ∧ Bools w ao l := by
  obtain ⟨ao, cap, rfl, _, _, hf⟩ := h.form
  refine ⟨ao, cap, rfl, fun h0 => ?_⟩
  obtain ⟨b, off, rfl, hc, _, hbl⟩ := hf h0
  exact ⟨b, off, rfl, hbl, fun j hj => by have := hc j (by simpa [boC] using hj); simpa [boC, hj] using this⟩

theorem true_any (st : List Bool) (ao : Option Addr) (cap : Nat) (x : Int) (hx : I64 x) (w : World) (hs : Bools w ao st) (hl : st.length ≤ 1000000) :
    Calls Try.prog 20 #[.slice ao st.length cap, .int .i64 x] w fun e w' => e = .returned (.bool (trueE st x)) ∧ w = w' := by
  unfold I64 at hx
  rcases lit_cases st.length x with ⟨j, hj, rfl⟩ | ⟨j, hj, rfl⟩ | h
  · rw [trueE_pos hj]
    obtain ⟨b, off, rfl, _, hc⟩ := hs (by omega)
    have hcj := hc j hj
    generalize st[j] = t at *
    have h1 : decide (1 ≤ (j : Int) + 1) = true := by simp; omega
    have h2 : decide ((j : Int) + 1 ≤ (st.length : Int)) = true := by simp; omega
    have hw : IntKind.i64.wrap ((j : Int) + 1 - 1) = (j : Int) := by rw [IntKind.wrap_i64]; omega
    have hji : (j : Int) < (st.length : Int) := by omega
    clear hc hs
    go_enter Try.func20, Try.ntmps20
    go_wp2_with fail
    go_ret
    exact ⟨rfl, rfl⟩
  · rw [trueE_neg hj]
    obtain ⟨b, off, rfl, _, hc⟩ := hs (by omega)
    have hcj := hc j hj
    generalize st[j] = t at *
    have h1 : decide (1 ≤ -(j : Int) - 1) = false := by simp; omega
    have h3 : decide (-(j : Int) - 1 ≤ -1) = true := by simp; omega
    have h4 : IntKind.i64.wrap (-(st.length : Int)) = -(st.length : Int) := by rw [IntKind.wrap_i64]; omega
    have h2 : decide (-(st.length : Int) ≤ -(j : Int) - 1) = true := by simp; omega
    have hw1 : IntKind.i64.wrap (-(-(j : Int) - 1)) = (j : Int) + 1 := by rw [IntKind.wrap_i64]; omega
    have hw : IntKind.i64.wrap ((j : Int) + 1 - 1) = (j : Int) := by rw [IntKind.wrap_i64]; omega
    have hji : (j : Int) < (st.length : Int) := by omega
    clear hc hs
    go_enter Try.func20, Try.ntmps20
    go_wp2_with fail
    go_ret
    exact ⟨rfl, rfl⟩
  · rw [trueE_out h]
    clear hs
    by_cases hp : 1 ≤ x
    · have h1 : decide (1 ≤ x) = true := by simpa using hp
      have h2 : decide (x ≤ (st.length : Int)) = false := by simp; omega
      have h3 : decide (x ≤ -1) = false := by simp; omega
      go_enter Try.func20, Try.ntmps20
      go_wp2_with fail
      go_ret
      exact ⟨rfl, rfl⟩
    · have h1 : decide (1 ≤ x) = false := by simpa using hp
      by_cases hn : x ≤ -1
      · have h3 : decide (x ≤ -1) = true := by simpa using hn
        have h4 : IntKind.i64.wrap (-(st.length : Int)) = -(st.length : Int) := by rw [IntKind.wrap_i64]; omega
        have h2 : decide (-(st.length : Int) ≤ x) = false := by simp; omega
        go_enter Try.func20, Try.ntmps20
        go_wp2_with fail
        go_ret
        exact ⟨rfl, rfl⟩
      · have h3 : decide (x ≤ -1) = false := by simpa using hn
        go_enter Try.func20, Try.ntmps20
        go_wp2_with fail
        go_ret
        exact ⟨rfl, rfl⟩

/-- What is true, as a captured function tells it. -/
theorem holds1_any (st : List Bool) (ao : Option Addr) (cap cp : Nat) (x : Int) (hx : I64 x) (w : World) (hs : Bools w ao st) (hl : st.length ≤ 1000000) (hcp : w.cell? ⟨cp, 0, none⟩ = some (.slice ao st.length cap)) :
    Calls Try.prog 30 #[.int .i64 x, .pointer (some ⟨cp, 0, none⟩)] w fun e w' => e = .returned (.bool (trueE st x)) ∧ w = w' := by
  unfold I64 at hx
  rcases lit_cases st.length x with ⟨j, hj, rfl⟩ | ⟨j, hj, rfl⟩ | h
  · rw [trueE_pos hj]
    obtain ⟨b, off, rfl, _, hc⟩ := hs (by omega)
    have hcj := hc j hj
    generalize st[j] = t at *
    have h1 : decide (1 ≤ (j : Int) + 1) = true := by simp; omega
    have h2 : decide ((j : Int) + 1 ≤ (st.length : Int)) = true := by simp; omega
    have h3 : decide ((j : Int) + 1 ≤ -1) = false := by simp; omega
    have hw : IntKind.i64.wrap ((j : Int) + 1 - 1) = (j : Int) := by rw [IntKind.wrap_i64]; omega
    have hji : (j : Int) < (st.length : Int) := by omega
    clear hc hs
    cases t with
    | true =>
      go_enter Try.func30, Try.ntmps30
      go_wp2_with fail
      go_ret
      exact ⟨rfl, rfl⟩
    | false =>
      go_enter Try.func30, Try.ntmps30
      go_wp2_with fail
      go_ret
      exact ⟨rfl, rfl⟩
  · rw [trueE_neg hj]
    obtain ⟨b, off, rfl, _, hc⟩ := hs (by omega)
    have hcj := hc j hj
    generalize st[j] = t at *
    have h1 : decide (1 ≤ -(j : Int) - 1) = false := by simp; omega
    have h3 : decide (-(j : Int) - 1 ≤ -1) = true := by simp; omega
    have h4 : IntKind.i64.wrap (-(st.length : Int)) = -(st.length : Int) := by rw [IntKind.wrap_i64]; omega
    have h2 : decide (-(st.length : Int) ≤ -(j : Int) - 1) = true := by simp; omega
    have hw1 : IntKind.i64.wrap (-(-(j : Int) - 1)) = (j : Int) + 1 := by rw [IntKind.wrap_i64]; omega
    have hw : IntKind.i64.wrap ((j : Int) + 1 - 1) = (j : Int) := by rw [IntKind.wrap_i64]; omega
    have hji : (j : Int) < (st.length : Int) := by omega
    clear hc hs
    go_enter Try.func30, Try.ntmps30
    go_wp2_with fail
    go_ret
    exact ⟨rfl, rfl⟩
  · rw [trueE_out h]
    clear hs
    by_cases hp : 1 ≤ x
    · have h1 : decide (1 ≤ x) = true := by simpa using hp
      have h2 : decide (x ≤ (st.length : Int)) = false := by simp; omega
      have h3 : decide (x ≤ -1) = false := by simp; omega
      go_enter Try.func30, Try.ntmps30
      go_wp2_with fail
      go_ret
      exact ⟨rfl, rfl⟩
    · have h1 : decide (1 ≤ x) = false := by simpa using hp
      by_cases hn : x ≤ -1
      · have h3 : decide (x ≤ -1) = true := by simpa using hn
        have h4 : IntKind.i64.wrap (-(st.length : Int)) = -(st.length : Int) := by rw [IntKind.wrap_i64]; omega
        have h2 : decide (-(st.length : Int) ≤ x) = false := by simp; omega
        go_enter Try.func30, Try.ntmps30
        go_wp2_with fail
        go_ret
        exact ⟨rfl, rfl⟩
      · have h3 : decide (x ≤ -1) = false := by simpa using hn
        go_enter Try.func30, Try.ntmps30
        go_wp2_with fail
        go_ret
        exact ⟨rfl, rfl⟩

theorem indexFuncH (f : Int → Bool) (cp : Nat) (l : List Int) (ao : Option Addr) (cap : Nat) (w : World) (hl : l.length ≤ 4611686018427387904) (hc : Ints w ao l)
    (hf : ∀ x ∈ l, Calls Try.prog 30 #[.int .i64 x, .pointer (some ⟨cp, 0, none⟩)] w fun e w' => e = .returned (.bool (f x)) ∧ w = w') :
    Calls Try.prog 51 #[.slice ao l.length cap, .func (.func 30) #[] #[.pointer (some ⟨cp, 0, none⟩)]] w fun e w' => e = .returned (.int .i64 (firstAtK f l 0)) ∧ w = w' := by
  obtain ⟨T, hT⟩ : ∃ T, T = firstAtK f l 0 := ⟨_, rfl⟩
  have HT := Lib.hid hT
  have HF := Lib.hid hf
  rw [← hT]
  clear hT hf
  go_enter Try.func51, Try.ntmps51
  go_wp2_with fail
  go_loop [8] (fun i => ∃ k : Nat, k ≤ l.length ∧ i = .int .i64 k ∧ T = firstAtK f (l.drop k) k) (fun i => l.length - (intOf i).toNat)
  case atStart => exact ⟨0, by omega, rfl, HT.out⟩
  case round =>
    obtain ⟨k, hk, rfl, hrest⟩ := hrel
    by_cases hlt : k < l.length
    · obtain ⟨b, off, rfl, _, hcell⟩ := hc (by omega)
      have hck := hcell k hlt
      have hki : (k : Int) < (l.length : Int) := by omega
      rw [List.drop_eq_getElem_cons hlt] at hrest
      unfold firstAtK at hrest
      have HC := Lib.hid (HF.out l[k] (List.getElem_mem _))
      generalize l[k] = x at *
      generalize hfx : f x = b1 at *
      cases b1 with
      | true =>
        rw [if_pos rfl] at hrest
        subst hrest
        clear hfx hc hcell
        go_wp2_with (go_at_call 30; refine HC.out.mono ?_; rintro e w' ⟨rfl, rfl⟩)
        go_ret
        exact ⟨rfl, rfl⟩
      | false =>
        have HR := Lib.hid hrest
        clear hfx hc hcell hrest
        go_wp2_with (go_at_call 30; refine HC.out.mono ?_; rintro e w' ⟨rfl, rfl⟩)
        go_round
        case rel => exact ⟨k + 1, by omega, by go_num, by have h := HR.out; rw [if_neg (by simp)] at h; exact h⟩
        case measure => simp [intOf]; omega
    · obtain rfl : k = l.length := by omega
      have hT : T = -1 := by rw [hrest, List.drop_length]; rfl
      subst hT
      clear hrest hc
      go_wp2_with fail
      go_ret
      exact ⟨rfl, rfl⟩
theorem containsFuncH (f : Int → Bool) (cp : Nat) (l : List Int) (ao : Option Addr) (cap : Nat) (w : World) (hl : l.length ≤ 4611686018427387904) (hc : Ints w ao l)
    (hf : ∀ x ∈ l, Calls Try.prog 30 #[.int .i64 x, .pointer (some ⟨cp, 0, none⟩)] w fun e w' => e = .returned (.bool (f x)) ∧ w = w') :
    Calls Try.prog 33 #[.slice ao l.length cap, .func (.func 30) #[] #[.pointer (some ⟨cp, 0, none⟩)]] w fun e w' => e = .returned (.bool (l.any f)) ∧ w = w' := by
  have HI := Lib.hid (indexFuncH f cp l ao cap w hl hc hf)
  have h := firstAt_anyK f l 0
  generalize firstAtK f l 0 = r at *
  rw [← h]
  clear h hf hc
  go_enter Try.func33, Try.ntmps33
  go_wp2_with (go_at_call 51; refine HI.out.mono ?_; rintro e w' ⟨rfl, rfl⟩)
  go_ret
  exact ⟨rfl, rfl⟩

/-- A clause that has no true literal. -/
theorem holds2_any (st : List Bool) (ao : Option Addr) (cap cp fp : Nat) (c : List Int) (aoc : Option Addr) (capc : Nat) (w : World) (hs : Bools w ao st) (hl : st.length ≤ 1000000) (hcp : w.cell? ⟨cp, 0, none⟩ = some (.slice ao st.length cap))
    (hfp : w.cell? ⟨fp, 0, none⟩ = some (.func (.func 30) #[] #[.pointer (some ⟨cp, 0, none⟩)])) (hc : Ints w aoc c) (hcl : c.length ≤ 1000000) (hI : ∀ x ∈ c, I64 x) :
    Calls Try.prog 32 #[.slice aoc c.length capc, .pointer (some ⟨fp, 0, none⟩)] w fun e w' => e = .returned (.bool (!holdsC st c)) ∧ w = w' := by
  have HC := Lib.hid (containsFuncH (trueE st) cp c aoc capc w (by omega) hc fun x hx => holds1_any st ao cap cp x (hI x hx) w hs hl hcp)
  unfold holdsC
  generalize c.any (trueE st) = r at *
  clear hs hc hI hcp
  go_enter Try.func32, Try.ntmps32
  go_wp2_with (go_at_call 33; refine HC.out.mono ?_; rintro e w' ⟨rfl, rfl⟩)
  go_ret
  exact ⟨rfl, rfl⟩

def firstR (f : List Int → Bool) : List (List Int) → Nat → Int
  | [], _ => -1
  | x :: xs, k => if f x then k else firstR f xs (k + 1)
theorem firstR_any (f : List Int → Bool) : ∀ (l : List (List Int)) (k : Nat), decide (0 ≤ firstR f l k) = l.any f
  | [], k => by simp [firstR]
  | x :: xs, k => by
    unfold firstR
    by_cases h : f x = true
    · rw [if_pos h]
      simp [h]
    · rw [if_neg h, firstR_any f xs (k + 1)]
      simp [h]

theorem indexFuncs_any (f : List Int → Bool) (fp : Nat) (l : List (List Int)) (ao : Option Addr) (cap : Nat) (av : Nat → Option Addr) (cv : Nat → Nat) (w : World) (hl : l.length ≤ 4611686018427387904) (hc : IsRows w ao l av cv)
    (hf : ∀ j (h : j < l.length), Calls Try.prog 32 #[.slice (av j) l[j].length (cv j), .pointer (some ⟨fp, 0, none⟩)] w fun e w' => e = .returned (.bool (f l[j])) ∧ w = w') :
    Calls Try.prog 50 #[.slice ao l.length cap, .func (.func 32) #[] #[.pointer (some ⟨fp, 0, none⟩)]] w fun e w' => e = .returned (.int .i64 (firstR f l 0)) ∧ w = w' := by
  obtain ⟨T, hT⟩ : ∃ T, T = firstR f l 0 := ⟨_, rfl⟩
  have HT := Lib.hid hT
  have HF := Lib.hid hf
  have HC0 := Lib.hid hc
  rw [← hT]
  clear hT hf hc
  go_enter Try.func50, Try.ntmps50
  go_wp2_with fail
  go_loop [8] (fun i => ∃ k : Nat, k ≤ l.length ∧ i = .int .i64 k ∧ T = firstR f (l.drop k) k) (fun i => l.length - (intOf i).toNat)
  case atStart => exact ⟨0, by omega, rfl, HT.out⟩
  case round =>
    obtain ⟨k, hk, rfl, hrest⟩ := hrel
    by_cases hlt : k < l.length
    · obtain ⟨b, off, rfl, _, hcell⟩ := HC0.out.rows (by omega)
      have hck := hcell k hlt
      have hki : (k : Int) < (l.length : Int) := by omega
      rw [List.drop_eq_getElem_cons hlt] at hrest
      unfold firstR at hrest
      have HC := Lib.hid (HF.out k hlt)
      generalize l[k] = x at *
      generalize hfx : f x = b1 at *
      cases b1 with
      | true =>
        rw [if_pos rfl] at hrest
        subst hrest
        clear hfx hcell
        go_wp2_with (go_at_call 32; refine HC.out.mono ?_; rintro e w' ⟨rfl, rfl⟩)
        go_ret
        exact ⟨rfl, rfl⟩
      | false =>
        have HR := Lib.hid hrest
        clear hfx hcell hrest
        go_wp2_with (go_at_call 32; refine HC.out.mono ?_; rintro e w' ⟨rfl, rfl⟩)
        go_round
        case rel => exact ⟨k + 1, by omega, by go_num, by have h := HR.out; rw [if_neg (by simp)] at h; exact h⟩
        case measure => simp [intOf]; omega
    · obtain rfl : k = l.length := by omega
      have hT : T = -1 := by rw [hrest, List.drop_length]; rfl
      subst hT
      clear hrest
      go_wp2_with fail
      go_ret
      exact ⟨rfl, rfl⟩
theorem containsFuncs_any (f : List Int → Bool) (fp : Nat) (l : List (List Int)) (ao : Option Addr) (cap : Nat) (av : Nat → Option Addr) (cv : Nat → Nat) (w : World) (hl : l.length ≤ 4611686018427387904) (hc : IsRows w ao l av cv)
    (hf : ∀ j (h : j < l.length), Calls Try.prog 32 #[.slice (av j) l[j].length (cv j), .pointer (some ⟨fp, 0, none⟩)] w fun e w' => e = .returned (.bool (f l[j])) ∧ w = w') :
    Calls Try.prog 31 #[.slice ao l.length cap, .func (.func 32) #[] #[.pointer (some ⟨fp, 0, none⟩)]] w fun e w' => e = .returned (.bool (l.any f)) ∧ w = w' := by
  have HI := Lib.hid (indexFuncs_any f fp l ao cap av cv w hl hc hf)
  have h := firstR_any f l 0
  generalize firstR f l 0 = r at *
  rw [← h]
  clear h hf hc
  go_enter Try.func31, Try.ntmps31
  go_wp2_with (go_at_call 50; refine HI.out.mono ?_; rintro e w' ⟨rfl, rfl⟩)
  go_ret
  exact ⟨rfl, rfl⟩

theorem not_any_not (st : List Bool) (cl : List (List Int)) : (!(cl.any fun c => !holdsC st c)) = holdsCl st cl := by
  unfold holdsCl
  rw [List.not_any_eq_all_not]
  simp

/-- Holds. -/
theorem sholds_any (st : List Bool) (ao : Option Addr) (cap : Nat) (cl : List (List Int)) (aoc : Option Addr) (capc : Nat) (av : Nat → Option Addr) (cv : Nat → Nat) (w : World) (hs : Bools w ao st) (hl : st.length ≤ 1000000) (hc : IsRows w aoc cl av cv) (hcl : cl.length ≤ 1000000) (hll : ∀ c ∈ cl, c.length ≤ 1000000) (hI : ∀ c ∈ cl, ∀ x ∈ c, I64 x) :
    Calls Try.prog 17 #[.slice ao st.length cap, .slice aoc cl.length capc] w fun e w' => e = .returned (.bool (holdsCl st cl)) ∧ Below w.heap.size w w' := by
  have hmf : ∀ (fn : Fn) (first cap : Array Value) (w : World), (Instr.makeFunc fn first cap).run Try.prog w = .ok (.func fn first cap) w := fun _ _ _ _ => rfl
  obtain ⟨W, hW⟩ : ∃ W, W = (w.alloc (.cells #[.slice ao st.length cap] 28)).alloc (.cells #[.func (.func 30) #[] #[.pointer (some ⟨w.heap.size, 0, none⟩)]] 56) := ⟨_, rfl⟩
  have bW : Below w.heap.size w W := by
    rw [hW]
    exact ((Below.refl _ _).alloc (Nat.le_refl _) _).alloc (by simp) _
  have c1 : W.cell? ⟨w.heap.size, 0, none⟩ = some (.slice ao st.length cap) := by
    rw [hW]
    exact ((Blk.new w 28 #[.slice ao st.length cap]).alloc _).cell 0
  have c2 : W.cell? ⟨w.heap.size + 1, 0, none⟩ = some (.func (.func 30) #[] #[.pointer (some ⟨w.heap.size, 0, none⟩)]) := by
    rw [hW]
    have k2 := Blk.new (w.alloc (.cells #[.slice ao st.length cap] 28)) 56 #[.func (.func 30) #[] #[.pointer (some ⟨w.heap.size, 0, none⟩)]]
    rw [show (w.alloc (.cells #[.slice ao st.length cap] 28)).heap.size = w.heap.size + 1 by simp] at k2
    exact k2.cell 0
  have HF := Lib.hid (containsFuncs_any (fun c => !holdsC st c) (w.heap.size + 1) cl aoc capc av cv W (by omega) (hc.below bW) fun j hj => holds2_any st ao cap w.heap.size (w.heap.size + 1) cl[j] (av j) (cv j) W (hs.below bW) hl c1 c2 ((hc.ints j hj).below bW) (hll _ (List.getElem_mem hj)) (hI _ (List.getElem_mem hj)))
  have e := not_any_not st cl
  generalize (cl.any fun c => !holdsC st c) = r at *
  rw [← e]
  rw [hW] at HF
  have HB := Lib.hid bW
  rw [hW] at HB
  clear hs hc hI c1 c2 bW hW e
  have hsf : ∀ (a : Addr) (x : Array Value) (m : Mode) (W : World), (store a (.func (.func 30) #[] x) m).run Try.prog W = stored Try.prog W a (.func (.func 30) #[] x) m := fun a x m W => run_store Try.prog W a _ m rfl
  go_enter Try.func17, Try.ntmps17
  go_wp2_with (go_at_call 31; refine HF.out.mono ?_; rintro e w' ⟨rfl, rfl⟩)
  go_ret
  exact ⟨rfl, HB.out⟩

end Go.Proofs.Ytoainmkebdpikaa

namespace Go.Proofs.Ytoainmkebdpikaa
open Go.ChangeShapes Go.WideShapes Go.ChangeAt Go.RowKit Go.Maps Go.Deep
set_option maxRecDepth 100000

set_option maxHeartbeats 1000000 in
theorem rholds_any (st : List Bool) (ao : Option Addr) (cap : Nat) (cl : List (List Int)) (aoc : Option Addr) (capc : Nat) (av : Nat → Option Addr) (cv : Nat → Nat) (w : World) (hs : Bools w ao st) (hl : st.length ≤ 1000000) (hc : IsRows w aoc cl av cv) (hcl : cl.length ≤ 1000000) (hll : ∀ c ∈ cl, c.length ≤ 1000000) (hI : ∀ c ∈ cl, ∀ x ∈ c, I64 x) :
    Calls Try.prog 16 #[.slice ao st.length cap, .slice aoc cl.length capc] w fun e w' => e = .returned (.bool (holdsCl st cl)) ∧ w = w' := by
  obtain ⟨T, hT⟩ : ∃ T, T = holdsCl st cl := ⟨_, rfl⟩
  rw [← hT]
  have HT := Lib.hid hT
  have HC := Lib.hid hc
  have HL := Lib.hid hll
  have HI := Lib.hid hI
  have HS := Lib.hid hs
  clear hT hc hll hI hs
  go_enter Try.func16, Try.ntmps16
  go_wp2_with fail
  go_loop [5] (fun i => ∃ k : Nat, k ≤ cl.length ∧ i = .int .i64 k ∧ Hid (T = holdsCl st (cl.drop k))) (fun i => cl.length - (intOf i).toNat)
  case atStart => exact ⟨0, by omega, rfl, HT⟩
  case round =>
    obtain ⟨k, hk, rfl, HR⟩ := hrel
    by_cases hlt : k < cl.length
    · obtain ⟨b, off, rfl, _, hcell⟩ := HC.out.rows (by omega)
      have hck := hcell k hlt
      have hki : (k : Int) < (cl.length : Int) := by omega
      have hints := HC.out.ints k hlt
      have hlen := HL.out _ (List.getElem_mem hlt)
      have hI64 := HI.out _ (List.getElem_mem hlt)
      have hr := HR.out
      rw [List.drop_eq_getElem_cons hlt] at hr
      have hr2 : T = (holdsC st cl[k] && holdsCl st (cl.drop (k + 1))) := hr
      generalize cl[k] = c at *
      have HR2 := Lib.hid hr2
      have HIn := Lib.hid hints
      have HI6 := Lib.hid hI64
      clear hr hr2 HR hcell hints hI64
      go_wp2_with fail
      go_loop [6, 7] (fun s i => ∃ (m : Nat) (q : Bool), m ≤ c.length ∧ i = .int .i64 m ∧ s = .bool q ∧ Hid (holdsC st c = (q || holdsC st (c.drop m)))) (fun _ i => c.length - (intOf i).toNat)
      case atStart => exact ⟨0, false, by omega, rfl, rfl, Lib.hid (by simp)⟩
      case round =>
        obtain ⟨m, q, hm, rfl, rfl, HQ⟩ := hrel
        by_cases hmt : m < c.length
        · have hmi : (m : Int) < (c.length : Int) := by omega
          have hq := HQ.out
          rw [List.drop_eq_getElem_cons hmt] at hq
          have hq2 : holdsC st c = (q || (trueE st c[m] || holdsC st (c.drop (m + 1)))) := hq
          cases q with
          | true =>
            have HQ2 : Hid (holdsC st c = (true || holdsC st (c.drop (m + 1)))) := Lib.hid (by rw [hq2]; rfl)
            clear hq hq2 HQ
            go_wp2_with fail
            go_round
            case rel => exact ⟨m + 1, true, by omega, by go_num, rfl, HQ2⟩
            case measure => simp [intOf]; omega
          | false =>
            obtain ⟨b2, off2, hav, _, hcc⟩ := HIn.out (by omega)
            rw [hav] at hck
            have hcm := hcc m hmt
            have HTr := Lib.hid (true_any st ao cap c[m] (HI6.out _ (List.getElem_mem hmt)) w HS.out hl)
            have HQ2 : Hid (holdsC st c = (trueE st c[m] || holdsC st (c.drop (m + 1)))) := Lib.hid (by rw [hq2]; simp)
            generalize c[m] = y at *
            generalize trueE st y = q2 at *
            clear hq hq2 HQ hcc hav
            go_wp2_with (go_at_call 20; refine HTr.out.mono ?_; rintro e w' ⟨rfl, rfl⟩)
            go_round
            case rel => exact ⟨m + 1, q2, by omega, by go_num, rfl, HQ2⟩
            case measure => simp [intOf]; omega
        · obtain rfl : m = c.length := by omega
          have hq := HQ.out
          rw [List.drop_length] at hq
          have hq2 : holdsC st c = q := by rw [hq]; simp [holdsC]
          have hr2 := HR2.out
          rw [hq2] at hr2
          clear hq hq2 HQ
          cases q with
          | true =>
            have HR3 : Hid (T = holdsCl st (cl.drop (k + 1))) := Lib.hid (by rw [hr2]; simp)
            clear hr2 HR2
            go_wp2_with fail
            go_round
            case rel => exact ⟨k + 1, by omega, by go_num, HR3⟩
            case measure => simp [intOf]; omega
          | false =>
            obtain rfl : T = false := by rw [hr2]; simp
            clear hr2 HR2
            go_wp2_with fail
            go_ret
            exact ⟨rfl, rfl⟩
    · obtain rfl : k = cl.length := by omega
      have hr := HR.out
      rw [List.drop_length] at hr
      obtain rfl : T = true := hr
      clear HR
      go_wp2_with fail
      go_ret
      exact ⟨rfl, rfl⟩

def longE (vars : Int) (cl : List (List Int)) : Bool := decide (12 < vars) || decide (120 < (cl.length : Int)) || cl.any fun c => decide (40 < (c.length : Int))
theorem longE_no {vars : Int} {cl : List (List Int)} (h : longE vars cl = false) : vars ≤ 12 ∧ cl.length ≤ 120 ∧ ∀ c ∈ cl, c.length ≤ 40 := by
  unfold longE at h
  simp only [Bool.or_eq_false_iff, decide_eq_false_iff_not, List.any_eq_false] at h
  obtain ⟨⟨h1, h2⟩, h3⟩ := h
  exact ⟨by omega, by omega, fun c hc => by have := h3 c hc; simp at this; omega⟩

theorem long_any (vars : Int) (cl : List (List Int)) (aoc : Option Addr) (capc : Nat) (av : Nat → Option Addr) (cv : Nat → Nat) (w : World) (hc : IsRows w aoc cl av cv) :
    Calls Try.prog 10 #[.int .i64 vars, .slice aoc cl.length capc] w fun e w' => e = .returned (.bool (longE vars cl)) ∧ w = w' := by
  by_cases h1 : 12 < vars
  · have e : longE vars cl = true := by simp [longE, h1]
    rw [e]
    have h1d : decide (12 < vars) = true := by simpa using h1
    clear hc e
    go_enter Try.func10, Try.ntmps10
    go_wp2_with fail
    go_ret
    exact ⟨rfl, rfl⟩
  · have h1d : decide (12 < vars) = false := by simpa using h1
    by_cases h2 : (120 : Int) < (cl.length : Int)
    · have e : longE vars cl = true := by simp [longE, h2]
      rw [e]
      have h2d : decide ((120 : Int) < (cl.length : Int)) = true := by simpa using h2
      clear hc e
      go_enter Try.func10, Try.ntmps10
      go_wp2_with fail
      go_ret
      exact ⟨rfl, rfl⟩
    · have h2d : decide ((120 : Int) < (cl.length : Int)) = false := by simpa using h2
      obtain ⟨T, hT⟩ : ∃ T, T = longE vars cl := ⟨_, rfl⟩
      rw [← hT]
      have HT : Hid (T = cl.any fun c => decide (40 < (c.length : Int))) := Lib.hid (by rw [hT]; simp [longE, h1d, h2d])
      have HC := Lib.hid hc
      clear hT hc
      go_enter Try.func10, Try.ntmps10
      go_wp2_with fail
      go_loop [5] (fun i => ∃ k : Nat, k ≤ cl.length ∧ i = .int .i64 k ∧ Hid (T = (cl.drop k).any fun c => decide (40 < (c.length : Int)))) (fun i => cl.length - (intOf i).toNat)
      case atStart => exact ⟨0, by omega, rfl, HT⟩
      case round =>
        obtain ⟨k, hk, rfl, HR⟩ := hrel
        by_cases hlt : k < cl.length
        · obtain ⟨b, off, rfl, _, hcell⟩ := HC.out.rows (by omega)
          have hck := hcell k hlt
          have hki : (k : Int) < (cl.length : Int) := by omega
          have hr := HR.out
          rw [List.drop_eq_getElem_cons hlt, List.any_cons] at hr
          generalize cl[k] = c at *
          by_cases h4 : (40 : Int) < (c.length : Int)
          · have h4d : decide ((40 : Int) < (c.length : Int)) = true := by simpa using h4
            rw [h4d] at hr
            obtain rfl : T = true := hr
            clear hcell HR h4
            go_wp2_with fail
            go_ret
            exact ⟨rfl, rfl⟩
          · have h4d : decide ((40 : Int) < (c.length : Int)) = false := by simpa using h4
            rw [h4d, Bool.false_or] at hr
            have HR2 := Lib.hid hr
            clear hcell HR h4 hr
            go_wp2_with fail
            go_round
            case rel => exact ⟨k + 1, by omega, by go_num, HR2⟩
            case measure => simp [intOf]; omega
        · obtain rfl : k = cl.length := by omega
          have hr := HR.out
          rw [List.drop_length] at hr
          obtain rfl : T = false := hr
          clear HR
          go_wp2_with fail
          go_ret
          exact ⟨rfl, rfl⟩

def litOk (vars x : Int) : Bool := !(x == 0 || decide (vars < x) || decide (x < -vars))
def checkE (vars : Int) (cl : List (List Int)) (budget : Int) : Int :=
  if vars < 0 ∨ 2097152 < vars ∨ budget < 0 ∨ 1099511627776 < budget then 1 else if (cl.all fun c => c.all (litOk vars)) = true then 0 else 1
theorem litOk_known (n : Nat) (x : Int) : litOk n x = decide (1 ≤ x.natAbs ∧ x.natAbs ≤ n) := by
  unfold litOk
  by_cases h : 1 ≤ x.natAbs ∧ x.natAbs ≤ n
  · have h1 : (x == 0) = false := by simp; omega
    have h2 : decide ((n : Int) < x) = false := by simp; omega
    have h3 : decide (x < -(n : Int)) = false := by simp; omega
    rw [h1, h2, h3, decide_eq_true h]
    rfl
  · rw [decide_eq_false h]
    by_cases h0 : x = 0
    · subst h0; rfl
    · by_cases h2 : (n : Int) < x
      · simp [h2]
      · have h3 : x < -(n : Int) := by omega
        simp [h3]
theorem checkE_known (n : Nat) (cl : List (List Int)) (budget : Int) (hn : n ≤ 2097152) (hb : 0 ≤ budget ∧ budget ≤ 1099511627776) : checkE n cl budget = if cl.all (knownS n) = true then 0 else 1 := by
  unfold checkE
  rw [if_neg (by omega)]
  have : (fun c : List Int => c.all (litOk n)) = knownS n := by
    funext c
    unfold knownS
    congr 1
    funext x
    exact litOk_known n x
  rw [this]

set_option maxHeartbeats 1000000 in
theorem check_any (vars : Int) (cl : List (List Int)) (budget : Int) (aoc : Option Addr) (capc : Nat) (av : Nat → Option Addr) (cv : Nat → Nat) (w : World) (hc : IsRows w aoc cl av cv) (hcl : cl.length ≤ 1000000) (hll : ∀ c ∈ cl, c.length ≤ 1000000) :
    Calls Try.prog 12 #[.int .i64 vars, .slice aoc cl.length capc, .int .i64 budget] w fun e w' => e = .returned (.int .i64 (checkE vars cl budget)) ∧ w = w' := by
  unfold checkE
  by_cases h1 : vars < 0
  · rw [if_pos (.inl h1)]
    have h1d : decide (vars < 0) = true := by simpa using h1
    clear hc
    go_enter Try.func12, Try.ntmps12
    go_wp2_with fail
    go_ret
    exact ⟨rfl, rfl⟩
  have h1d : decide (vars < 0) = false := by simpa using h1
  by_cases h2 : 2097152 < vars
  · rw [if_pos (.inr (.inl h2))]
    have h2d : decide (2097152 < vars) = true := by simpa using h2
    clear hc
    go_enter Try.func12, Try.ntmps12
    go_wp2_with fail
    go_ret
    exact ⟨rfl, rfl⟩
  have h2d : decide (2097152 < vars) = false := by simpa using h2
  by_cases h3 : budget < 0
  · rw [if_pos (.inr (.inr (.inl h3)))]
    have h3d : decide (budget < 0) = true := by simpa using h3
    clear hc
    go_enter Try.func12, Try.ntmps12
    go_wp2_with fail
    go_ret
    exact ⟨rfl, rfl⟩
  have h3d : decide (budget < 0) = false := by simpa using h3
  by_cases h4 : 1099511627776 < budget
  · rw [if_pos (.inr (.inr (.inr h4)))]
    have h4d : decide (1099511627776 < budget) = true := by simpa using h4
    clear hc
    go_enter Try.func12, Try.ntmps12
    go_wp2_with fail
    go_ret
    exact ⟨rfl, rfl⟩
  have h4d : decide (1099511627776 < budget) = false := by simpa using h4
  rw [if_neg (by omega)]
  obtain ⟨T, hT⟩ : ∃ T, T = (cl.all fun c => c.all (litOk vars)) := ⟨_, rfl⟩
  rw [← hT]
  have HT := Lib.hid hT
  have HC := Lib.hid hc
  have HL := Lib.hid hll
  have hwn : IntKind.i64.wrap (-vars) = -vars := by rw [IntKind.wrap_i64]; omega
  clear hT hc hll
  go_enter Try.func12, Try.ntmps12
  go_wp2_with fail
  go_loop [7] (fun i => ∃ k : Nat, k ≤ cl.length ∧ i = .int .i64 k ∧ Hid (T = ((cl.drop k).all fun c => c.all (litOk vars)))) (fun i => cl.length - (intOf i).toNat)
  case atStart => exact ⟨0, by omega, rfl, HT⟩
  case round =>
    obtain ⟨k, hk, rfl, HR⟩ := hrel
    by_cases hlt : k < cl.length
    · obtain ⟨b, off, rfl, _, hcell⟩ := HC.out.rows (by omega)
      have hck := hcell k hlt
      have hki : (k : Int) < (cl.length : Int) := by omega
      have hclen := HL.out _ (List.getElem_mem hlt)
      have hints := HC.out.ints k hlt
      have hr := HR.out
      rw [List.drop_eq_getElem_cons hlt, List.all_cons] at hr
      generalize cl[k] = c at *
      have HR2 := Lib.hid hr
      have HIn := Lib.hid hints
      clear hr HR hcell hints
      go_wp2_with fail
      go_loop [8] (fun i => ∃ m : Nat, m ≤ c.length ∧ i = .int .i64 m ∧ Hid (c.all (litOk vars) = (c.drop m).all (litOk vars))) (fun i => c.length - (intOf i).toNat)
      case atStart => exact ⟨0, by omega, rfl, Lib.hid rfl⟩
      case round =>
        obtain ⟨m, hm, rfl, HQ⟩ := hrel
        by_cases hmt : m < c.length
        · have hmi : (m : Int) < (c.length : Int) := by omega
          have hq := HQ.out
          rw [List.drop_eq_getElem_cons hmt, List.all_cons] at hq
          obtain ⟨b2, off2, hav, _, hcc⟩ := HIn.out (by omega)
          rw [hav] at hck
          have hcm := hcc m hmt
          generalize c[m] = y at *
          have HQ2 := Lib.hid hq
          clear hq HQ hcc hav
          have hlo : litOk vars y = !(y == 0 || decide (vars < y) || decide (y < -vars)) := rfl
          by_cases e0 : y = 0
          · subst e0
            have hT : T = false := by rw [HR2.out, HQ2.out, hlo]; simp
            subst hT
            clear HQ2 HR2 hlo
            go_wp2_with fail
            go_ret
            exact ⟨rfl, rfl⟩
          · have e0d : (y == 0) = false := by simpa using e0
            by_cases e1 : vars < y
            · have e1d : decide (vars < y) = true := by simpa using e1
              have hT : T = false := by rw [HR2.out, HQ2.out, hlo, e1d]; simp
              subst hT
              clear HQ2 HR2 hlo
              go_wp2_with fail
              go_ret
              exact ⟨rfl, rfl⟩
            · have e1d : decide (vars < y) = false := by simpa using e1
              by_cases e2 : y < -vars
              · have e2d : decide (y < -vars) = true := by simpa using e2
                have hT : T = false := by rw [HR2.out, HQ2.out, hlo, e2d]; simp
                subst hT
                clear HQ2 HR2 hlo
                go_wp2_with fail
                go_ret
                exact ⟨rfl, rfl⟩
              · have e2d : decide (y < -vars) = false := by simpa using e2
                have HQ3 : Hid (c.all (litOk vars) = (c.drop (m + 1)).all (litOk vars)) := Lib.hid (by
                  have h := HQ2.out
                  rw [hlo, e0d, e1d, e2d] at h
                  simpa using h)
                clear HQ2 hlo
                go_wp2_with fail
                go_round
                case rel => exact ⟨m + 1, by omega, by go_num, HQ3⟩
                case measure => simp [intOf]; omega
        · obtain rfl : m = c.length := by omega
          have hq := HQ.out
          rw [List.drop_length] at hq
          have HR3 : Hid (T = ((cl.drop (k + 1)).all fun c => c.all (litOk vars))) := Lib.hid (by rw [HR2.out, hq]; simp)
          clear hq HQ HR2
          go_wp2_with fail
          go_round
          case rel => exact ⟨k + 1, by omega, by go_num, HR3⟩
          case measure => simp [intOf]; omega
    · obtain rfl : k = cl.length := by omega
      have hr := HR.out
      rw [List.drop_length] at hr
      obtain rfl : T = true := hr
      clear HR
      go_wp2_with fail
      go_ret
      exact ⟨rfl, rfl⟩

def mayE (vars : Int) (cl : List (List Int)) : Bool := !longE vars cl && decide (checkE vars cl 0 = 0)
theorem mayE_yes {vars : Int} {cl : List (List Int)} (h : mayE vars cl = true) : ∃ n : Nat, vars = n ∧ n ≤ 12 ∧ cl.length ≤ 120 ∧ (∀ c ∈ cl, c.length ≤ 40) ∧ cl.all (knownS n) = true := by
  unfold mayE at h
  simp only [Bool.and_eq_true, Bool.not_eq_true', decide_eq_true_eq] at h
  obtain ⟨h1, h2⟩ := h
  obtain ⟨k1, k2, k3⟩ := longE_no h1
  have h0 : 0 ≤ vars := by
    unfold checkE at h2
    by_cases h3 : vars < 0
    · rw [if_pos (.inl h3)] at h2; cases h2
    · omega
  obtain ⟨n, rfl⟩ := Int.eq_ofNat_of_zero_le h0
  rw [checkE_known n cl 0 (by omega) (by omega)] at h2
  refine ⟨n, rfl, by omega, k2, k3, ?_⟩
  by_cases h3 : cl.all (knownS n) = true
  · exact h3
  · rw [if_neg h3] at h2; cases h2
theorem may_any (vars : Int) (cl : List (List Int)) (aoc : Option Addr) (capc : Nat) (av : Nat → Option Addr) (cv : Nat → Nat) (w : World) (hc : IsRows w aoc cl av cv) :
    Calls Try.prog 19 #[.int .i64 vars, .slice aoc cl.length capc] w fun e w' => e = .returned (.bool (mayE vars cl)) ∧ w = w' := by
  have HL := Lib.hid (long_any vars cl aoc capc av cv w hc)
  unfold mayE
  by_cases hb : longE vars cl = true
  · rw [hb] at HL ⊢
    clear hc
    go_enter Try.func19, Try.ntmps19
    go_wp2_with (go_at_call 10; refine HL.out.mono ?_; rintro e w' ⟨rfl, rfl⟩)
    go_ret
    exact ⟨rfl, rfl⟩
  · have hb' : longE vars cl = false := by simpa using hb
    obtain ⟨_, k2, k3⟩ := longE_no hb'
    have HK := Lib.hid (check_any vars cl 0 aoc capc av cv w hc (by omega) (fun c hc => by have := k3 c hc; omega))
    have h0 : (checkE vars cl 0 == 0) = decide (checkE vars cl 0 = 0) := by
      by_cases h : checkE vars cl 0 = 0
      · rw [h]; rfl
      · simp [h]
    rw [hb'] at HL ⊢
    generalize checkE vars cl 0 = c at *
    clear hc hb hb' k3
    go_enter Try.func19, Try.ntmps19
    go_wp2_with (first
      | (go_at_call 10; refine HL.out.mono ?_; rintro e w' ⟨rfl, rfl⟩)
      | (go_at_call 12; refine HK.out.mono ?_; rintro e w' ⟨rfl, rfl⟩))
    go_ret
    exact ⟨by simp, rfl⟩

end Go.Proofs.Ytoainmkebdpikaa

namespace Go.Proofs.Ytoainmkebdpikaa
open Go.ChangeShapes Go.WideShapes Go.ChangeAt Go.RowKit Go.Maps Go.Deep
set_option maxRecDepth 100000

/-! ### States, one behind the other -/
def nextB : List Bool → Bool × List Bool
  | [] => (false, [])
  | b :: r => if b = true then ((nextB r).1, false :: (nextB r).2) else (true, true :: r)
def valB : List Bool → Nat
  | [] => 0
  | b :: r => (if b = true then 1 else 0) + 2 * valB r
theorem valB_lt : ∀ l : List Bool, valB l < 2 ^ l.length
  | [] => by simp [valB]
  | b :: r => by
    have := valB_lt r
    simp only [valB, List.length_cons, Nat.pow_succ]
    split <;> omega
theorem valB_zero : ∀ n : Nat, valB (List.replicate n false) = 0
  | 0 => rfl
  | n + 1 => by rw [List.replicate_succ]; simp [valB, valB_zero n]
theorem valB_inj : ∀ {a b : List Bool}, a.length = b.length → valB a = valB b → a = b
  | [], [], _, _ => rfl
  | [], _ :: _, h, _ => by simp at h
  | _ :: _, [], h, _ => by simp at h
  | x :: a, y :: b, hl, hv => by
    simp only [valB] at hv
    have hl' : a.length = b.length := by simpa using hl
    cases x <;> cases y <;> simp at hv
    · rw [valB_inj hl' (by omega)]
    · omega
    · omega
    · rw [valB_inj hl' (by omega)]
theorem next_len : ∀ l : List Bool, (nextB l).2.length = l.length
  | [] => rfl
  | b :: r => by
    unfold nextB
    split
    · simp [next_len r]
    · rfl
theorem next_val : ∀ l : List Bool, ((nextB l).1 = true → valB (nextB l).2 = valB l + 1) ∧ ((nextB l).1 = false → valB l + 1 = 2 ^ l.length)
  | [] => ⟨fun h => (by cases h), fun _ => rfl⟩
  | b :: r => by
    obtain ⟨h1, h2⟩ := next_val r
    unfold nextB
    by_cases hb : b = true
    · rw [if_pos hb]
      subst hb
      refine ⟨fun h => ?_, fun h => ?_⟩
      · have := h1 h
        simp only [valB]
        simp
        omega
      · have := h2 h
        simp only [valB, List.length_cons, Nat.pow_succ]
        simp
        omega
    · have hb' : b = false := by simpa using hb
      subst hb'
      rw [if_neg hb]
      refine ⟨fun _ => ?_, fun h => (by cases h)⟩
      simp only [valB]
      simp
      omega
theorem next_at (st : List Bool) (k : Nat) (hk : k < st.length) (h : nextB st = ((nextB (st.drop k)).1, List.replicate k false ++ (nextB (st.drop k)).2)) :
    (st[k] = true → nextB st = ((nextB (st.drop (k + 1))).1, List.replicate (k + 1) false ++ (nextB (st.drop (k + 1))).2)) ∧ (st[k] = false → nextB st = (true, List.replicate k false ++ true :: st.drop (k + 1))) := by
  rw [List.drop_eq_getElem_cons hk] at h
  constructor
  · intro hb
    rw [hb] at h
    simp only [nextB, if_true] at h
    rw [h, List.replicate_succ']
    simp
  · intro hb
    rw [hb] at h
    simp only [nextB] at h
    rw [h]
    simp

/-! ### In memory -/
section
variable {W w : World} {C : Ast → Ast} {g n cap : Nat} {l : List Bool}
theorem bools_cells (hC : Ctx C) (h : On W w (C (boolsA (.slice (some ⟨g, 0, none⟩) n cap) l))) : (∀ j (h : j < l.length), w.cell? ⟨g, j, none⟩ = some (.bool l[j])) ∧ (∀ j, w.frozen? ⟨g, j, none⟩ = false) := by
  obtain ⟨F, ⟨b, _⟩, _⟩ := hC.use h
  obtain ⟨ao, cp, e, _, _, hf⟩ := b.form
  injection e with e1 e2 e3
  by_cases h0 : 0 < l.length
  · obtain ⟨g', off, e4, hc, hz, _⟩ := hf h0
    rw [← e1] at e4
    injection e4 with e4
    injection e4 with e5 e6
    subst e5 e6
    exact ⟨fun j hj => by have := hc j (by simpa [boC] using hj); simpa [boC, hj] using this, hz⟩
  · refine ⟨fun j hj => by omega, fun j => ?_⟩
    obtain ⟨cur, hb⟩ := b.blk (k := g) rfl
    exact hb.frozen j
theorem bools_set (hC : Ctx C) (h : On W w (C (boolsA (.slice (some ⟨g, 0, none⟩) n cap) l))) (hl : l.length = n) (j : Nat) (b : Bool) : On W (w.setCell ⟨g, j, none⟩ (.bool b)) (C (boolsA (.slice (some ⟨g, 0, none⟩) n cap) (l.set j b))) := by
  obtain ⟨F, ⟨a, e⟩, hg⟩ := hC.use h
  refine hg _ _ ⟨F, ⟨?_, e⟩, (Touch.refl _ w).setCell (fun _ => (e g).2 rfl) _, fun k hk => .inl hk⟩
  have := Own.stored (hl ▸ a) j (.bool b)
  rw [Nat.zero_add] at this
  simpa [boC, hl, List.map_set] using this
theorem bools_at (hC : Ctx C) (h : On W w (C (boolsA (.slice (some ⟨g, 0, none⟩) n cap) l))) : Bools w (some ⟨g, 0, none⟩) l := by
  obtain ⟨F, ⟨b, _⟩, _⟩ := hC.use h
  obtain ⟨ao, cp, e, hb⟩ := b.bools
  injection e with e1 _ _
  subst e1
  exact hb

set_option maxHeartbeats 1000000 in
theorem next_any (hC : Ctx C) (h : On W w (C (boolsA (.slice (some ⟨g, 0, none⟩) n cap) l))) (hl : l.length = n) (hn : n ≤ 1000000) :
    Calls Try.prog 29 #[.slice (some ⟨g, 0, none⟩) n cap] w fun e w' => e = .returned (.bool (nextB l).1) ∧ On W w' (C (boolsA (.slice (some ⟨g, 0, none⟩) n cap) (nextB l).2)) := by
  have H0 := Lib.hid h
  clear h
  go_enter Try.func29, Try.ntmps29
  go_wp2_with fail
  go_loopw [3] (fun i wr => ∃ k : Nat, k ≤ n ∧ i = .int .i64 k ∧ Hid (On W wr (C (boolsA (.slice (some ⟨g, 0, none⟩) n cap) (List.replicate k false ++ l.drop k)))) ∧ Hid (nextB l = ((nextB (l.drop k)).1, List.replicate k false ++ (nextB (l.drop k)).2))) (fun i _ => n - (intOf i).toNat)
  case atStart => exact ⟨0, by omega, rfl, by simpa using H0, Lib.hid (by simp)⟩
  case round =>
    obtain ⟨k, hk, rfl, HO, HE⟩ := hrel
    by_cases hlt : k < n
    · have hki : (k : Int) < (n : Int) := by omega
      have hkl : k < l.length := by omega
      have hlen : (List.replicate k false ++ l.drop k).length = n := by simp; omega
      obtain ⟨hc, hz⟩ := bools_cells hC HO.out
      have hck : wr.cell? ⟨g, k, none⟩ = some (.bool l[k]) := by
        rw [hc k (by omega)]
        simp
      have hzk := hz k
      obtain ⟨e1, e2⟩ := next_at l k hkl HE.out
      have hset := bools_set hC HO.out hlen k (!l[k])
      have hsl : (List.replicate k false ++ l.drop k).set k (!l[k]) = List.replicate k false ++ (!l[k]) :: l.drop (k + 1) := by
        rw [List.set_append, if_neg (by simp), show k - (List.replicate k false).length = 0 by simp]
        conv => lhs; rw [List.drop_eq_getElem_cons hkl]
        rfl
      rw [hsl] at hset
      have hcells := (bools_cells hC hset).1 k (by simp)
      simp at hcells
      generalize l[k] = b at *
      have HS := Lib.hid hset
      have HE1 := Lib.hid e1
      have HE2 := Lib.hid e2
      clear hset hsl e1 e2 HE hc hz hlen
      cases b with
      | true =>
        go_wp2_with fail
        go_roundw
        case rel =>
          refine ⟨k + 1, by omega, by go_num, Lib.hid ?_, Lib.hid (HE1.out (by first | rfl | trivial))⟩
          have := HS.out
          rw [List.replicate_succ']
          simpa using this
        case measure => simp [intOf]; omega
      | false =>
        go_wp2_with fail
        go_ret
        rw [HE2.out (by first | rfl | trivial)]
        exact ⟨rfl, HS.out⟩
    · obtain rfl : k = n := by omega
      have hE := HE.out
      rw [List.drop_of_length_le (by omega)] at hE
      simp only [nextB, List.append_nil] at hE
      have hO := HO.out
      rw [List.drop_of_length_le (by omega), List.append_nil] at hO
      have HO2 := Lib.hid hO
      have HE3 := Lib.hid hE
      clear hE HE HO hO
      go_wp2_with fail
      go_ret
      rw [HE3.out]
      exact ⟨rfl, HO2.out⟩
end

theorem all_states {n : Nat} {cl : List (List Int)} {st : List Bool} (hl : st.length = n) (h : ∀ st', st'.length = n → valB st' < valB st → holdsCl st' cl = false) (hs : holdsCl st cl = false) : ∀ st', st'.length = n → valB st' < valB st + 1 → holdsCl st' cl = false := fun st' hl' hv => by
  by_cases hlt : valB st' < valB st
  · exact h st' hl' hlt
  · rw [valB_inj (hl'.trans hl.symm) (by omega)]
    exact hs

set_option maxHeartbeats 1000000 in
theorem yes_any (n : Nat) (hn : n ≤ 12) (cl : List (List Int)) (aoc : Option Addr) (capc : Nat) (av : Nat → Option Addr) (cv : Nat → Nat) (w : World) (hc : IsRows w aoc cl av cv) (hcl : cl.length ≤ 1000000) (hll : ∀ c ∈ cl, c.length ≤ 1000000) (hI : ∀ c ∈ cl, ∀ x ∈ c, I64 x) (T : Bool) (hT : T = true ↔ ∃ st, st.length = n ∧ holdsCl st cl = true) :
    Calls Try.prog 15 #[.int .i64 n, .slice aoc cl.length capc] w fun e w' => e = .returned (.bool T) ∧ Below w.heap.size w w' := by
  have hmk : ∀ W : World, Sem.run Try.prog (Instr.makeSlice 28 (.int .i64 (n : Int)) (.int .i64 (n : Int))) W = .ok (.slice (some ⟨W.heap.size, 0, none⟩) n n) (W.alloc (.cells (madeCells #[.bool false] n) 4)) := fun W => run_make_row' 28 4 (.bool false) 1 Try.underlying28 (by kernel_rfl) rfl .i64 .i64 n (by omega) (by omega) W
  have HT := Lib.hid hT
  have HC := Lib.hid hc
  have HL := Lib.hid hll
  have HI := Lib.hid hI
  clear hT hc hll hI
  have hmk0 : n = 0 → ∀ W : World, Sem.run Try.prog (Instr.makeSlice 28 (.int .i64 0) (.int .i64 0)) W = .ok (.slice (some ⟨W.heap.size, 0, none⟩) n n) (W.alloc (.cells (madeCells #[.bool false] n) 4)) := fun h W => by
    have := hmk W
    rw [h] at this ⊢
    exact this
  have hcase : ((0 : Int) < (n : Int)) ∨ n = 0 := by omega
  rcases hcase with hd | hd
  rotate_left
  · have hmk1 := hmk0 hd
    have hd2 : ¬ (0 : Int) < (n : Int) := by omega
    clear hd hmk hmk0
    go_enter Try.func15, Try.ntmps15
    go_wp2_with fail
    have h0 : On w (w.alloc (.cells (madeCells #[.bool false] n) 4)) (Emp.and (boolsA (.slice (some ⟨w.heap.size, 0, none⟩) n n) (List.replicate n false))) := (On.start (Below.refl w.heap.size w)).new Solid.emp ((Below.refl _ _).alloc (Nat.le_refl _) _) (bools_made w n (by omega)) fun k hk => Nat.le_of_eq hk.symm
    obtain ⟨g, hg⟩ : ∃ g, g = w.heap.size := ⟨_, rfl⟩
    rw [← hg] at h0
    have H0 := Lib.hid h0
    rw [← hg]
    clear h0 hg
    have hC : Ctx fun A => Emp.and A := Ctx.id.right Solid.emp
    go_loopg [] (2 ^ n) (fun k wr => ∃ st : List Bool, Hid (st.length = n ∧ valB st + k = 2 ^ n) ∧ Hid (On w wr (Emp.and (boolsA (.slice (some ⟨g, 0, none⟩) n n) st))) ∧ Hid (∀ st', st'.length = n → valB st' < valB st → holdsCl st' cl = false))
    case atStart => exact ⟨_, Lib.hid ⟨by simp, by rw [valB_zero]; omega⟩, H0, Lib.hid (fun st' _ h => by rw [valB_zero] at h; omega)⟩
    case round =>
      obtain ⟨st, HLen, HO, HA⟩ := hrel
      have hlen := HLen.out.1
      have hbs := bools_at hC HO.out
      have HHo : Hid (Calls Try.prog 16 #[.slice (some ⟨g, 0, none⟩) n n, .slice aoc cl.length capc] wr fun e w' => e = .returned (.bool (holdsCl st cl)) ∧ wr = w') := Lib.hid (by
        have := rholds_any st (some ⟨g, 0, none⟩) n cl aoc capc av cv wr hbs (by omega) (HC.out.below HO.out.bel) hcl HL.out HI.out
        rwa [hlen] at this)
      have HNx := Lib.hid (next_any hC HO.out hlen (by omega))
      obtain ⟨v1, v2⟩ := next_val st
      have hnl := next_len st
      have HHl := Lib.hid hlen
      have HV1 := Lib.hid v1
      have HV2 := Lib.hid v2
      have HNl := Lib.hid hnl
      clear hlen hbs v1 v2 hnl
      cases hh : holdsCl st cl with
      | true =>
        rw [hh] at HHo
        have hT : T = true := HT.out.2 ⟨st, HHl.out, hh⟩
        subst hT
        clear hh HNx
        go_wp2_with (go_at_call 16; refine HHo.out.mono ?_; rintro e w' ⟨rfl, rfl⟩)
        go_ret
        exact ⟨rfl, HO.out.bel⟩
      | false =>
        rw [hh] at HHo
        have HAll := Lib.hid (all_states HHl.out HA.out hh)
        clear hh
        generalize nextB st = r at *
        obtain ⟨q, st2⟩ := r
        simp only at HNx HV1 HV2 HNl
        cases q with
        | true =>
          go_wp2_with (first
            | (go_at_call 16; refine HHo.out.mono ?_; rintro e w' ⟨rfl, rfl⟩)
            | (go_at_call 29; refine HNx.out.mono ?_; rintro e w' ⟨rfl, h3'⟩))
          go_roundg (2 ^ n - valB st2)
          case measure =>
            have h1 := HV1.out (by first | rfl | trivial)
            have h2 := HLen.out.2
            have h3 := valB_lt st
            rw [HHl.out] at h3
            omega
          case rel =>
            have h1 := HV1.out (by first | rfl | trivial)
            have h3 := valB_lt st2
            rw [HNl.out, HHl.out] at h3
            exact ⟨st2, Lib.hid ⟨HNl.out.trans HHl.out, by omega⟩, Lib.hid h3', Lib.hid (by rw [h1]; exact HAll.out)⟩
        | false =>
          have hT : T = false := by
            cases hTT : T with
            | false => rfl
            | true =>
              obtain ⟨st', hl', hs'⟩ := HT.out.1 hTT
              have h2 := HV2.out (by first | rfl | trivial)
              have h3 := valB_lt st'
              rw [hl'] at h3
              rw [HHl.out] at h2
              rw [HAll.out st' hl' (by omega)] at hs'
              cases hs'
          subst hT
          go_wp2_with (first
            | (go_at_call 16; refine HHo.out.mono ?_; rintro e w' ⟨rfl, rfl⟩)
            | (go_at_call 29; refine HNx.out.mono ?_; rintro e w' ⟨rfl, h3⟩))
          go_ret
          exact ⟨rfl, h3.bel⟩
  · clear hmk0
    go_enter Try.func15, Try.ntmps15
    go_wp2_with fail
    have h0 : On w (w.alloc (.cells (madeCells #[.bool false] n) 4)) (Emp.and (boolsA (.slice (some ⟨w.heap.size, 0, none⟩) n n) (List.replicate n false))) := (On.start (Below.refl w.heap.size w)).new Solid.emp ((Below.refl _ _).alloc (Nat.le_refl _) _) (bools_made w n (by omega)) fun k hk => Nat.le_of_eq hk.symm
    obtain ⟨g, hg⟩ : ∃ g, g = w.heap.size := ⟨_, rfl⟩
    rw [← hg] at h0
    have H0 := Lib.hid h0
    rw [← hg]
    clear h0 hg
    have hC : Ctx fun A => Emp.and A := Ctx.id.right Solid.emp
    go_loopg [] (2 ^ n) (fun k wr => ∃ st : List Bool, Hid (st.length = n ∧ valB st + k = 2 ^ n) ∧ Hid (On w wr (Emp.and (boolsA (.slice (some ⟨g, 0, none⟩) n n) st))) ∧ Hid (∀ st', st'.length = n → valB st' < valB st → holdsCl st' cl = false))
    case atStart => exact ⟨_, Lib.hid ⟨by simp, by rw [valB_zero]; omega⟩, H0, Lib.hid (fun st' _ h => by rw [valB_zero] at h; omega)⟩
    case round =>
      obtain ⟨st, HLen, HO, HA⟩ := hrel
      have hlen := HLen.out.1
      have hbs := bools_at hC HO.out
      have HHo : Hid (Calls Try.prog 16 #[.slice (some ⟨g, 0, none⟩) n n, .slice aoc cl.length capc] wr fun e w' => e = .returned (.bool (holdsCl st cl)) ∧ wr = w') := Lib.hid (by
        have := rholds_any st (some ⟨g, 0, none⟩) n cl aoc capc av cv wr hbs (by omega) (HC.out.below HO.out.bel) hcl HL.out HI.out
        rwa [hlen] at this)
      have HNx := Lib.hid (next_any hC HO.out hlen (by omega))
      obtain ⟨v1, v2⟩ := next_val st
      have hnl := next_len st
      have HHl := Lib.hid hlen
      have HV1 := Lib.hid v1
      have HV2 := Lib.hid v2
      have HNl := Lib.hid hnl
      clear hlen hbs v1 v2 hnl
      cases hh : holdsCl st cl with
      | true =>
        rw [hh] at HHo
        have hT : T = true := HT.out.2 ⟨st, HHl.out, hh⟩
        subst hT
        clear hh HNx
        go_wp2_with (go_at_call 16; refine HHo.out.mono ?_; rintro e w' ⟨rfl, rfl⟩)
        go_ret
        exact ⟨rfl, HO.out.bel⟩
      | false =>
        rw [hh] at HHo
        have HAll := Lib.hid (all_states HHl.out HA.out hh)
        clear hh
        generalize nextB st = r at *
        obtain ⟨q, st2⟩ := r
        simp only at HNx HV1 HV2 HNl
        cases q with
        | true =>
          go_wp2_with (first
            | (go_at_call 16; refine HHo.out.mono ?_; rintro e w' ⟨rfl, rfl⟩)
            | (go_at_call 29; refine HNx.out.mono ?_; rintro e w' ⟨rfl, h3'⟩))
          go_roundg (2 ^ n - valB st2)
          case measure =>
            have h1 := HV1.out (by first | rfl | trivial)
            have h2 := HLen.out.2
            have h3 := valB_lt st
            rw [HHl.out] at h3
            omega
          case rel =>
            have h1 := HV1.out (by first | rfl | trivial)
            have h3 := valB_lt st2
            rw [HNl.out, HHl.out] at h3
            exact ⟨st2, Lib.hid ⟨HNl.out.trans HHl.out, by omega⟩, Lib.hid h3', Lib.hid (by rw [h1]; exact HAll.out)⟩
        | false =>
          have hT : T = false := by
            cases hTT : T with
            | false => rfl
            | true =>
              obtain ⟨st', hl', hs'⟩ := HT.out.1 hTT
              have h2 := HV2.out (by first | rfl | trivial)
              have h3 := valB_lt st'
              rw [hl'] at h3
              rw [HHl.out] at h2
              rw [HAll.out st' hl' (by omega)] at hs'
              cases hs'
          subst hT
          go_wp2_with (first
            | (go_at_call 16; refine HHo.out.mono ?_; rintro e w' ⟨rfl, rfl⟩)
            | (go_at_call 29; refine HNx.out.mono ?_; rintro e w' ⟨rfl, h3⟩))
          go_ret
          exact ⟨rfl, h3.bel⟩

/-! ### What is enough -/
def enoughE (v : Int) : Int := if v < 0 then 0 else if 40 < v then 1099511627776 else min ((v + 1) * 2 ^ (v + 1).toNat) 1099511627776

theorem pow_big {a b : Nat} (h : a ≤ b) : (2 : Int) ^ a ≤ 2 ^ b := by
  have := Nat.pow_le_pow_right (show 0 < 2 by decide) h
  exact_mod_cast this
theorem enough_small {v : Nat} (h : v ≤ 40) : enoughE v = min (((v : Int) + 1) * 2 ^ (v + 1)) 1099511627776 := by
  unfold enoughE
  rw [if_neg (by omega), if_neg (by omega)]
  have : ((v : Int) + 1).toNat = v + 1 := by omega
  rw [this]
theorem enough_over {v k : Nat} (hk : k ≤ v + 1) (h : 1099511627776 < ((v : Int) + 1) * 2 ^ k) : enoughE v = 1099511627776 := by
  by_cases hv : v ≤ 40
  · rw [enough_small hv]
    have h1 : ((v : Int) + 1) * 2 ^ k ≤ ((v : Int) + 1) * 2 ^ (v + 1) := Int.mul_le_mul_of_nonneg_left (pow_big hk) (by omega)
    omega
  · unfold enoughE
    rw [if_neg (by omega), if_pos (by omega)]
theorem enough_end {v : Nat} (h : ((v : Int) + 1) * 2 ^ (v + 1) ≤ 2199023255552) : enoughE v = min (((v : Int) + 1) * 2 ^ (v + 1)) 1099511627776 := by
  by_cases hv : v ≤ 40
  · exact enough_small hv
  · exfalso
    have h1 : (2 : Int) ^ 42 ≤ 2 ^ (v + 1) := pow_big (by omega)
    have h2 : (1 : Int) * 2 ^ (v + 1) ≤ ((v : Int) + 1) * 2 ^ (v + 1) := Int.mul_le_mul_of_nonneg_right (by omega) (by omega)
    omega

theorem renough_any (v : Nat) (hv : v ≤ 1099511627776) (w : World) : Calls Try.prog 14 #[.int .i64 v] w fun e w' => e = .returned (.int .i64 (enoughE v)) ∧ w = w' := by
  obtain ⟨T, hT⟩ : ∃ T, T = enoughE v := ⟨_, rfl⟩
  rw [← hT]
  have HT := Lib.hid hT
  clear hT
  go_enter Try.func14, Try.ntmps14
  go_wp2_with fail
  go_loop [3, 4] (fun s i => ∃ (k : Nat) (x : Int), k ≤ v + 1 ∧ i = .int .i64 k ∧ s = .int .i64 x ∧ Hid (x = ((v : Int) + 1) * 2 ^ k) ∧ 0 ≤ x ∧ x ≤ 2199023255552) (fun _ i => v + 1 - (intOf i).toNat)
  case atStart => exact ⟨0, (v : Int) + 1, by omega, rfl, rfl, Lib.hid (by simp), by omega, by omega⟩
  case round =>
    obtain ⟨k, x, hk, rfl, rfl, HX, hx0, hx⟩ := hrel
    by_cases hlt : k < v + 1
    · have hki : (k : Int) < (v : Int) + 1 := by omega
      by_cases hbig : 1099511627776 < x
      · have hT : T = 1099511627776 := by
          rw [HT.out]
          exact enough_over hk (by rw [← HX.out]; exact hbig)
        subst hT
        go_wp2_with fail
        go_ret
        exact ⟨rfl, rfl⟩
      · have HX2 : Hid (2 * x = ((v : Int) + 1) * 2 ^ (k + 1)) := Lib.hid (by rw [HX.out, Int.pow_succ]; simp [Int.mul_comm, Int.mul_left_comm])
        go_wp2_with fail
        go_round
        case rel => exact ⟨k + 1, 2 * x, by omega, by go_num, by go_num, HX2, by omega, by omega⟩
        case measure => simp [intOf]; omega
    · obtain rfl : k = v + 1 := by omega
      have hT : T = min x 1099511627776 := by
        rw [HT.out, HX.out]
        exact enough_end (by rw [← HX.out]; exact hx)
      have HT2 := Lib.hid hT
      clear hT
      go_wp2_with fail
      all_goals
        go_ret
        rw [HT2.out]
        first
          | (rw [show min x 1099511627776 = 1099511627776 from by omega]; exact ⟨rfl, rfl⟩)
          | (rw [show min x 1099511627776 = x from by omega]; exact ⟨rfl, rfl⟩)
theorem senough_any (v : Nat) (hv : v ≤ 1099511627776) (w : World) : Calls Try.prog 18 #[.int .i64 v] w fun e w' => e = .returned (.int .i64 (enoughE v)) ∧ w = w' := by
  by_cases h40 : v ≤ 40
  · obtain ⟨x, hx⟩ : ∃ x : Int, x = ((v : Int) + 1) * 2 ^ (v + 1) := ⟨_, rfl⟩
    have hT : enoughE v = min x 1099511627776 := by rw [enough_small h40, hx]
    have h1 : (2 : Int) ^ (v + 1) ≤ 2 ^ 41 := pow_big (by omega)
    have h2 : x ≤ 41 * 2 ^ 41 := by
      rw [hx]
      exact Int.mul_le_mul (by omega) h1 (by exact_mod_cast Nat.zero_le _) (by omega)
    have h3 : 0 ≤ x := by rw [hx]; exact Int.mul_nonneg (by omega) (by exact_mod_cast Nat.zero_le _)
    have hw : wrap64 (((v : Int) + 1) * 2 ^ (v + 1)) = x := by
      rw [← hx]
      unfold wrap64
      omega
    rw [hT]
    clear hT h1 hx
    go_enter Try.func18, Try.ntmps18
    go_wp2_with fail
    all_goals
      go_ret
      first
        | (rw [show min x 1099511627776 = 1099511627776 from by omega]; exact ⟨rfl, rfl⟩)
        | (rw [show min x 1099511627776 = x from by omega]; exact ⟨rfl, rfl⟩)
  · have hT : enoughE v = 1099511627776 := by
      unfold enoughE
      rw [if_neg (by omega), if_pos (by omega)]
    rw [hT]
    have hd : decide ((40 : Int) < (v : Int)) = true := by simp; omega
    clear hT
    go_enter Try.func18, Try.ntmps18
    go_wp2_with fail
    go_ret
    exact ⟨rfl, rfl⟩
theorem senough_neg (v : Int) (hv : v < 0) (w : World) : Calls Try.prog 18 #[.int .i64 v] w fun e w' => e = .returned (.int .i64 0) ∧ w = w' := by
  have hd : decide (v < 0) = true := by simpa using hv
  go_enter Try.func18, Try.ntmps18
  go_wp2_with fail
  go_ret
  exact ⟨rfl, rfl⟩
theorem renough_neg (v : Int) (hv : v < 0) (w : World) : Calls Try.prog 14 #[.int .i64 v] w fun e w' => e = .returned (.int .i64 0) ∧ w = w' := by
  have hd : decide (v < 0) = true := by simpa using hv
  go_enter Try.func14, Try.ntmps14
  go_wp2_with fail
  go_ret
  exact ⟨rfl, rfl⟩

end Go.Proofs.Ytoainmkebdpikaa
