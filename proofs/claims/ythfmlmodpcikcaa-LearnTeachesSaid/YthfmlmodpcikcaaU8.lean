/- Contracts of the law's own functions: Numbers, made, teaches, no; rows that the program lays out. -/
import Derived.Test.YthfmlmodpcikcaaU7
namespace Go.Proofs.Ythfmlmodpcikcaa
open Go.ChangeShapes Go.WideShapes Go.ChangeAt Go.RowKit Go.Maps
set_option maxRecDepth 100000

/-- Numbers in memory. -/
def Ints (w : World) (ao : Option Addr) (l : List Int) : Prop :=
  0 < l.length → ∃ b off, ao = some ⟨b, off, none⟩ ∧ b < w.heap.size ∧ ∀ j (h : j < l.length), w.cell? ⟨b, off + j, none⟩ = some (.int .i64 l[j])

theorem Ints.below {w w' : World} {ao : Option Addr} {l : List Int} (h : Ints w ao l) (hb : Below w.heap.size w w') : Ints w' ao l := fun h0 => by
  obtain ⟨b, off, e, hbl, hc⟩ := h h0
  exact ⟨b, off, e, Nat.lt_of_lt_of_le hbl hb.size, fun j hj => (World.cell?_of_block (w := w) (hb.block b hbl)).trans (hc j hj)⟩
theorem Own.ints {w : World} {v : Value} {l : List Int} (h : Own w 3 1 v l.length (inC l)) : ∃ ao cap, v = .slice ao l.length cap ∧ Ints w ao l := by
  obtain ⟨ao, cap, e, _, _, hf⟩ := h.form
  refine ⟨ao, cap, e, fun h0 => ?_⟩
  obtain ⟨b, off, e2, hc, _, hb⟩ := hf h0
  refine ⟨b, off, e2, hb, fun j hj => ?_⟩
  rw [hc j (by simp [inC]; omega)]
  simp [inC, hj]

theorem drop_ne (a b : List Int) (k : Nat) (h : k < a.length) (hab : a.length = b.length) : decide (a.drop k = b.drop k) = (decide (a[k] = b[k]'(by omega)) && decide (a.drop (k + 1) = b.drop (k + 1))) := by
  rw [List.drop_eq_getElem_cons h, List.drop_eq_getElem_cons (by omega : k < b.length), ← Bool.decide_and]
  exact decide_eq_decide.2 List.cons_eq_cons

theorem numbers_any (a b : List Int) (ao bo : Option Addr) (ca cb : Nat) (w : World) (ha : Ints w ao a) (hb : Ints w bo b) (hl : a.length ≤ 1000000) :
    Calls Try.prog 20 #[.slice ao a.length ca, .slice bo b.length cb] w fun e w' => e = .returned (.bool (decide (a = b))) ∧ Below w.heap.size w w' := by
  by_cases hne : a.length = b.length
  · obtain ⟨T, hT⟩ : ∃ T, T = decide (a = b) := ⟨_, rfl⟩
    rw [← hT]
    have HA := Lib.hid ha
    have HB := Lib.hid hb
    have HT := Lib.hid hT
    have HN := Lib.hid hne
    have hn2 : ((a.length : Int) != (b.length : Int)) = false := by simp [hne]
    clear ha hb hT hne
    go_enter Try.func20, Try.ntmps20
    go_wp2_with fail
    go_loopw [5] (fun x wr => ∃ k : Nat, k ≤ a.length ∧ x = .int .i64 k ∧ Hid (T = decide (a.drop k = b.drop k)) ∧ Below w.heap.size w wr) (fun x _ => a.length - (intOf x).toNat)
    case atStart => exact ⟨0, by omega, rfl, HT, Below.refl _ _⟩
    case round =>
      obtain ⟨k, hk, rfl, HTk, hBr⟩ := hrel
      by_cases hlt : k < a.length
      · have hlb : k < b.length := by have := HN.out; omega
        obtain ⟨b1, o1, rfl, hbl1, hc1⟩ := HA.out.below hBr (by omega)
        obtain ⟨b2, o2, rfl, hbl2, hc2⟩ := HB.out.below hBr (by omega)
        have hc1k := hc1 k hlt
        have hc2k := hc2 k hlb
        have hki : (k : Int) < (a.length : Int) := by omega
        have hkb : (k : Int) < (b.length : Int) := by omega
        have hTk := HTk.out
        rw [drop_ne a b k hlt HN.out] at hTk
        generalize a[k] = x at *
        generalize b[k] = y at *
        have HBr := Lib.hid hBr
        by_cases hxy : x = y
        · have hxy2 : (x != y) = false := by simpa using hxy
          have hT2 : T = decide (a.drop (k + 1) = b.drop (k + 1)) := by rw [hTk]; simp [hxy]
          have HT2 := Lib.hid hT2
          clear hT2 hTk hc1 hc2 hxy hBr HTk
          go_wp2_with fail
          go_region
          go_wp2_with fail
          go_roundw
          case rel => exact ⟨k + 1, by omega, by go_num, HT2, bel_drewN HBr.out 1⟩
          case measure => simp [intOf]; omega
        · have hxy2 : (x != y) = true := by simpa using hxy
          have hT2 : T = false := by rw [hTk]; simp [hxy]
          subst hT2
          clear hTk hc1 hc2 hxy hBr HTk
          go_wp2_with fail
          go_region
          go_wp2_with fail
          go_ret
          exact ⟨rfl, bel_drewN HBr.out 1⟩
      · obtain rfl : k = a.length := by omega
        have hT2 : T = true := by
          rw [HTk.out, HN.out]
          simp [List.drop_eq_nil_of_le (Nat.le_of_eq HN.out)]
        subst hT2
        clear HTk
        go_wp2_with fail
        go_ret
        exact ⟨rfl, hBr⟩
  · have hT : decide (a = b) = false := by
      simp
      intro e
      exact hne (by rw [e])
    rw [hT]
    have hn2 : ((a.length : Int) != (b.length : Int)) = true := by simp; omega
    clear hne ha hb hT
    go_enter Try.func20, Try.ntmps20
    go_wp2_with fail
    go_ret
    exact ⟨rfl, Below.refl _ _⟩

/-! ### Steps -/
structure Step2D where
  lit : Int
  reason : Int

/-- The steps' cells, in blocks below B. -/
structure IsSteps2 (w : World) (B : Nat) (ao : Option Addr) (b off : Nat) (l : List Step2D) : Prop where
  ptr : 0 < l.length → ao = some ⟨b, off, none⟩ ∧ b < B
  wf : ∀ i (h : i < l.length), I64 l[i].lit ∧ I64 l[i].reason
  lit : ∀ i (h : i < l.length), w.cell? ⟨b, off + i * 2, none⟩ = some (.int .i64 l[i].lit)
  reason : ∀ i (h : i < l.length), w.cell? ⟨b, off + i * 2 + 1, none⟩ = some (.int .i64 l[i].reason)

theorem IsSteps2.below {w w' : World} {B b off : Nat} {ao : Option Addr} {l : List Step2D} (h : IsSteps2 w B ao b off l) (hb : Below B w w') : IsSteps2 w' B ao b off l := by
  have hc : ∀ j, 0 < l.length → w'.cell? ⟨b, j, none⟩ = w.cell? ⟨b, j, none⟩ := fun j hl =>
    World.cell?_of_block (w := w) (hb.block b (h.ptr hl).2)
  exact ⟨h.ptr, h.wf, fun i hi => (hc _ (by omega)).trans (h.lit i hi), fun i hi => (hc _ (by omega)).trans (h.reason i hi)⟩

def step2C (n : Nat) (es : List En) (s : Step2D) : List En := if s.reason < 0 then (decC n es s.lit).2 else (asnC n es s.lit s.reason).2
def madeE (n : Nat) (es : List En) (l : List Step2D) : List En := l.foldl (step2C n) es

theorem step2C_good {n : Nat} {es : List En} (s : Step2D) (h : Good n es) : Good n (step2C n es s) := by
  unfold step2C
  split
  · exact decC_good _ h
  · exact asnC_good _ _ h
theorem madeE_good {n : Nat} : ∀ (l : List Step2D) {es : List En}, Good n es → Good n (madeE n es l)
  | [], _, h => h
  | s :: l, _, h => madeE_good l (step2C_good s h)
theorem madeE_succ (n : Nat) (es : List En) (l : List Step2D) (k : Nat) (h : k < l.length) : madeE n es (l.take (k + 1)) = step2C n (madeE n es (l.take k)) l[k] := by
  unfold madeE
  rw [List.take_succ_eq_append_getElem h, List.foldl_append]
  rfl

theorem made_any (n : Nat) (ao : Option Addr) (l : List Step2D) (cap b off : Nat) (w0 w : World) (hb : Below w0.heap.size w0 w) (hl : IsSteps2 w0 w0.heap.size ao b off l) (hn : n ≤ 5000) (hll : l.length ≤ 300) :
    Calls Try.prog 9 #[.int .i64 n, .slice ao l.length cap] w fun e w' => ∃ g, e = .returned (.pointer (some ⟨g, 0, none⟩)) ∧ Trails w0 w' (fun _ => False) [(g, trE n (madeE n [] l))] := by
  have h0 : Trails w0 w (fun _ => False) [] := Trails.none hb
  have HN := Lib.hid (new_tr h0 hn)
  clear h0
  go_enter Try.func9, Try.ntmps9
  go_wp2_with (go_at_call 12; refine HN.out.mono ?_; rintro e w1 ⟨g, rfl, h1, hb1⟩)
  go_loopw [7] (fun i wr => ∃ k : Nat, k ≤ l.length ∧ i = .int .i64 k ∧ Trails w0 wr (fun _ => False) [(g, trE n (madeE n [] (l.take k)))]) (fun i _ => l.length - (intOf i).toNat)
  case atStart => exact ⟨0, by omega, rfl, h1⟩
  case round =>
    obtain ⟨k, hk, rfl, hT⟩ := hrel
    by_cases hlt : k < l.length
    · obtain ⟨W, hW⟩ : ∃ W, W = wr.drew := ⟨_, rfl⟩
      have hbW : Below wr.heap.size wr W := by rw [hW]; exact bel_drewN (Below.refl _ _) 1
      have hTW := hT.below hbW
      have hl2 := hl.below hT.bel
      have hl3 := hl.below hTW.bel
      obtain ⟨rfl, hbB⟩ := hl2.ptr (by omega)
      have hwf := hl2.wf k hlt
      have hcn := hl2.lit k hlt
      have hcs := hl2.reason k hlt
      have hcn3 := hl3.lit k hlt
      have hcs3 := hl3.reason k hlt
      have hsu := madeE_succ n [] l k hlt
      have hgd := madeE_good (n := n) (l.take k) (es := []) trivial
      generalize madeE n [] (l.take k) = es at *
      generalize l[k] = s at *
      obtain ⟨x, r⟩ := s
      simp only at hcn hcs hwf hcn3 hcs3
      simp only [step2C] at hsu
      have hki : (k : Int) < (l.length : Int) := by omega
      by_cases hr : r < 0
      · have hr2 : decide (r < 0) = true := by simpa using hr
        rw [if_pos hr] at hsu
        have HD := Lib.hid (decide_tr hT 0 rfl hgd hn x hwf.1.1 hwf.1.2)
        generalize (decC n es x).1 = cd at *
        generalize (decC n es x).2 = es' at *
        have HS := Lib.hid hsu
        clear hsu hwf hl2 hl3 hl hT hTW hW hbW hr hcn3 hcs3
        go_wp2_with (go_at_call 14; refine HD.out.mono ?_; rintro e w2 ⟨rfl, h2, h3⟩)
        go_roundw
        case rel =>
          refine ⟨k + 1, by omega, by go_num, ?_⟩
          rw [HS.out]
          exact h2
        case measure => simp [intOf]; omega
      · have hr2 : decide (r < 0) = false := by simpa using hr
        rw [if_neg hr] at hsu
        have HD := Lib.hid (assign_tr hTW 0 rfl hgd hn x r hwf.1.1 hwf.1.2)
        generalize (asnC n es x r).1 = cd at *
        generalize (asnC n es x r).2 = es' at *
        have HS := Lib.hid hsu
        clear hsu hwf hl2 hl3 hl hT hTW hbW hr
        go_upto_region 9 with fail
        refine wp_region_still_tail 11 (by kernel_rfl) (by kernel_rfl) ?_
        change wpStill _ _ (World.drew wr) (fun a' => wpList _ _ _ _ a' (World.drew wr)) _ _
        rw [← hW]
        clear hW
        simp only [List.take_succ_cons, List.take_zero, List.drop_succ_cons, List.drop_zero]
        repeat still_step
        refine wpStill_nil ?_
        go_wp2_with (go_at_call 16; refine HD.out.mono ?_; rintro e w2 ⟨rfl, h2, h3⟩)
        go_roundw
        case rel =>
          refine ⟨k + 1, by omega, by go_num, ?_⟩
          rw [HS.out]
          exact h2
        case measure => simp [intOf]; omega
    · obtain rfl : k = l.length := by omega
      rw [List.take_length] at hT
      go_wp2_with fail
      go_ret
      exact ⟨g, rfl, hT⟩

theorem made_bad (n : Int) (v : Value) (w : World) (hn : n < 0 ∨ 2097152 < n) :
    Calls Try.prog 9 #[.int .i64 n, v] w fun e w' => e = .returned (.pointer none) ∧ w = w' := by
  have HN := Lib.hid (new_bad n w hn)
  go_enter Try.func9, Try.ntmps9
  go_wp2_with (go_at_call 12; refine HN.out.mono ?_; rintro e w1 ⟨rfl, rfl⟩)
  go_ret
  exact ⟨rfl, rfl⟩

end Go.Proofs.Ythfmlmodpcikcaa
