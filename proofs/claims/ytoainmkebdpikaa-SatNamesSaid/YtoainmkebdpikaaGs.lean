/- The walk of SatTells. -/
import Derived.Test.YtoainmkebdpikaaGr
namespace Go.Proofs.Ytoainmkebdpikaa
open Go.ChangeShapes Go.WideShapes Go.ChangeAt Go.RowKit Go.Maps Go.Deep
set_option maxRecDepth 100000

/-! ### Rows in memory of their own -/
structure RowsN (w : World) (vals : List Value) (cl : List (List Int)) : Prop where
  len : vals.length = cl.length
  own : ∀ j (h : j < cl.length), ∃ ao cap, vals[j]? = some (.slice ao cl[j].length cap) ∧ Own w 3 1 (.slice ao cl[j].length cap) cl[j].length (inC cl[j])
theorem RowsN.nil (w : World) : RowsN w [] [] := ⟨rfl, fun _ hj => absurd hj (Nat.not_lt_zero _)⟩
theorem RowsN.new {w w' : World} {vals : List Value} {cl : List (List Int)} (h : RowsN w vals cl) (hb : Below w.heap.size w w') : RowsN w' vals cl := ⟨h.len, fun j hj => by
  obtain ⟨ao, cap, e, hi⟩ := h.own j hj
  exact ⟨ao, cap, e, hi.new hb⟩⟩
theorem RowsN.grown {w w' : World} {vals xs : List Value} {cl : List (List Int)} {v : Value} {n : Nat} (h : RowsN w vals cl) (ho : Own w 25 1 v n xs) (hg : w.grownBy w' v.ownBlock) : RowsN w' vals cl := ⟨h.len, fun j hj => by
  obtain ⟨ao, cap, e, hi⟩ := h.own j hj
  exact ⟨ao, cap, e, hi.grown hg (Own.ne_own hi ho (by decide))⟩⟩
theorem RowsN.snoc {w : World} {vals : List Value} {cl : List (List Int)} (h : RowsN w vals cl) {ao : Option Addr} {c : List Int} {cap : Nat} (hi : Own w 3 1 (.slice ao c.length cap) c.length (inC c)) : RowsN w (vals ++ [.slice ao c.length cap]) (cl ++ [c]) := by
  refine ⟨by simp [h.len], fun j hj => ?_⟩
  by_cases hjl : j < cl.length
  · obtain ⟨ao', cap', e, hi'⟩ := h.own j hjl
    rw [List.getElem?_append_left (by rw [h.len]; exact hjl), List.getElem_append_left hjl]
    exact ⟨ao', cap', e, hi'⟩
  · have e : j = cl.length := by simp at hj; omega
    subst e
    rw [List.getElem?_append_right (by rw [h.len]; exact Nat.le_refl _), h.len]
    have e2 : (cl ++ [c])[cl.length]'hj = c := by simp
    rw [e2]
    exact ⟨ao, cap, by simp, hi⟩
theorem RowsN.rowsV {w : World} {vals : List Value} {cl : List (List Int)} (h : RowsN w vals cl) : RowsV w vals cl := ⟨h.len, fun j hj => by
  obtain ⟨ao, cap, e, hi⟩ := h.own j hj
  obtain ⟨ao', cap', e2, hI⟩ := Own.ints hi
  injection e2 with e3 _ _
  exact ⟨ao, cap, e, e3 ▸ hI⟩⟩

/-! ### An answer that is written over -/
structure Rnd (B w : World) (g : Nat) (cs : Array Value) (v1 : Value) (n1 : Nat) (v3 : Value) (n3 : Nat) : Prop where
  bel : Below B.heap.size B w
  blk : Blk w g 30 cs
  st : ∃ l : List Bool, l.length = n1 ∧ Own w 4 1 v1 n1 (boC l)
  la : ∃ l : List Value, l.length = n3 ∧ Own w 3 1 v3 n3 l
  stNew : ∀ k, v1.ownBlock = some k → B.heap.size ≤ k
  laNew : ∀ k, v3.ownBlock = some k → B.heap.size ≤ k
section
variable {B w : World} {g : Nat} {cs : Array Value} {v1 v3 : Value} {n1 n3 c1 c3 : Nat} {a1 a3 : Option Addr}
theorem Rnd.drewN (h : Rnd B w g cs v1 n1 v3 n3) (m : Nat) : Rnd B (w.drewN m) g cs v1 n1 v3 n3 := ⟨bel_drewN h.bel m, h.blk, h.st, h.la, h.stNew, h.laNew⟩
theorem Rnd.below {w' : World} (h : Rnd B w g cs v1 n1 v3 n3) (hb : Below w.heap.size w w') : Rnd B w' g cs v1 n1 v3 n3 := by
  obtain ⟨l, hl, ho⟩ := h.st
  obtain ⟨l3, hl3, ho3⟩ := h.la
  exact ⟨bel_new h.bel h.bel.size hb, h.blk.below hb h.blk.lt, ⟨l, hl, ho.new hb⟩, ⟨l3, hl3, ho3.new hb⟩, h.stNew, h.laNew⟩
theorem Rnd.cell (h : Rnd B w g cs v1 n1 v3 n3) (i : Nat) : w.cell? ⟨g, i, none⟩ = cs[i]? := h.blk.cell i
theorem Rnd.state (h : Rnd B w g cs (.slice a1 n1 c1) n1 v3 n3) {k : Nat} (hk : k < n1) : ∃ b off x, a1 = some ⟨b, off, none⟩ ∧ w.cell? ⟨b, off + k, none⟩ = some (.bool x) ∧ w.frozen? ⟨b, off + k, none⟩ = false := by
  obtain ⟨l, rfl, ho⟩ := h.st
  obtain ⟨ao, cap, e, _, _, hf⟩ := ho.form
  injection e with e1 _ _
  obtain ⟨b, off, e2, hc, hz, _⟩ := hf (by omega)
  refine ⟨b, off, l[k], e1.trans e2, ?_, hz _⟩
  have := hc k (by simpa [boC] using hk)
  simpa [boC, hk] using this
theorem Rnd.lastc (h : Rnd B w g cs v1 n1 (.slice a3 n3 c3) n3) {k : Nat} (hk : k < n3) : ∃ b off x, a3 = some ⟨b, off, none⟩ ∧ w.cell? ⟨b, off + k, none⟩ = some x ∧ w.frozen? ⟨b, off + k, none⟩ = false := by
  obtain ⟨l, rfl, ho⟩ := h.la
  obtain ⟨ao, cap, e, _, _, hf⟩ := ho.form
  injection e with e1 _ _
  obtain ⟨b, off, e2, hc, hz, _⟩ := hf (by omega)
  exact ⟨b, off, l[k], e1.trans e2, by rw [hc k hk]; simp [hk], hz _⟩
theorem Rnd.setState {b off : Nat} (h : Rnd B w g cs (.slice (some ⟨b, off, none⟩) n1 c1) n1 v3 n3) (k : Nat) (x : Bool) : Rnd B (w.setCell ⟨b, off + k, none⟩ (.bool x)) g cs (.slice (some ⟨b, off, none⟩) n1 c1) n1 v3 n3 := by
  obtain ⟨l, hl, ho⟩ := h.st
  obtain ⟨l3, hl3, ho3⟩ := h.la
  have hne := ho.ne_blk h.blk (by decide)
  refine ⟨h.bel.setCell (h.stNew b rfl) _, h.blk.far (fun e => hne (by rw [e]; rfl)) _, ⟨l.set k x, by simpa using hl, ?_⟩, ⟨l3, hl3, ho3.far (fun e => ?_) _⟩, h.stNew, h.laNew⟩
  · have := ho.stored k (.bool x)
    simpa [boC, List.map_set] using this
  · rcases ho3.ne_own ho (by decide) with h1 | h1
    · rw [h1] at e
      cases e
    · exact h1 (e.trans rfl)
theorem Rnd.setLast {b off : Nat} (h : Rnd B w g cs v1 n1 (.slice (some ⟨b, off, none⟩) n3 c3) n3) (k : Nat) (x : Value) : Rnd B (w.setCell ⟨b, off + k, none⟩ x) g cs v1 n1 (.slice (some ⟨b, off, none⟩) n3 c3) n3 := by
  obtain ⟨l, hl, ho⟩ := h.st
  obtain ⟨l3, hl3, ho3⟩ := h.la
  have hne := ho3.ne_blk h.blk (by decide)
  refine ⟨h.bel.setCell (h.laNew b rfl) _, h.blk.far (fun e => hne (by rw [e]; rfl)) _, ⟨l, hl, ho.far (fun e => ?_) _⟩, ⟨l3.set k x, by simpa using hl3, ho3.stored k x⟩, h.stNew, h.laNew⟩
  rcases ho.ne_own ho3 (by decide) with h1 | h1
  · rw [h1] at e
    cases e
  · exact h1 (e.trans rfl)
end

/-! ### What Solve answers, as the law has it -/
abbrev ZeroAll (vars budget : Int) (cl : List (List Int)) (e0 : Int) : Prop :=
  ∀ w' ao cap av cv, IsRows w' ao cl av cv → Calls Try.prog 13 #[.int .i64 vars, .slice ao cl.length cap, .int .i64 budget] w' fun e w'' => Below w'.heap.size w' w'' ∧ e = .returned (.tuple #[.agg #[.bool false, .slice none 0 0, .int .i64 0, .slice none 0 0, .slice none 0 0], .int .i64 e0])
abbrev GoodAll (n : Nat) (budget : Int) (cl : List (List Int)) (A : Ans) : Prop :=
  ∀ w' ao cap av cv, IsRows w' ao cl av cv → Calls Try.prog 13 #[.int .i64 n, .slice ao cl.length cap, .int .i64 budget] w' fun e w'' => Below w'.heap.size w' w'' ∧ ∃ a1 c1 a2 c2 a3 c3, e = .returned (.tuple #[.agg (ansV A a1 c1 a2 c2 a3 c3), .int .i64 0]) ∧ AnsAt w' w'' A (.slice a1 A.state.length c1) (.slice a2 A.bonds.length c2) (.slice a3 A.last.length c3)
theorem tells_cases {vars budget : Int} {cl : List (List Int)} (h12 : vars ≤ 12) (hm : cl.length ≤ 1000) (hl : ∀ c ∈ cl, c.length ≤ 40) (hI : ∀ c ∈ cl, ∀ x ∈ c, I64 x) :
    (checkE vars cl budget = 1 ∧ ZeroAll vars budget cl 1) ∨ ∃ n : Nat, vars = n ∧ n ≤ 12 ∧ checkE vars cl budget = 0 ∧ cl.all (knownS n) = true ∧
      ((budget < enoughE n ∧ ZeroAll n budget cl 44) ∨ (((solveE n cl).steps : Int) ≤ budget ∧ GoodAll n budget cl (solveE n cl))) := by
  by_cases hv : vars < 0
  · exact .inl ⟨by unfold checkE; rw [if_pos (.inl hv)], fun w' ao cap av cv _ => solve_vars vars (.inl hv) _ budget w'⟩
  obtain ⟨n, rfl⟩ := Int.eq_ofNat_of_zero_le (by omega : 0 ≤ vars)
  by_cases hb : budget < 0 ∨ 1099511627776 < budget
  · exact .inl ⟨by unfold checkE; rw [if_pos (by rcases hb with h | h <;> simp [h])], fun w' ao cap av cv _ => solve_budget n (by omega) _ budget hb w'⟩
  have hck := checkE_known n cl budget (by omega) (by omega)
  by_cases hk : cl.all (knownS n) = true
  · rw [if_pos hk] at hck
    refine .inr ⟨n, rfl, by omega, hck, hk, ?_⟩
    by_cases hs : budget < (solveE n cl).steps
    · refine .inl ⟨?_, fun w' ao cap av cv hc => solve_less (by omega) hc hm hl hk budget ⟨hs, by omega, by omega⟩⟩
      rcases solve_steps n hk with h | h <;> omega
    · exact .inr ⟨by omega, fun w' ao cap av cv hc => solve_good (by omega) hc hm hl hk budget ⟨by omega, by omega⟩⟩
  · rw [if_neg hk] at hck
    exact .inl ⟨hck, fun w' ao cap av cv hc => solve_bad (by omega) hc hm hl hI (by simpa using hk) budget (by omega)⟩

end Go.Proofs.Ytoainmkebdpikaa

namespace Go.Proofs.Ytoainmkebdpikaa
open Go.ChangeShapes Go.WideShapes Go.ChangeAt Go.RowKit Go.Maps Go.Deep
set_option maxRecDepth 100000

set_option maxHeartbeats 4000000 in
theorem tells_walk (vars budget : Int) (aoc : Option Addr) (cl : List (List Int)) (capc : Nat) (av : Nat → Option Addr) (cv : Nat → Nat) (w : World) (hc : IsRows w aoc cl av cv) (hI : ∀ c ∈ cl, ∀ x ∈ c, I64 x) :
    Calls Try.prog 3 #[.int .i64 vars, .slice aoc cl.length capc, .int .i64 budget] w fun e w' => e = .returned (.bool true) ∧ Below w.heap.size w w' := by
  have HL := Lib.hid (long_any vars cl aoc capc av cv w hc)
  by_cases hlong : longE vars cl = true
  · rw [hlong] at HL
    clear hc hI
    go_enter Try.func3, Try.ntmps3
    go_wp2_with (first
      | (go_at_call 10; (with_reducible refine HL.out.mono ?_); rintro e w1 ⟨rfl, rfl⟩)
      | (go_at_call 11; (with_reducible refine (awake_any _).mono ?_); rintro e w1 ⟨rfl, hb1⟩))
    go_ret
    exact ⟨rfl, hb1⟩
  have hlong' : longE vars cl = false := by simpa using hlong
  rw [hlong'] at HL
  obtain ⟨h12, k2, k3⟩ := longE_no hlong'
  have HCase := Lib.hid (tells_cases (budget := budget) h12 (by omega) k3 hI)
  have hlens : ∀ c ∈ cl, c.length ≤ 1000000 := fun c hc => by have := k3 c hc; omega
  have HCk : Hid (∀ w', Below w.heap.size w w' → Calls Try.prog 12 #[.int .i64 vars, .slice aoc cl.length capc, .int .i64 budget] w' fun e w'' => e = .returned (.int .i64 (checkE vars cl budget)) ∧ w' = w'') := Lib.hid fun w' hb => check_any vars cl budget aoc capc av cv w' (hc.below hb) (by omega) hlens
  have HLn := Lib.hid k3
  have HC := Lib.hid hc
  have HI := Lib.hid hI
  have HLens := Lib.hid hlens
  obtain ⟨i3, hi3, hz0, hz1, hz2⟩ := info_parts (P := Try.prog) (e := 3) (z := .int .i64 0) (size := 1) (bytes := 8) (by kernel_rfl)
  obtain ⟨iS, hiS, hs0, hs1, hs2⟩ := info_parts (P := Try.prog) (e := 25) (z := .slice none 0 0) (size := 1) (bytes := 24) (by kernel_rfl)
  clear hlong hlong' k3 hlens hc hI
  go_enter Try.func3, Try.ntmps3
  go_wp2_with (go_at_call 10; (with_reducible refine HL.out.mono ?_); rintro e w1 ⟨rfl, rfl⟩)
  clear HL
  go_loopw [7, 8] (fun s i wr => ∃ (vs : List Value) (a : Option Addr) (c : Nat), vs.length ≤ cl.length ∧ i = .int .i64 vs.length ∧ s = .slice a vs.length c ∧ Hid (Own wr 25 1 (.slice a vs.length c) vs.length vs) ∧ Hid (RowsN wr vs (cl.take vs.length)) ∧ Hid (∀ k, (Value.slice a vs.length c).ownBlock = some k → w.heap.size ≤ k) ∧ Hid (Below w.heap.size w wr)) (fun _ i _ => cl.length - (intOf i).toNat)
  case atStart => exact ⟨[], none, 0, by simp, rfl, rfl, Lib.hid (Own.nil _ _ _), Lib.hid (RowsN.nil _), Lib.hid fun k hk => by simp [Value.ownBlock] at hk, Lib.hid (Below.refl _ _)⟩
  case round =>
    obtain ⟨vs, a, c, hvl, rfl, rfl, HO, HRo, HK, HB⟩ := hrel
    by_cases hlt : vs.length < cl.length
    · have hki : (vs.length : Int) < (cl.length : Int) := by omega
      have hcq := HC.out.below HB.out
      obtain ⟨b, off, rfl, _, hcell⟩ := hcq.rows (by omega)
      have hck := hcell vs.length hlt
      have hic := hcq.ints vs.length hlt
      have hl40 := HLn.out _ (List.getElem_mem hlt)
      have hB1 : Below wr.heap.size wr (wr.alloc (.cells #[] 3)) := (Below.refl _ _).alloc (Nat.le_refl _) _
      have eA := Lib.hid (show Own (wr.alloc (.cells #[] 3)) 3 1 (.slice (some ⟨wr.heap.size, 0, none⟩) 0 0) 0 [] from Own.made wr 3 1 #[] 0 rfl (by decide))
      have sA := Lib.hid (ints_src (cv vs.length) (hic.below hB1))
      have HTk : Hid (cl.take (vs.length + 1) = cl.take vs.length ++ [cl[vs.length]]) := Lib.hid (by rw [List.take_succ_eq_append_getElem hlt])
      have HB1 := Lib.hid hB1
      generalize cl[vs.length] = cc at *
      generalize av vs.length = a' at *
      generalize cv vs.length = c' at *
      have hone : ∀ u ∈ vs, u.oneCell' = true := (RowsN.rowsV HRo.out).one
      clear hcell hcq hB1 hic
      go_wp2_with (first
        | (at_builtin; refine wpList_append_S _ rfl (.tmp 28) (.tmp 32) _ _ rfl 3 i3 _ 1 8 Try.underlying25 hi3 hz0 hz1 hz2 rfl (by omega) (.slice (some ⟨wr.heap.size, 0, none⟩) 0 0) 0 [] rfl eA.out (by simp) (.slice a' cc.length c') cc.length (inC cc) rfl sA.out (by simp only [maxLen]; omega) (by omega) ?_; intro ao1 cap1 w1 hn1 hm1 hown1 hg1 hat1 hlt1; simp only [Nat.zero_add, List.nil_append] at hown1 hat1 hn1 hlt1
           have hb1 : Below wr.heap.size wr w1 := grow_below2 HB1.out hg1 (by simp [Value.ownBlock]) HB1.out.size
           have HW1 := Lib.hid hb1
           have HN1 := Lib.hid hown1
           have HO1 := Lib.hid (HO.out.new hb1)
           have HR1 := Lib.hid (HRo.out.new hb1)
           clear hown1 hg1 hat1 hlt1 hn1 hm1 hb1 sA eA)
        | (at_builtin; refine wpList_append_S _ rfl (.tmp 27) (.tmp 34) _ _ rfl 25 iS _ 1 24 Try.underlying22 hiS hs0 hs1 hs2 rfl (by omega) (.slice a vs.length c) vs.length vs rfl (HO1.out.alloc (.cells #[.slice ao1 cc.length cap1] 25)) hone _ 1 [_] rfl (src_new w1 Try.underlying22 25 _ rfl) (by simp only [maxLen]; omega) (by omega) ?_; intro ao2 cap2 w2 hn2 hm2 hown2 hg2 hat2 hlt2
           have H2 := Lib.hid hown2
           have G2 := Lib.hid hg2
           have A2 := Lib.hid hat2
           clear hown2 hg2 hat2 hlt2 hn2 hm2))
      go_roundw
      case rel =>
        have hal : Below w1.heap.size w1 (w1.alloc (.cells #[.slice ao1 cc.length cap1] 25)) := (Below.refl _ _).alloc (Nat.le_refl _) _
        have hO2 := HO1.out.new hal
        have e1 : (vs ++ [Value.slice ao1 cc.length cap1]).length = vs.length + 1 := by simp
        have hR3 := ((HR1.out.new hal).snoc (HN1.out.new hal)).grown hO2 G2.out
        have hBB : Below w.heap.size w (w1.alloc (.cells #[.slice ao1 cc.length cap1] 25)) := bel_new HB.out HB.out.size (bel_trans HW1.out hal)
        refine ⟨vs ++ [.slice ao1 cc.length cap1], ao2, cap2, by rw [e1]; omega, by rw [e1]; go_num, by rw [e1], Lib.hid (by rw [e1]; exact H2.out), Lib.hid (by rw [e1, HTk.out]; exact hR3), Lib.hid fun k hk => ?_, Lib.hid (grow_below2 hBB G2.out HK.out hBB.size)⟩
        rw [e1] at hk
        rcases A2.out with e | e
        · exact HK.out k (e ▸ hk)
        · rw [e] at hk
          injection hk with hk
          have h5 := hBB.size
          omega
      case measure => simp [intOf]; omega
    · have hvl2 : vs.length = cl.length := by omega
      have hrv := HRo.out
      rw [hvl2, List.take_length] at hrv
      have hrv2 := hrv.rowsV
      obtain ⟨hav, hcv, hIs⟩ := rows_own HO.out hrv2
      have HIs := Lib.hid hIs
      rw [hvl2]
      have HB4 := HB
      obtain ⟨w4, hw4⟩ : ∃ w4 : World, w4 = wr := ⟨_, rfl⟩
      subst hw4
      have HCk2 := Lib.hid (HCk.out _ HB4.out)
      generalize hwant : checkE vars cl budget = want at *
      have HW := Lib.hid hwant
      clear hrv hrv2 hIs hvl hlt HO HRo HK HB HCk hwant
      have hvl3 := Lib.hid hvl2
      clear hvl2
      go_wp2_with (go_at_call 12; (with_reducible refine HCk2.out.mono ?_); rintro e w5 ⟨rfl, rfl⟩)
      go_loopw [10] (fun i wr => ∃ k : Nat, k ≤ 2 ∧ i = .int .i64 k ∧ Hid (Below w4.heap.size w4 wr)) (fun i _ => 2 - (intOf i).toNat)
      case atStart => exact ⟨0, by omega, rfl, Lib.hid (Below.refl _ _)⟩
      case round =>
        obtain ⟨k, hk, rfl, HB⟩ := hrel
        by_cases hlt : k < 2
        · have hki : (k : Int) < 2 := by omega
          have HIr := Lib.hid (HIs.out.below HB.out)
          have HBw := Lib.hid (bel_new HB4.out HB4.out.size HB.out)
          rcases HCase.out with ⟨hw1, hz⟩ | ⟨n, rfl, hn12, hw1, hkn, ⟨hbe, hz⟩ | ⟨hst, hg⟩⟩
          · have HZ := Lib.hid (hz wr a c _ _ HIr.out)
            have hq1 : (want != 0) = true := by rw [hw1]; rfl
            have hq2 : (want == 0) = false := by rw [hw1]; rfl
            have hq3 : ((1 : Int) == want) = true := by rw [hw1]; rfl
            clear hz HCase HCk2 HLn HLens hw1
            go_wp2_with (first
              | (go_at_call 13; (with_reducible refine HZ.out.mono ?_); rintro e w5 ⟨hb5, rfl⟩)
              | (go_at_call 11; (with_reducible refine (awake_any _).mono ?_); rintro e w6 ⟨rfl, hb6⟩))
            go_ret
            have hb7 := bel_trans HBw.out hb5
            exact ⟨rfl, bel_trans (hb7.alloc hb7.size _) hb6⟩
          · have HZ := Lib.hid (hz wr a c _ _ HIr.out)
            have HEn := Lib.hid (fun w' => renough_any n (by omega) w')
            have hdl : decide (budget < enoughE n) = true := by simpa using hbe
            have hq1 : (want != 0) = false := by rw [hw1]; rfl
            have hq2 : (want == 0) = true := by rw [hw1]; rfl
            clear hz HCase HCk2 HLn HLens hbe hw1
            generalize enoughE n = E at *
            go_wp2_with (first
              | (go_at_call 13; (with_reducible refine HZ.out.mono ?_); rintro e w5 ⟨hb5, rfl⟩)
              | (go_at_call 14; (with_reducible refine (HEn.out _).mono ?_); rintro e w6 ⟨rfl, rfl⟩))
            go_roundw
            case rel =>
              have hb7 := bel_new HB.out HB.out.size hb5
              exact ⟨k + 1, by omega, by go_num, Lib.hid (hb7.alloc hb7.size _)⟩
            case measure => simp [intOf]; omega
          · have hok := (solve_ok n cl (List.all_eq_true.1 hkn)).2
            have HY : Hid (∀ w', Below w.heap.size w w' → Calls Try.prog 15 #[.int .i64 n, .slice aoc cl.length capc] w' fun e w'' => e = .returned (.bool (solveE n cl).yes) ∧ Below w'.heap.size w' w'') := Lib.hid fun w' hb => yes_any n hn12 cl aoc capc av cv w' (HC.out.below hb) (by omega) HLens.out HI.out _ (solve_yes hkn)
            have HHo : Hid (∀ w' (l : List Bool) a c, Below w.heap.size w w' → Bools w' a l → l.length ≤ n → Calls Try.prog 16 #[.slice a l.length c, .slice aoc cl.length capc] w' fun e w'' => e = .returned (.bool (holdsCl l cl)) ∧ w' = w'') := Lib.hid fun w' l a c hb hB hl => rholds_any l a c cl aoc capc av cv w' hB (by omega) (HC.out.below hb) (by omega) HLens.out HI.out
            have hyes : (solveE n cl).yes = true → (solveE n cl).state.length = n ∧ (solveE n cl).last.length = 0 ∧ holdsCl (solveE n cl).state cl = true := fun hy => by
              obtain ⟨y1, y2, y3⟩ := hok.yes hy
              exact ⟨y1, by rw [y3.1]; rfl, (holdsCl_iff (by rw [y1]; exact hkn)).2 y2⟩
            have hno : (solveE n cl).yes = false → (solveE n cl).state.length = 0 := fun hy => by rw [(hok.no hy).1]; rfl
            have HG := Lib.hid (hg wr a c _ _ HIr.out)
            have hq1 : (want != 0) = false := by rw [hw1]; rfl
            have hq2 : (want == 0) = true := by rw [hw1]; rfl
            clear hg HCase HCk2 HLn HLens hok hw1
            generalize solveE n cl = A at *
            obtain ⟨yes, state, steps, bonds, last⟩ := A
            simp only at hyes hno hst HY HG
            have hsd1 : decide (budget < (steps : Int)) = false := by simp; omega
            have HYes := Lib.hid hyes
            have HNo := Lib.hid hno
            clear hyes hno hst
            go_upto_region 13 with (go_at_call 13; (with_reducible refine HG.out.mono ?_); rintro e w5 ⟨hb5, a1, c1, a2, c2, a3, c3, rfl, hA⟩)
            obtain ⟨w6, hw6⟩ : ∃ w6, w6 = w5.alloc (.cells (ansV ⟨yes, state, steps, bonds, last⟩ a1 c1 a2 c2 a3 c3) 30) := ⟨_, rfl⟩
            have hb6 : Below w5.heap.size w5 w6 := by rw [hw6]; exact (Below.refl _ _).alloc (Nat.le_refl _) _
            have kA : Blk w6 w5.heap.size 30 (ansV ⟨yes, state, steps, bonds, last⟩ a1 c1 a2 c2 a3 c3) := by rw [hw6]; exact Blk.new ..
            simp only [ansV] at hw6 kA
            rw [← hw6]
            obtain ⟨g, hg⟩ : ∃ g, g = w5.heap.size := ⟨_, rfl⟩
            rw [← hg] at kA ⊢
            have hR : Rnd w4 w6 g _ (.slice a1 state.length c1) state.length (.slice a3 last.length c3) last.length :=
              ⟨bel_new HB.out HB.out.size (bel_trans hb5 hb6), kA, ⟨state, rfl, hA.state.new hb6⟩, ⟨inC last, by simp [inC], hA.last.new hb6⟩, fun k hk => Nat.le_trans HB.out.size (hA.stateNew k hk), fun k hk => Nat.le_trans HB.out.size (hA.lastNew k hk)⟩
            have hsl : state.length ≤ 9223372036854775807 := by
              obtain ⟨_, cap, _, h1, h2, _⟩ := hA.state.form
              unfold maxLen at h2
              exact Nat.le_trans h1 (by omega)
            have hll : last.length ≤ 9223372036854775807 := by
              obtain ⟨_, cap, _, h1, h2, _⟩ := hA.last.form
              unfold maxLen at h2
              exact Nat.le_trans h1 (by omega)
            have HR := Lib.hid hR
            have HSt := Lib.hid ((ans_state hA).below hb6)
            have HB6 := Lib.hid (bel_new HB4.out HB4.out.size hR.bel)
            have HK : Hid (∀ w', Below w6.heap.size w6 w' → w'.cell? ⟨g, 0, none⟩ = some (.bool yes) ∧ w'.cell? ⟨g, 1, none⟩ = some (.slice a1 state.length c1) ∧ w'.cell? ⟨g, 2, none⟩ = some (.int .i64 steps) ∧ w'.cell? ⟨g, 3, none⟩ = some (.slice a2 bonds.length c2) ∧ w'.cell? ⟨g, 4, none⟩ = some (.slice a3 last.length c3)) := Lib.hid fun w' hb => by
              have k := kA.below hb kA.lt
              exact ⟨k.cell 0, k.cell 1, k.cell 2, k.cell 3, k.cell 4⟩
            obtain ⟨p0, p1, p2, p3, p4⟩ := HK.out w6 (Below.refl _ _)
            clear hw6 hb6 kA hg hb5 hA hR HG
            go_upto_region 18 with fail
            have hdr : Below w.heap.size w w6.drew := bel_drewN HB6.out 1
            have HYd := Lib.hid (HY.out _ hdr)
            have hcd : w6.drew.cell? ⟨g, 0, none⟩ = some (.bool yes) ∧ w6.drew.cell? ⟨g, 2, none⟩ = some (.int .i64 steps) := ⟨p0, p2⟩
            have hyy : (yes != yes) = false := by cases yes <;> rfl
            go_region_held3 (fun w' => w'.cell? ⟨g, 0, none⟩ = some (.bool yes) ∧ w'.cell? ⟨g, 2, none⟩ = some (.int .i64 steps)) (assumption)
              ((go_at_call 15; (with_reducible refine HYd.out.mono ?_); rintro e w7 ⟨rfl, hb7⟩; obtain ⟨q0, q1, q2, q3, q4⟩ := HK.out w7 ((bel_drewN (Below.refl _ w6) 1).trans hb7); have hc7 : w7.cell? ⟨g, 0, none⟩ = some (.bool yes) ∧ w7.cell? ⟨g, 2, none⟩ = some (.int .i64 steps) := ⟨q0, q2⟩))
            obtain ⟨w8, hw8⟩ : ∃ w8 : World, w8 = w7 := ⟨_, rfl⟩
            subst hw8
            have hb68 : Below w6.heap.size w6 w8 := (bel_drewN (Below.refl _ w6) 1).trans hb7
            have HR8 : Hid (Rnd w4 w8 g _ (.slice a1 state.length c1) state.length (.slice a3 last.length c3) last.length) := Lib.hid (HR.out.below hb68)
            have HHw : Hid (state.length ≤ n → Calls Try.prog 16 #[.slice a1 state.length c1, .slice aoc cl.length capc] w8 fun e w'' => e = .returned (.bool (holdsCl state cl)) ∧ w8 = w'') := Lib.hid fun hl => HHo.out w8 state a1 c1 (bel_new HB6.out HB6.out.size hb68) (HSt.out.below hb68) hl
            clear hc7 hcd hdr HYd HY HK HR HSt hb68 hb7 p0 p1 p2 p3 p4 HHo hyy
            have hpre : (yes = true ∧ ((state.length : Int) != (n : Int)) = false ∧ ((state.length : Int) == (n : Int)) = true ∧ ((last.length : Int) != 0) = false ∧ ((last.length : Int) == 0) = true ∧ holdsCl state cl = true ∧ state.length ≤ n) ∨ (yes = false ∧ ((state.length : Int) != 0) = false ∧ ((state.length : Int) == 0) = true) := by
              cases yes with
              | true =>
                obtain ⟨y1, y2, y3⟩ := HYes.out rfl
                exact .inl ⟨rfl, by rw [y1]; simp, by rw [y1]; simp, by rw [y2]; rfl, by rw [y2]; rfl, y3, by omega⟩
              | false => exact .inr ⟨rfl, by rw [HNo.out rfl]; rfl, by rw [HNo.out rfl]; rfl⟩
            clear HYes HNo
            have HB8 := Lib.hid (bel_new HB4.out HB4.out.size HR8.out.bel)
            obtain ⟨cs, hcs⟩ : ∃ cs : Array Value, cs = #[.bool yes, .slice a1 state.length c1, .int .i64 steps, .slice a2 bonds.length c2, .slice a3 last.length c3] := ⟨_, rfl⟩
            have hR8 := HR8.out
            rw [← hcs] at hR8
            have hc1 : cs[1]? = some (.slice a1 state.length c1) := by rw [hcs]; rfl
            have hc4 : cs[4]? = some (.slice a3 last.length c3) := by rw [hcs]; rfl
            have HRX := Lib.hid hR8
            clear hcs hR8 HR8
            rcases hpre with ⟨rfl, hx1, hx2, hx3, hx4, hx5, hx6⟩ | ⟨rfl, hx1, hx2⟩
            all_goals
              go_upto_region 22 with (go_at_call 16; (with_reducible refine (HHw.out hx6).mono ?_); rintro e w9 ⟨rfl, rfl⟩)
            all_goals
              clear q0 q1 q2 q3 q4 hx1 hx2 HHw
              go_wp2_with fail
              go_loopw [13] (fun i wr => ∃ j : Nat, j ≤ state.length ∧ i = .int .i64 j ∧ Hid (Rnd w4 wr g cs (.slice a1 state.length c1) state.length (.slice a3 last.length c3) last.length)) (fun i _ => state.length - (intOf i).toNat)
              case atStart => exact ⟨0, by omega, rfl, HRX⟩
              case round =>
                obtain ⟨j, hj, rfl, HRj⟩ := hrel
                have p1 := (HRj.out.cell 1).trans hc1
                by_cases hjt : j < state.length
                · have hji : (j : Int) < (state.length : Int) := by omega
                  obtain ⟨b1, o1, x, rfl, hcx, hzx⟩ := HRj.out.state hjt
                  have HRs : Hid (∀ m, Rnd w4 ((wr.drewN m).setCell ⟨b1, o1 + j, none⟩ (.bool !x)) g cs (.slice (some ⟨b1, o1, none⟩) state.length c1) state.length (.slice a3 last.length c3) last.length) := Lib.hid fun m => (HRj.out.drewN m).setState j _
                  go_upto_region 25 with fail
                  go_region
                  all_goals
                    go_wp2_with fail
                    go_roundw
                    case rel => exact ⟨j + 1, by omega, by go_num, Lib.hid (HRs.out 1)⟩
                    case measure => simp [intOf]; omega
                · obtain rfl : j = state.length := by omega
                  have p4 := (HRj.out.cell 4).trans hc4
                  go_wp2_with fail
                  go_loopw [14] (fun i wr => ∃ j : Nat, j ≤ last.length ∧ i = .int .i64 j ∧ Hid (Rnd w4 wr g cs (.slice a1 state.length c1) state.length (.slice a3 last.length c3) last.length)) (fun i _ => last.length - (intOf i).toNat)
                  case atStart => exact ⟨0, by omega, rfl, HRj⟩
                  case round =>
                    obtain ⟨j, hj, rfl, HRj⟩ := hrel
                    have p4 := (HRj.out.cell 4).trans hc4
                    by_cases hjt : j < last.length
                    · have hji : (j : Int) < (last.length : Int) := by omega
                      obtain ⟨b1, o1, x, rfl, hcx, hzx⟩ := HRj.out.lastc hjt
                      have HRs : Hid (Rnd w4 (wr.setCell ⟨b1, o1 + j, none⟩ (.int .i64 (-7))) g cs (.slice a1 state.length c1) state.length (.slice (some ⟨b1, o1, none⟩) last.length c3) last.length) := Lib.hid (HRj.out.setLast j _)
                      go_wp2_with fail
                      go_roundw
                      case rel => exact ⟨j + 1, by omega, by go_num, HRs⟩
                      case measure => simp [intOf]; omega
                    · obtain rfl : j = last.length := by omega
                      go_wp2_with fail
                      go_roundw
                      case rel => exact ⟨k + 1, by omega, by go_num, Lib.hid HRj.out.bel⟩
                      case measure => simp [intOf]; omega
        · obtain rfl : k = 2 := by omega
          have HIr := Lib.hid (HIs.out.below HB.out)
          have HBw := Lib.hid (bel_new HB4.out HB4.out.size HB.out)
          obtain ⟨w5, hw5⟩ : ∃ w5 : World, w5 = wr := ⟨_, rfl⟩
          subst hw5
          have HCr := Lib.hid (HC.out.below HBw.out)
          clear HCase HCk2 HIs HB HC HI HW
          rw [show (((2 : Nat) : Int)) = (2 : Int) from rfl]
          go_wp2_with fail
          go_loopw [15] (fun i wr => ∃ k : Nat, k ≤ cl.length ∧ i = .int .i64 k ∧ Hid (Below w5.heap.size w5 wr)) (fun i _ => cl.length - (intOf i).toNat)
          case atStart => exact ⟨0, by omega, rfl, Lib.hid (Below.refl _ _)⟩
          case round =>
            obtain ⟨k, hk, rfl, HB⟩ := hrel
            by_cases hlt : k < cl.length
            · have hki : (k : Int) < (cl.length : Int) := by omega
              obtain ⟨b1, o1, rfl, _, hr1⟩ := (HIr.out.below HB.out).rows (by omega)
              obtain ⟨b2, o2, rfl, _, hr2⟩ := (HCr.out.below HB.out).rows (by omega)
              have q1 := hr1 k hlt
              have q2 := hr2 k hlt
              have HI1 := Lib.hid ((HIr.out.below HB.out).ints k hlt)
              have HI2 := Lib.hid ((HCr.out.below HB.out).ints k hlt)
              have hl40 := HLn.out _ (List.getElem_mem hlt)
              have HQ : Hid (∀ w', Below wr.heap.size wr w' → w'.cell? ⟨b1, o1 + k, none⟩ = some (.slice (hav k) cl[k].length (hcv k)) ∧ w'.cell? ⟨b2, o2 + k, none⟩ = some (.slice (av k) cl[k].length (cv k))) := Lib.hid fun w' hb => by
                have hbb := bel_new HB.out HB.out.size hb
                obtain ⟨b1', o1', e1, _, hr1'⟩ := (HIr.out.below hbb).rows (by omega)
                obtain ⟨b2', o2', e2, _, hr2'⟩ := (HCr.out.below hbb).rows (by omega)
                injection e1 with e1
                injection e1 with e3 e4
                injection e2 with e2
                injection e2 with e5 e6
                subst e3 e4 e5 e6
                exact ⟨hr1' k hlt, hr2' k hlt⟩
              generalize cl[k] = cc at *
              generalize av k = ax at *
              generalize cv k = cx at *
              generalize hav k = bx at *
              generalize hcv k = dx at *
              clear hr1 hr2
              obtain ⟨wo, hwo⟩ : ∃ wo : World, wo = wr := ⟨_, rfl⟩
              subst hwo
              go_wp2_with fail
              go_loopw [16] (fun i wq => ∃ m : Nat, m ≤ cc.length ∧ i = .int .i64 m ∧ Hid (Below wo.heap.size wo wq)) (fun i _ => cc.length - (intOf i).toNat)
              case atStart => exact ⟨0, by omega, rfl, Lib.hid (Below.refl _ _)⟩
              case round =>
                obtain ⟨m, hm, rfl, HB2⟩ := hrel
                obtain ⟨q3, q4⟩ := HQ.out _ HB2.out
                by_cases hmt : m < cc.length
                · have hmi : (m : Int) < (cc.length : Int) := by omega
                  obtain ⟨b3, o3, rfl, _, hc3⟩ := HI1.out.below HB2.out (by omega)
                  obtain ⟨b4, o4, rfl, _, hc4⟩ := HI2.out.below HB2.out (by omega)
                  have q5 := hc3 m hmt
                  have q6 := hc4 m hmt
                  generalize cc[m] = y at *
                  have hyy : (y != y) = false := by simp
                  have HB3 : Hid (∀ n, Below wo.heap.size wo (wr.drewN n)) := Lib.hid fun n => bel_drewN HB2.out n
                  clear hc3 hc4
                  go_upto_region 36 with fail
                  go_quiet (fail)
                  go_wp2_with fail
                  go_roundw
                  case rel => exact ⟨m + 1, by omega, by go_num, Lib.hid (HB3.out _)⟩
                  case measure => simp [intOf]; omega
                · obtain rfl : m = cc.length := by omega
                  go_wp2_with fail
                  go_roundw
                  case rel => exact ⟨k + 1, by omega, by go_num, Lib.hid (bel_new HB.out HB.out.size HB2.out)⟩
                  case measure => simp [intOf]; omega
            · obtain rfl : k = cl.length := by omega
              have HBe := Lib.hid (bel_new HBw.out HBw.out.size HB.out)
              go_wp2_with (go_at_call 11; (with_reducible refine (awake_any _).mono ?_); rintro e w6 ⟨rfl, hb6⟩)
              go_ret
              exact ⟨rfl, bel_trans HBe.out hb6⟩

end Go.Proofs.Ytoainmkebdpikaa
