/- Contracts of package trail: slices.Repeat of one, New. -/
import Derived.Test.YtnachllhjojlcaaT11
namespace Go.Proofs.Ytnachllhjojlcaa
open Go.ChangeShapes Go.WideShapes Go.ChangeAt Go.RowKit
set_option maxRecDepth 100000

def pvs (k : Nat) : List Value := (List.range k).map pv
theorem pvs_len (k : Nat) : (pvs k).length = k := by simp [pvs]
theorem pvs_get (k j : Nat) (h : j < k) : (pvs k)[j]? = some (pv j) := by simp [pvs, h]
theorem pvs_lt {k j : Nat} {v : Value} (h : (pvs k)[j]? = some v) : j < k ∧ v = pv j := by
  have hj : j < k := by
    have := (List.getElem?_eq_some_iff.1 h).1
    rwa [pvs_len] at this
  rw [pvs_get k j hj] at h
  exact ⟨hj, (Option.some.inj h).symm⟩
theorem pvs_one (k : Nat) : ∀ v ∈ pvs k, v.oneCell' = true := by
  intro v hv
  obtain ⟨j, _, rfl⟩ := List.mem_map.1 hv
  exact pv_one j

theorem splice_pv (cur : Array Value) (c k : Nat) (hs : (c + k) * 3 ≤ cur.size) (hc : ∀ j, j < c * 3 → cur[j]? = some (pv j)) :
    (cur.toList.take (c * 3) ++ pvs (k * 3) ++ cur.toList.drop (c * 3 + (pvs (k * 3)).length)).toArray.size = cur.size ∧
    ∀ j, j < (c + k) * 3 → (cur.toList.take (c * 3) ++ pvs (k * 3) ++ cur.toList.drop (c * 3 + (pvs (k * 3)).length)).toArray[j]? = some (pv j) := by
  have h1 : (cur.toList.take (c * 3)).length = c * 3 := by simp; omega
  constructor
  · simp [pvs_len]
    omega
  · intro j hj
    simp only [List.getElem?_toArray]
    by_cases h : j < c * 3
    · rw [List.getElem?_append_left (by simp [pvs_len]; omega), List.getElem?_append_left (by omega), List.getElem?_take, if_pos h]
      have := hc j h
      simpa using this
    · rw [List.getElem?_append_left (by rw [List.length_append, h1, pvs_len]; omega), List.getElem?_append_right (by omega), h1, pvs_get _ _ (by omega)]
      have e : j = c * 3 + (j - c * 3) := by omega
      rw [e, pv_add]
      congr 2
      omega

theorem made_blk {w : World} {e : TypeId} {g n : Nat} {xs : List Value} (h : Own w e 3 (.slice (some ⟨g, 0, none⟩) n n) n xs) : ∃ cur, Blk w g e cur ∧ n * 3 ≤ cur.size := by
  rcases h.2 with ⟨h, _⟩ | ⟨g', off, cap, cur, hv, hb, _, _, hs, _⟩
  · cases h
  · injection hv with h1 _ h3
    injection h1 with h1
    injection h1 with h1 h4
    subst h1 h3 h4
    exact ⟨cur, hb, by omega⟩

theorem repeat_any (bx n : Nat) (w : World) (hx : Blk w bx 82 #[.int .i64 0, .int .i64 (-1), .int .i64 (-1)]) (hn : n ≤ 5000) :
    Calls Try.prog 58 #[.slice (some ⟨bx, 0, none⟩) 1 1, .int .i64 n] w fun e w' => ∃ g, e = .returned (.slice (some ⟨g, 0, none⟩) n n) ∧ Own w' 82 3 (.slice (some ⟨g, 0, none⟩) n n) n (knC (List.replicate n ⟨0, -1, -1⟩)) ∧
      Below w.heap.size w w' ∧ w.heap.size ≤ g ∧ g < w'.heap.size := by
  obtain ⟨i, hi, hz0, hz1, hz2⟩ := info_parts (P := Try.prog) (e := 82) (z := .agg #[.int .i64 0, .int .i64 0, .int .i64 0]) (size := 3) (bytes := 24) (by kernel_rfl)
  have HM := Lib.hid (mul_one n w hn)
  have e5 : IntKind.u64.wrap (n : Int) = n := by rw [IntKind.wrap_u64]; omega
  have e6 : IntKind.i64.wrap (n : Int) = n := by rw [IntKind.wrap_i64]; omega
  have e7 : (n : Int) ≤ 9223372036854775807 := by omega
  have e8 : decide ((n : Int) < 0) = false := by simp
  have e9 : decide (9223372036854775807 < (n : Int)) = false := by simp; omega
  have hbl := hx.lt
  have hg0 : ∃ g, g = w.heap.size := ⟨_, rfl⟩
  obtain ⟨g, hg⟩ := hg0
  go_enter Try.func58, Try.ntmps58
  go_upto_region 7 with (first | (go_at_call 67; refine HM.out.mono ?_; rintro e w' ⟨rfl, rfl⟩) | (at_make; go_loud (refine wpList_make_full _ rfl (.tmp 29) (.tmp 29) _ rfl w.heap.size 82 i _ 3 Try.underlying77 hi hz0 hz1 .i64 .i64 _ _ n rfl rfl rfl rfl (by rw [hz2]; omega) (by simp only [maxLen]; omega) (Nat.le_refl _) ?_); intro w1 hown hgr; obtain ⟨cur, hb, hs⟩ := made_blk (Own.of_kit hown)))
  have hgb : w.grownBy w1 none := hgr
  have hB1 : Below w.heap.size w w1 := ⟨hgb.os, hgb.tape, hgb.output, hgb.size, fun k hk => hgb.block k hk (by simp)⟩
  rw [← hg] at hb hB1 hbl ⊢
  have hx1 := hx.below hB1 hbl
  obtain ⟨c0, hc0⟩ : ∃ c0, c0 = Nat.min 1 n := ⟨_, rfl⟩
  have hc1 : c0 ≤ 1 ∧ c0 ≤ n ∧ (0 < n → 0 < c0) := by rw [hc0]; simp only [Nat.min_def]; split <;> omega
  have Hg := Lib.hid hg
  clear hg
  have hgw : g ≤ w1.heap.size := by have := hB1.size; have := Hg.out; omega
  go_cut [8] from 31 (fun s8 wx => s8 = .int .i64 c0 ∧ ∃ cur, Blk wx g 82 cur ∧ n * 3 ≤ cur.size ∧ (∀ j, j < c0 * 3 → cur[j]? = some (pv j)) ∧ Below g w wx)
  case first =>
    have hsrc : ∀ j v, (pvs (c0 * 3))[j]? = some v → w1.cell? ((⟨bx, 0, none⟩ : Addr).add j) = some v := by
      intro j v hjv
      obtain ⟨hj, rfl⟩ := pvs_lt hjv
      rw [add_plain, Nat.zero_add, hx1.cell]
      have : j = 0 ∨ j = 1 ∨ j = 2 := by omega
      rcases this with rfl | rfl | rfl <;> rfl
    have hsp := splice_pv cur 0 c0 (by omega) (fun j hj => absurd hj (by omega))
    simp only [Nat.zero_add, Nat.zero_mul] at hsp
    go_wp2_with ((refine wpList_copy_S rfl (.tmp 31) (.tmp 32) _ _ rfl 82 i Try.underlying77 hi g 0 n n ⟨bx, 0, none⟩ 1 1 rfl rfl cur 82 (pvs (c0 * 3)) hb (by rw [pvs_len, hz1, hc0]) hsrc (by rw [pvs_len]; omega) (pvs_one _) ?_); intro w2 hb2 ht2)
    go_meet
    case rel =>
      rw [← hc0]
      refine ⟨rfl, _, hb2, by rw [Nat.zero_add, hsp.1]; exact hs, by simpa only [Nat.zero_add] using hsp.2, ?_⟩
      exact hB1.trans (ht2.below hgw fun x hx e => by omega)
  case rest =>
    obtain ⟨rfl, cur, hb, hs, hcells, hB⟩ := hcut
    go_wp2_with fail
    go_loopw [8] (fun x wr => ∃ (c : Nat) (cur : Array Value), x = .int .i64 c ∧ c ≤ n ∧ (0 < n → 0 < c) ∧ Blk wr g 82 cur ∧ n * 3 ≤ cur.size ∧ (∀ j, j < c * 3 → cur[j]? = some (pv j)) ∧ Below g w wr) (fun x _ => n - (intOf x).toNat)
    case atStart => exact ⟨c0, cur, rfl, hc1.2.1, hc1.2.2, hb, hs, hcells, hB⟩
    case round =>
      obtain ⟨c, cur, rfl, hcn, hc0', hb, hs, hcells, hB⟩ := hrel
      by_cases hlt : c < n
      · obtain ⟨k, hk⟩ : ∃ k, k = Nat.min c (n - c) := ⟨_, rfl⟩
        have hk1 : k ≤ c ∧ c + k ≤ n ∧ 0 < k := by rw [hk]; simp only [Nat.min_def]; split <;> omega
        obtain ⟨hsp1, hsp2⟩ := splice_pv cur c k (by omega) hcells
        have hsrc : ∀ j v, (pvs (k * 3))[j]? = some v → wr.drew.cell? ((⟨g, 0, none⟩ : Addr).add j) = some v := by
          intro j v hjv
          obtain ⟨hj, rfl⟩ := pvs_lt hjv
          rw [add_plain, Nat.zero_add, hb.drew.cell]
          exact hcells j (by omega)
        have hfi : c * 3 + (pvs (k * 3)).length ≤ cur.size := by rw [pvs_len]; omega
        have hnc : ¬ n - c = 0 := by omega
        have hnc' : ¬ n = c := by omega
        have hsz : (pvs (k * 3)).length = Nat.min c (n - c) * i.size := by rw [pvs_len, hz1, hk]
        have hci : (c : Int) ≤ (n : Int) := by omega
        have HK := Lib.hid hk
        have HS := Lib.hid hsp1
        have hw : IntKind.i64.wrap ((c : Int) + (k : Int)) = ((c + k : Nat) : Int) := by rw [IntKind.wrap_i64]; omega
        clear hk hsp1
        go_wp2_with fail
        go_region_law (refine step_copy_S rfl (.tmp 41) (.tmp 44) _ _ rfl 82 i Try.underlying77 hi g (c * 3) (n - c) (n - c) ⟨g, 0, none⟩ c n (by simp [Act.eval, Act.put]) (by simp [Act.eval, Act.put]) cur 82 (pvs (k * 3)) hb.drew hsz hsrc hfi (pvs_one _) ?_; intro w2 hb2 ht2)
        go_wp2_with fail
        go_roundw
        case rel =>
          repeat apply Exists.intro
          refine ⟨?_, rfl⟩
          refine ⟨c + k, _, by rw [← HK.out, hw], by omega, fun _ => by omega, hb2, by rw [HS.out]; exact hs, hsp2, ?_⟩
          exact (bel_drewN hB 1).trans (ht2.below (B := g) (by have h1 := hB.size; have h2 := Hg.out; show g ≤ wr.heap.size; omega) fun x hx e => by omega)
        case measure =>
          show n - (IntKind.i64.wrap ((c : Int) + ((Nat.min c (n - c) : Nat) : Int))).toNat < n - ((c : Int)).toNat
          rw [← HK.out, hw]
          omega
      · obtain rfl : c = n := by omega
        go_wp2_with fail
        go_ret
        have hO : Own wr 82 3 (.slice (some ⟨g, 0, none⟩) c c) c (knC (List.replicate c ⟨0, -1, -1⟩)) := by
          rw [knC_rep]
          refine ⟨by simp, .inr ⟨g, 0, c, cur, rfl, hb, Nat.le_refl _, by simp only [maxLen]; omega, by omega, fun j hj => ?_⟩⟩
          have hj' : j < c * 3 := by simpa using hj
          rw [Nat.zero_add, hcells j hj']
          simp [hj']
        exact ⟨g, rfl, hO, by rw [← Hg.out]; exact hB, by rw [← Hg.out]; exact Nat.le_refl _, hb.lt⟩

theorem rep_empty (n : Nat) : List.replicate n (⟨0, -1, -1⟩ : Kn) = varsE n [] := by
  unfold varsE
  simp only [look, knE, List.map_const', List.length_range]

/-- New: where there may be so many. -/
theorem new_any (n : Nat) (w : World) (hn : n ≤ 5000) :
    Calls Try.prog 37 #[.int .i64 n] w fun e w' => ∃ g, e = .returned (.tuple #[.pointer (some ⟨g, 0, none⟩), .int .i64 0]) ∧ Below w.heap.size w w' ∧ ∃ F, TrA w' F g (trE n []) ∧ ∀ k, F k → w.heap.size ≤ k := by
  obtain ⟨W, hW⟩ : ∃ W, W = w.alloc (.cells #[.int .i64 0, .int .i64 (-1), .int .i64 (-1)] 82) := ⟨_, rfl⟩
  have hWs : W.heap.size = w.heap.size + 1 := by rw [hW]; simp
  have hBW : Below w.heap.size w W := by rw [hW]; exact (Below.refl _ _).alloc (Nat.le_refl _) _
  have HR : Hid (Calls Try.prog 58 #[.slice (some ⟨w.heap.size, 0, none⟩) 1 1, .int .i64 n] (w.alloc (.cells #[.int .i64 0, .int .i64 (-1), .int .i64 (-1)] 82)) fun e w' => ∃ g, e = .returned (.slice (some ⟨g, 0, none⟩) n n) ∧ Own w' 82 3 (.slice (some ⟨g, 0, none⟩) n n) n (knC (List.replicate n ⟨0, -1, -1⟩)) ∧
      Below W.heap.size W w' ∧ W.heap.size ≤ g ∧ g < w'.heap.size) := Lib.hid (by rw [← hW]; exact repeat_any w.heap.size n W (by rw [hW]; exact Blk.new w _ _) hn)
  have h1 : ¬ (2097152 : Int) < (n : Int) := by omega
  have h2 : decide ((2097152 : Int) < (n : Int)) = false := by simpa using h1
  have h3 : decide ((n : Int) < 0) = false := by simp
  have H := Lib.hid (And.intro hWs hBW)
  clear hW hWs hBW
  go_enter Try.func37, Try.ntmps37
  go_wp2_with (go_at_call 58; refine HR.out.mono ?_; rintro e w1 ⟨g, rfl, hO, hb1, hg1, hg2⟩)
  obtain ⟨hWs, hBW⟩ := H.out
  go_ret2
  have hb3 : Below w.heap.size w w1 := bel_new hBW hBW.size hb1
  refine ⟨w1.heap.size, rfl, hb3.alloc hb3.size _, fun k => k = w1.heap.size ∨ k = g, ⟨.slice (some ⟨g, 0, none⟩) n n, .slice none 0 0, .slice none 0 0, ⟨Blk.new w1 _ _, ?_, Own.nil _ 3 1, Own.nil _ 3 1⟩, .inl rfl, fun k hk => ?_, fun k hk => ?_, fun k hk => ?_, .inl rfl, ?_⟩, ?_⟩
  · rw [rep_empty] at hO
    have h := hO.alloc (.cells #[.slice (some ⟨g, 0, none⟩) n n, .slice none 0 0, .slice none 0 0] 79)
    show Own _ 82 3 _ (varsE n []).length (knC (varsE n []))
    rw [varsE_len]
    exact h
  · simp only [Value.ownBlock, Option.some.injEq] at hk
    exact .inr hk.symm
  · simp [Value.ownBlock] at hk
  · simp [Value.ownBlock] at hk
  · rintro k (rfl | rfl)
    · simp
    · simp; omega
  · rintro k (rfl | rfl)
    · exact hb3.size
    · have := hBW.size; omega

theorem new_bad (n : Int) (w : World) (hn : n < 0 ∨ 2097152 < n) :
    Calls Try.prog 37 #[.int .i64 n] w fun e w' => e = .returned (.tuple #[.pointer none, .int .i64 1]) ∧ w = w' := by
  by_cases h : n < 0
  · go_enter Try.func37, Try.ntmps37
    go_wp2_with fail
    simp [bodyPost, results, Try.results37, go_sem]
  · have h' : decide (n < 0) = false := by simpa using h
    have h2 : 2097152 < n := by omega
    go_enter Try.func37, Try.ntmps37
    go_wp2_with fail
    simp [bodyPost, results, Try.results37, go_sem]

end Go.Proofs.Ytnachllhjojlcaa
