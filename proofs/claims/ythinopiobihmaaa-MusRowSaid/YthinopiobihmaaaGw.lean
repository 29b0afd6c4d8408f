/- The least no: the document's Least. Conditions: as each theorem names them. -/
import Derived.Test.YthinopiobihmaaaGv
namespace Go.Proofs.Ythinopiobihmaaa
open Go.ChangeShapes Go.WideShapes Go.ChangeAt Go.RowKit Go.Maps Go.Deep
set_option maxRecDepth 100000

theorem boR_false (n : Nat) : madeCells #[Value.bool false] n = (boR (fun _ => false) n).toArray := by
  have h := toList_madeCells_one (.bool false) n
  rw [show boR (fun _ => false) n = List.replicate n (.bool false) by
    apply List.ext_getElem
    · simp [boR]
    · intro i h1 h2
      simp [boR], ← h]
theorem boR_put {R R' : Nat → Bool} (n k : Nat) (b : Bool) (h : ∀ i, i < n → i ≠ k → R' i = R i) (hk : R' k = b) : (boR R n).toArray.setIfInBounds k (.bool b) = (boR R' n).toArray := by
  apply Array.ext'
  rw [Array.toList_setIfInBounds]
  apply List.ext_getElem
  · simp [boR]
  · intro i h1 h2
    have hi : i < n := by simpa [boR] using h2
    by_cases hik : k = i
    · subst hik
      simp [boR, hk]
    · simp only
      rw [List.getElem_set_ne hik]
      simp [boR, h i hi (fun e => hik e.symm)]
structure ROut where
  l : List Int
  e : Int
def natsE (l : List Nat) : List Int := l.map fun i : Nat => (i : Int)
def rleastE (n : Nat) (base : List (List Int)) (items : List (List (List Int))) : ROut :=
  if (solveE n (allE base items (everyS items))).yes then ⟨[], 5⟩ else ⟨natsE (keepR items.length (noB n base items) items.length), 0⟩
def RLeastPost (w : World) (o : ROut) (e : Ending) (w' : World) : Prop :=
  Below w.heap.size w w' ∧ ∃ a c, e = .returned (.tuple #[.slice a o.l.length c, .int .i64 o.e]) ∧ Own w' 3 1 (.slice a o.l.length c) o.l.length (inC o.l) ∧ ∀ k, (Value.slice a o.l.length c).ownBlock = some k → w.heap.size ≤ k
theorem rleast_none {w w' : World} (hb : Below w.heap.size w w') (e : Int) : RLeastPost w ⟨[], e⟩ (.returned (.tuple #[.slice none 0 0, .int .i64 e])) w' :=
  ⟨hb, none, 0, rfl, Own.nil _ _ _, fun k hk => by simp [Value.ownBlock] at hk⟩
theorem keep_in {n i : Nat} {no : (Nat → Bool) → Bool} (hi : i < n) (j : Nat) (hj : j < n) : (j ≠ i → askR n (keepR n no i) i j = inR n (keepR n no i) i j) ∧ askR n (keepR n no i) i i = false ∧ inR n (keepR n no i) i i = true ∧ j < n := by
  have h := askS_in (n := n) (i := i) (l := keepR n no i) fun x hx => keepR_lt hx
  refine ⟨fun hne => ?_, ?_, ?_, hj⟩
  · rw [← h]
    unfold askS
    simp [hne]
  · rw [← h]
    unfold askS
    simp
  · unfold inR
    simp [hi]

set_option maxHeartbeats 4000000 in
theorem rleast_any (vars : Int) (o : ROut) (base : List (List Int)) (items : List (List (List Int))) (ab ai : Option Addr) (cb ci : Nat) (av : Nat → Option Addr) (cv : Nat → Nat) (aI : Nat → Option Addr) (cI : Nat → Nat) (avI : Nat → Nat → Option Addr) (cvI : Nat → Nat → Nat) (w : World)
    (hR : IsRows w ab base av cv) (hI : IsItems w ai items aI cI avI cvI) (hk : ItOk 0 base items)
    (hF : (checkE vars (allE base items (everyS items)) 0 = 1 ∧ o = ⟨[], 1⟩) ∨ (∃ n : Nat, vars = n ∧ n ≤ 12 ∧ KnownAll n base items ∧ o = rleastE n base items)) :
    Calls Try.prog 11 #[.int .i64 vars, .slice ab base.length cb, .slice ai items.length ci] w (RLeastPost w o) := by
  have hil := hk.il
  have hmk : ∀ W : World, Sem.run Try.prog (Instr.makeSlice 38 (.int .i64 (items.length : Int)) (.int .i64 (items.length : Int))) W = .ok (.slice (some ⟨W.heap.size, 0, none⟩) items.length items.length) (W.alloc (.cells (madeCells #[.bool false] items.length) 4)) := fun W => run_make_row' 38 4 (.bool false) 1 Try.underlying38 (by kernel_rfl) rfl .i64 .i64 items.length (by omega) (by omega) W
  have HAl : Hid (∀ (w' : World) (g : Nat) (S : Nat → Bool), Below w.heap.size w w' → Blk w' g 4 (boR S items.length).toArray → Calls Try.prog 22 #[.slice ab base.length cb, .slice ai items.length ci, .slice (some ⟨g, 0, none⟩) items.length items.length] w' (AllPost w' (allE base items S))) := Lib.hid fun w' g S hb hB => rall_any base items ab ai cb ci av cv aI cI avI cvI g S w' (hR.below hb) (hI.below hb) hB (Nat.le_trans hil (by decide)) (Nat.le_trans (hk.len S) (by decide))
  have HCk : Hid (∀ (w' : World) (S : Nat → Bool) a c av cv, IsRows w' a (allE base items S) av cv → Calls Try.prog 21 #[.int .i64 vars, .slice a (allE base items S).length c, .int .i64 0] w' fun e w'' => e = .returned (.int .i64 (checkE vars (allE base items S) 0)) ∧ w' = w'') := Lib.hid fun w' S a c av cv h => check_any vars (allE base items S) 0 a c av cv w' h (Nat.le_trans (hk.len S) (by decide)) fun c hc => Nat.le_trans (hk.row S c hc) (by decide)
  have HF := Lib.hid hF
  have HK := Lib.hid hk
  clear hR hI hk hF
  go_enter Try.func11, Try.ntmps11
  go_wp2_with fail
  obtain ⟨g, hg⟩ : ∃ g, g = w.heap.size := ⟨_, rfl⟩
  obtain ⟨w1, hw1⟩ : ∃ w1, w1 = w.alloc (.cells (madeCells #[.bool false] items.length) 4) := ⟨_, rfl⟩
  have hB1 : Blk w1 g 4 (boR (fun _ => false) items.length).toArray := by
    rw [hw1, hg, ← boR_false]
    exact Blk.new _ _ _
  have HBl1 := Lib.hid (show Below w.heap.size w w1 by rw [hw1]; exact (Below.refl _ w).alloc (Nat.le_refl _) _)
  have HB1 := Lib.hid (show Blk w1 g 4 (boR (fun j => decide (j < 0)) items.length).toArray by simpa using hB1)
  have HGw := Lib.hid (show w.heap.size ≤ g by omega)
  rw [← hg, ← hw1]
  clear hg hw1 hB1 hmk
  go_loopw [9] (fun i wr => ∃ k : Nat, k ≤ items.length ∧ i = .int .i64 k ∧ Hid (Blk wr g 4 (boR (fun j => decide (j < k)) items.length).toArray) ∧ Hid (Below w.heap.size w wr)) (fun i _ => items.length - (intOf i).toNat)
  case atStart => exact ⟨0, by omega, rfl, HB1, HBl1⟩
  case round =>
    obtain ⟨k, hk, rfl, HB, HBl⟩ := hrel
    by_cases hlt : k < items.length
    · have hki : (k : Int) < (items.length : Int) := by omega
      have hck := (HB.out.cell k).trans (show (boR (fun j => decide (j < k)) items.length).toArray[k]? = some (.bool false) by simp [boR, hlt])
      have hfk := HB.out.frozen k
      go_wp2_with fail
      go_roundw
      case rel =>
        have h5 := HB.out.set_ k (.bool true)
        rw [boR_put (R' := fun j => decide (j < k + 1)) items.length k true (fun i _ hne => decide_eq_decide.2 (by omega)) (by simp)] at h5
        exact ⟨k + 1, by omega, by go_num, Lib.hid h5, Lib.hid (bel_setCell HBl.out HGw.out _)⟩
      case measure => simp [intOf]; omega
    · obtain rfl : k = items.length := by omega
      have HBe := Lib.hid (show Blk wr g 4 (boR (everyS items) items.length).toArray from HB.out)
      clear HB HB1 HBl1
      have HAl1 := Lib.hid (HAl.out wr g (everyS items) HBl.out HBe.out)
      rcases HF.out with ⟨hck, ho⟩ | ⟨n, hvn, hn, hkn, ho⟩
      · have HCh := Lib.hid (fun w' a c av cv h => HCk.out w' (everyS items) a c av cv h)
        rw [hck] at HCh
        have HO := Lib.hid ho
        clear ho hck
        go_wp2_with (first
          | (go_at_call 22; (with_reducible refine HAl1.out.mono ?_); rintro e w4 ⟨hb4, a4, c4, av4, cv4, rfl, hr4⟩)
          | (go_at_call 21; (with_reducible refine (HCh.out _ _ _ _ _ hr4).mono ?_); rintro e w5 ⟨rfl, rfl⟩)
          | fail)
        go_ret2
        rw [HO.out]
        exact rleast_none (bel_new HBl.out HBl.out.size hb4) _
      · subst hvn
        have hak := all_known (S := everyS items) hkn
        have hc0 : checkE n (allE base items (everyS items)) 0 = 0 := by
          rw [checkE_known n _ _ (by omega) (by omega), if_pos hak]
        have HYes : Hid (∀ (w' : World) (S : Nat → Bool) a c av cv, IsRows w' a (allE base items S) av cv → Calls Try.prog 23 #[.int .i64 n, .slice a (allE base items S).length c] w' fun e w'' => e = .returned (.bool (solveE n (allE base items S)).yes) ∧ Below w'.heap.size w' w'') := Lib.hid fun w' S a c av cv h => yes_any n hn (allE base items S) a c av cv w' h (Nat.le_trans (HK.out.len S) (by decide)) (fun c hc => Nat.le_trans (HK.out.row S c hc) (by decide)) (fun c hc x hx => by
          have := knownS_mem (List.all_eq_true.1 (all_known (S := S) hkn) c hc) x hx
          unfold I64
          omega) _ (solve_yes (all_known hkn))
        have HCh := Lib.hid (fun w' a c av cv h => HCk.out w' (everyS items) a c av cv h)
        rw [hc0] at HCh
        have HY1 := Lib.hid (fun w' a c av cv h => HYes.out w' (everyS items) a c av cv h)
        have HAl2 := Lib.hid (fun (w' : World) (h : Below wr.heap.size wr w') => HAl.out w' g (everyS items) (bel_new HBl.out HBl.out.size h) (HBe.out.below h HBe.out.lt))
        have HO := Lib.hid ho
        have HKn := Lib.hid hkn
        clear hc0 ho hak hkn HCk HF
        cases hy : (solveE n (allE base items (everyS items))).yes with
        | true =>
          rw [hy] at HY1
          have ho2 : o = ⟨[], 5⟩ := by
            rw [HO.out]
            unfold rleastE
            rw [if_pos hy]
          have HO2 := Lib.hid ho2
          clear hy ho2
          go_upto_region 7 with (first
            | (go_at_call 22; (with_reducible refine HAl1.out.mono ?_); rintro e w4 ⟨hb4, a4, c4, av4, cv4, rfl, hr4⟩)
            | (go_at_call 21; (with_reducible refine (HCh.out _ _ _ _ _ hr4).mono ?_); rintro e w5 ⟨rfl, rfl⟩)
            | fail)
          go_wp2_with (first
            | (go_at_call 22; (with_reducible refine (HAl2.out _ hb4).mono ?_); rintro e w6 ⟨hb6, a6, c6, av6, cv6, rfl, hr6⟩)
            | (go_at_call 23; (with_reducible refine (HY1.out _ _ _ _ _ hr6).mono ?_); rintro e w7 ⟨rfl, hb7⟩)
            | fail)
          go_ret2
          rw [HO2.out]
          exact rleast_none (bel_new HBl.out HBl.out.size (bel_trans hb4 (bel_trans hb6 hb7))) _
        | false =>
          rw [hy] at HY1
          have ho2 : o = ⟨natsE (keepR items.length (noB n base items) items.length), 0⟩ := by
            rw [HO.out]
            unfold rleastE
            rw [hy]
            rfl
          have HO2 := Lib.hid ho2
          obtain ⟨i3, hi3, hz0, hz1, hz2⟩ := info_parts (P := Try.prog) (e := 3) (z := .int .i64 0) (size := 1) (bytes := 8) (by kernel_rfl)
          clear hy ho2
          go_upto_region 7 with (first
            | (go_at_call 22; (with_reducible refine HAl1.out.mono ?_); rintro e w4 ⟨hb4, a4, c4, av4, cv4, rfl, hr4⟩)
            | (go_at_call 21; (with_reducible refine (HCh.out _ _ _ _ _ hr4).mono ?_); rintro e w5 ⟨rfl, rfl⟩)
            | fail)
          go_wp2_with (first
            | (go_at_call 22; (with_reducible refine (HAl2.out _ hb4).mono ?_); rintro e w6 ⟨hb6, a6, c6, av6, cv6, rfl, hr6⟩)
            | (go_at_call 23; (with_reducible refine (HY1.out _ _ _ _ _ hr6).mono ?_); rintro e w7 ⟨rfl, hb7⟩)
            | fail)
          have hb47 := bel_trans hb4 (bel_trans hb6 hb7)
          have HB7 := Lib.hid (HBe.out.below hb47 HBe.out.lt)
          have HBl7 := Lib.hid (bel_new HBl.out HBl.out.size hb47)
          clear hb4 hb6 hb7 hb47 hr4 hr6 HBl HBe HAl1 HAl2 HCh HY1
          go_loopw [11, 12] (fun l i wr => ∃ (k m c : Nat) (a : Option Addr), k ≤ items.length ∧ i = .int .i64 k ∧ l = .slice a m c ∧ Hid (Blk wr g 4 (boR (inR items.length (keepR items.length (noB n base items) k) k) items.length).toArray) ∧ Hid (KeptAt w wr a m c (keepR items.length (noB n base items) k)) ∧ Hid (Below w.heap.size w wr)) (fun _ i _ => items.length - (intOf i).toNat)
          case atStart => exact ⟨0, 0, 0, none, by omega, rfl, rfl, by rw [show inR items.length (keepR items.length (noB n base items) 0) 0 = everyS items from inR_zero]; exact HB7, Lib.hid ⟨rfl, Own.nil _ _ _, fun k hk => by simp [Value.ownBlock] at hk⟩, HBl7⟩
          case round =>
            obtain ⟨k, m, c, a, hk, rfl, rfl, HBk, HKp, HBr⟩ := hrel
            by_cases hlt : k < items.length
            · have hki : (k : Int) < (items.length : Int) := by omega
              obtain ⟨L, hL⟩ : ∃ L, L = keepR items.length (noB n base items) k := ⟨_, rfl⟩
              have hkeep := fun j hj => keep_in (no := noB n base items) hlt j hj
              rw [← hL] at HBk HKp hkeep
              have hkr : keepR items.length (noB n base items) (k + 1) = if noB n base items (askR items.length L k) then L else L ++ [k] := by rw [hL]; rfl
              have hLk : L.length ≤ k := by rw [hL]; exact keepR_len k
              have hck := (HBk.out.cell k).trans (show (boR (inR items.length L k) items.length).toArray[k]? = some (.bool (inR items.length L k k)) by simp [boR, hlt])
              rw [(hkeep k hlt).2.2.1] at hck
              have hfk := HBk.out.frozen k
              have hB5 := HBk.out.set_ k (.bool false)
              rw [boR_put (R' := askR items.length L k) items.length k false (fun i hi hne => (hkeep i hi).1 hne) (hkeep k hlt).2.1] at hB5
              have hbl5 : Below w.heap.size w (wr.setCell ⟨g, k, none⟩ (.bool false)) := bel_setCell HBr.out HGw.out _
              have HAl5 := Lib.hid (HAl.out (wr.setCell ⟨g, k, none⟩ (.bool false)) g (askR items.length L k) hbl5 hB5)
              have hneg := HKp.out.own.ne_blk HBk.out (by decide)
              have HK5 := Lib.hid (show KeptAt w (wr.setCell ⟨g, k, none⟩ (.bool false)) a m c L from ⟨HKp.out.len, HKp.out.own.far hneg _, HKp.out.new⟩)
              have HB5 := Lib.hid hB5
              have HBl5 := Lib.hid hbl5
              have HNeg := Lib.hid hneg
              have HKeep := Lib.hid hkeep
              have HKr := Lib.hid hkr
              have hm3 : m ≤ 1000 := by rw [HKp.out.len]; omega
              have HY5 := Lib.hid (fun w' a c av cv h => HYes.out w' (askR items.length L k) a c av cv h)
              clear hB5 hbl5 hneg hkeep hkr hL HBr hLk
              cases hy : (solveE n (allE base items (askR items.length L k))).yes with
              | true =>
                rw [hy] at HY5
                have hno : noB n base items (askR items.length L k) = false := by unfold noB; rw [hy]; rfl
                have HK2 := Lib.hid (show keepR items.length (noB n base items) (k + 1) = L ++ [k] by rw [HKr.out, hno]; rfl)
                have hone := in_one (L.map fun i : Nat => (i : Int))
                clear hy hno HKr
                go_wp2_with (first
                  | (go_at_call 22; (with_reducible refine HAl5.out.mono ?_); rintro e w6 ⟨hb6, a6, c6, av6, cv6, rfl, hr6⟩)
                  | (go_at_call 23; (with_reducible refine (HY5.out _ _ _ _ _ hr6).mono ?_); rintro e w7 ⟨rfl, hb7⟩
                     have hb57 := bel_trans hb6 hb7
                     have HB7 := Lib.hid (HB5.out.below hb57 HB5.out.lt)
                     have HBl7 := Lib.hid (bel_new HBl5.out HBl5.out.size hb57)
                     have hck7 := (HB7.out.cell k).trans (show (boR (askR items.length L k) items.length).toArray[k]? = some (.bool (askR items.length L k k)) by simp [boR, hlt])
                     rw [(HKeep.out k hlt).2.1] at hck7
                     have hfk7 := HB7.out.frozen k
                     have HK7 := Lib.hid (show KeptAt w (w7.setCell ⟨g, k, none⟩ (.bool true)) a m c L from ⟨HK5.out.len, (HK5.out.own.new hb57).far HNeg.out _, HK5.out.new⟩)
                     have HB8 := Lib.hid (show Blk (w7.setCell ⟨g, k, none⟩ (.bool true)) g 4 (boR (inR items.length L k) items.length).toArray by
                       have h5 := HB7.out.set_ k (.bool true)
                       rw [boR_put (R' := inR items.length L k) items.length k true (fun i hi hne => ((HKeep.out i hi).1 hne).symm) (HKeep.out k hlt).2.2.1] at h5
                       exact h5)
                     have HBl8 := Lib.hid (bel_setCell HBl7.out HGw.out (p := ⟨g, k, none⟩) (.bool true))
                     have HSr8 := Lib.hid (show Src Try.prog 1 26 (.slice (some ⟨w7.heap.size, 0, none⟩) 1 1) 1 [.int .i64 (k : Int)] ((w7.setCell ⟨g, k, none⟩ (.bool true)).alloc (.cells #[.int .i64 (k : Int)] 3)) by
                       have h := src_new (w7.setCell ⟨g, k, none⟩ (.bool true)) Try.underlying26 3 (.int .i64 (k : Int)) rfl
                       rw [show (w7.setCell ⟨g, k, none⟩ (.bool true)).heap.size = w7.heap.size by simp [World.setCell]] at h
                       exact h)
                     have HO8 := Lib.hid (HK7.out.own.alloc (.cells #[.int .i64 (k : Int)] 3))
                     clear hb6 hb7 hb57 hr6)
                  | (at_builtin; go_loud (refine wpList_append_S _ rfl (.tmp 58) (.tmp 60) _ _ rfl 3 i3 _ 1 8 Try.underlying26 hi3 hz0 hz1 hz2 rfl (by omega) (.slice a m c) m (inC (L.map fun i : Nat => (i : Int))) rfl HO8.out hone (.slice (some ⟨w7.heap.size, 0, none⟩) 1 1) 1 [.int .i64 (k : Int)] rfl HSr8.out (by simp only [maxLen]; omega) (by omega) ?_); intro ao2 cap2 w9 hn9 hm9 hown9 hg9 hat9 hlt9
                     have HK9 := Lib.hid (HK7.out.snoc HBl8.out hg9 hat9 hown9)
                     have HB9 := Lib.hid ((HB8.out.alloc (.cells #[.int .i64 (k : Int)] 3)).grown hg9 fun e => HNeg.out e.symm)
                     have HBl9 := Lib.hid (out_snoc HBl8.out HK7.out.new hg9 hat9).2
                     clear hg9 hat9 hlt9 hn9 hm9 hown9)
                  | fail)
                go_roundw
                case rel => exact ⟨k + 1, m + 1, cap2, ao2, by omega, by go_num, rfl, by rw [HK2.out, inR_keep]; exact HB9, by rw [HK2.out]; exact HK9, HBl9⟩
                case measure => simp [intOf]; omega
              | false =>
                rw [hy] at HY5
                have hno : noB n base items (askR items.length L k) = true := by unfold noB; rw [hy]; rfl
                have HK2 := Lib.hid (show keepR items.length (noB n base items) (k + 1) = L by rw [HKr.out, hno]; rfl)
                clear hy hno HKr
                go_wp2_with (first
                  | (go_at_call 22; (with_reducible refine HAl5.out.mono ?_); rintro e w6 ⟨hb6, a6, c6, av6, cv6, rfl, hr6⟩)
                  | (go_at_call 23; (with_reducible refine (HY5.out _ _ _ _ _ hr6).mono ?_); rintro e w7 ⟨rfl, hb7⟩
                     have hb57 := bel_trans hb6 hb7
                     have HB7 := Lib.hid (HB5.out.below hb57 HB5.out.lt)
                     have HBl7 := Lib.hid (bel_new HBl5.out HBl5.out.size hb57)
                     have HK7 := Lib.hid (show KeptAt w w7 a m c L from ⟨HK5.out.len, HK5.out.own.new hb57, HK5.out.new⟩)
                     clear hb6 hb7 hb57 hr6)
                  | fail)
                go_roundw
                case rel => exact ⟨k + 1, m, c, a, by omega, by go_num, rfl, by rw [HK2.out, inR_skip]; exact HB7, by rw [HK2.out]; exact HK7, HBl7⟩
                case measure => simp [intOf]; omega
            · obtain rfl : k = items.length := by omega
              have hml := HKp.out.len
              have HMl := Lib.hid hml
              clear hml
              go_wp2_with fail
              go_ret2
              rw [HO2.out]
              have hl2 : (natsE (keepR items.length (noB n base items) items.length)).length = m := by rw [HMl.out]; unfold natsE; rw [List.length_map]
              refine ⟨HBr.out, a, c, by rw [hl2]; rfl, ?_, ?_⟩
              · rw [hl2]; exact HKp.out.own
              · rw [hl2]; exact HKp.out.new

end Go.Proofs.Ythinopiobihmaaa

namespace Go.Proofs.Ythinopiobihmaaa
open Go.ChangeShapes Go.WideShapes Go.ChangeAt Go.RowKit Go.Maps Go.Deep
set_option maxRecDepth 100000

/-- Values that are items. -/
def ItemsV (w : World) (vals : List Value) (items : List (List (List Int))) : Prop := vals.length = items.length ∧ ∀ j (h : j < items.length), ∃ a c av cv, vals[j]? = some (.slice a items[j].length c) ∧ IsRows w a items[j] av cv
theorem ItemsV.below {w w' : World} {vals : List Value} {items : List (List (List Int))} (h : ItemsV w vals items) (hb : Below w.heap.size w w') : ItemsV w' vals items := ⟨h.1, fun j hj => by
  obtain ⟨a, c, av, cv, e, hr⟩ := h.2 j hj
  exact ⟨a, c, av, cv, e, hr.below hb⟩⟩
theorem ItemsV.nil (w : World) : ItemsV w [] [] := ⟨rfl, fun _ hj => absurd hj (Nat.not_lt_zero _)⟩
theorem ItemsV.append {w : World} {v1 v2 : List Value} {c1 c2 : List (List (List Int))} (h1 : ItemsV w v1 c1) (h2 : ItemsV w v2 c2) : ItemsV w (v1 ++ v2) (c1 ++ c2) := by
  refine ⟨by simp [h1.1, h2.1], fun j hj => ?_⟩
  by_cases hjl : j < c1.length
  · rw [List.getElem?_append_left (by rw [h1.1]; exact hjl), List.getElem_append_left hjl]
    exact h1.2 j hjl
  · rw [List.getElem?_append_right (by rw [h1.1]; omega), List.getElem_append_right (by omega), h1.1]
    exact h2.2 (j - c1.length) (by simp at hj; omega)
theorem ItemsV.one {w : World} {it : List (List Int)} {a : Option Addr} {c : Nat} {av : Nat → Option Addr} {cv : Nat → Nat} (h : IsRows w a it av cv) : ItemsV w [.slice a it.length c] [it] := ⟨rfl, fun j hj => by
  match j, hj with
  | 0, _ => exact ⟨a, c, av, cv, rfl, h⟩⟩
theorem ItemsV.cell {w : World} {vals : List Value} {items : List (List (List Int))} (h : ItemsV w vals items) : ∀ u ∈ vals, u.oneCell' = true := fun u hu => by
  obtain ⟨j, hj, rfl⟩ := List.getElem_of_mem hu
  obtain ⟨a, c, av, cv, e, _⟩ := h.2 j (by rw [← h.1]; exact hj)
  rw [List.getElem?_eq_getElem hj] at e
  injection e with e
  rw [e]
  rfl
theorem items_at {w : World} {ao : Option Addr} {n cap : Nat} {vals : List Value} {items : List (List (List Int))} (hO : Own w 22 1 (.slice ao n cap) n vals) (hv : ItemsV w vals items) (he : n = items.length) : ∃ aI cI avI cvI, IsItems w ao items aI cI avI cvI := by
  have h1 : ∀ j, ∃ p : Option Addr × Nat × (Nat → Option Addr) × (Nat → Nat), ∀ h : j < items.length, vals[j]? = some (.slice p.1 items[j].length p.2.1) ∧ IsRows w p.1 items[j] p.2.2.1 p.2.2.2 := fun j => by
    by_cases hj : j < items.length
    · obtain ⟨a, c, av, cv, e, hr⟩ := hv.2 j hj
      exact ⟨(a, c, av, cv), fun _ => ⟨e, hr⟩⟩
    · exact ⟨(none, 0, fun _ => none, fun _ => 0), fun h => absurd h hj⟩
  refine ⟨fun j => (Classical.choose (h1 j)).1, fun j => (Classical.choose (h1 j)).2.1, fun j => (Classical.choose (h1 j)).2.2.1, fun j => (Classical.choose (h1 j)).2.2.2, fun h0 => ?_, fun j hj => (Classical.choose_spec (h1 j) hj).2⟩
  obtain ⟨ao', cap', e, _, _, hf⟩ := hO.form
  injection e with e1 _ _
  subst e1
  obtain ⟨b, off, rfl, hc, _, hbl⟩ := hf (by rw [he]; exact h0)
  exact ⟨b, off, rfl, hbl, fun j hj => (hc j (by rw [hv.1]; exact hj)).trans (Classical.choose_spec (h1 j) hj).1⟩
def itemVals (items : List (List (List Int))) (aI : Nat → Option Addr) (cI : Nat → Nat) : List Value := (List.range items.length).map fun j => .slice (aI j) (items.getD j []).length (cI j)
theorem itemVals_len (items : List (List (List Int))) (aI : Nat → Option Addr) (cI : Nat → Nat) : (itemVals items aI cI).length = items.length := by simp [itemVals]
theorem itemVals_get {items : List (List (List Int))} {aI : Nat → Option Addr} {cI : Nat → Nat} {j : Nat} (hj : j < items.length) : (itemVals items aI cI)[j]? = some (.slice (aI j) items[j].length (cI j)) := by
  simp [itemVals, hj]
theorem items_vals {w : World} {ai : Option Addr} {items : List (List (List Int))} {aI : Nat → Option Addr} {cI : Nat → Nat} {avI : Nat → Nat → Option Addr} {cvI : Nat → Nat → Nat} (h : IsItems w ai items aI cI avI cvI) : ItemsV w (itemVals items aI cI) items :=
  ⟨itemVals_len _ _ _, fun j hj => ⟨aI j, cI j, _, _, itemVals_get hj, h.item j hj⟩⟩
theorem items_src {w : World} {ai : Option Addr} {items : List (List (List Int))} {aI : Nat → Option Addr} {cI : Nat → Nat} {avI : Nat → Nat → Option Addr} {cvI : Nat → Nat → Nat} (h : IsItems w ai items aI cI avI cvI) (cap : Nat) :
    Src Try.prog 1 23 (.slice ai items.length cap) items.length (itemVals items aI cI) w := by
  by_cases h0 : 0 < items.length
  · obtain ⟨b, off, rfl, _, hcc⟩ := h.rows h0
    refine Src.ofSlice w Try.underlying23 ⟨b, off, none⟩ items.length cap _ (by rw [itemVals_len, Nat.mul_one]) (fun j u hu => ?_) (items_vals h).cell
    have hj : j < items.length := by have := (List.getElem?_eq_some_iff.1 hu).1; rwa [itemVals_len] at this
    rw [add_plain, hcc j hj, ← hu]
    exact (itemVals_get hj).symm
  · obtain rfl : items = [] := List.eq_nil_of_length_eq_zero (by omega)
    cases ai with
    | none => exact Src.ofNil w Try.underlying23 cap
    | some a => exact Src.ofSlice w Try.underlying23 a 0 cap [] rfl (fun j u hu => by simp at hu) (fun u hu => by cases hu)

/-! ### Written out -/
def putEach : List (List Int) → World → World
  | [], w => w
  | r :: rs, w => putEach rs (w.alloc (.cells (inC r).toArray 3))
def rowL : Nat → List (List Int) → List Value
  | _, [] => []
  | b, r :: rs => .slice (some ⟨b, 0, none⟩) r.length r.length :: rowL (b + 1) rs
def putRows (b : Nat) (cl : List (List Int)) (w : World) : World := (putEach cl w).alloc (.cells (rowL b cl).toArray 26)
def putAll : Nat → List (List (List Int)) → World → World
  | _, [], w => w
  | b, it :: r, w => putAll (b + it.length + 1) r (putRows b it w)
def allL : Nat → List (List (List Int)) → List Value
  | _, [] => []
  | b, it :: r => .slice (some ⟨b + it.length, 0, none⟩) it.length it.length :: allL (b + it.length + 1) r
def sizeL : List (List (List Int)) → Nat
  | [] => 0
  | it :: r => it.length + 1 + sizeL r
def putItems (b : Nat) (items : List (List (List Int))) (w : World) : World := (putAll b items w).alloc (.cells (allL b items).toArray 22)
theorem each_facts : ∀ (cl : List (List Int)) (w : World), (putEach cl w).heap.size = w.heap.size + cl.length ∧ Below w.heap.size w (putEach cl w) ∧ RowsV (putEach cl w) (rowL w.heap.size cl) cl
  | [], w => ⟨rfl, Below.refl _ _, RowsV.nil _⟩
  | r :: rs, w => by
    obtain ⟨h1, h2, h3⟩ := each_facts rs (w.alloc (.cells (inC r).toArray 3))
    have hb : Below w.heap.size w (w.alloc (.cells (inC r).toArray 3)) := (Below.refl _ _).alloc (Nat.le_refl _) _
    have hs : (w.alloc (.cells (inC r).toArray 3)).heap.size = w.heap.size + 1 := by simp
    have hi : Ints (w.alloc (.cells (inC r).toArray 3)) (some ⟨w.heap.size, 0, none⟩) r := fun _ => ⟨w.heap.size, 0, rfl, by omega, fun j hj => by
      rw [Nat.zero_add, (Blk.new w 3 (inC r).toArray).cell j]
      simp [inC, hj]⟩
    rw [hs] at h3
    refine ⟨?_, bel_trans hb h2, ?_⟩
    · show (putEach rs _).heap.size = _
      rw [h1, hs, List.length_cons]
      omega
    · have h4 : RowsV (putEach rs (w.alloc (.cells (inC r).toArray 3))) [.slice (some ⟨w.heap.size, 0, none⟩) r.length r.length] [r] := (RowsV.nil _).snoc (hi.below h2)
      exact h4.append h3
theorem rowL_len : ∀ (b : Nat) (cl : List (List Int)), (rowL b cl).length = cl.length
  | _, [] => rfl
  | b, _ :: rs => by simp [rowL, rowL_len (b + 1) rs]
theorem rows_facts (cl : List (List Int)) (w : World) (hl : cl.length ≤ 1000) : (putRows w.heap.size cl w).heap.size = w.heap.size + cl.length + 1 ∧ Below w.heap.size w (putRows w.heap.size cl w) ∧ ∃ av cv, IsRows (putRows w.heap.size cl w) (some ⟨w.heap.size + cl.length, 0, none⟩) cl av cv := by
  obtain ⟨h1, h2, h3⟩ := each_facts cl w
  have hb : Below (putEach cl w).heap.size (putEach cl w) (putRows w.heap.size cl w) := (Below.refl _ _).alloc (Nat.le_refl _) _
  refine ⟨by unfold putRows; simp [h1], bel_trans h2 hb, ?_⟩
  have hk := Blk.new (putEach cl w) 26 (rowL w.heap.size cl).toArray
  rw [h1] at hk
  have hO := Own.of_blk (size := 1) hk cl.length (by simp [rowL_len]) (by simp only [maxLen]; omega)
  exact rows_at (cap := cl.length) hO (rowL_len _ _).symm (h3.below hb)
theorem allL_len : ∀ (b : Nat) (items : List (List (List Int))), (allL b items).length = items.length
  | _, [] => rfl
  | b, it :: r => by simp [allL, allL_len _ r]
theorem all_facts : ∀ (items : List (List (List Int))) (w : World), (∀ it ∈ items, it.length ≤ 1000) → (putAll w.heap.size items w).heap.size = w.heap.size + sizeL items ∧ Below w.heap.size w (putAll w.heap.size items w) ∧ ItemsV (putAll w.heap.size items w) (allL w.heap.size items) items
  | [], w, _ => ⟨rfl, Below.refl _ _, ItemsV.nil _⟩
  | it :: r, w, hl => by
    obtain ⟨g1, g2, av, cv, g3⟩ := rows_facts it w (hl it (List.mem_cons_self ..))
    obtain ⟨h1, h2, h3⟩ := all_facts r (putRows w.heap.size it w) fun x hx => hl x (List.mem_cons_of_mem _ hx)
    have hb := bel_trans g2 h2
    rw [g1] at h1 h2 h3 hb
    refine ⟨?_, hb, ?_⟩
    · show (putAll (w.heap.size + it.length + 1) r (putRows w.heap.size it w)).heap.size = _
      rw [h1, show sizeL (it :: r) = it.length + 1 + sizeL r from rfl]
      omega
    · have h4 : ItemsV (putAll (w.heap.size + it.length + 1) r (putRows w.heap.size it w)) [.slice (some ⟨w.heap.size + it.length, 0, none⟩) it.length it.length] [it] := ItemsV.one (g3.below (g1 ▸ h2))
      exact h4.append h3
theorem items_facts {b g : Nat} {items : List (List (List Int))} {w w' : World} (h : w' = putItems b items w) (hb : b = w.heap.size) (hgb : g = b + sizeL items) (hl : items.length ≤ 1000 ∧ ∀ it ∈ items, it.length ≤ 1000) :
    Below w.heap.size w w' ∧ ∃ aI cI avI cvI, IsItems w' (some ⟨g, 0, none⟩) items aI cI avI cvI := by
  subst hb h hgb
  obtain ⟨h1, h2, h3⟩ := all_facts items w hl.2
  have hb : Below (putAll w.heap.size items w).heap.size (putAll w.heap.size items w) (putItems w.heap.size items w) := (Below.refl _ _).alloc (Nat.le_refl _) _
  refine ⟨bel_trans h2 hb, ?_⟩
  have hk := Blk.new (putAll w.heap.size items w) 22 (allL w.heap.size items).toArray
  rw [h1] at hk
  have hO := Own.of_blk (size := 1) hk items.length (by simp [allL_len]) (by simp only [maxLen]; have := hl.1; omega)
  exact items_at (cap := items.length) hO (h3.below hb) rfl
theorem wp_world {P : Program} {c : Code} {Q : Exit → Act → World → Prop} {a : Act} {w w' : World} (h : w = w') (k : Code.wp P c Q a w') : Code.wp P c Q a w := h ▸ k
theorem base_none (w : World) : IsRows w none [] (fun _ => none) (fun _ => 0) := ⟨fun h => absurd h (Nat.not_lt_zero _), fun _ hj => absurd hj (Nat.not_lt_zero _)⟩

end Go.Proofs.Ythinopiobihmaaa

namespace Go.Proofs.Ythinopiobihmaaa
open Go.ChangeShapes Go.WideShapes Go.ChangeAt Go.RowKit Go.Maps Go.Deep
set_option maxRecDepth 100000

/-! ### Least, for what may be handed in and what may not -/
theorem upto_len {base : List (List Int)} {items : List (List (List Int))} {M : Nat} (h : ∀ it ∈ items, it.length ≤ M) (S : Nat → Bool) : ∀ k, (uptoE base items S k).length ≤ base.length + k * M
  | 0 => by rw [upto_zero]; omega
  | k + 1 => by
    have ih := upto_len (base := base) h S k
    rw [upto_succ, List.length_append, Nat.succ_mul]
    have h1 : (items.getD k []).length ≤ M := by
      rw [List.getD_eq_getElem?_getD]
      cases h2 : items[k]? with
      | none => exact Nat.zero_le _
      | some it => exact h it (List.mem_of_getElem? h2)
    split
    · omega
    · simp
      omega
theorem it_ok {n M : Nat} {base : List (List Int)} {items : List (List (List Int))} (hn : n ≤ 12) (hil : items.length ≤ 1000) (hM : base.length + items.length * M ≤ 2100) (hb : ∀ c ∈ base, c.length ≤ 2000) (hi : ∀ it ∈ items, it.length ≤ M ∧ ∀ c ∈ it, c.length ≤ 2000) : ItOk n base items :=
  ⟨hn, hil, fun S => Nat.le_trans (upto_len (fun it h => (hi it h).1) S _) hM, fun S c hc => by
    rcases mem_all.1 hc with h1 | ⟨i, h1, _, h2⟩
    · exact hb c h1
    · rw [List.getD_eq_getElem?_getD, List.getElem?_eq_getElem h1] at h2
      exact (hi _ (List.getElem_mem h1)).2 c h2⟩
section
variable {n : Nat} {base : List (List Int)} {items : List (List (List Int))} {ab ai : Option Addr} {cb ci : Nat} {av : Nat → Option Addr} {cv : Nat → Nat} {aI : Nat → Option Addr} {cI : Nat → Nat} {avI : Nat → Nat → Option Addr} {cvI : Nat → Nat → Nat} {w : World}
theorem least_good (hk : ItOk n base items) (hkn : KnownAll n base items) (hR : IsRows w ab base av cv) (hI : IsItems w ai items aI cI avI cvI) (budget : Int) (hb : 0 ≤ budget ∧ budget ≤ 1099511627776) :
    Calls Try.prog 12 #[.int .i64 n, .slice ab base.length cb, .slice ai items.length ci, .int .i64 budget] w (LeastPost w (leastE n base items budget)) := by
  have hk0 : ItOk 0 base items := ⟨by omega, hk.il, hk.len, hk.row⟩
  by_cases hs : budget < (solveE n (allE base items (everyS items))).steps
  · refine least_any n budget _ base items ab ai cb ci av cv aI cI avI cvI w hR hI hk0 (.inl ⟨44, by decide, by unfold leastE; rw [if_pos hs], fun w' ao cap av cv _ h2 => ?_⟩)
    exact solve_less hk.n12 h2 (hk.len _) (hk.row _) (all_known hkn) _ ⟨hs, hb⟩
  · exact least_any n budget _ base items ab ai cb ci av cv aI cI avI cvI w hR hI hk0 (.inr ⟨n, rfl, hk.n12, hkn, hb.1, hb.2, by omega, rfl⟩)
theorem least_bad (vars budget : Int) (hv : vars ≤ 12) (hk : ItOk 0 base items) (hR : IsRows w ab base av cv) (hI : IsItems w ai items aI cI avI cvI) (hI6 : ∀ c ∈ allE base items (everyS items), ∀ x ∈ c, I64 x)
    (h : vars < 0 ∨ budget < 0 ∨ 1099511627776 < budget ∨ (allE base items (everyS items)).all (knownS vars.toNat) = false) :
    Calls Try.prog 12 #[.int .i64 vars, .slice ab base.length cb, .slice ai items.length ci, .int .i64 budget] w (LeastPost w ⟨[], 0, 1⟩) := by
  refine least_any vars budget _ base items ab ai cb ci av cv aI cI avI cvI w hR hI hk (.inl ⟨1, by decide, rfl, fun w' ao cap av cv _ h2 => ?_⟩)
  by_cases h0 : vars < 0
  · exact solve_vars vars (.inl h0) _ _ w'
  · obtain ⟨n, rfl⟩ := Int.eq_ofNat_of_zero_le (show 0 ≤ vars by omega)
    by_cases hb : budget < 0 ∨ 1099511627776 < budget
    · exact solve_budget n (by omega) _ _ hb w'
    · have h3 : (allE base items (everyS items)).all (knownS n) = false := by
        rcases h with h | h | h | h
        · exact absurd h h0
        · exact absurd (.inl h) hb
        · exact absurd (.inr h) hb
        · simpa using h
      exact solve_bad (by omega) h2 (hk.len _) (hk.row _) hI6 h3 _ ⟨by omega, by omega⟩
end
theorem lout_eq {o : LOut} {l : List Int} {e : Int} (h : o.l = l ∧ o.e = e) : o = ⟨l, o.steps, e⟩ := by
  obtain ⟨h1, h2⟩ := h
  cases o
  simp only at h1 h2
  subst h1 h2
  rfl

/-! ### Numbers that are compared with a row written out -/
theorem num_at {w w' : World} {a : Option Addr} {l : List Int} {c : Nat} (hI : Ints w a l) (hb : Below w.heap.size w w') (hl : l.length ≤ 1000000) (m : List Int) :
    Calls Try.prog 14 #[.slice a l.length c, .slice (some ⟨w'.heap.size, 0, none⟩) m.length m.length] (w'.alloc (.cells (inC m).toArray 3)) fun e w2 => e = .returned (.bool (decide (l = m))) ∧ Below w'.heap.size w' w2 := by
  have ha : Below w'.heap.size w' (w'.alloc (.cells (inC m).toArray 3)) := (Below.refl _ _).alloc (Nat.le_refl _) _
  have hm : Ints (w'.alloc (.cells (inC m).toArray 3)) (some ⟨w'.heap.size, 0, none⟩) m := fun _ => ⟨w'.heap.size, 0, rfl, by simp, fun j hj => by
    rw [Nat.zero_add, (Blk.new w' 3 (inC m).toArray).cell j]
    simp [inC, hj]⟩
  exact (numbers_any l m a (some ⟨w'.heap.size, 0, none⟩) c m.length _ (hI.below (bel_trans hb ha)) hm hl).mono fun e w2 ⟨h1, h2⟩ => ⟨h1, bel_trans ha h2⟩
theorem least_ints {w : World} {a : Option Addr} {l : List Int} {c : Nat} (h : Own w 3 1 (.slice a l.length c) l.length (inC l)) : Ints w a l := by
  obtain ⟨ao, cap, e, hi⟩ := Own.ints h
  injection e with e1 _ _
  exact e1 ▸ hi

/-! ### awake -/
def awItems : List (List (List Int)) := [[[1]], [[-1, 2]], [[3]], [[-2]]]
def awItems2 : List (List (List Int)) := [[[1]], [[1]], [[-1]]]
theorem aw1 : (leastE 3 [] awItems 1099511627776).l = [0, 1, 3] ∧ (leastE 3 [] awItems 1099511627776).e = 0 := by decide +kernel
theorem aw2 : (leastE 3 [[-1]] awItems 1099511627776).l = [0] ∧ (leastE 3 [[-1]] awItems 1099511627776).e = 0 := by decide +kernel
theorem aw3 : (leastE 1 [] awItems2 1099511627776).l = [1, 2] ∧ (leastE 1 [] awItems2 1099511627776).e = 0 := by decide +kernel
instance (n : Nat) (base : List (List Int)) (items : List (List (List Int))) : Decidable (KnownAll n base items) := by
  unfold KnownAll
  infer_instance
theorem aw_known : KnownAll 3 [] awItems ∧ KnownAll 3 [[-1]] awItems ∧ KnownAll 1 [] awItems2 := by
  refine ⟨?_, ?_, ?_⟩ <;> decide +kernel

/-- What a call of Least hands back. -/
def LAt (w : World) (l : List Int) (m : Nat) (r : Int) (e : Ending) (w' : World) : Prop := Below w.heap.size w w' ∧ ∃ a c s, e = .returned (.tuple #[.slice a m c, .int .i64 s, .int .i64 r]) ∧ Ints w' a l
theorem lat_of {w : World} {o : LOut} {l : List Int} {r : Int} (h : o.l = l ∧ o.e = r) {e : Ending} {w' : World} (hp : LeastPost w o e w') : LAt w l l.length r e w' := by
  rw [lout_eq h] at hp
  obtain ⟨hb, a, c, rfl, ho, _⟩ := hp
  exact ⟨hb, a, c, _, rfl, least_ints ho⟩

set_option maxHeartbeats 2000000 in
theorem awake_any (w : World) : Calls Try.prog 10 #[] w fun e w' => e = .returned (.bool true) ∧ Below w.heap.size w w' := by
  obtain ⟨k1, k2, k3⟩ := aw_known
  have i1 : ItOk 3 [] awItems := it_ok (M := 1) (by omega) (by decide) (by decide) (by simp) (by decide)
  have i2 : ItOk 3 [[-1]] awItems := it_ok (M := 1) (by omega) (by decide) (by decide) (by decide) (by decide)
  have i3 : ItOk 1 [] awItems2 := it_ok (M := 1) (by omega) (by decide) (by decide) (by simp) (by decide)
  go_enter Try.func10, Try.ntmps10
  go_upto_region 2 with fail
  obtain ⟨w2, hw2⟩ : ∃ w2, w2 = putItems w.heap.size awItems w := ⟨_, rfl⟩
  obtain ⟨g, hg⟩ : ∃ g, g = w.heap.size + 1 + 1 + 1 + 1 + 1 + 1 + 1 + 1 := ⟨_, rfl⟩
  obtain ⟨hb2, aI, cI, avI, cvI, hI2⟩ := items_facts hw2 rfl hg ⟨by decide, by decide⟩
  refine wp_world hw2.symm ?_
  rw [← hg]
  have HI2 := Lib.hid hI2
  have HB2 := Lib.hid hb2
  have HL1 : Hid (∀ w', Below w2.heap.size w2 w' → Calls Try.prog 12 #[.int .i64 3, .slice none 0 0, .slice (some ⟨g, 0, none⟩) 4 4, .int .i64 1099511627776] w' (LAt w' [0, 1, 3] 3 0)) := Lib.hid fun w' hb => (least_good (n := 3) (ci := 4) (cb := 0) i1 k1 (base_none w') (hI2.below hb) 1099511627776 (by omega)).mono fun e w'' h => lat_of aw1 h
  have HL2 : Hid (∀ w' b, Below w2.heap.size w2 w' → (∃ av cv, IsRows w' (some ⟨b, 0, none⟩) [[-1]] av cv) → Calls Try.prog 12 #[.int .i64 3, .slice (some ⟨b, 0, none⟩) 1 1, .slice (some ⟨g, 0, none⟩) 4 4, .int .i64 1099511627776] w' (LAt w' [0] 1 0)) := Lib.hid fun w' b hb ⟨av, cv, hr⟩ => (least_good (n := 3) (ci := 4) (cb := 1) i2 k2 hr (hI2.below hb) 1099511627776 (by omega)).mono fun e w'' h => lat_of aw2 h
  have HL3 : Hid (∀ w' b, (∃ aI cI avI cvI, IsItems w' (some ⟨b, 0, none⟩) awItems2 aI cI avI cvI) → Calls Try.prog 12 #[.int .i64 1, .slice none 0 0, .slice (some ⟨b, 0, none⟩) 3 3, .int .i64 1099511627776] w' (LAt w' [1, 2] 2 0)) := Lib.hid fun w' b ⟨aI, cI, avI, cvI, hr⟩ => (least_good (n := 1) (ci := 3) (cb := 0) i3 k3 (base_none w') hr 1099511627776 (by omega)).mono fun e w'' h => lat_of aw3 h
  have hL1 := HL1.out w2 (Below.refl _ _)
  unfold LAt at HL2 HL3 hL1
  have HL1' := Lib.hid hL1
  clear hw2 hg hb2 hI2 i1 i2 i3 k1 k2 k3 HL1 hL1
  go_upto_region 3 with (first
    | (go_at_call 12; (with_reducible refine HL1'.out.mono ?_); rintro e w3 ⟨hb3, a1, c1, s1, rfl, hi1⟩)
    | fail)
  have hw5 : (w3.alloc (.cells #[.int .i64 (-1)] 3)).alloc (.cells #[.slice (some ⟨w3.heap.size, 0, none⟩) 1 1] 26) = putRows w3.heap.size [[-1]] w3 := rfl
  obtain ⟨_, hb35, av5, cv5, hr5⟩ := rows_facts [[-1]] w3 (by decide)
  rw [← hw5] at hb35 hr5
  have HL2' := Lib.hid (HL2.out _ (w3.heap.size + 1) (bel_trans hb3 hb35) ⟨av5, cv5, hr5⟩)
  have HI1 := Lib.hid hi1
  have HB3 := Lib.hid (bel_trans HB2.out hb3)
  have HB35 := Lib.hid hb35
  clear hw5 hr5 hi1 hb3 hb35 HL2
  go_upto_region 4 with (first
    | (go_at_call 12; (with_reducible refine HL2'.out.mono ?_); rintro e w5 ⟨hb5, a2, c2, s2, rfl, hi2⟩)
    | fail)
  have hb36 := bel_trans HB35.out hb5
  obtain ⟨w6, hw6⟩ : ∃ w6, w6 = putItems w5.heap.size awItems2 w5 := ⟨_, rfl⟩
  obtain ⟨g6, hg6⟩ : ∃ g6, g6 = w5.heap.size + 1 + 1 + 1 + 1 + 1 + 1 := ⟨_, rfl⟩
  obtain ⟨hb6, aI6, cI6, avI6, cvI6, hI6⟩ := items_facts hw6 rfl hg6 ⟨by decide, by decide⟩
  have hw6' : w6 = ((((((w5.alloc (.cells #[.int .i64 1] 3)).alloc (.cells #[.slice (some ⟨w5.heap.size, 0, none⟩) 1 1] 26)).alloc (.cells #[.int .i64 1] 3)).alloc (.cells #[.slice (some ⟨w5.heap.size + 1 + 1, 0, none⟩) 1 1] 26)).alloc (.cells #[.int .i64 (-1)] 3)).alloc (.cells #[.slice (some ⟨w5.heap.size + 1 + 1 + 1 + 1, 0, none⟩) 1 1] 26)).alloc (.cells #[.slice (some ⟨w5.heap.size + 1, 0, none⟩) 1 1, .slice (some ⟨w5.heap.size + 1 + 1 + 1, 0, none⟩) 1 1, .slice (some ⟨w5.heap.size + 1 + 1 + 1 + 1 + 1, 0, none⟩) 1 1] 22) := hw6
  have hl3 := HL3.out w6 g6 ⟨aI6, cI6, avI6, cvI6, hI6⟩
  rw [hw6', hg6] at hl3
  have HL3' := Lib.hid hl3
  have HI1b := Lib.hid (HI1.out.below hb36)
  have HI2b := Lib.hid hi2
  have HB5 := Lib.hid (bel_trans HB3.out hb36)
  have HB6 := Lib.hid hb6
  rw [hw6'] at HB6
  clear hw6 hw6' hg6 hb6 hI6 hl3 hb36 hi2 hb5 HL3 HI1
  go_upto_region 5 with (first
    | (go_at_call 12; (with_reducible refine HL3'.out.mono ?_); rintro e w7 ⟨hb7, a3, c3, s3, rfl, hi3⟩)
    | fail)
  have hb57 := bel_trans HB6.out hb7
  have HN1 : Hid (∀ w', Below w7.heap.size w7 w' → Calls Try.prog 14 #[.slice a1 3 c1, .slice (some ⟨w'.heap.size, 0, none⟩) 3 3] (w'.alloc (.cells #[.int .i64 0, .int .i64 1, .int .i64 3] 3)) fun e w'' => e = .returned (.bool true) ∧ Below w'.heap.size w' w'') := Lib.hid fun w' hb => num_at (l := [0, 1, 3]) HI1b.out (bel_trans hb57 hb) (by decide) [0, 1, 3]
  have HN2 : Hid (∀ w', Below w7.heap.size w7 w' → Calls Try.prog 14 #[.slice a2 1 c2, .slice (some ⟨w'.heap.size, 0, none⟩) 1 1] (w'.alloc (.cells #[.int .i64 0] 3)) fun e w'' => e = .returned (.bool true) ∧ Below w'.heap.size w' w'') := Lib.hid fun w' hb => num_at (l := [0]) HI2b.out (bel_trans hb57 hb) (by decide) [0]
  have HN3 : Hid (∀ w', Below w7.heap.size w7 w' → Calls Try.prog 14 #[.slice a3 2 c3, .slice (some ⟨w'.heap.size, 0, none⟩) 2 2] (w'.alloc (.cells #[.int .i64 1, .int .i64 2] 3)) fun e w'' => e = .returned (.bool true) ∧ Below w'.heap.size w' w'') := Lib.hid fun w' hb => num_at (l := [1, 2]) hi3 hb (by decide) [1, 2]
  have HB7 := Lib.hid (bel_trans HB5.out hb57)
  clear hb57 hb7 hi3 HB6 HI1b HI2b
  go_wp2_with (first
    | (go_at_call 14; (with_reducible refine (HN1.out _ (Below.refl _ _)).mono ?_); rintro e w8 ⟨rfl, hb8⟩)
    | (go_at_call 14; (with_reducible refine (HN2.out _ hb8).mono ?_); rintro e w9 ⟨rfl, hb9⟩; have hb79 := bel_trans hb8 hb9)
    | (go_at_call 14; (with_reducible refine (HN3.out _ hb79).mono ?_); rintro e w10 ⟨rfl, hb10⟩)
    | fail)
  go_ret
  exact ⟨rfl, bel_trans HB7.out (bel_trans hb79 hb10)⟩

end Go.Proofs.Ythinopiobihmaaa
