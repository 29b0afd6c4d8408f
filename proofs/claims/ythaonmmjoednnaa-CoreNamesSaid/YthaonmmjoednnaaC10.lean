/- The laws' in, is, works. Conditions: as each theorem names them. -/
import Derived.Test.YthaonmmjoednnaaC9
namespace Go.Proofs.Ythaonmmjoednnaa
open Go.ChangeShapes Go.WideShapes Go.ChangeAt Go.RowKit Go.Maps Go.Deep
set_option maxRecDepth 100000

theorem in_drop (l : List Int) (n : Int) (k : Nat) (h : k < l.length) : decide (n ∈ l.drop k) = (decide (l[k] = n) || decide (n ∈ l.drop (k + 1))) := by
  rw [List.drop_eq_getElem_cons h, ← Bool.decide_or]
  exact decide_eq_decide.2 (by rw [List.mem_cons]; exact or_congr_left eq_comm)
theorem in_any (l : List Int) (n : Int) (ao : Option Addr) (cap : Nat) (w : World) (hI : Ints w ao l) (hl : l.length ≤ 1000000) :
    Calls Try.prog 14 #[.slice ao l.length cap, .int .i64 n] w fun e w' => e = .returned (.bool (decide (n ∈ l))) ∧ w = w' := by
  obtain ⟨T, hT⟩ : ∃ T, T = decide (n ∈ l) := ⟨_, rfl⟩
  rw [← hT]
  have HI := Lib.hid hI
  have HT := Lib.hid hT
  clear hI hT
  go_enter Try.func14, Try.ntmps14
  go_wp2_with fail
  go_loop [5] (fun i => ∃ k : Nat, k ≤ l.length ∧ i = .int .i64 k ∧ Hid (T = decide (n ∈ l.drop k))) (fun i => l.length - (intOf i).toNat)
  case atStart => exact ⟨0, by omega, rfl, HT⟩
  case round =>
    obtain ⟨k, hk, rfl, HK⟩ := hrel
    by_cases hlt : k < l.length
    · have hki : (k : Int) < (l.length : Int) := by omega
      obtain ⟨b, off, rfl, _, hcells⟩ := HI.out (by omega)
      have hck := hcells k hlt
      have hTk := HK.out
      rw [in_drop l n k hlt] at hTk
      generalize l[k] = x at *
      by_cases hx : x = n
      · have hx2 : (x == n) = true := by simpa using hx
        obtain rfl : T = true := by rw [hTk]; simp [hx]
        subst hx
        clear hcells hTk HK HT hx2
        go_wp2_with fail
        go_ret
        exact ⟨rfl, rfl⟩
      · have hx2 : (x == n) = false := by simpa using hx
        have HK2 := Lib.hid (show T = decide (n ∈ l.drop (k + 1)) by rw [hTk]; simp [hx])
        clear hcells hTk HK hx
        go_wp2_with fail
        go_round
        case rel => exact ⟨k + 1, by omega, by go_num, HK2⟩
        case measure => simp [intOf]; omega
    · obtain rfl : k = l.length := by omega
      obtain rfl : T = false := by rw [HK.out, List.drop_length]; simp
      clear HK HT
      go_wp2_with fail
      go_ret
      exact ⟨rfl, rfl⟩

theorem is_yes (inputs : Int) (cl : List (List Int)) (last want : List Int) (ao al aw : Option Addr) (cap capl capw : Nat) (av : Nat → Option Addr) (cv : Nat → Nat) (w : World) (hR : IsRows w ao cl av cv) (hL : Ints w al last) (hW : Ints w aw want)
    (hcl : cl.length ≤ 1000000) (hrl : ∀ c ∈ cl, c.length ≤ 1000000) (hll : last.length ≤ 1000000) (hwl : want.length ≤ 1000000) (ho : ofE inputs cl last = (want, 0)) :
    Calls Try.prog 7 #[.int .i64 inputs, .slice ao cl.length cap, .slice al last.length capl, .slice aw want.length capw] w fun e w' => e = .returned (.bool true) ∧ Below w.heap.size w w' := by
  have h := cOf_any inputs cl last ao al cap capl av cv w hR hL hcl hrl hll
  rw [ho] at h
  have HC := Lib.hid h
  have HW := Lib.hid hW
  clear hR hL hrl h hW ho
  go_enter Try.func7, Try.ntmps7
  go_wp2_with (first
    | (go_at_call 8; (with_reducible refine HC.out.mono ?_); rintro e w1 ⟨a1, c1, rfl, hi1, _, hb1⟩; have HN := Lib.hid (numbers_same want a1 aw c1 capw w1 (IntsC.ints hi1) (HW.out.below hb1) hwl))
    | (go_at_call 9; (with_reducible refine HN.out.mono ?_); rintro e w2 ⟨rfl, hb2⟩)
    | fail)
  go_ret
  exact ⟨rfl, bel_trans hb1 hb2⟩

/-! ### Numbers and rows that are written out -/
theorem ints_new {w : World} {l : List Int} {cs : Array Value} (h : cs = (inC l).toArray) : Ints (w.alloc (.cells cs 3)) (some ⟨w.heap.size, 0, none⟩) l := fun _ => by
  have k := Blk.new w 3 cs
  refine ⟨w.heap.size, 0, rfl, k.lt, fun j hj => ?_⟩
  rw [k.cell, h]
  simp [inC, hj]
theorem ints_blk {w : World} {g : Nat} {l : List Int} {cs : Array Value} (k : Blk w g 3 cs) (h : cs = (inC l).toArray) : Ints w (some ⟨g, 0, none⟩) l := fun _ => by
  refine ⟨g, 0, rfl, k.lt, fun j hj => ?_⟩
  rw [k.cell, h]
  simp [inC, hj]
theorem nil_rows (w : World) : IsRows w none [] (fun _ => none) (fun _ => 0) := ⟨fun h => absurd h (Nat.lt_irrefl _), fun _ h => absurd h (Nat.not_lt_zero _)⟩
theorem nil_ints (w : World) : Ints w none [] := fun h => absurd h (Nat.lt_irrefl _)
/-- Two rows, made one behind the other, and what holds them. -/
theorem made_two {w w' : World} {l m : List Int} {cl cm : Array Value} {nl nm : Nat} (h : w' = ((w.alloc (.cells cl 3)).alloc (.cells cm 3)).alloc (.cells #[.slice (some ⟨w.heap.size, 0, none⟩) nl nl, .slice (some ⟨w.heap.size + 1, 0, none⟩) nm nm] 24))
    (hl : cl = (inC l).toArray) (hm : cm = (inC m).toArray) (h1 : nl = l.length) (h2 : nm = m.length) : Below w.heap.size w w' ∧ w'.heap.size = w.heap.size + 1 + 1 + 1 ∧ ∃ av cv, IsRows w' (some ⟨w.heap.size + 1 + 1, 0, none⟩) [l, m] av cv := by
  subst h
  subst h1
  subst h2
  have k0 := Blk.new w 3 cl
  have k1 := Blk.new (w.alloc (.cells cl 3)) 3 cm
  have k2 := Blk.new ((w.alloc (.cells cl 3)).alloc (.cells cm 3)) 24 #[.slice (some ⟨w.heap.size, 0, none⟩) l.length l.length, .slice (some ⟨w.heap.size + 1, 0, none⟩) m.length m.length]
  rw [World.size_alloc] at k1
  rw [World.size_alloc, World.size_alloc] at k2
  exact ⟨(((Below.refl _ w).alloc (Nat.le_refl _) _).alloc (by simp) _).alloc (by simp; omega) _, by simp, rows_at (n := 2) (cap := 2) (Own.of_blk k2 2 rfl (by decide)) rfl ⟨rfl, fun j hj => by
    match j, hj with
    | 0, _ => exact ⟨some ⟨w.heap.size, 0, none⟩, l.length, rfl, ints_blk ((k0.alloc _).alloc _) hl⟩
    | 1, _ => exact ⟨some ⟨w.heap.size + 1, 0, none⟩, m.length, rfl, ints_blk (k1.alloc _) hm⟩⟩⟩

/-- is, of numbers made just ahead of the call. -/
theorem is_made {w0 w : World} (inputs : Int) (cl : List (List Int)) (last want : List Int) (ao : Option Addr) (cap n k : Nat) (av : Nat → Option Addr) (cv : Nat → Nat) (cs ds : Array Value) (hR : IsRows w0 ao cl av cv) (hb : Below w0.heap.size w0 w)
    (hcs : cs = (inC last).toArray) (hds : ds = (inC want).toArray) (hn : n = last.length) (hk : k = want.length) (hcl : cl.length ≤ 1000 ∧ (∀ c ∈ cl, c.length ≤ 1000) ∧ last.length ≤ 1000 ∧ want.length ≤ 1000) (ho : ofE inputs cl last = (want, 0)) :
    Calls Try.prog 7 #[.int .i64 inputs, .slice ao cl.length cap, .slice (some ⟨w.heap.size, 0, none⟩) n n, .slice (some ⟨w.heap.size + 1, 0, none⟩) k k] ((w.alloc (.cells cs 3)).alloc (.cells ds 3)) fun e w' => e = .returned (.bool true) ∧ Below w.heap.size w w' := by
  subst hn
  subst hk
  have b1 : Below w.heap.size w ((w.alloc (.cells cs 3)).alloc (.cells ds 3)) := ((Below.refl _ w).alloc (Nat.le_refl _) _).alloc (by simp) _
  have k0 := (Blk.new w 3 cs).alloc (.cells ds 3)
  have k1 := Blk.new (w.alloc (.cells cs 3)) 3 ds
  rw [World.size_alloc] at k1
  refine (is_yes inputs cl last want ao _ _ cap last.length want.length av cv _ (hR.below (bel_trans hb b1)) (ints_blk k0 hcs) (ints_blk k1 hds) (by omega) (fun c hc => Nat.le_trans (hcl.2.1 c hc) (by omega)) (by omega) (by omega) ho).mono ?_
  rintro e w' ⟨h1, h2⟩
  exact ⟨h1, bel_trans b1 h2⟩
theorem grp_made {w : World} (clauses group : List Int) (n k : Nat) (cs ds : Array Value) (hcs : cs = (inC clauses).toArray) (hds : ds = (inC group).toArray) (hn : n = clauses.length) (hk : k = group.length) (hl : clauses.length ≤ 1000 ∧ group.length ≤ 1000) (hI : ∀ x ∈ group, I64 x) {o : List Int} (ho : groupsE group clauses = o) :
    Calls Try.prog 10 #[.slice (some ⟨w.heap.size, 0, none⟩) n n, .slice (some ⟨w.heap.size + 1, 0, none⟩) k k] ((w.alloc (.cells cs 3)).alloc (.cells ds 3)) fun e w' => ∃ ao' cap', e = .returned (.slice ao' o.length cap') ∧ Ints w' ao' o ∧ Below w.heap.size w w' := by
  subst hn
  subst hk
  subst ho
  have b1 : Below w.heap.size w ((w.alloc (.cells cs 3)).alloc (.cells ds 3)) := ((Below.refl _ w).alloc (Nat.le_refl _) _).alloc (by simp) _
  have k0 := (Blk.new w 3 cs).alloc (.cells ds 3)
  have k1 := Blk.new (w.alloc (.cells cs 3)) 3 ds
  rw [World.size_alloc] at k1
  refine (cGroups_any clauses group _ _ clauses.length group.length _ (ints_blk k0 hcs) (ints_blk k1 hds) (by omega) (by omega) hI).mono ?_
  rintro e w' ⟨a, c, h1, h2, h3⟩
  exact ⟨a, c, h1, h2, bel_trans b1 h3⟩

theorem i64_all (l : List Int) (h : (l.all fun x => decide (-9223372036854775808 ≤ x) && decide (x ≤ 9223372036854775807)) = true) : ∀ x ∈ l, I64 x := fun x hx => by
  have := List.all_eq_true.1 h x hx
  simpa [I64] using this

set_option maxHeartbeats 2000000 in
theorem works_any (w : World) : Calls Try.prog 6 #[] w fun e w' => e = .returned (.bool true) ∧ Below w.heap.size w w' := by
  obtain ⟨w1, hw1⟩ : ∃ w1, w1 = ((w.alloc (.cells #[.int .i64 0, .int .i64 1] 3)).alloc (.cells #[.int .i64 3, .int .i64 2] 3)).alloc (.cells #[.slice (some ⟨w.heap.size, 0, none⟩) 2 2, .slice (some ⟨w.heap.size + 1, 0, none⟩) 2 2] 24) := ⟨_, rfl⟩
  obtain ⟨hb1, -, av, cv, hr1⟩ := made_two (l := [0, 1]) (m := [3, 2]) hw1 rfl rfl rfl rfl
  have HA : Hid (∀ w2, Below w1.heap.size w1 w2 → Calls Try.prog 7 #[.int .i64 3, .slice (some ⟨w.heap.size + 1 + 1, 0, none⟩) 2 2, .slice (some ⟨w2.heap.size, 0, none⟩) 1 1, .slice (some ⟨w2.heap.size + 1, 0, none⟩) 3 3] ((w2.alloc (.cells #[.int .i64 4] 3)).alloc (.cells #[.int .i64 0, .int .i64 1, .int .i64 2] 3)) fun e w' => e = .returned (.bool true) ∧ Below w2.heap.size w2 w') :=
    Lib.hid fun w2 hb => is_made 3 [[0, 1], [3, 2]] [4] [0, 1, 2] _ 2 1 3 av cv _ _ hr1 hb rfl rfl rfl rfl (by simp) (by decide +kernel)
  have HB : Hid (∀ w2, Below w1.heap.size w1 w2 → Calls Try.prog 7 #[.int .i64 3, .slice (some ⟨w.heap.size + 1 + 1, 0, none⟩) 2 2, .slice (some ⟨w2.heap.size, 0, none⟩) 1 1, .slice (some ⟨w2.heap.size + 1, 0, none⟩) 2 2] ((w2.alloc (.cells #[.int .i64 3] 3)).alloc (.cells #[.int .i64 0, .int .i64 1] 3)) fun e w' => e = .returned (.bool true) ∧ Below w2.heap.size w2 w') :=
    Lib.hid fun w2 hb => is_made 3 [[0, 1], [3, 2]] [3] [0, 1] _ 2 1 2 av cv _ _ hr1 hb rfl rfl rfl rfl (by simp) (by decide +kernel)
  have HG : Hid (∀ w2 : World, Calls Try.prog 10 #[.slice (some ⟨w2.heap.size, 0, none⟩) 2 2, .slice (some ⟨w2.heap.size + 1, 0, none⟩) 3 3] ((w2.alloc (.cells #[.int .i64 0, .int .i64 2] 3)).alloc (.cells #[.int .i64 7, .int .i64 7, .int .i64 (-1)] 3)) fun e w' => ∃ ao' cap', e = .returned (.slice ao' 1 cap') ∧ Ints w' ao' [7] ∧ Below w2.heap.size w2 w') :=
    Lib.hid fun w2 => grp_made [0, 2] [7, 7, -1] 2 3 _ _ rfl rfl rfl rfl (by simp) (i64_all _ (by decide)) (o := [7]) (by decide +kernel)
  have HNu : Hid (∀ (w2 : World) ao cap, Ints w2 ao [7] → Calls Try.prog 9 #[.slice ao 1 cap, .slice (some ⟨w2.heap.size, 0, none⟩) 1 1] (w2.alloc (.cells #[.int .i64 7] 3)) fun e w' => e = .returned (.bool true) ∧ Below w2.heap.size w2 w') := Lib.hid fun w2 ao cap h => by
    have hb : Below w2.heap.size w2 (w2.alloc (.cells #[.int .i64 7] 3)) := (Below.refl _ _).alloc (Nat.le_refl _) _
    exact (numbers_same [7] ao _ cap 1 _ (h.below hb) (ints_new (l := [7]) rfl) (by simp)).mono fun e w' ⟨h1, h2⟩ => ⟨h1, bel_trans hb h2⟩
  have HB1 := Lib.hid hb1
  have HW1 := Lib.hid hw1
  clear hr1 hb1 hw1
  go_enter Try.func6, Try.ntmps6
  go_upto_region 2 with fail
  rw [← HW1.out]
  go_wp2_with (first
    | (go_at_call 7; (with_reducible refine (HA.out _ (Below.refl _ _)).mono ?_); rintro e w2 ⟨rfl, hb2⟩)
    | (go_at_call 7; (with_reducible refine (HB.out _ hb2).mono ?_); rintro e w3 ⟨rfl, hb3⟩; have hb13 := bel_trans hb2 hb3)
    | (go_at_call 10; (with_reducible refine (HG.out _).mono ?_); rintro e w4 ⟨a4, c4, rfl, hi4, hb4⟩; have hb14 := bel_trans hb13 hb4)
    | (go_at_call 9; (with_reducible refine (HNu.out _ _ _ hi4).mono ?_); rintro e w5 ⟨rfl, hb5⟩; have hb15 := bel_trans hb14 hb5)
    | fail)
  go_ret
  exact ⟨rfl, bel_trans HB1.out hb15⟩

end Go.Proofs.Ythaonmmjoednnaa
