/- The document's answer for learn: without, with. -/
import Derived.Test.YthfmlmodpcikcaaU18
namespace Go.Proofs.Ythfmlmodpcikcaa
open Go.ChangeShapes Go.WideShapes Go.ChangeAt Go.RowKit Go.Maps Go.Deep
set_option maxRecDepth 100000

def woL (l : List Int) (n : Int) : List Int := l.filter fun x => decide (x ≠ n)
def withL (l : List Int) : List Int → List Int
  | [] => l
  | x :: more => withL (if l.any (fun y => y == x) then l else l ++ [x]) more

/-- Numbers in a block that is new since B. -/
def NewInts (B : Nat) (w : World) (a : Option Addr) (c : Nat) (l : List Int) : Prop :=
  Own w 3 1 (.slice a l.length c) l.length (inC l) ∧ ∀ k, (Value.slice a l.length c).ownBlock = some k → B ≤ k
theorem NewInts.below {B : Nat} {w w' : World} {a : Option Addr} {c : Nat} {l : List Int} (h : NewInts B w a c l) (hb : Below w.heap.size w w') : NewInts B w' a c l := ⟨h.1.new hb, h.2⟩
theorem NewInts.ints {B : Nat} {w : World} {a : Option Addr} {c : Nat} {l : List Int} (h : NewInts B w a c l) : Ints w a l := by
  obtain ⟨a', c', e, hi⟩ := h.1.ints
  injection e with e1 e2 e3
  exact e1 ▸ hi
theorem NewInts.mono {B B' : Nat} {w : World} {a : Option Addr} {c : Nat} {l : List Int} (h : NewInts B w a c l) (hB : B' ≤ B) : NewInts B' w a c l := ⟨h.1, fun k hk => Nat.le_trans hB (h.2 k hk)⟩

/-- One number is put behind. -/
theorem NewInts.pushed {B : Nat} {w0 w w1 : World} {a a1 : Option Addr} {c c1 : Nat} {l : List Int} {x : Int} (h : NewInts B w a c l) (hb : Below B w0 w) (hB : B ≤ w.heap.size)
    (hown : Own w1 3 1 (.slice a1 (l.length + 1) c1) (l.length + 1) (inC l ++ [.int .i64 x])) (hg : (w.alloc (.cells #[.int .i64 x] 3)).grownBy w1 (Value.slice a l.length c).ownBlock)
    (hat : (Value.slice a1 (l.length + 1) c1).ownBlock = (Value.slice a l.length c).ownBlock ∨ (Value.slice a1 (l.length + 1) c1).ownBlock = some (w.alloc (.cells #[.int .i64 x] 3)).heap.size) :
    NewInts B w1 a1 c1 (l ++ [x]) ∧ Below B w0 w1 := by
  have hle : (l ++ [x]).length = l.length + 1 := by simp
  have hin : inC (l ++ [x]) = inC l ++ [.int .i64 x] := by simp [inC]
  have h1 : Below B w0 (w.alloc (.cells #[.int .i64 x] 3)) := hb.alloc hB _
  have h2 : B ≤ (w.alloc (.cells #[.int .i64 x] 3)).heap.size := by simp; omega
  refine ⟨⟨by rw [hle, hin]; exact hown, fun k hk => ?_⟩, grow_below h1 hg h.2 h2⟩
  rw [hle] at hk
  rcases hat with e | e
  · exact h.2 k (e ▸ hk)
  · rw [e] at hk
    injection hk with hk
    omega

theorem woL_cons (x : Int) (l : List Int) (n : Int) : woL (x :: l) n = if x = n then woL l n else x :: woL l n := by
  unfold woL
  rw [List.filter_cons]
  by_cases h : x = n <;> simp [h]
theorem woL_len (l : List Int) (n : Int) : (woL l n).length ≤ l.length := List.length_filter_le _ _

set_option maxHeartbeats 1000000 in
theorem rwithout_any (l : List Int) (n : Int) (ao : Option Addr) (cap : Nat) (w : World) (hc : Ints w ao l) (hl : l.length ≤ 1000000) :
    Calls Try.prog 44 #[.slice ao l.length cap, .int .i64 n] w fun e w' => ∃ a c, e = .returned (.slice a (woL l n).length c) ∧ NewInts w.heap.size w' a c (woL l n) ∧ Below w.heap.size w w' := by
  obtain ⟨i3, hi3, hz0, hz1, hz2⟩ := info_parts (P := Try.prog) (e := 3) (z := .int .i64 0) (size := 1) (bytes := 8) (by kernel_rfl)
  obtain ⟨T, hT⟩ : ∃ T, T = woL l n := ⟨_, rfl⟩
  have hTl := woL_len l n
  rw [← hT] at hTl
  rw [← hT]
  have HT := Lib.hid hT
  have HC := Lib.hid hc
  clear hT hc
  go_enter Try.func44, Try.ntmps44
  go_wp2_with fail
  go_loopw [5, 6] (fun s i wr => ∃ (k : Nat) (acc : List Int) (a : Option Addr) (c : Nat), k ≤ l.length ∧ i = .int .i64 k ∧ s = .slice a acc.length c ∧ Hid (T = acc ++ woL (l.drop k) n) ∧ Hid (NewInts w.heap.size wr a c acc) ∧ Hid (Below w.heap.size w wr)) (fun _ i _ => l.length - (intOf i).toNat)
  case atStart => exact ⟨0, [], none, 0, by omega, rfl, rfl, HT, Lib.hid ⟨Own.nil _ _ _, fun k hk => by simp [Value.ownBlock] at hk⟩, Lib.hid (Below.refl _ _)⟩
  case round =>
    obtain ⟨k, acc, a, c, hk, rfl, rfl, HR, HN, HB⟩ := hrel
    by_cases hlt : k < l.length
    · obtain ⟨b, off, rfl, _, hcell⟩ := HC.out.below HB.out (by omega)
      have hck := hcell k hlt
      have hki : (k : Int) < (l.length : Int) := by omega
      have hr := HR.out
      rw [List.drop_eq_getElem_cons hlt, woL_cons] at hr
      have hacc : acc.length ≤ 1000000 := by
        have := congrArg List.length hr
        rw [List.length_append] at this
        omega
      generalize l[k] = y at *
      clear hcell HR
      by_cases hy : y = n
      · rw [if_pos hy] at hr
        have hy2 : (y != n) = false := by simpa using hy
        have HR2 := Lib.hid hr
        clear hr hy
        go_wp2_with fail
        go_roundw
        case rel => exact ⟨k + 1, acc, a, c, by omega, by go_num, rfl, HR2, HN, HB⟩
        case measure => simp [intOf]; omega
      · rw [if_neg hy] at hr
        have hy2 : (y != n) = true := by simpa using hy
        have HR2 := Lib.hid hr
        have HO1 := Lib.hid (HN.out.1.alloc (.cells #[.int .i64 y] 3))
        clear hr hy
        go_wp2_with (at_builtin; go_loud (refine wpList_append_S _ rfl (.tmp 19) (.tmp 24) _ _ rfl 3 i3 _ 1 8 Try.underlying30 hi3 hz0 hz1 hz2 rfl (by omega) (.slice a acc.length c) acc.length (inC acc) rfl HO1.out (in_one _) _ 1 [_] rfl (src_new wr Try.underlying30 3 _ rfl) (by simp only [maxLen]; omega) (by omega) ?_); intro ao2 cap2 w10 hn1 hm1 hown1 hg1 hat1 hlt1)
        go_roundw
        case rel =>
          obtain ⟨n1, n2⟩ := HN.out.pushed HB.out HB.out.size hown1 hg1 hat1
          exact ⟨k + 1, acc ++ [y], ao2, cap2, by omega, by go_num, by simp, Lib.hid (by rw [HR2.out]; simp), Lib.hid n1, Lib.hid n2⟩
        case measure => simp [intOf]; omega
    · obtain rfl : k = l.length := by omega
      have hr := HR.out
      rw [List.drop_length] at hr
      have hr2 : T = acc := by rw [hr]; simp [woL]
      subst hr2
      clear HR hr
      go_wp2_with fail
      go_ret
      exact ⟨a, c, rfl, HN.out, HB.out⟩

theorem withL_len (l : List Int) : ∀ more : List Int, (withL l more).length ≤ l.length + more.length := by
  intro more
  induction more generalizing l with
  | nil => simp [withL]
  | cons x more ih =>
    unfold withL
    split
    · have := ih l; simp; omega
    · have := ih (l ++ [x]); simp at this ⊢; omega
theorem withL_ge (l : List Int) : ∀ more : List Int, l.length ≤ (withL l more).length := by
  intro more
  induction more generalizing l with
  | nil => simp [withL]
  | cons x more ih =>
    unfold withL
    split
    · exact ih l
    · have := ih (l ++ [x]); simp at this ⊢; omega

set_option maxHeartbeats 2000000 in
theorem rwith_any (l more : List Int) (al am : Option Addr) (cl cm : Nat) (w : World) (hO : Own w 3 1 (.slice al l.length cl) l.length (inC l)) (hc : Ints w am more) (hl : l.length ≤ 1000000) (hm : more.length ≤ 1000000) :
    Calls Try.prog 42 #[.slice al l.length cl, .slice am more.length cm] w fun e w' => ∃ a c, e = .returned (.slice a (withL l more).length c) ∧ NewInts w.heap.size w' a c (withL l more) ∧ Below w.heap.size w w' := by
  obtain ⟨i3, hi3, hz0, hz1, hz2⟩ := info_parts (P := Try.prog) (e := 3) (z := .int .i64 0) (size := 1) (bytes := 8) (by kernel_rfl)
  obtain ⟨T, hT⟩ : ∃ T, T = withL l more := ⟨_, rfl⟩
  have hTl := withL_len l more
  rw [← hT] at hTl
  rw [← hT]
  have HT := Lib.hid hT
  have HC := Lib.hid hc
  have hB1 : Below w.heap.size w (w.alloc (.cells #[] 3)) := (Below.refl _ _).alloc (Nat.le_refl _) _
  have sA := (hO.new hB1).src (P := Try.prog) (tx := 30) Try.underlying30 (in_one l)
  have eA : Own (w.alloc (.cells #[] 3)) 3 1 (.slice (some ⟨w.heap.size, 0, none⟩) 0 0) 0 [] := Own.made w 3 1 #[] 0 rfl (by decide)
  have HB1 := Lib.hid hB1
  clear hT hc hB1 hO
  go_enter Try.func42, Try.ntmps42
  go_wp2_with (at_builtin; go_loud (refine wpList_append_S _ rfl (.tmp 9) (.tmp 10) _ _ rfl 3 i3 _ 1 8 Try.underlying30 hi3 hz0 hz1 hz2 rfl (by omega) (.slice (some ⟨w.heap.size, 0, none⟩) 0 0) 0 [] rfl eA (by simp) (.slice al l.length cl) l.length (inC l) rfl sA (by simp only [maxLen]; omega) (by omega) ?_); intro ao1 cap1 w1 hn1 hm1 hown1 hg1 hat1 hlt1; simp only [Nat.zero_add, List.nil_append] at hown1 hat1)
  have hb1 : Below w.heap.size w w1 := grow_below HB1.out hg1 (by simp [Value.ownBlock]) HB1.out.size
  have hN1 : NewInts w.heap.size w1 ao1 cap1 l := ⟨hown1, fun k hk => by
    rcases hat1 with e | e
    · rw [e] at hk
      simp [Value.ownBlock] at hk
      omega
    · rw [e] at hk
      injection hk with hk
      simp at hk
      omega⟩
  have HN1 := Lib.hid hN1
  have HBw1 := Lib.hid hb1
  clear hown1 hg1 hat1 hlt1 hn1 hm1 hN1 hb1 sA eA
  try simp only [Nat.zero_add]
  go_loopw [5, 6] (fun s i wr => ∃ (k : Nat) (acc : List Int) (a : Option Addr) (c : Nat), k ≤ more.length ∧ i = .int .i64 k ∧ s = .slice a acc.length c ∧ Hid (T = withL acc (more.drop k)) ∧ Hid (NewInts w.heap.size wr a c acc) ∧ Hid (Below w.heap.size w wr)) (fun _ i _ => more.length - (intOf i).toNat)
  case atStart => exact ⟨0, l, ao1, cap1, by omega, rfl, rfl, HT, HN1, HBw1⟩
  case round =>
    obtain ⟨k, acc, a, c, hk, rfl, rfl, HR, HN, HB⟩ := hrel
    have hacc : acc.length ≤ 2000000 := by
      have h1 := withL_ge acc (more.drop k)
      rw [← HR.out] at h1
      omega
    by_cases hlt : k < more.length
    · have hki : (k : Int) < (more.length : Int) := by omega
      have hr := HR.out
      rw [List.drop_eq_getElem_cons hlt] at hr
      unfold withL at hr
      have HCk : Hid (∀ w', Below w.heap.size w w' → ∃ b off, am = some ⟨b, off, none⟩ ∧ w'.cell? ⟨b, off + k, none⟩ = some (.int .i64 more[k])) := Lib.hid fun w' h => by
        obtain ⟨b, off, e, _, hcell⟩ := HC.out.below h (by omega)
        exact ⟨b, off, e, hcell k hlt⟩
      generalize more[k] = y at *
      have HR1 := Lib.hid hr
      clear HR hr
      obtain ⟨wo, rfl⟩ : ∃ wo : World, wo = wr := ⟨_, rfl⟩
      go_wp2_with fail
      go_loopw [7, 8] (fun q i wr => ∃ (j : Nat) (b : Bool), j ≤ acc.length ∧ i = .int .i64 j ∧ q = .bool b ∧ Hid (b = (acc.take j).any fun z => z == y) ∧ Hid (Below wo.heap.size wo wr)) (fun _ i _ => acc.length - (intOf i).toNat)
      case atStart => exact ⟨0, false, by omega, rfl, rfl, Lib.hid rfl, Lib.hid (Below.refl _ _)⟩
      case round =>
        obtain ⟨j, q, hj, rfl, rfl, HQ, HBj⟩ := hrel
        have hBw := bel_new HB.out HB.out.size HBj.out
        by_cases hjl : j < acc.length
        · have hji : (j : Int) < (acc.length : Int) := by omega
          have hq := List.take_succ_eq_append_getElem hjl
          have HQ2 : Hid (∀ q2, q2 = (q || (acc[j] == y)) → q2 = (acc.take (j + 1)).any fun z => z == y) := Lib.hid fun q2 h => by
            rw [h, hq, List.any_append, ← HQ.out]
            simp
          cases q with
          | true =>
            clear hq
            go_wp2_with fail
            go_quiet (fail)
            go_wp2_with fail
            go_roundw
            case rel => exact ⟨j + 1, true, by omega, by go_num, rfl, Lib.hid (HQ2.out true rfl), Lib.hid (bel_drewN HBj.out nq)⟩
            case measure => simp [intOf]; omega
          | false =>
            obtain ⟨b1, o1, rfl, hbl1, hc1⟩ := (HN.out.below HBj.out).ints (by omega)
            have hcj := hc1 j hjl
            obtain ⟨b2, o2, rfl, hc2⟩ := HCk.out _ hBw
            generalize acc[j] = z at *
            have hbz : ∃ qz, qz = (z == y) := ⟨_, rfl⟩
            obtain ⟨qz, hqz⟩ := hbz
            have HQz := Lib.hid hqz
            by_cases hzy : z = y
            · have h1 : (z == y) = true := by simpa using hzy
              clear hq hc1 hzy hqz
              go_wp2_with fail
              go_quiet (fail)
              go_wp2_with fail
              go_roundw
              case rel => exact ⟨j + 1, true, by omega, by go_num, rfl, Lib.hid (HQ2.out true (by rw [h1]; rfl)), Lib.hid (bel_drewN HBj.out nq)⟩
              case measure => simp [intOf]; omega
            · have h1 : (z == y) = false := by simpa using hzy
              clear hq hc1 hzy hqz
              go_wp2_with fail
              go_quiet (fail)
              go_wp2_with fail
              go_roundw
              case rel => exact ⟨j + 1, false, by omega, by go_num, rfl, Lib.hid (HQ2.out false (by rw [h1]; rfl)), Lib.hid (bel_drewN HBj.out nq)⟩
              case measure => simp [intOf]; omega
        · obtain rfl : j = acc.length := by omega
          have hq := HQ.out
          rw [List.take_length] at hq
          have hr := HR1.out
          rw [← hq] at hr
          have HNj := Lib.hid (HN.out.below HBj.out)
          have HBw := Lib.hid hBw
          cases q with
          | true =>
            rw [if_pos rfl] at hr
            have HR2 := Lib.hid hr
            clear hr hq hBw
            go_wp2_with fail
            go_roundw
            case rel => exact ⟨k + 1, acc, a, c, by omega, by go_num, rfl, HR2, HNj, HBw⟩
            case measure => simp [intOf]; omega
          | false =>
            rw [if_neg (by simp)] at hr
            have HR2 := Lib.hid hr
            obtain ⟨b2, o2, rfl, hc2⟩ := HCk.out _ hBw
            have HO1 := Lib.hid (HNj.out.1.alloc (.cells #[.int .i64 y] 3))
            clear hr hq hBw
            go_wp2_with (at_builtin; go_loud (refine wpList_append_S _ rfl (.tmp 38) (.tmp 43) _ _ rfl 3 i3 _ 1 8 Try.underlying30 hi3 hz0 hz1 hz2 rfl (by omega) (.slice a acc.length c) acc.length (inC acc) rfl HO1.out (in_one _) _ 1 [_] rfl (src_new wr Try.underlying30 3 _ rfl) (by simp only [maxLen]; omega) (by omega) ?_); intro ao2 cap2 w10 hn1 hm1 hown1 hg1 hat1 hlt1)
            go_roundw
            case rel =>
              obtain ⟨n1, n2⟩ := HNj.out.pushed HBw.out HBw.out.size hown1 hg1 hat1
              exact ⟨k + 1, acc ++ [y], ao2, cap2, by omega, by go_num, by simp, HR2, Lib.hid n1, Lib.hid n2⟩
            case measure => simp [intOf]; omega
    · obtain rfl : k = more.length := by omega
      have hr := HR.out
      rw [List.drop_length] at hr
      have hr2 : T = acc := hr
      subst hr2
      clear HR hr
      go_wp2_with fail
      go_ret
      exact ⟨a, c, rfl, HN.out, HB.out⟩

end Go.Proofs.Ythfmlmodpcikcaa
