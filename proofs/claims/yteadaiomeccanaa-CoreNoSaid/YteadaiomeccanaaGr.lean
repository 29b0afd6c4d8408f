/- The laws' large; the walk of CoreTells. Conditions: as each theorem names them. -/
import Derived.Test.YteadaiomeccanaaGq
namespace Go.Proofs.Yteadaiomeccanaa
open Go.ChangeShapes Go.WideShapes Go.ChangeAt Go.RowKit Go.Maps Go.Deep
set_option maxRecDepth 100000

/-- Numbers that a law is handed, within the reach. -/
theorem intf_of {H : Type} {enc : TypeId × Value → H} (W : World) (v : Value) (d : DataW H) (p : List MemPlace) (hval : Value.okWide Try.prog W .any 0 23 v) (h : DataW.Trod enc Try.prog W 0 (fun _ => true) true 23 v d p) (hfit : Fit Try.prog 23 d) :
    ∃ ao l cap, v = .slice ao (List.length l) cap ∧ Ints W ao l ∧ l.length ≤ 140737488351232 ∧ (∀ x ∈ l, I64 x) ∧ l.length ≤ cap ∧ cap ≤ 9223372036854775807 := by
  obtain ⟨ao, len, cap, rfl⟩ := okWide_slice Try.underlying23 hval
  obtain ⟨fuel, hf⟩ := h
  have hf' : DataW.trod enc Try.prog W 0 (fun _ => true) true fuel 23 [.slice ao len cap] = some (d, p) := by simpa [Value.cells] using hf
  rcases open_ints Try.underlying23 Try.underlying3 (by kernel_rfl) hf' with ⟨hcs, hx⟩ | ⟨a, len', cap', zs, hcs, _, hlc, hcm, hz, hx, hi, hwf⟩
  · simp only [List.cons.injEq, Value.slice.injEq, and_true] at hcs
    obtain ⟨rfl, rfl, rfl⟩ := hcs
    exact ⟨none, [], 0, rfl, fun h => absurd h (by simp), by simp, fun c hc => by simp at hc, by simp, by simp⟩
  · simp only [List.cons.injEq, Value.slice.injEq, and_true] at hcs
    obtain ⟨rfl, rfl, rfl⟩ := hcs
    simp only [if_true] at hz
    have hlen : cap ≤ 9223372036854775807 := by unfold maxLen at hcm; omega
    have hcl : (zs.take len).length = len := by rw [List.length_take]; omega
    refine ⟨_, zs.take len, cap, by rw [hcl], fun h0 => ?_, ?_, fun x hx => wf_i64b (hwf x (List.mem_of_mem_take hx)), by rw [hcl]; exact hlc, hlen⟩
    · obtain ⟨b, off, rfl, hb⟩ := addr_of_cell (w := W) (a := a) (hi 0 (by omega))
      refine ⟨b, off, rfl, hb, fun k hk => ?_⟩
      have h9 := hi k (by omega)
      rw [add_plain] at h9
      rw [h9, getD_take (n := len) (by omega) (by omega)]
    · have hb8 : Try.prog.bytesOf 3 = 8 := by kernel_rfl
      simp only [Prod.mk.injEq] at hx
      rw [hx.1] at hfit
      have h5 := (Fit.slice (elems := lits .i64 (zs.take len)) (spare := lits .i64 (zs.drop len)) hfit Try.underlying23).1
      rw [hb8] at h5
      simp only [lits, List.length_map, List.length_take, List.length_drop, reachBytes] at h5
      rw [hcl]
      omega

theorem rowl_of {H : Type} {enc : TypeId × Value → H} (W : World) (v : Value) (d : DataW H) (p : List MemPlace) (hval : Value.okWide Try.prog W .any 0 22 v) (h : DataW.Trod enc Try.prog W 0 (fun _ => true) true 22 v d p) (hfit : Fit Try.prog 22 d) :
    ∃ ao cl cap av cv, v = .slice ao (List.length cl) cap ∧ IsRows W ao cl av cv ∧ cl.length ≤ 9223372036854775807 ∧ (∀ c ∈ cl, c.length ≤ 140737488351232) ∧ ∀ c ∈ cl, ∀ x ∈ c, I64 x := by
  obtain ⟨ao, cl, cap, rfl, hc, hn, hm, hI⟩ := cls_of W v d p hval h hfit
  obtain ⟨av, cv, hr⟩ := rows_cls hc
  exact ⟨ao, cl, cap, av, cv, rfl, hr, hn, hm, hI⟩

theorem two_given {w w' : World} {a b : Option Addr} {l m : List Int} {ca cb : Nat} (h : w' = w.alloc (.cells #[.slice a l.length ca, .slice b m.length cb] 23)) (hl : Ints w a l) (hm : Ints w b m) :
    Below w.heap.size w w' ∧ ∃ av cv, IsRows w' (some ⟨w.heap.size, 0, none⟩) [l, m] av cv := by
  subst h
  have hb : Below w.heap.size w (w.alloc (.cells #[.slice a l.length ca, .slice b m.length cb] 23)) := (Below.refl _ w).alloc (Nat.le_refl _) _
  have k := Blk.new w 23 #[.slice a l.length ca, .slice b m.length cb]
  exact ⟨hb, rows_at (n := 2) (cap := 2) (Own.of_blk k 2 rfl (by decide)) rfl ⟨rfl, fun j hj => by
    match j, hj with
    | 0, _ => exact ⟨a, ca, rfl, hl.below hb⟩
    | 1, _ => exact ⟨b, cb, rfl, hm.below hb⟩⟩⟩

theorem numbers_same (l : List Int) (ao bo : Option Addr) (ca cb : Nat) (w : World) (ha : Ints w ao l) (hb : Ints w bo l) (hl : l.length ≤ 1000000) :
    Calls Try.prog 9 #[.slice ao l.length ca, .slice bo l.length cb] w fun e w' => e = .returned (.bool true) ∧ Below w.heap.size w w' := by
  have h := numbers_any l l ao bo ca cb w ha hb hl
  rwa [decide_eq_true (rfl : l = l)] at h
theorem wrap_small {x : Int} (h0 : 0 ≤ x) (h1 : x ≤ 9223372036854775807) : IntKind.i64.wrap x = x := by rw [IntKind.wrap_i64]; omega

def sumL : List (List Int) → Nat → Nat
  | [], n => n
  | c :: r, n => if n < 2000 then sumL r (n + 1 + c.length) else n
def sumM : List (List Int) → Nat → Nat
  | [], n => n
  | c :: r, n => sumM r (n + c.length)
def largeE (cl more : List (List Int)) : Bool := decide (2000 ≤ sumM more (sumL cl 0))
theorem sumL_le : ∀ (cl : List (List Int)) (n : Nat), n ≤ sumL cl n
  | [], n => Nat.le_refl n
  | c :: r, n => by
    unfold sumL
    split
    · have := sumL_le r (n + 1 + c.length)
      omega
    · exact Nat.le_refl n
theorem sumM_le : ∀ (cl : List (List Int)) (n : Nat), n ≤ sumM cl n
  | [], n => Nat.le_refl n
  | c :: r, n => by
    have := sumM_le r (n + c.length)
    unfold sumM
    omega
theorem sumL_small : ∀ (cl : List (List Int)) (n : Nat), sumL cl n < 2000 → n + cl.length < 2000 ∧ ∀ c ∈ cl, c.length < 2000
  | [], n, h => ⟨by simpa [sumL] using h, fun c hc => by simp at hc⟩
  | c :: r, n, h => by
    unfold sumL at h
    by_cases hn : n < 2000
    · rw [if_pos hn] at h
      obtain ⟨h1, h2⟩ := sumL_small r _ h
      refine ⟨by simp only [List.length_cons]; omega, fun d hd => ?_⟩
      rcases List.mem_cons.1 hd with rfl | hd
      · omega
      · exact h2 d hd
    · rw [if_neg hn] at h
      exact absurd h hn
theorem sumM_small : ∀ (cl : List (List Int)) (n : Nat), sumM cl n < 2000 → ∀ c ∈ cl, c.length < 2000
  | [], n, _, c, hc => by simp at hc
  | c :: r, n, h, d, hd => by
    unfold sumM at h
    rcases List.mem_cons.1 hd with rfl | hd
    · have := sumM_le r (n + d.length)
      omega
    · exact sumM_small r _ h d hd
theorem large_bounds {cl more : List (List Int)} (h : largeE cl more = false) : cl.length ≤ 2000 ∧ (∀ c ∈ cl, c.length ≤ 2000) ∧ ∀ c ∈ more, c.length ≤ 2000 := by
  unfold largeE at h
  have h1 : sumM more (sumL cl 0) < 2000 := by simpa using h
  have h2 := sumM_le more (sumL cl 0)
  obtain ⟨h3, h4⟩ := sumL_small cl 0 (by omega)
  exact ⟨by omega, fun c hc => Nat.le_of_lt (h4 c hc), fun c hc => Nat.le_of_lt (sumM_small more _ h1 c hc)⟩
theorem sumL_stop {cl : List (List Int)} {n : Nat} (h : ¬ n < 2000) : sumL cl n = n := by
  cases cl with
  | nil => rfl
  | cons c r => unfold sumL; rw [if_neg h]

set_option maxHeartbeats 2000000 in
theorem large_any (cl more : List (List Int)) (ao am : Option Addr) (cap capm : Nat) (av avm : Nat → Option Addr) (cv cvm : Nat → Nat) (w : World) (hR : IsRows w ao cl av cv) (hM : IsRows w am more avm cvm)
    (hcl : cl.length ≤ 9223372036854775807) (hrl : ∀ c ∈ cl, c.length ≤ 140737488351232) (hml : more.length ≤ 4) (hmr : ∀ c ∈ more, c.length ≤ 140737488351232) :
    Calls Try.prog 5 #[.slice ao cl.length cap, .slice am more.length capm] w fun e w' => e = .returned (.bool (largeE cl more)) ∧ w = w' := by
  obtain ⟨T, hT⟩ : ∃ T, T = largeE cl more := ⟨_, rfl⟩
  rw [← hT]
  have HR := Lib.hid hR
  have HM := Lib.hid hM
  have HL := Lib.hid hrl
  have HML := Lib.hid hmr
  have HT := Lib.hid hT
  clear hR hM hrl hmr hT
  go_enter Try.func5, Try.ntmps5
  go_wp2_with fail
  go_loop [5, 6] (fun s i => ∃ k n : Nat, k ≤ cl.length ∧ i = .int .i64 k ∧ s = .int .i64 n ∧ n ≤ 140737488353232 ∧ Hid (sumL cl 0 = sumL (cl.drop k) n)) (fun _ i => cl.length - (intOf i).toNat)
  case atStart => exact ⟨0, 0, by omega, rfl, rfl, by omega, Lib.hid rfl⟩
  case round =>
    obtain ⟨k, n, hk, rfl, rfl, hn, HA⟩ := hrel
    have hcase : (k < cl.length ∧ n < 2000) ∨ (¬ (k < cl.length) ∨ ¬ (n < 2000)) := by omega
    rcases hcase with ⟨hlt, hn2⟩ | hend
    · have hki : (k : Int) < (cl.length : Int) := by omega
      have hni : (n : Int) < 2000 := by omega
      obtain ⟨b, off, rfl, _, hcells⟩ := HR.out.rows (by omega)
      have hck := hcells k hlt
      obtain ⟨m, hm⟩ : ∃ m : Nat, m = cl[k].length := ⟨_, rfl⟩
      have hml2 : m ≤ 140737488351232 := by rw [hm]; exact HL.out _ (List.getElem_mem hlt)
      have HA2 := Lib.hid (show sumL cl 0 = sumL (cl.drop (k + 1)) (n + 1 + m) by
        rw [HA.out, List.drop_eq_getElem_cons hlt, hm]
        show (if n < 2000 then _ else _) = _
        rw [if_pos hn2])
      rw [← hm] at hck
      have hw1 : IntKind.i64.wrap ((n : Int) + 1) = ((n + 1 : Nat) : Int) := by rw [wrap_small (by omega) (by omega)]; omega
      have hw2 : IntKind.i64.wrap (((n + 1 : Nat) : Int) + (m : Int)) = ((n + 1 + m : Nat) : Int) := by rw [wrap_small (by omega) (by omega)]; omega
      clear hm hcells HA
      go_wp2_with fail
      go_round
      case rel => exact ⟨k + 1, n + 1 + m, by omega, by go_num, rfl, by omega, HA2⟩
      case measure => simp [intOf]; omega
    · have HFin := Lib.hid (show sumL cl 0 = n by
        rw [HA.out]
        by_cases h : n < 2000
        · rw [List.drop_eq_nil_of_le (by omega)]
          rfl
        · exact sumL_stop h)
      have hgo : (((k : Int) < (cl.length : Int)) ∧ ¬ (n : Int) < 2000) ∨ ¬ ((k : Int) < (cl.length : Int)) := by omega
      clear hend HA
      rcases hgo with ⟨hx1, hx2⟩ | hx1
      all_goals
        go_wp2_with fail
        go_loop [5, 7] (fun s i => ∃ j n2 : Nat, j ≤ more.length ∧ i = .int .i64 j ∧ s = .int .i64 n2 ∧ n2 ≤ n + j * 140737488351232 ∧ Hid (sumM more n = sumM (more.drop j) n2)) (fun _ i => more.length - (intOf i).toNat)
        case atStart => exact ⟨0, n, by omega, rfl, rfl, by omega, Lib.hid rfl⟩
        case round =>
          obtain ⟨j, n2, hj, rfl, rfl, hn4, HB⟩ := hrel
          by_cases hjt : j < more.length
          · have hji : (j : Int) < (more.length : Int) := by omega
            obtain ⟨b, off, rfl, _, hcells⟩ := HM.out.rows (by omega)
            have hck := hcells j hjt
            obtain ⟨m, hm⟩ : ∃ m : Nat, m = more[j].length := ⟨_, rfl⟩
            have hml2 : m ≤ 140737488351232 := by rw [hm]; exact HML.out _ (List.getElem_mem hjt)
            have HB2 := Lib.hid (show sumM more n = sumM (more.drop (j + 1)) (n2 + m) by
              rw [HB.out, List.drop_eq_getElem_cons hjt, hm]
              rfl)
            rw [← hm] at hck
            have hw1 : IntKind.i64.wrap ((n2 : Int) + (m : Int)) = ((n2 + m : Nat) : Int) := by rw [wrap_small (by omega) (by omega)]; omega
            clear hm hcells HB
            go_wp2_with fail
            go_round
            case rel => exact ⟨j + 1, n2 + m, by omega, by go_num, rfl, by omega, HB2⟩
            case measure => simp [intOf]; omega
          · obtain rfl : j = more.length := by omega
            have hd : decide ((2000 : Int) ≤ (n2 : Int)) = T := by
              rw [HT.out]
              unfold largeE
              rw [HFin.out, HB.out, List.drop_length]
              exact decide_eq_decide.2 (by show (2000 : Int) ≤ (n2 : Int) ↔ 2000 ≤ n2; omega)
            clear HB HFin HT
            go_wp2_with fail
            go_ret
            exact ⟨rfl, rfl⟩

theorem cofE_len {inputs : Int} {cl : List (List Int)} {last : List Int} {M : Nat} (h : inputs ≤ M ∨ 4194304 < inputs) : (cofE inputs cl last).1.length ≤ M := by
  unfold cofE
  split
  · simp
  · split
    · have := outE_len (marksE inputs.toNat cl last) inputs.toNat
      unfold coreE
      dsimp only
      omega
    · simp


end Go.Proofs.Yteadaiomeccanaa

namespace Go.Proofs.Yteadaiomeccanaa
open Go.ChangeShapes Go.WideShapes Go.ChangeAt Go.RowKit Go.Maps Go.Deep
set_option maxRecDepth 100000

abbrev IntsC (w : World) (ao : Option Addr) (cap : Nat) (l : List Int) : Prop := Own w 3 1 (.slice ao l.length cap) l.length (inC l)

theorem IntsC.ints {w : World} {ao : Option Addr} {cap : Nat} {l : List Int} (h : IntsC w ao cap l) : Ints w ao l := by
  obtain ⟨ao2, cap2, e, hI⟩ := Own.ints h
  injection e with e1 _ e3
  subst e1
  exact hI

theorem is_yes (inputs : Int) (cl : List (List Int)) (last want : List Int) (ao al aw : Option Addr) (cap capl capw : Nat) (av : Nat → Option Addr) (cv : Nat → Nat) (w : World) (hR : IsRows w ao cl av cv) (hL : Ints w al last) (hW : Ints w aw want)
    (hcl : cl.length ≤ 1000000) (hrl : ∀ c ∈ cl, c.length ≤ 1000000) (hll : last.length ≤ 1000000) (hwl : want.length ≤ 1000000) (ho : cofE inputs cl last = (want, 0)) :
    Calls Try.prog 8 #[.int .i64 inputs, .slice ao cl.length cap, .slice al last.length capl, .slice aw want.length capw] w fun e w' => e = .returned (.bool true) ∧ Below w.heap.size w w' := by
  have h := cOf_any inputs cl last ao al cap capl av cv w hR hL hcl (fun c hc => Nat.le_trans (hrl c hc) (by omega)) (by omega)
  rw [ho] at h
  have HC := Lib.hid h
  have HW := Lib.hid hW
  clear hR hL hrl h hW ho
  go_enter Try.func8, Try.ntmps8
  go_wp2_with (first
    | (go_at_call 7; (with_reducible refine HC.out.mono ?_); rintro e w1 ⟨a1, c1, rfl, hi1, _, hb1⟩; have HN := Lib.hid (numbers_same want a1 aw c1 capw w1 (IntsC.ints hi1) (HW.out.below hb1) hwl))
    | (go_at_call 9; (with_reducible refine HN.out.mono ?_); rintro e w2 ⟨rfl, hb2⟩)
    | fail)
  go_ret
  exact ⟨rfl, bel_trans hb1 hb2⟩

/-! ### Numbers and rows that are written out -/
theorem ints_new {w : World} {l : List Int} {cs : Array Value} (h : cs = (inC l).toArray) : Ints (w.alloc (.cells cs 3)) (some ⟨w.heap.size, 0, none⟩) l := fun _ => by
  have k := Blk.new w 3 cs
  refine ⟨w.heap.size, 0, rfl, k.lt, fun j hj => ?_⟩
  rw [k.cell, h]
  simp [inC, hj]
theorem ints_blk {w : World} {g : Nat} {l : List Int} {cs : Array Value} (k : Blk w g 3 cs) (h : cs = (inC l).toArray) : Ints w (some ⟨g, 0, none⟩) l := fun _ => by
  refine ⟨g, 0, rfl, k.lt, fun j hj => ?_⟩
  rw [k.cell, h]
  simp [inC, hj]
theorem nil_rows (w : World) : IsRows w none [] (fun _ => none) (fun _ => 0) := ⟨fun h => absurd h (Nat.lt_irrefl _), fun _ h => absurd h (Nat.not_lt_zero _)⟩
theorem nil_ints (w : World) : Ints w none [] := fun h => absurd h (Nat.lt_irrefl _)
/-- Two rows, made one behind the other, and what holds them. -/
theorem made_two {w w' : World} {l m : List Int} {cl cm : Array Value} {nl nm : Nat} (h : w' = ((w.alloc (.cells cl 3)).alloc (.cells cm 3)).alloc (.cells #[.slice (some ⟨w.heap.size, 0, none⟩) nl nl, .slice (some ⟨w.heap.size + 1, 0, none⟩) nm nm] 23))
    (hl : cl = (inC l).toArray) (hm : cm = (inC m).toArray) (h1 : nl = l.length) (h2 : nm = m.length) : Below w.heap.size w w' ∧ w'.heap.size = w.heap.size + 1 + 1 + 1 ∧ ∃ av cv, IsRows w' (some ⟨w.heap.size + 1 + 1, 0, none⟩) [l, m] av cv := by
  subst h
  subst h1
  subst h2
  have k0 := Blk.new w 3 cl
  have k1 := Blk.new (w.alloc (.cells cl 3)) 3 cm
  have k2 := Blk.new ((w.alloc (.cells cl 3)).alloc (.cells cm 3)) 23 #[.slice (some ⟨w.heap.size, 0, none⟩) l.length l.length, .slice (some ⟨w.heap.size + 1, 0, none⟩) m.length m.length]
  rw [World.size_alloc] at k1
  rw [World.size_alloc, World.size_alloc] at k2
  exact ⟨(((Below.refl _ w).alloc (Nat.le_refl _) _).alloc (by simp) _).alloc (by simp; omega) _, by simp, rows_at (n := 2) (cap := 2) (Own.of_blk k2 2 rfl (by decide)) rfl ⟨rfl, fun j hj => by
    match j, hj with
    | 0, _ => exact ⟨some ⟨w.heap.size, 0, none⟩, l.length, rfl, ints_blk ((k0.alloc _).alloc _) hl⟩
    | 1, _ => exact ⟨some ⟨w.heap.size + 1, 0, none⟩, m.length, rfl, ints_blk (k1.alloc _) hm⟩⟩⟩

/-- is, of numbers made just ahead of the call. -/
theorem is_made {w0 w : World} (inputs : Int) (cl : List (List Int)) (last want : List Int) (ao : Option Addr) (cap n k : Nat) (av : Nat → Option Addr) (cv : Nat → Nat) (cs ds : Array Value) (hR : IsRows w0 ao cl av cv) (hb : Below w0.heap.size w0 w)
    (hcs : cs = (inC last).toArray) (hds : ds = (inC want).toArray) (hn : n = last.length) (hk : k = want.length) (hcl : cl.length ≤ 1000 ∧ (∀ c ∈ cl, c.length ≤ 1000) ∧ last.length ≤ 1000 ∧ want.length ≤ 1000) (ho : cofE inputs cl last = (want, 0)) :
    Calls Try.prog 8 #[.int .i64 inputs, .slice ao cl.length cap, .slice (some ⟨w.heap.size, 0, none⟩) n n, .slice (some ⟨w.heap.size + 1, 0, none⟩) k k] ((w.alloc (.cells cs 3)).alloc (.cells ds 3)) fun e w' => e = .returned (.bool true) ∧ Below w.heap.size w w' := by
  subst hn
  subst hk
  have b1 : Below w.heap.size w ((w.alloc (.cells cs 3)).alloc (.cells ds 3)) := ((Below.refl _ w).alloc (Nat.le_refl _) _).alloc (by simp) _
  have k0 := (Blk.new w 3 cs).alloc (.cells ds 3)
  have k1 := Blk.new (w.alloc (.cells cs 3)) 3 ds
  rw [World.size_alloc] at k1
  refine (is_yes inputs cl last want ao _ _ cap last.length want.length av cv _ (hR.below (bel_trans hb b1)) (ints_blk k0 hcs) (ints_blk k1 hds) (by omega) (fun c hc => Nat.le_trans (hcl.2.1 c hc) (by omega)) (by omega) (by omega) ho).mono ?_
  rintro e w' ⟨h1, h2⟩
  exact ⟨h1, bel_trans b1 h2⟩
theorem grp_made {w : World} (clauses group : List Int) (n k : Nat) (cs ds : Array Value) (hcs : cs = (inC clauses).toArray) (hds : ds = (inC group).toArray) (hn : n = clauses.length) (hk : k = group.length) (hl : clauses.length ≤ 1000 ∧ group.length ≤ 1000) (hI : ∀ x ∈ group, I64 x) {o : List Int} (ho : groupsE group clauses = o) :
    Calls Try.prog 10 #[.slice (some ⟨w.heap.size, 0, none⟩) n n, .slice (some ⟨w.heap.size + 1, 0, none⟩) k k] ((w.alloc (.cells cs 3)).alloc (.cells ds 3)) fun e w' => ∃ ao' cap', e = .returned (.slice ao' o.length cap') ∧ Ints w' ao' o ∧ Below w.heap.size w w' := by
  subst hn
  subst hk
  subst ho
  have b1 : Below w.heap.size w ((w.alloc (.cells cs 3)).alloc (.cells ds 3)) := ((Below.refl _ w).alloc (Nat.le_refl _) _).alloc (by simp) _
  have k0 := (Blk.new w 3 cs).alloc (.cells ds 3)
  have k1 := Blk.new (w.alloc (.cells cs 3)) 3 ds
  rw [World.size_alloc] at k1
  refine (cGroups_any clauses group _ _ clauses.length group.length _ (ints_blk k0 hcs) (ints_blk k1 hds) (by omega) (by omega) hI).mono ?_
  rintro e w' ⟨a, c, h1, h2, h3⟩
  exact ⟨a, c, h1, h2, bel_trans b1 h3⟩

theorem i64_all (l : List Int) (h : (l.all fun x => decide (-9223372036854775808 ≤ x) && decide (x ≤ 9223372036854775807)) = true) : ∀ x ∈ l, I64 x := fun x hx => by
  have := List.all_eq_true.1 h x hx
  simpa [I64] using this

set_option maxHeartbeats 2000000 in
theorem works_any (w : World) : Calls Try.prog 4 #[] w fun e w' => e = .returned (.bool true) ∧ Below w.heap.size w w' := by
  obtain ⟨w1, hw1⟩ : ∃ w1, w1 = ((w.alloc (.cells #[.int .i64 0, .int .i64 1] 3)).alloc (.cells #[.int .i64 3, .int .i64 2] 3)).alloc (.cells #[.slice (some ⟨w.heap.size, 0, none⟩) 2 2, .slice (some ⟨w.heap.size + 1, 0, none⟩) 2 2] 23) := ⟨_, rfl⟩
  obtain ⟨hb1, -, av, cv, hr1⟩ := made_two (l := [0, 1]) (m := [3, 2]) hw1 rfl rfl rfl rfl
  have HA : Hid (∀ w2, Below w1.heap.size w1 w2 → Calls Try.prog 8 #[.int .i64 3, .slice (some ⟨w.heap.size + 1 + 1, 0, none⟩) 2 2, .slice (some ⟨w2.heap.size, 0, none⟩) 1 1, .slice (some ⟨w2.heap.size + 1, 0, none⟩) 3 3] ((w2.alloc (.cells #[.int .i64 4] 3)).alloc (.cells #[.int .i64 0, .int .i64 1, .int .i64 2] 3)) fun e w' => e = .returned (.bool true) ∧ Below w2.heap.size w2 w') :=
    Lib.hid fun w2 hb => is_made 3 [[0, 1], [3, 2]] [4] [0, 1, 2] _ 2 1 3 av cv _ _ hr1 hb rfl rfl rfl rfl (by simp) (by decide +kernel)
  have HB : Hid (∀ w2, Below w1.heap.size w1 w2 → Calls Try.prog 8 #[.int .i64 3, .slice (some ⟨w.heap.size + 1 + 1, 0, none⟩) 2 2, .slice (some ⟨w2.heap.size, 0, none⟩) 1 1, .slice (some ⟨w2.heap.size + 1, 0, none⟩) 2 2] ((w2.alloc (.cells #[.int .i64 3] 3)).alloc (.cells #[.int .i64 0, .int .i64 1] 3)) fun e w' => e = .returned (.bool true) ∧ Below w2.heap.size w2 w') :=
    Lib.hid fun w2 hb => is_made 3 [[0, 1], [3, 2]] [3] [0, 1] _ 2 1 2 av cv _ _ hr1 hb rfl rfl rfl rfl (by simp) (by decide +kernel)
  have HG : Hid (∀ w2 : World, Calls Try.prog 10 #[.slice (some ⟨w2.heap.size, 0, none⟩) 2 2, .slice (some ⟨w2.heap.size + 1, 0, none⟩) 3 3] ((w2.alloc (.cells #[.int .i64 0, .int .i64 2] 3)).alloc (.cells #[.int .i64 7, .int .i64 7, .int .i64 (-1)] 3)) fun e w' => ∃ ao' cap', e = .returned (.slice ao' 1 cap') ∧ Ints w' ao' [7] ∧ Below w2.heap.size w2 w') :=
    Lib.hid fun w2 => grp_made [0, 2] [7, 7, -1] 2 3 _ _ rfl rfl rfl rfl (by simp) (i64_all _ (by decide)) (o := [7]) (by decide +kernel)
  have HNu : Hid (∀ (w2 : World) ao cap, Ints w2 ao [7] → Calls Try.prog 9 #[.slice ao 1 cap, .slice (some ⟨w2.heap.size, 0, none⟩) 1 1] (w2.alloc (.cells #[.int .i64 7] 3)) fun e w' => e = .returned (.bool true) ∧ Below w2.heap.size w2 w') := Lib.hid fun w2 ao cap h => by
    have hb : Below w2.heap.size w2 (w2.alloc (.cells #[.int .i64 7] 3)) := (Below.refl _ _).alloc (Nat.le_refl _) _
    exact (numbers_same [7] ao _ cap 1 _ (h.below hb) (ints_new (l := [7]) rfl) (by simp)).mono fun e w' ⟨h1, h2⟩ => ⟨h1, bel_trans hb h2⟩
  have HB1 := Lib.hid hb1
  have HW1 := Lib.hid hw1
  clear hr1 hb1 hw1
  go_enter Try.func4, Try.ntmps4
  go_upto_region 2 with fail
  rw [← HW1.out]
  go_wp2_with (first
    | (go_at_call 8; (with_reducible refine (HA.out _ (Below.refl _ _)).mono ?_); rintro e w2 ⟨rfl, hb2⟩)
    | (go_at_call 8; (with_reducible refine (HB.out _ hb2).mono ?_); rintro e w3 ⟨rfl, hb3⟩; have hb13 := bel_trans hb2 hb3)
    | (go_at_call 10; (with_reducible refine (HG.out _).mono ?_); rintro e w4 ⟨a4, c4, rfl, hi4, hb4⟩; have hb14 := bel_trans hb13 hb4)
    | (go_at_call 9; (with_reducible refine (HNu.out _ _ _ hi4).mono ?_); rintro e w5 ⟨rfl, hb5⟩; have hb15 := bel_trans hb14 hb5)
    | fail)
  go_ret
  exact ⟨rfl, bel_trans HB1.out hb15⟩

end Go.Proofs.Yteadaiomeccanaa
