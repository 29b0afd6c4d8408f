/- slices.IndexFunc and ContainsFunc at each kind of elements, and each function that is handed in. Conditions: as each theorem names them. -/
import Derived.Test.YtdpjjnbelgaagaaGreatDoorG04
import Derived.Test.YtdpjjnbelgaagaaGreatDoorG03
import Derived.Deep.Cut
import Derived.Test.YtdpjjnbelgaagaaGreatDoorG02
namespace Go.Proofs.YtdpjjnbelgaagaaGreatDoor
open Go.ChangeShapes Go.WideShapes Go.ChangeAt Go.RowKit
set_option maxRecDepth 100000

def IPost (b : Bool) (n : Nat) (w : World) (e : Ending) (w' : World) : Prop := ∃ i : Int, e = .returned (.int .i64 i) ∧ decide (0 ≤ i) = b ∧ -1 ≤ i ∧ i ≤ n ∧ Below w.heap.size w w'
set_option maxHeartbeats 4000000 in
theorem ifD_every1D (W0 : World) (l : List DepD) (vl : Value) (hl : LIn depK anyB W0 l vl) (bc : Nat) (P : DepD → Bool) (w : World) (hB : Below W0.heap.size W0 w)
    (one : ∀ x ∈ l, ∀ (r : depK.R) (w' : World), depK.holds anyB W0 x r → Below w.heap.size w w' → Calls Tryz.prog 119 #[x.val, .pointer (some ⟨bc, 0, none⟩)] w' fun e w'' => e = .returned (.bool (P x)) ∧ Below w'.heap.size w' w'') :
    Calls Tryz.prog 159 #[vl, .func (.func 119) #[] #[.pointer (some ⟨bc, 0, none⟩)]] w (IPost (l.any P) l.length w) := by
  obtain ⟨a, c, rfl⟩ := hl.form
  have hn := hl.bound
  have HL := Lib.hid hl
  have HO := Lib.hid one
  have HBW := Lib.hid hB
  have HB0 := Lib.hid (Below.refl w.heap.size w)
  obtain ⟨T, hT⟩ : ∃ T, T = l.any P := ⟨_, rfl⟩
  rw [← hT]
  have HT := Lib.hid hT
  clear hl one hB hT
  go_enter Tryz.func159, Tryz.ntmps159
  go_wp2_with fail
  go_loopw [5, 8] (fun y i wr => ∃ k : Nat, k ≤ l.length ∧ i = .int .i64 k ∧ Hid ((l.take k).any P = false ∧ Below w.heap.size w wr)) (fun y i wr => l.length - (intOf i).toNat)
  case atStart => exact ⟨0, by omega, rfl, Lib.hid ⟨rfl, HB0.out⟩⟩
  case round =>
    obtain ⟨k, hk, rfl, HQ⟩ := hrel
    by_cases hlt : k < l.length
    · have hki : (k : Int) < (l.length : Int) := by omega
      obtain ⟨b, o, r, ha, _, hcs0, hh⟩ := HL.out.at_ k hlt
      obtain ⟨x, hx⟩ : ∃ x, x = l[k] := ⟨_, rfl⟩
      have HX := Lib.hid (show l.take (k + 1) = l.take k ++ [x] from by rw [hx]; exact List.take_succ_eq_append_getElem hlt)
      have hmem : x ∈ l := by rw [hx]; exact List.getElem_mem _
      have HMem := Lib.hid hmem
      rw [← hx] at hcs0 hh
      subst ha
      dsimp only [depK] at hcs0 r
      have hcs := hcs0.same ((HBW.out.trans (HQ.out.2.mono HBW.out.size)).block b hcs0.1) (HBW.out.trans (HQ.out.2.mono HBW.out.size)).size
      have e0 : wr.cell? ⟨b, o + k * 5, none⟩ = some (.string x.name) := hcs.2 0 (show 0 < 5 by omega)
      have e1 : wr.cell? ⟨b, o + k * 5 + 1, none⟩ = some (.int .u8 x.op) := hcs.2 1 (show 1 < 5 by omega)
      have e2 : wr.cell? ⟨b, o + k * 5 + 2, none⟩ = some (.int .i64 x.ep) := hcs.2 2 (show 2 < 5 by omega)
      have e3 : wr.cell? ⟨b, o + k * 5 + 3, none⟩ = some (.string x.ver) := hcs.2 3 (show 3 < 5 by omega)
      have e4 : wr.cell? ⟨b, o + k * 5 + 4, none⟩ = some (.string x.rel) := hcs.2 4 (show 4 < 5 by omega)
      have eb : b < wr.heap.size := hcs.1
      have HM := Lib.hid (HO.out x hmem _ wr hh HQ.out.2)
      obtain ⟨pb, hpb⟩ : ∃ pb, pb = P x := ⟨_, rfl⟩
      rw [← hpb] at HM
      have HPb := Lib.hid hpb
      clear hcs hcs0 hh hx hmem hpb
      cases pb with
      | true =>
        have HT2 := Lib.hid (show T = true from HT.out.trans (List.any_eq_true.2 ⟨x, HMem.out, HPb.out.symm⟩))
        go_wp2_with (first
          | (go_at_call 119; (with_reducible refine HM.out.mono ?_); rintro e w2 ⟨rfl, HBc⟩; have HB2 := Lib.hid (HQ.out.2.trans (HBc.mono HQ.out.2.size)); clear HBc)
          | fail)
        go_ret
        exact ⟨(k : Int), rfl, by rw [HT2.out]; exact decide_eq_true (by omega), by omega, by omega, HB2.out⟩
      | false =>
        go_wp2_with (first
          | (go_at_call 119; (with_reducible refine HM.out.mono ?_); rintro e w2 ⟨rfl, HBc⟩; have HB2 := Lib.hid (HQ.out.2.trans (HBc.mono HQ.out.2.size)); clear HBc)
          | fail)
        go_roundw
        case rel => exact ⟨k + 1, by omega, by go_num, Lib.hid ⟨by rw [HX.out, List.any_append, HQ.out.1]; simp [← HPb.out], HB2.out⟩⟩
        case measure => simp [intOf]; omega
    · obtain rfl : k = l.length := by omega
      have HT2 := Lib.hid (show T = false from by have := HQ.out.1; rw [List.take_length] at this; exact HT.out.trans this)
      go_wp2_with fail
      go_ret
      exact ⟨-1, rfl, by rw [HT2.out]; rfl, by omega, by omega, HQ.out.2⟩
theorem cfD_every1D (W0 : World) (l : List DepD) (vl : Value) (hl : LIn depK anyB W0 l vl) (bc : Nat) (P : DepD → Bool) (w : World) (hB : Below W0.heap.size W0 w)
    (one : ∀ x ∈ l, ∀ (r : depK.R) (w' : World), depK.holds anyB W0 x r → Below w.heap.size w w' → Calls Tryz.prog 119 #[x.val, .pointer (some ⟨bc, 0, none⟩)] w' fun e w'' => e = .returned (.bool (P x)) ∧ Below w'.heap.size w' w'') :
    Calls Tryz.prog 118 #[vl, .func (.func 119) #[] #[.pointer (some ⟨bc, 0, none⟩)]] w fun e w' => e = .returned (.bool (l.any P)) ∧ Below w.heap.size w w' := by
  have HI := Lib.hid (ifD_every1D W0 l vl hl bc P w hB one)
  obtain ⟨T, hT⟩ : ∃ T, T = l.any P := ⟨_, rfl⟩
  rw [← hT] at HI ⊢
  clear hl one hB hT
  go_enter Tryz.func118, Tryz.ntmps118
  go_wp2_with (first
    | (go_at_call 159; (with_reducible refine HI.out.mono ?_); rintro e w1 ⟨i, rfl, hi, h1, h2, HBc⟩; have HI2 := Lib.hid hi; clear hi)
    | fail)
  go_ret
  exact ⟨ret_bool HI2.out, HBc⟩
set_option maxHeartbeats 4000000 in
theorem ifS_every1S (W0 : World) (l : List ByteArray) (vl : Value) (hl : LIn strK anyB W0 l vl) (bc : Nat) (P : ByteArray → Bool) (w : World) (hB : Below W0.heap.size W0 w)
    (one : ∀ x ∈ l, ∀ (r : strK.R) (w' : World), strK.holds anyB W0 x r → Below w.heap.size w w' → Calls Tryz.prog 122 #[.string x, .pointer (some ⟨bc, 0, none⟩)] w' fun e w'' => e = .returned (.bool (P x)) ∧ Below w'.heap.size w' w'') :
    Calls Tryz.prog 161 #[vl, .func (.func 122) #[] #[.pointer (some ⟨bc, 0, none⟩)]] w (IPost (l.any P) l.length w) := by
  obtain ⟨a, c, rfl⟩ := hl.form
  have hn := hl.bound
  have HL := Lib.hid hl
  have HO := Lib.hid one
  have HBW := Lib.hid hB
  have HB0 := Lib.hid (Below.refl w.heap.size w)
  obtain ⟨T, hT⟩ : ∃ T, T = l.any P := ⟨_, rfl⟩
  rw [← hT]
  have HT := Lib.hid hT
  clear hl one hB hT
  go_enter Tryz.func161, Tryz.ntmps161
  go_wp2_with fail
  go_loopw [5, 8] (fun y i wr => ∃ k : Nat, k ≤ l.length ∧ i = .int .i64 k ∧ Hid ((l.take k).any P = false ∧ Below w.heap.size w wr)) (fun y i wr => l.length - (intOf i).toNat)
  case atStart => exact ⟨0, by omega, rfl, Lib.hid ⟨rfl, HB0.out⟩⟩
  case round =>
    obtain ⟨k, hk, rfl, HQ⟩ := hrel
    by_cases hlt : k < l.length
    · have hki : (k : Int) < (l.length : Int) := by omega
      obtain ⟨b, o, r, ha, _, hcs0, hh⟩ := HL.out.at_ k hlt
      obtain ⟨x, hx⟩ : ∃ x, x = l[k] := ⟨_, rfl⟩
      have HX := Lib.hid (show l.take (k + 1) = l.take k ++ [x] from by rw [hx]; exact List.take_succ_eq_append_getElem hlt)
      have hmem : x ∈ l := by rw [hx]; exact List.getElem_mem _
      have HMem := Lib.hid hmem
      rw [← hx] at hcs0 hh
      subst ha
      dsimp only [strK] at hcs0 r
      rw [Nat.mul_one] at hcs0
      have hcs := hcs0.same ((HBW.out.trans (HQ.out.2.mono HBW.out.size)).block b hcs0.1) (HBW.out.trans (HQ.out.2.mono HBW.out.size)).size
      have e0 : wr.cell? ⟨b, o + k, none⟩ = some (.string x) := hcs.2 0 (show 0 < 1 by omega)
      have eb : b < wr.heap.size := hcs.1
      have HM := Lib.hid (HO.out x hmem _ wr hh HQ.out.2)
      obtain ⟨pb, hpb⟩ : ∃ pb, pb = P x := ⟨_, rfl⟩
      rw [← hpb] at HM
      have HPb := Lib.hid hpb
      clear hcs hcs0 hh hx hmem hpb
      cases pb with
      | true =>
        have HT2 := Lib.hid (show T = true from HT.out.trans (List.any_eq_true.2 ⟨x, HMem.out, HPb.out.symm⟩))
        go_wp2_with (first
          | (go_at_call 122; (with_reducible refine HM.out.mono ?_); rintro e w2 ⟨rfl, HBc⟩; have HB2 := Lib.hid (HQ.out.2.trans (HBc.mono HQ.out.2.size)); clear HBc)
          | fail)
        go_ret
        exact ⟨(k : Int), rfl, by rw [HT2.out]; exact decide_eq_true (by omega), by omega, by omega, HB2.out⟩
      | false =>
        go_wp2_with (first
          | (go_at_call 122; (with_reducible refine HM.out.mono ?_); rintro e w2 ⟨rfl, HBc⟩; have HB2 := Lib.hid (HQ.out.2.trans (HBc.mono HQ.out.2.size)); clear HBc)
          | fail)
        go_roundw
        case rel => exact ⟨k + 1, by omega, by go_num, Lib.hid ⟨by rw [HX.out, List.any_append, HQ.out.1]; simp [← HPb.out], HB2.out⟩⟩
        case measure => simp [intOf]; omega
    · obtain rfl : k = l.length := by omega
      have HT2 := Lib.hid (show T = false from by have := HQ.out.1; rw [List.take_length] at this; exact HT.out.trans this)
      go_wp2_with fail
      go_ret
      exact ⟨-1, rfl, by rw [HT2.out]; rfl, by omega, by omega, HQ.out.2⟩
theorem cfS_every1S (W0 : World) (l : List ByteArray) (vl : Value) (hl : LIn strK anyB W0 l vl) (bc : Nat) (P : ByteArray → Bool) (w : World) (hB : Below W0.heap.size W0 w)
    (one : ∀ x ∈ l, ∀ (r : strK.R) (w' : World), strK.holds anyB W0 x r → Below w.heap.size w w' → Calls Tryz.prog 122 #[.string x, .pointer (some ⟨bc, 0, none⟩)] w' fun e w'' => e = .returned (.bool (P x)) ∧ Below w'.heap.size w' w'') :
    Calls Tryz.prog 121 #[vl, .func (.func 122) #[] #[.pointer (some ⟨bc, 0, none⟩)]] w fun e w' => e = .returned (.bool (l.any P)) ∧ Below w.heap.size w w' := by
  have HI := Lib.hid (ifS_every1S W0 l vl hl bc P w hB one)
  obtain ⟨T, hT⟩ : ∃ T, T = l.any P := ⟨_, rfl⟩
  rw [← hT] at HI ⊢
  clear hl one hB hT
  go_enter Tryz.func121, Tryz.ntmps121
  go_wp2_with (first
    | (go_at_call 161; (with_reducible refine HI.out.mono ?_); rintro e w1 ⟨i, rfl, hi, h1, h2, HBc⟩; have HI2 := Lib.hid hi; clear hi)
    | fail)
  go_ret
  exact ⟨ret_bool HI2.out, HBc⟩
set_option maxHeartbeats 4000000 in
theorem ifR_every1R (W0 : World) (l : List RichD) (vl : Value) (hl : LIn richK anyB W0 l vl) (bc : Nat) (P : RichD → Bool) (w : World) (hB : Below W0.heap.size W0 w)
    (one : ∀ x ∈ l, ∀ (r : richK.R) (w' : World), richK.holds anyB W0 x r → Below w.heap.size w w' → Calls Tryz.prog 125 #[x.val r, .pointer (some ⟨bc, 0, none⟩)] w' fun e w'' => e = .returned (.bool (P x)) ∧ Below w'.heap.size w' w'') :
    Calls Tryz.prog 162 #[vl, .func (.func 125) #[] #[.pointer (some ⟨bc, 0, none⟩)]] w (IPost (l.any P) l.length w) := by
  obtain ⟨a, c, rfl⟩ := hl.form
  have hn := hl.bound
  have HL := Lib.hid hl
  have HO := Lib.hid one
  have HBW := Lib.hid hB
  have HB0 := Lib.hid (Below.refl w.heap.size w)
  obtain ⟨T, hT⟩ : ∃ T, T = l.any P := ⟨_, rfl⟩
  rw [← hT]
  have HT := Lib.hid hT
  clear hl one hB hT
  go_enter Tryz.func162, Tryz.ntmps162
  go_wp2_with fail
  go_loopw [5, 8] (fun y i wr => ∃ k : Nat, k ≤ l.length ∧ i = .int .i64 k ∧ Hid ((l.take k).any P = false ∧ Below w.heap.size w wr)) (fun y i wr => l.length - (intOf i).toNat)
  case atStart => exact ⟨0, by omega, rfl, Lib.hid ⟨rfl, HB0.out⟩⟩
  case round =>
    obtain ⟨k, hk, rfl, HQ⟩ := hrel
    by_cases hlt : k < l.length
    · have hki : (k : Int) < (l.length : Int) := by omega
      obtain ⟨b, o, r, ha, _, hcs0, hh⟩ := HL.out.at_ k hlt
      obtain ⟨x, hx⟩ : ∃ x, x = l[k] := ⟨_, rfl⟩
      have HX := Lib.hid (show l.take (k + 1) = l.take k ++ [x] from by rw [hx]; exact List.take_succ_eq_append_getElem hlt)
      have hmem : x ∈ l := by rw [hx]; exact List.getElem_mem _
      have HMem := Lib.hid hmem
      rw [← hx] at hcs0 hh
      subst ha
      dsimp only [richK] at hcs0 r
      have hcs := hcs0.same ((HBW.out.trans (HQ.out.2.mono HBW.out.size)).block b hcs0.1) (HBW.out.trans (HQ.out.2.mono HBW.out.size)).size
      have e0 : wr.cell? ⟨b, o + k * 7, none⟩ = some (.int .u8 x.kind) := hcs.2 0 (show 0 < 7 by omega)
      have e1 : wr.cell? ⟨b, o + k * 7 + 1, none⟩ = some (.string x.dep.name) := hcs.2 1 (show 1 < 7 by omega)
      have e2 : wr.cell? ⟨b, o + k * 7 + 2, none⟩ = some (.int .u8 x.dep.op) := hcs.2 2 (show 2 < 7 by omega)
      have e3 : wr.cell? ⟨b, o + k * 7 + 3, none⟩ = some (.int .i64 x.dep.ep) := hcs.2 3 (show 3 < 7 by omega)
      have e4 : wr.cell? ⟨b, o + k * 7 + 4, none⟩ = some (.string x.dep.ver) := hcs.2 4 (show 4 < 7 by omega)
      have e5 : wr.cell? ⟨b, o + k * 7 + 5, none⟩ = some (.string x.dep.rel) := hcs.2 5 (show 5 < 7 by omega)
      have e6 : wr.cell? ⟨b, o + k * 7 + 6, none⟩ = some (r) := hcs.2 6 (show 6 < 7 by omega)
      have eb : b < wr.heap.size := hcs.1
      have HM := Lib.hid (HO.out x hmem _ wr hh HQ.out.2)
      obtain ⟨pb, hpb⟩ : ∃ pb, pb = P x := ⟨_, rfl⟩
      rw [← hpb] at HM
      have HPb := Lib.hid hpb
      clear hcs hcs0 hh hx hmem hpb
      cases pb with
      | true =>
        have HT2 := Lib.hid (show T = true from HT.out.trans (List.any_eq_true.2 ⟨x, HMem.out, HPb.out.symm⟩))
        go_wp2_with (first
          | (go_at_call 125; (with_reducible refine HM.out.mono ?_); rintro e w2 ⟨rfl, HBc⟩; have HB2 := Lib.hid (HQ.out.2.trans (HBc.mono HQ.out.2.size)); clear HBc)
          | fail)
        go_ret
        exact ⟨(k : Int), rfl, by rw [HT2.out]; exact decide_eq_true (by omega), by omega, by omega, HB2.out⟩
      | false =>
        go_wp2_with (first
          | (go_at_call 125; (with_reducible refine HM.out.mono ?_); rintro e w2 ⟨rfl, HBc⟩; have HB2 := Lib.hid (HQ.out.2.trans (HBc.mono HQ.out.2.size)); clear HBc)
          | fail)
        go_roundw
        case rel => exact ⟨k + 1, by omega, by go_num, Lib.hid ⟨by rw [HX.out, List.any_append, HQ.out.1]; simp [← HPb.out], HB2.out⟩⟩
        case measure => simp [intOf]; omega
    · obtain rfl : k = l.length := by omega
      have HT2 := Lib.hid (show T = false from by have := HQ.out.1; rw [List.take_length] at this; exact HT.out.trans this)
      go_wp2_with fail
      go_ret
      exact ⟨-1, rfl, by rw [HT2.out]; rfl, by omega, by omega, HQ.out.2⟩
theorem cfR_every1R (W0 : World) (l : List RichD) (vl : Value) (hl : LIn richK anyB W0 l vl) (bc : Nat) (P : RichD → Bool) (w : World) (hB : Below W0.heap.size W0 w)
    (one : ∀ x ∈ l, ∀ (r : richK.R) (w' : World), richK.holds anyB W0 x r → Below w.heap.size w w' → Calls Tryz.prog 125 #[x.val r, .pointer (some ⟨bc, 0, none⟩)] w' fun e w'' => e = .returned (.bool (P x)) ∧ Below w'.heap.size w' w'') :
    Calls Tryz.prog 124 #[vl, .func (.func 125) #[] #[.pointer (some ⟨bc, 0, none⟩)]] w fun e w' => e = .returned (.bool (l.any P)) ∧ Below w.heap.size w w' := by
  have HI := Lib.hid (ifR_every1R W0 l vl hl bc P w hB one)
  obtain ⟨T, hT⟩ : ∃ T, T = l.any P := ⟨_, rfl⟩
  rw [← hT] at HI ⊢
  clear hl one hB hT
  go_enter Tryz.func124, Tryz.ntmps124
  go_wp2_with (first
    | (go_at_call 162; (with_reducible refine HI.out.mono ?_); rintro e w1 ⟨i, rfl, hi, h1, h2, HBc⟩; have HI2 := Lib.hid hi; clear hi)
    | fail)
  go_ret
  exact ⟨ret_bool HI2.out, HBc⟩
end Go.Proofs.YtdpjjnbelgaagaaGreatDoor

namespace Go.Proofs.YtdpjjnbelgaagaaGreatDoor
open Go.ChangeShapes Go.WideShapes Go.ChangeAt Go.RowKit
set_option maxRecDepth 100000

set_option maxHeartbeats 4000000 in
theorem ev1D (x : DepD) (bc : Nat) (q : Bool) (w : World) (hc : Blk w bc 122 #[.func (.func 74) #[] #[]])
    (one : ∀ w', Below w.heap.size w w' → Calls Tryz.prog 74 #[x.val] w' fun e w'' => e = .returned (.bool q) ∧ Below w'.heap.size w' w'') :
    Calls Tryz.prog 119 #[x.val, .pointer (some ⟨bc, 0, none⟩)] w fun e w' => e = .returned (.bool (!q)) ∧ Below w.heap.size w w' := by
  have c0 : w.cell? ⟨bc, 0, none⟩ = some (.func (.func 74) #[] #[]) := hc.cell 0
  have cl : bc < w.heap.size := hc.lt
  have HB := Lib.hid (show ∀ o, Below w.heap.size w (w.alloc o) from fun o => new_b w o)
  have HO := Lib.hid one
  clear hc one
  go_enter Tryz.func119, Tryz.ntmps119
  go_wp2_with (first
    | (go_at_call 74; (with_reducible refine (HO.out _ (new_b _ _)).mono ?_); rintro e w1 ⟨rfl, HBc⟩; have HB2 := Lib.hid (below_t' (new_b _ _) HBc); clear HBc)
    | fail)
  go_ret
  exact ⟨rfl, HB2.out⟩
set_option maxHeartbeats 4000000 in
theorem everyD_any (W0 : World) (l : List DepD) (vl : Value) (hl : LIn depK anyB W0 l vl) (Q : DepD → Bool) (w : World) (hB : Below W0.heap.size W0 w)
    (one : ∀ x ∈ l, ∀ (r : depK.R) (w' : World), depK.holds anyB W0 x r → Below w.heap.size w w' → Calls Tryz.prog 74 #[x.val] w' fun e w'' => e = .returned (.bool (Q x)) ∧ Below w'.heap.size w' w'') :
    Calls Tryz.prog 73 #[vl, .int .i64 32, .func (.func 74) #[] #[]] w fun e w' => e = .returned (.bool (decide (l.length ≤ 32) && l.all Q)) ∧ Below w.heap.size w w' := by
  obtain ⟨a, c, hv⟩ := hl.form
  have hn := hl.bound
  obtain ⟨bc, hbc⟩ : ∃ bc, bc = w.heap.size := ⟨_, rfl⟩
  obtain ⟨w1, hw1⟩ : ∃ w1, w1 = w.alloc (.cells #[.func (.func 74) #[] #[]] 122) := ⟨_, rfl⟩
  have hb1 : Below w.heap.size w w1 := by rw [hw1]; exact new_b _ _
  have hx : Blk w1 bc 122 #[.func (.func 74) #[] #[]] := by rw [hw1, hbc]; exact Blk.new _ _ _
  have HCF := Lib.hid (show Calls Tryz.prog 118 #[vl, .func (.func 119) #[] #[.pointer (some ⟨bc, 0, none⟩)]] w1 fun e w' => e = .returned (.bool (!(l.all Q))) ∧ Below w1.heap.size w1 w' from by
    have := cfD_every1D W0 l vl hl bc (fun x => !(Q x)) w1 (hB.trans (hb1.mono hB.size)) (fun x hx' r w' hh hw' => ev1D x bc (Q x) w' (hx.below hw' hx.lt) (fun w'' h2 => one x hx' r w'' hh (below_t' hb1 (below_t' hw' h2))))
    rw [show (l.any fun x => !(Q x)) = !(l.all Q) from by rw [List.not_all_eq_any_not]] at this
    exact this)
  have HB1 := Lib.hid hb1
  clear hl one hB hx hb1
  subst hv
  by_cases hle : l.length ≤ 32
  · have h1 : decide ((l.length : Int) ≤ 32) = true := by rw [decide_eq_true]; omega
    have h2 : (l.length : Int) ≤ 32 := by omega
    rw [decide_eq_true hle, Bool.true_and]
    obtain ⟨qa, hqa⟩ : ∃ qa, qa = l.all Q := ⟨_, rfl⟩
    rw [← hqa] at HCF ⊢
    clear hqa hle
    go_enter Tryz.func73, Tryz.ntmps73
    go_upto_region 1 with fail
    rw [← hw1, ← hbc]
    clear hw1 hbc
    go_wp2_with (first
      | (go_at_call 118; (with_reducible refine HCF.out.mono ?_); rintro e w2 ⟨rfl, HBc⟩; have HB2 := Lib.hid (below_t' HB1.out HBc); clear HBc)
      | fail)
    go_ret
    exact ⟨by simp, HB2.out⟩
  · have h1 : decide ((l.length : Int) ≤ 32) = false := by rw [decide_eq_false]; omega
    have h2 : (32 : Int) < (l.length : Int) := by omega
    rw [decide_eq_false hle, Bool.false_and]
    clear HCF hle
    go_enter Tryz.func73, Tryz.ntmps73
    go_upto_region 1 with fail
    rw [← hw1, ← hbc]
    clear hw1 hbc
    go_wp2_with fail
    go_ret
    exact ⟨rfl, HB1.out⟩
set_option maxHeartbeats 4000000 in
theorem ev1S (x : ByteArray) (bc : Nat) (q : Bool) (w : World) (hc : Blk w bc 118 #[.func (.func 70) #[] #[]])
    (one : ∀ w', Below w.heap.size w w' → Calls Tryz.prog 70 #[.string x] w' fun e w'' => e = .returned (.bool q) ∧ Below w'.heap.size w' w'') :
    Calls Tryz.prog 122 #[.string x, .pointer (some ⟨bc, 0, none⟩)] w fun e w' => e = .returned (.bool (!q)) ∧ Below w.heap.size w w' := by
  have c0 : w.cell? ⟨bc, 0, none⟩ = some (.func (.func 70) #[] #[]) := hc.cell 0
  have cl : bc < w.heap.size := hc.lt
  have HB := Lib.hid (show ∀ o, Below w.heap.size w (w.alloc o) from fun o => new_b w o)
  have HO := Lib.hid one
  clear hc one
  go_enter Tryz.func122, Tryz.ntmps122
  go_wp2_with (first
    | (go_at_call 70; (with_reducible refine (HO.out _ (Below.refl _ _)).mono ?_); rintro e w1 ⟨rfl, HBc⟩; have HB2 := Lib.hid (below_t' (Below.refl _ _) HBc); clear HBc)
    | fail)
  go_ret
  exact ⟨rfl, HB2.out⟩
set_option maxHeartbeats 4000000 in
theorem everyS_any (W0 : World) (l : List ByteArray) (vl : Value) (hl : LIn strK anyB W0 l vl) (Q : ByteArray → Bool) (w : World) (hB : Below W0.heap.size W0 w)
    (one : ∀ x ∈ l, ∀ (r : strK.R) (w' : World), strK.holds anyB W0 x r → Below w.heap.size w w' → Calls Tryz.prog 70 #[.string x] w' fun e w'' => e = .returned (.bool (Q x)) ∧ Below w'.heap.size w' w'') :
    Calls Tryz.prog 75 #[vl, .int .i64 32, .func (.func 70) #[] #[]] w fun e w' => e = .returned (.bool (decide (l.length ≤ 32) && l.all Q)) ∧ Below w.heap.size w w' := by
  obtain ⟨a, c, hv⟩ := hl.form
  have hn := hl.bound
  obtain ⟨bc, hbc⟩ : ∃ bc, bc = w.heap.size := ⟨_, rfl⟩
  obtain ⟨w1, hw1⟩ : ∃ w1, w1 = w.alloc (.cells #[.func (.func 70) #[] #[]] 118) := ⟨_, rfl⟩
  have hb1 : Below w.heap.size w w1 := by rw [hw1]; exact new_b _ _
  have hx : Blk w1 bc 118 #[.func (.func 70) #[] #[]] := by rw [hw1, hbc]; exact Blk.new _ _ _
  have HCF := Lib.hid (show Calls Tryz.prog 121 #[vl, .func (.func 122) #[] #[.pointer (some ⟨bc, 0, none⟩)]] w1 fun e w' => e = .returned (.bool (!(l.all Q))) ∧ Below w1.heap.size w1 w' from by
    have := cfS_every1S W0 l vl hl bc (fun x => !(Q x)) w1 (hB.trans (hb1.mono hB.size)) (fun x hx' r w' hh hw' => ev1S x bc (Q x) w' (hx.below hw' hx.lt) (fun w'' h2 => one x hx' r w'' hh (below_t' hb1 (below_t' hw' h2))))
    rw [show (l.any fun x => !(Q x)) = !(l.all Q) from by rw [List.not_all_eq_any_not]] at this
    exact this)
  have HB1 := Lib.hid hb1
  clear hl one hB hx hb1
  subst hv
  by_cases hle : l.length ≤ 32
  · have h1 : decide ((l.length : Int) ≤ 32) = true := by rw [decide_eq_true]; omega
    have h2 : (l.length : Int) ≤ 32 := by omega
    rw [decide_eq_true hle, Bool.true_and]
    obtain ⟨qa, hqa⟩ : ∃ qa, qa = l.all Q := ⟨_, rfl⟩
    rw [← hqa] at HCF ⊢
    clear hqa hle
    go_enter Tryz.func75, Tryz.ntmps75
    go_upto_region 1 with fail
    rw [← hw1, ← hbc]
    clear hw1 hbc
    go_wp2_with (first
      | (go_at_call 121; (with_reducible refine HCF.out.mono ?_); rintro e w2 ⟨rfl, HBc⟩; have HB2 := Lib.hid (below_t' HB1.out HBc); clear HBc)
      | fail)
    go_ret
    exact ⟨by simp, HB2.out⟩
  · have h1 : decide ((l.length : Int) ≤ 32) = false := by rw [decide_eq_false]; omega
    have h2 : (32 : Int) < (l.length : Int) := by omega
    rw [decide_eq_false hle, Bool.false_and]
    clear HCF hle
    go_enter Tryz.func75, Tryz.ntmps75
    go_upto_region 1 with fail
    rw [← hw1, ← hbc]
    clear hw1 hbc
    go_wp2_with fail
    go_ret
    exact ⟨rfl, HB1.out⟩
set_option maxHeartbeats 4000000 in
theorem ev1R (x : RichD) (rv : Value) (bc : Nat) (bw : Nat) (q : Bool) (w : World) (hform : ∃ a c, rv = .slice a x.n c) (hc : Blk w bc 129 #[.func (.func 78) #[] #[.pointer (some ⟨bw, 0, none⟩)]])
    (one : ∀ w', Below w.heap.size w w' → Calls Tryz.prog 78 #[x.val rv, .pointer (some ⟨bw, 0, none⟩)] w' fun e w'' => e = .returned (.bool q) ∧ Below w'.heap.size w' w'') :
    Calls Tryz.prog 125 #[x.val rv, .pointer (some ⟨bc, 0, none⟩)] w fun e w' => e = .returned (.bool (!q)) ∧ Below w.heap.size w w' := by
  obtain ⟨ra, rc, rfl⟩ := hform
  have c0 : w.cell? ⟨bc, 0, none⟩ = some (.func (.func 78) #[] #[.pointer (some ⟨bw, 0, none⟩)]) := hc.cell 0
  have cl : bc < w.heap.size := hc.lt
  have HB := Lib.hid (show ∀ o, Below w.heap.size w (w.alloc o) from fun o => new_b w o)
  have HO := Lib.hid one
  clear hc one
  unfold RichD.val richV
  go_enter Tryz.func125, Tryz.ntmps125
  go_wp2_with (first
    | (go_at_call 78; (with_reducible refine (HO.out _ (new_b _ _)).mono ?_); rintro e w1 ⟨rfl, HBc⟩; have HB2 := Lib.hid (below_t' (new_b _ _) HBc); clear HBc)
    | fail)
  go_ret
  exact ⟨rfl, HB2.out⟩
set_option maxHeartbeats 4000000 in
theorem everyR_any (W0 : World) (l : List RichD) (vl : Value) (hl : LIn richK anyB W0 l vl) (bw : Nat) (Q : RichD → Bool) (w : World) (hB : Below W0.heap.size W0 w)
    (one : ∀ x ∈ l, ∀ (r : richK.R) (w' : World), richK.holds anyB W0 x r → Below w.heap.size w w' → Calls Tryz.prog 78 #[x.val r, .pointer (some ⟨bw, 0, none⟩)] w' fun e w'' => e = .returned (.bool (Q x)) ∧ Below w'.heap.size w' w'') :
    Calls Tryz.prog 77 #[vl, .int .i64 32, .func (.func 78) #[] #[.pointer (some ⟨bw, 0, none⟩)]] w fun e w' => e = .returned (.bool (decide (l.length ≤ 32) && l.all Q)) ∧ Below w.heap.size w w' := by
  obtain ⟨a, c, hv⟩ := hl.form
  have hn := hl.bound
  obtain ⟨bc, hbc⟩ : ∃ bc, bc = w.heap.size := ⟨_, rfl⟩
  obtain ⟨w1, hw1⟩ : ∃ w1, w1 = w.alloc (.cells #[.func (.func 78) #[] #[.pointer (some ⟨bw, 0, none⟩)]] 129) := ⟨_, rfl⟩
  have hb1 : Below w.heap.size w w1 := by rw [hw1]; exact new_b _ _
  have hx : Blk w1 bc 129 #[.func (.func 78) #[] #[.pointer (some ⟨bw, 0, none⟩)]] := by rw [hw1, hbc]; exact Blk.new _ _ _
  have HCF := Lib.hid (show Calls Tryz.prog 124 #[vl, .func (.func 125) #[] #[.pointer (some ⟨bc, 0, none⟩)]] w1 fun e w' => e = .returned (.bool (!(l.all Q))) ∧ Below w1.heap.size w1 w' from by
    have := cfR_every1R W0 l vl hl bc (fun x => !(Q x)) w1 (hB.trans (hb1.mono hB.size)) (fun x hx' r w' hh hw' => ev1R x r bc bw (Q x) w' (ArgsP.is hh).form (hx.below hw' hx.lt) (fun w'' h2 => one x hx' r w'' hh (below_t' hb1 (below_t' hw' h2))))
    rw [show (l.any fun x => !(Q x)) = !(l.all Q) from by rw [List.not_all_eq_any_not]] at this
    exact this)
  have HB1 := Lib.hid hb1
  clear hl one hB hx hb1
  subst hv
  by_cases hle : l.length ≤ 32
  · have h1 : decide ((l.length : Int) ≤ 32) = true := by rw [decide_eq_true]; omega
    have h2 : (l.length : Int) ≤ 32 := by omega
    rw [decide_eq_true hle, Bool.true_and]
    obtain ⟨qa, hqa⟩ : ∃ qa, qa = l.all Q := ⟨_, rfl⟩
    rw [← hqa] at HCF ⊢
    clear hqa hle
    go_enter Tryz.func77, Tryz.ntmps77
    go_upto_region 1 with fail
    rw [← hw1, ← hbc]
    clear hw1 hbc
    go_wp2_with (first
      | (go_at_call 124; (with_reducible refine HCF.out.mono ?_); rintro e w2 ⟨rfl, HBc⟩; have HB2 := Lib.hid (below_t' HB1.out HBc); clear HBc)
      | fail)
    go_ret
    exact ⟨by simp, HB2.out⟩
  · have h1 : decide ((l.length : Int) ≤ 32) = false := by rw [decide_eq_false]; omega
    have h2 : (32 : Int) < (l.length : Int) := by omega
    rw [decide_eq_false hle, Bool.false_and]
    clear HCF hle
    go_enter Tryz.func77, Tryz.ntmps77
    go_upto_region 1 with fail
    rw [← hw1, ← hbc]
    clear hw1 hbc
    go_wp2_with fail
    go_ret
    exact ⟨rfl, HB1.out⟩
end Go.Proofs.YtdpjjnbelgaagaaGreatDoor

namespace Go.Proofs.YtdpjjnbelgaagaaGreatDoor
open Go.ChangeShapes Go.WideShapes Go.ChangeAt Go.RowKit Go.Deep
set_option maxRecDepth 100000

end Go.Proofs.YtdpjjnbelgaagaaGreatDoor

namespace Go.Proofs.YtdpjjnbelgaagaaGreatDoor
open Go.ChangeShapes Go.WideShapes Go.ChangeAt Go.RowKit Go.Deep
set_option maxRecDepth 100000

end Go.Proofs.YtdpjjnbelgaagaaGreatDoor

namespace Go.Proofs.YtdpjjnbelgaagaaGreatDoor
open Go.ChangeShapes Go.WideShapes Go.ChangeAt Go.RowKit
set_option maxRecDepth 100000

def archS (a : Int) : ByteArray := if a = 1 then ⟨#[110, 111, 97, 114, 99, 104]⟩ else if a = 2 then ⟨#[120, 56, 54, 95, 54, 52]⟩ else if a = 3 then ⟨#[105, 54, 56, 54]⟩ else if a = 4 then ⟨#[97, 97, 114, 99, 104, 54, 52]⟩ else ⟨#[]⟩
theorem arch_four {a : Int} (h : archE a = true) : a = 1 ∨ a = 2 ∨ a = 3 ∨ a = 4 := by
  unfold archE at h
  simp only [Bool.and_eq_true, decide_eq_true_eq] at h
  omega
theorem arch_not {a : Int} (h : archE a = false) : ¬ a = 1 ∧ ¬ a = 2 ∧ ¬ a = 3 ∧ ¬ a = 4 := by
  unfold archE at h
  rw [Bool.and_eq_false_iff, decide_eq_false_iff_not, decide_eq_false_iff_not] at h
  omega
theorem arch_list (a : Int) : (archS a).toList.isEmpty = !archE a := by
  cases h : archE a with
  | true => rcases arch_four h with rfl | rfl | rfl | rfl <;> decide +kernel
  | false =>
    obtain ⟨h1, h2, h3, h4⟩ := arch_not h
    unfold archS
    rw [if_neg h1, if_neg h2, if_neg h3, if_neg h4]
    decide +kernel
theorem ais_any (a : Int) (w : World) : Calls Tryz.prog 116 #[.int .u8 a] w fun e w' => e = .returned (.bool (archE a)) ∧ w = w' := by
  by_cases h1 : 1 ≤ a
  · go_enter Tryz.func116, Tryz.ntmps116
    go_wp2
    go_ret
    exact ⟨by simp [archE, h1], rfl⟩
  · go_enter Tryz.func116, Tryz.ntmps116
    go_wp2
    go_ret
    exact ⟨by simp [archE]; omega, rfl⟩
def namesV : Value := .agg #[.string ⟨#[]⟩, .string ⟨#[110, 111, 97, 114, 99, 104]⟩, .string ⟨#[120, 56, 54, 95, 54, 52]⟩, .string ⟨#[105, 54, 56, 54]⟩, .string ⟨#[97, 97, 114, 99, 104, 54, 52]⟩]
theorem anames_any (w : World) : Calls Tryz.prog 117 #[] w fun e w' => e = .returned namesV ∧ Below w.heap.size w w' := by
  go_enter Tryz.func117, Tryz.ntmps117
  go_wp2
  exact bodyPost_ret (v := namesV) (by simp [results, Tryz.results117, go_sem, namesV]) rfl ⟨rfl, (Below.refl _ _).alloc (Nat.le_refl _) _⟩
theorem names_1 (w : World) : (Instr.index 158 namesV (.int .u8 1)).run Tryz.prog w = .ok (.string ⟨#[110, 111, 97, 114, 99, 104]⟩) w := by kernel_rfl
theorem names_2 (w : World) : (Instr.index 158 namesV (.int .u8 2)).run Tryz.prog w = .ok (.string ⟨#[120, 56, 54, 95, 54, 52]⟩) w := by kernel_rfl
theorem names_3 (w : World) : (Instr.index 158 namesV (.int .u8 3)).run Tryz.prog w = .ok (.string ⟨#[105, 54, 56, 54]⟩) w := by kernel_rfl
theorem names_4 (w : World) : (Instr.index 158 namesV (.int .u8 4)).run Tryz.prog w = .ok (.string ⟨#[97, 97, 114, 99, 104, 54, 52]⟩) w := by kernel_rfl
theorem names_at (a : Int) (h : archE a = true) (w : World) : (Instr.index 158 namesV (.int .u8 a)).run Tryz.prog w = .ok (.string (archS a)) w := by
  rcases arch_four h with rfl | rfl | rfl | rfl
  · exact names_1 w
  · exact names_2 w
  · exact names_3 w
  · exact names_4 w
theorem aname_any (a : Int) (w : World) : Calls Tryz.prog 72 #[.int .u8 a] w fun e w' => e = .returned (.string (archS a)) ∧ Below w.heap.size w w' := by
  have HI := Lib.hid (ais_any a)
  cases h : archE a with
  | false =>
    obtain ⟨h1, h2, h3, h4⟩ := arch_not h
    have hs : archS a = ⟨#[]⟩ := by
      unfold archS
      rw [if_neg h1, if_neg h2, if_neg h3, if_neg h4]
    rw [hs]
    rw [h] at HI
    clear h1 h2 h3 h4 hs h
    go_enter Tryz.func72, Tryz.ntmps72
    go_wp2_with (go_at_call 116; refine (HI.out _).mono ?_; rintro e w' ⟨rfl, rfl⟩)
    go_ret
    exact ⟨rfl, Below.refl _ _⟩
  | true =>
    have hi := names_at a h
    rw [h] at HI
    clear h
    go_enter Tryz.func72, Tryz.ntmps72
    go_wp2_with (first | (go_at_call 116; refine (HI.out _).mono ?_; rintro e w' ⟨rfl, rfl⟩) | (go_at_call 117; refine (anames_any _).mono ?_; rintro e w1 ⟨rfl, hg⟩))
    go_wp2
    go_ret
    exact ⟨rfl, hg⟩
end Go.Proofs.YtdpjjnbelgaagaaGreatDoor

namespace Go.Proofs.YtdpjjnbelgaagaaGreatDoor
open Go.ChangeShapes Go.WideShapes Go.ChangeAt Go.RowKit Go.Deep Go.Shelf
set_option maxRecDepth 100000
attribute [local go_sem] Oper.semAt_some

abbrev pkgA (p : PkgD) (r : PkgR) : Array Value := #[.string p.name, .int .i64 p.ep, .string p.ver, .string p.rel, .int .u8 p.arch, .string p.vendor, r.prov, r.req, r.con, r.obs, r.reco, r.sup, r.sug, r.enh, r.files]
/-- What the lists are told as: where, and which. -/
structure PL (W0 : World) where
  wh : Int
  v : Value
  y : RichD
  hw : 0 ≤ wh ∧ wh < 256
  hl : LIn richK anyB W0 (argL y) v
  hc : ∀ x ∈ argL y, x.count ≤ 4611686018427387904
abbrev encPL {W0 : World} (x : PL W0) : Array Value := #[.int .u8 x.wh, x.v]
/-- What a round hands on, and what the next one is handed. -/
def LGo {W0 : World} (l m Bb : Nat) (p : PkgD) (r : PkgR) (J Jx : List (PL W0) → World → Prop) (pre : List (PL W0)) (x : PL W0) (wh : Int) (v : Value) (W : World) : Prop :=
  ∃ fn tmps assign body, (Instr.yield l #[.int .u8 wh, v]).run Tryz.prog W = .ok (.round l fn tmps assign body) W ∧ Hid (RoundIn Fence.wide m Tryz.prog l fn tmps assign body W fun e W' =>
    (e = .returned (.bool true) ∧ Hid (J (pre ++ [x]) W' ∧ Blk W' Bb 29 (pkgA p r))) ∨ (e = .returned (.bool false) ∧ Hid (Jx (pre ++ [x]) W')))
set_option maxHeartbeats 4000000 in
theorem lists1_in (W0 : World) (l Bb B n : Nat) (hBb : Bb ≠ B) (J Jx : List (PL W0) → World → Prop) (p : PkgD) (r : PkgR) (x1 x2 x3 x4 x5 x6 : PL W0) (hx1 : x1.wh = 1 ∧ x1.v = r.req) (hx2 : x2.wh = 2 ∧ x2.v = r.con) (hx3 : x3.wh = 1 ∧ x3.v = r.reco) (hx4 : x4.wh = 3 ∧ x4.v = r.sup) (hx5 : x5.wh = 1 ∧ x5.v = r.sug) (hx6 : x6.wh = 3 ∧ x6.v = r.enh)
    (hY : ∀ m pre x W, J pre W → pre.length < 6 → YieldAt Fence.wide m Tryz.prog l (encPL x) W fun e W' =>
      (e = .returned (.bool true) ∧ J (pre ++ [x]) W' ∧ Kp B W0.heap.size W W') ∨ (e = .returned (.bool false) ∧ Jx (pre ++ [x]) W'))
    (W : World) (hcb : Blk W Bb 29 (pkgA p r)) (h0 : J [] W) :
    CallsIn Fence.wide n Tryz.prog 123 #[.func (.yield l) #[] #[], .pointer (some ⟨Bb, 0, none⟩)] W fun e W' => (∃ v, e = .returned v) ∧
      ((∃ ys : List (PL W0), ys = [x1, x2, x3, x4, x5, x6] ∧ J ys W') ∨ (∃ ys : List (PL W0), ys <+: [x1, x2, x3, x4, x5, x6] ∧ Jx ys W')) := by
  have hdd : ∀ k : Nat, (Fence.wide.depth.isSome = true → 1 ≤ k) := fun k h => by cases h
  have HS := Lib.hid (show ∀ (pre : List (PL W0)) (x : PL W0) (wh : Int) (v : Value) (W : World), x.wh = wh ∧ x.v = v → pre.length < 6 → Hid (J pre W ∧ Blk W Bb 29 (pkgA p r)) → LGo l (n - 1) Bb p r J Jx pre x wh v W from fun pre x wh v W hx hl h => by
    obtain ⟨rfl, rfl⟩ := hx
    obtain ⟨fn, tmps, assign, body, hy, hR⟩ := hY (n - 1) pre x W h.out.1 hl
    refine ⟨fn, tmps, assign, body, hy, Lib.hid (hR.mono fun e W' h2 => h2.elim (fun ⟨he, hj, hk⟩ => .inl ⟨he, Lib.hid ⟨hj, hk.kc.blk hBb h.out.2 rfl⟩⟩) (fun ⟨he, hj⟩ => .inr ⟨he, Lib.hid hj⟩))⟩)
  have HC := Lib.hid (show ∀ (pre : List (PL W0)) (W : World) (i : Nat), Hid (J pre W ∧ Blk W Bb 29 (pkgA p r)) → W.cell? ⟨Bb, i, none⟩ = (pkgA p r)[i]? from fun pre W i h => h.out.2.cell i)
  have c5 : W.cell? ⟨Bb, 7, none⟩ = some r.req := hcb.cell 7
  have HJ0 := Lib.hid (show J [] W ∧ Blk W Bb 29 (pkgA p r) from ⟨h0, hcb⟩)
  obtain ⟨fn1, tmps1, assign1, body1, hy1, hR1⟩ := HS.out [] x1 1 r.req W hx1 (by simp) HJ0
  have HX := Lib.hid (show (x2.wh = 2 ∧ x2.v = r.con) ∧ (x3.wh = 1 ∧ x3.v = r.reco) ∧ (x4.wh = 3 ∧ x4.v = r.sup) ∧ (x5.wh = 1 ∧ x5.v = r.sug) ∧ (x6.wh = 3 ∧ x6.v = r.enh) from ⟨hx2, hx3, hx4, hx5, hx6⟩)
  clear hY h0 hcb hx1 hx2 hx3 hx4 hx5 hx6
  refine callsIn_of_wp Tryz.func123 rfl trivial ?_ rfl
  simp only [Tryz.ntmps123, List.size_toArray, List.length_cons, List.length_nil, Nat.reduceAdd, Nat.reduceSub, Array.replicate_succ, Array.replicate_zero, List.push_toArray, List.append_toArray, List.nil_append, List.cons_append]
  gi_wp2_with fail
  (try refine ⟨fun f h => (by cases h), ?_⟩)
  (try refine ⟨hdd _, ?_⟩)
  refine hR1.out.mono ?_
  clear hR1
  rintro e W1 (⟨rfl, HJ1⟩ | ⟨rfl, HX1⟩)
  rotate_left
  · gi_wp2
    iterate 6 ((try refine ⟨fun f h => (by cases h), ?_⟩); (try gi_wp2))
    go_end0
    exact ⟨⟨_, rfl⟩, .inr ⟨_, ⟨_, rfl⟩, HX1.out⟩⟩
  obtain ⟨fn2, tmps2, assign2, body2, hy2, hR2⟩ := HS.out ([] ++ [x1]) x2 2 r.con W1 HX.out.1 (by simp) HJ1
  have c8 : W1.cell? ⟨Bb, 8, none⟩ = some r.con := HC.out _ W1 8 HJ1
  clear hy1 c5
  gi_wp2_with fail
  (try refine ⟨fun f h => (by cases h), ?_⟩)
  (try refine ⟨hdd _, ?_⟩)
  refine hR2.out.mono ?_
  clear hR2
  rintro e W2 (⟨rfl, HJ2⟩ | ⟨rfl, HX2⟩)
  rotate_left
  · gi_wp2
    iterate 5 ((try refine ⟨fun f h => (by cases h), ?_⟩); (try gi_wp2))
    go_end0
    exact ⟨⟨_, rfl⟩, .inr ⟨_, ⟨_, rfl⟩, HX2.out⟩⟩
  obtain ⟨fn3, tmps3, assign3, body3, hy3, hR3⟩ := HS.out ([] ++ [x1] ++ [x2]) x3 1 r.reco W2 HX.out.2.1 (by simp) HJ2
  have c10 : W2.cell? ⟨Bb, 10, none⟩ = some r.reco := HC.out _ W2 10 HJ2
  clear hy2 c8
  gi_wp2_with fail
  (try refine ⟨fun f h => (by cases h), ?_⟩)
  (try refine ⟨hdd _, ?_⟩)
  refine hR3.out.mono ?_
  clear hR3
  rintro e W3 (⟨rfl, HJ3⟩ | ⟨rfl, HX3⟩)
  rotate_left
  · gi_wp2
    iterate 4 ((try refine ⟨fun f h => (by cases h), ?_⟩); (try gi_wp2))
    go_end0
    exact ⟨⟨_, rfl⟩, .inr ⟨_, ⟨_, rfl⟩, HX3.out⟩⟩
  obtain ⟨fn4, tmps4, assign4, body4, hy4, hR4⟩ := HS.out ([] ++ [x1] ++ [x2] ++ [x3]) x4 3 r.sup W3 HX.out.2.2.1 (by simp) HJ3
  have c11 : W3.cell? ⟨Bb, 11, none⟩ = some r.sup := HC.out _ W3 11 HJ3
  clear hy3 c10
  gi_wp2_with fail
  (try refine ⟨fun f h => (by cases h), ?_⟩)
  (try refine ⟨hdd _, ?_⟩)
  refine hR4.out.mono ?_
  clear hR4
  rintro e W4 (⟨rfl, HJ4⟩ | ⟨rfl, HX4⟩)
  rotate_left
  · gi_wp2
    iterate 3 ((try refine ⟨fun f h => (by cases h), ?_⟩); (try gi_wp2))
    go_end0
    exact ⟨⟨_, rfl⟩, .inr ⟨_, ⟨_, rfl⟩, HX4.out⟩⟩
  obtain ⟨fn5, tmps5, assign5, body5, hy5, hR5⟩ := HS.out ([] ++ [x1] ++ [x2] ++ [x3] ++ [x4]) x5 1 r.sug W4 HX.out.2.2.2.1 (by simp) HJ4
  have c12 : W4.cell? ⟨Bb, 12, none⟩ = some r.sug := HC.out _ W4 12 HJ4
  clear hy4 c11
  gi_wp2_with fail
  (try refine ⟨fun f h => (by cases h), ?_⟩)
  (try refine ⟨hdd _, ?_⟩)
  refine hR5.out.mono ?_
  clear hR5
  rintro e W5 (⟨rfl, HJ5⟩ | ⟨rfl, HX5⟩)
  rotate_left
  · gi_wp2
    iterate 2 ((try refine ⟨fun f h => (by cases h), ?_⟩); (try gi_wp2))
    go_end0
    exact ⟨⟨_, rfl⟩, .inr ⟨_, ⟨_, rfl⟩, HX5.out⟩⟩
  obtain ⟨fn6, tmps6, assign6, body6, hy6, hR6⟩ := HS.out ([] ++ [x1] ++ [x2] ++ [x3] ++ [x4] ++ [x5]) x6 3 r.enh W5 HX.out.2.2.2.2 (by simp) HJ5
  have c13 : W5.cell? ⟨Bb, 13, none⟩ = some r.enh := HC.out _ W5 13 HJ5
  clear hy5 c12
  gi_wp2_with fail
  (try refine ⟨fun f h => (by cases h), ?_⟩)
  (try refine ⟨hdd _, ?_⟩)
  refine hR6.out.mono ?_
  clear hR6
  rintro e W6 (⟨rfl, HJ6⟩ | ⟨rfl, HX6⟩)
  rotate_left
  · gi_wp2
    iterate 1 ((try refine ⟨fun f h => (by cases h), ?_⟩); (try gi_wp2))
    go_end0
    exact ⟨⟨_, rfl⟩, .inr ⟨_, ⟨_, rfl⟩, HX6.out⟩⟩
  gi_wp2
  go_end0
  exact ⟨⟨_, rfl⟩, .inl ⟨_, rfl, HJ6.out.1⟩⟩
end Go.Proofs.YtdpjjnbelgaagaaGreatDoor

namespace Go.Proofs.YtdpjjnbelgaagaaGreatDoor
open Go.ChangeShapes Go.WideShapes Go.ChangeAt Go.RowKit Go.Deep Go.Shelf
set_option maxRecDepth 100000

theorem richesE_argL (wh : Int) (r : RichD) : richesE wh r = (decide ((argL r).length ≤ 32) && (argL r).all fun x => decide (mayE x wh = 0)) := by
  unfold richesE
  rw [argL_len]
  refine congrArg _ ?_
  rw [Bool.eq_iff_iff, allN_iff, List.all_eq_true]
  constructor
  · intro h x hx
    obtain ⟨j, hj, rfl⟩ := List.mem_map.1 hx
    exact h j (by simpa using hj)
  · intro h j hj
    exact h _ (List.mem_map.2 ⟨j, List.mem_range.2 hj, rfl⟩)
set_option maxHeartbeats 2000000 in
theorem km1_any (W0 : World) (x : RichD) (r : Value) (bw : Nat) (wh : Int) (hwh : 0 ≤ wh ∧ wh < 256) (w : World) (hs : IsArgs W0 x r) (hB : Below W0.heap.size W0 w) (hc : x.count ≤ 4611686018427387904) (hW : Words w) (hO : Ops w) (hb : Blk w bw 5 #[.int .u8 wh]) :
    Calls Tryz.prog 78 #[x.val r, .pointer (some ⟨bw, 0, none⟩)] w fun e w' => e = .returned (.bool (decide (mayE x wh = 0))) ∧ Below w.heap.size w w' := by
  obtain ⟨ra, rc, rfl⟩ := hs.form
  have c0 : w.cell? ⟨bw, 0, none⟩ = some (.int .u8 wh) := hb.cell 0
  have cl : bw < w.heap.size := hb.lt
  have hnb := new_b w (richObj x (.slice ra x.n rc))
  have HB1 := Lib.hid hnb
  have HM := Lib.hid (may_any W0 x _ hs (w.alloc (richObj x (.slice ra x.n rc))) (hB.trans (hnb.mono hB.size)) hc wh hwh (hW.below hnb) (hO.below hnb))
  obtain ⟨m, hm⟩ : ∃ m, m = mayE x wh := ⟨_, rfl⟩
  rw [← hm] at HM ⊢
  clear hs hB hc hW hO hb hnb hm
  by_cases h0 : m = 0
  · subst h0
    unfold RichD.val richV
    go_enter Tryz.func78, Tryz.ntmps78
    go_wp2_with (first
      | (go_at_call 79; (with_reducible refine HM.out.mono ?_); rintro e w2 ⟨rfl, HBc⟩; have HB2 := Lib.hid (below_t' HB1.out HBc); clear HBc)
      | fail)
    go_ret
    exact ⟨rfl, HB2.out⟩
  · have hd : (m == 0) = false := by simpa using h0
    rw [decide_eq_false h0]
    unfold RichD.val richV
    go_enter Tryz.func78, Tryz.ntmps78
    go_wp2_with (first
      | (go_at_call 79; (with_reducible refine HM.out.mono ?_); rintro e w2 ⟨rfl, HBc⟩; have HB2 := Lib.hid (below_t' HB1.out HBc); clear HBc)
      | fail)
    go_ret
    exact ⟨rfl, HB2.out⟩
/-- Every one of a list may be at a place. -/
theorem everyR_may (W0 : World) (r : RichD) (vl : Value) (hl : LIn richK anyB W0 (argL r) vl) (hc : ∀ x ∈ argL r, x.count ≤ 4611686018427387904) (bw : Nat) (wh : Int) (hwh : 0 ≤ wh ∧ wh < 256) (w : World) (hB : Below W0.heap.size W0 w) (hW : Words w) (hO : Ops w) (hb : Blk w bw 5 #[.int .u8 wh]) :
    Calls Tryz.prog 77 #[vl, .int .i64 32, .func (.func 78) #[] #[.pointer (some ⟨bw, 0, none⟩)]] w fun e w' => e = .returned (.bool (richesE wh r)) ∧ Below w.heap.size w w' := by
  rw [richesE_argL]
  exact everyR_any W0 (argL r) vl hl bw (fun x => decide (mayE x wh = 0)) w hB fun x hx s w' hh hw' =>
    km1_any W0 x s bw wh hwh w' (ArgsP.is hh) (hB.trans (hw'.mono hB.size)) (hc x hx) (hW.below hw') (hO.below hw') (hb.below hw' hb.lt)
theorem everyD_may (W0 : World) (l : List DepD) (vl : Value) (hl : LIn depK anyB W0 l vl) (w : World) (hB : Below W0.heap.size W0 w) (hW : Words w) (hO : Ops w) :
    Calls Tryz.prog 73 #[vl, .int .i64 32, .func (.func 74) #[] #[]] w fun e w' => e = .returned (.bool (depsE l)) ∧ Below w.heap.size w w' :=
  everyD_any W0 l vl hl depE w hB fun x _ _ w' hh hw' => depmay_any x w' hh.1 (hW.below hw') (hO.below hw')
theorem everyS_may (W0 : World) (l : List ByteArray) (vl : Value) (hl : LIn strK anyB W0 l vl) (w : World) (hB : Below W0.heap.size W0 w) (hW : Words w) :
    Calls Tryz.prog 75 #[vl, .int .i64 32, .func (.func 70) #[] #[]] w fun e w' => e = .returned (.bool (filesE l)) ∧ Below w.heap.size w w' :=
  everyS_any W0 l vl hl fileE w hB fun x _ _ w' hh hw' => file_any x w' hh (hW.below hw')
theorem rowE_cons (a b : ByteArray) (l : List ByteArray) : rowE (a :: b :: l) = (ltB a b && rowE (b :: l)) := rfl
theorem rowE_iff : (l : List ByteArray) → (rowE l = true ↔ ∀ i (h : i + 1 < l.length), ltB l[i] l[i + 1] = true)
  | [] => ⟨fun _ i h => absurd h (by simp), fun _ => rfl⟩
  | [a] => ⟨fun _ i h => absurd h (by simp), fun _ => rfl⟩
  | a :: b :: l => by
    rw [rowE_cons, Bool.and_eq_true, rowE_iff (b :: l)]
    constructor
    · rintro ⟨h1, h2⟩ i h
      cases i with
      | zero => exact h1
      | succ i => exact h2 i (by simpa using h)
    · exact fun h => ⟨h 0 (by simp), fun i hi => h (i + 1) (by simpa using hi)⟩
/-- The first k are in their row. -/
def rowK (l : List ByteArray) (k : Nat) : Prop := ∀ i (h : i + 1 < l.length), i + 1 < k → ltB l[i] l[i + 1] = true
theorem klists_any (p : PkgD) (r : PkgR) (w : World) (hf : PkgIn anyB w p r) : Calls Tryz.prog 76 #[p.val r] w fun e w' => e = .returned (.func (.func 123) #[] #[.pointer (some ⟨w.heap.size, 0, none⟩)]) ∧ w' = w.alloc (.cells (pkgA p r) 29) := by
  rcases r with ⟨r1, r2, r3, r4, r5, r6, r7, r8, r9⟩
  obtain ⟨a1, q1, (rfl : r1 = _)⟩ := hf.prov.form
  obtain ⟨a2, q2, (rfl : r2 = _)⟩ := hf.req.form
  obtain ⟨a3, q3, (rfl : r3 = _)⟩ := hf.con.form
  obtain ⟨a4, q4, (rfl : r4 = _)⟩ := hf.obs.form
  obtain ⟨a5, q5, (rfl : r5 = _)⟩ := hf.reco.form
  obtain ⟨a6, q6, (rfl : r6 = _)⟩ := hf.sup.form
  obtain ⟨a7, q7, (rfl : r7 = _)⟩ := hf.sug.form
  obtain ⟨a8, q8, (rfl : r8 = _)⟩ := hf.enh.form
  obtain ⟨a9, q9, (rfl : r9 = _)⟩ := hf.files.form
  clear hf
  unfold PkgD.val
  go_enter Tryz.func76, Tryz.ntmps76
  go_wp2_with fail
  go_ret
  exact ⟨rfl, rfl⟩
theorem lists_stops (W0 w1 : World) (Bb B n : Nat) (hBb : Bb ≠ B) (p : PkgD) (r : PkgR) (hcb : Blk w1 Bb 29 (pkgA p r)) (x1 x2 x3 x4 x5 x6 : PL W0) (hx1 : x1.wh = 1 ∧ x1.v = r.req) (hx2 : x2.wh = 2 ∧ x2.v = r.con) (hx3 : x3.wh = 1 ∧ x3.v = r.reco) (hx4 : x4.wh = 3 ∧ x4.v = r.sup) (hx5 : x5.wh = 1 ∧ x5.v = r.sug) (hx6 : x6.wh = 3 ∧ x6.v = r.enh) :
    SeqStopsK Fence.wide n Tryz.prog 123 #[.pointer (some ⟨Bb, 0, none⟩)] encPL (Kp B W0.heap.size) (fun ys => ys = [x1, x2, x3, x4, x5, x6]) (fun ys => ys <+: [x1, x2, x3, x4, x5, x6]) 6 w1 := fun l J Jx W hb _ _ hY h0 =>
  lists1_in W0 l Bb B n hBb J Jx p r x1 x2 x3 x4 x5 x6 hx1 hx2 hx3 hx4 hx5 hx6 (fun m pre x A h1 h2 => yield_any rfl m (hY pre x A h1 h2)) W (hcb.below hb hcb.lt) h0
end Go.Proofs.YtdpjjnbelgaagaaGreatDoor
