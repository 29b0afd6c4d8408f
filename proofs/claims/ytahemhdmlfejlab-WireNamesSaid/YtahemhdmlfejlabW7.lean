/- Contracts of the reference's writer; the steps of a statement. -/
import Derived.Test.YtahemhdmlfejlabW6
namespace Go.Proofs.Ytahemhdmlfejlab
set_option maxRecDepth 100000
open Go.ChangeShapes Go.WideShapes Go.ChangeAt Go.RowKit

theorem refText_any (s : ByteArray) (w : World) (hs : s.size ≤ 140737488351232) : Calls Try.prog 28 #[.string s] w fun e w' => e = .returned (.string ⟨(numL s.size ++ s.data.toList).toArray⟩) ∧ Below w.heap.size w w' := by
  have hsz := numL_9 s.size (by omega)
  have hr := refNum_any s.size s.size w (Nat.le_refl _) (by omega)
  have HR := Lib.hid hr
  clear hr
  go_enter Try.func28, Try.ntmps28
  go_wp2_with fail
  refine HR.out.mono ?_
  rintro e w1 ⟨rfl, hb1⟩
  go_wp2_with fail
  go_ret
  refine ⟨congrArg (fun s => Ending.returned (.string s)) ?_, hb1⟩
  have : s = ⟨s.data.toList.toArray⟩ := by simp
  show (⟨(numL s.size).toArray⟩ : ByteArray) ++ s = _
  conv => lhs; rw [this]
  exact ByteArray.mk_append_mk _ _

structure IsX (w : World) (g : Nat) (bs : List UInt8) : Prop where
  blk : Blk w g 28 #[.string ⟨bs.toArray⟩]
  le : bs.length ≤ 4194304

theorem IsX.touch {w w' : World} {g : Nat} {bs : List UInt8} {F : Nat → Prop} (h : IsX w g bs) (hb : Touch F w w') (h1 : ¬ F g) : IsX w' g bs := ⟨h.blk.touch hb h1, h.le⟩

theorem refPut_any (g : Nat) (bs s : List UInt8) (w : World) (hX : IsX w g bs) (hs : s.length ≤ 281474976710656) : Calls Try.prog 26 #[.pointer (some ⟨g, 0, none⟩), .string ⟨s.toArray⟩] w fun e w' => e = .returned (.int .i64 (putE bs s)) ∧ IsX w' g (putB bs s) ∧ Touch (· = g) w w' := by
  have hc := hX.blk.cell 0
  have hf := hX.blk.frozen 0
  have hl := hX.le
  simp at hc
  unfold putE putB
  by_cases h : bs.length + s.length ≤ 4194304
  · rw [if_pos h, if_pos h]
    go_enter Try.func26, Try.ntmps26
    go_wp2_with fail
    go_ret
    refine ⟨rfl, ⟨?_, by rw [List.length_append]; exact h⟩, Touch.setCell (F := fun x => x = g) (Touch.refl _ _) (p := ⟨g, 0, none⟩) (fun _ => rfl) _⟩
    have := hX.blk.set_ 0 (.string (⟨bs.toArray⟩ ++ ⟨s.toArray⟩))
    rw [ByteArray.mk_append_mk] at this
    exact this
  · rw [if_neg h, if_neg h]
    go_enter Try.func26, Try.ntmps26
    go_wp2_with fail
    go_ret
    exact ⟨rfl, hX, Touch.refl _ _⟩

theorem refWNum_neg (g : Nat) (n : Int) (w : World) (hn : n < 0) : Calls Try.prog 10 #[.pointer (some ⟨g, 0, none⟩), .int .i64 n] w fun e w' => e = .returned (.int .i64 1) ∧ w = w' := by
  go_enter Try.func10, Try.ntmps10
  go_wp2_with fail
  go_ret
  exact ⟨rfl, rfl⟩

theorem refWNum_any (g : Nat) (bs : List UInt8) (n : Nat) (w : World) (hn : n ≤ 9223372036854775807) (hX : IsX w g bs) : Calls Try.prog 10 #[.pointer (some ⟨g, 0, none⟩), .int .i64 n] w fun e w' => e = .returned (.int .i64 (putE bs (numL n))) ∧ IsX w' g (putB bs (numL n)) ∧ Touch (· = g) w w' := by
  have hsz := numL_9 n (by omega)
  have hgl := hX.blk.lt
  have HR := Lib.hid (refNum_any n n w (Nat.le_refl _) hn)
  go_enter Try.func10, Try.ntmps10
  go_wp2_with fail
  refine HR.out.mono ?_
  rintro e w1 ⟨rfl, hb1⟩
  have hp := refPut_any g bs (numL n) w1 (hX.touch (Touch.of_below hb1 (fun _ => False)) id) (by omega)
  have HP := Lib.hid hp
  clear hp
  go_wp2_with fail
  refine HP.out.mono ?_
  rintro e w2 ⟨rfl, h1, h2⟩
  go_wp2_with fail
  go_ret
  exact ⟨rfl, h1, (Touch.of_below hb1 _).trans h2 fun x hx e => e⟩

theorem refWText_any (g : Nat) (bs : List UInt8) (s : ByteArray) (w : World) (hs : s.size ≤ 140737488351232) (hX : IsX w g bs) : Calls Try.prog 12 #[.pointer (some ⟨g, 0, none⟩), .string s] w fun e w' => e = .returned (.int .i64 (putE bs (numL s.size ++ s.data.toList))) ∧ IsX w' g (putB bs (numL s.size ++ s.data.toList)) ∧ Touch (· = g) w w' := by
  have hsz := numL_9 s.size (by omega)
  have hgl := hX.blk.lt
  have HR := Lib.hid (refText_any s w hs)
  go_enter Try.func12, Try.ntmps12
  go_wp2_with fail
  refine HR.out.mono ?_
  rintro e w1 ⟨rfl, hb1⟩
  have hl : (numL s.size ++ s.data.toList).length ≤ 281474976710656 := by
    rw [List.length_append]
    have : s.data.toList.length = s.size := by simp
    omega
  have hp := refPut_any g bs (numL s.size ++ s.data.toList) w1 (hX.touch (Touch.of_below hb1 (fun _ => False)) id) hl
  have HP := Lib.hid hp
  clear hp hl
  go_wp2_with fail
  refine HP.out.mono ?_
  rintro e w2 ⟨rfl, h1, h2⟩
  go_wp2_with fail
  go_ret
  exact ⟨rfl, h1, (Touch.of_below hb1 _).trans h2 fun x hx e => e⟩

structure StepD where
  kind : Int
  least : Int
  n : Int
  s : ByteArray
  e : Int

def StepD.wf (x : StepD) : Prop := (0 ≤ x.kind ∧ x.kind ≤ 255) ∧ (-9223372036854775808 ≤ x.least ∧ x.least ≤ 9223372036854775807) ∧ (-9223372036854775808 ≤ x.n ∧ x.n ≤ 9223372036854775807) ∧ x.s.size ≤ 140737488351232 ∧ (-9223372036854775808 ≤ x.e ∧ x.e ≤ 9223372036854775807)

/-- The steps lie at b, from off on, below B. -/
structure IsSteps (w : World) (B : Nat) (ao : Option Addr) (b off : Nat) (l : List StepD) : Prop where
  ptr : 0 < l.length → ao = some ⟨b, off, none⟩ ∧ b < B
  wf : ∀ i (h : i < l.length), l[i].wf
  kind : ∀ i (h : i < l.length), w.cell? ⟨b, off + i * 5, none⟩ = some (.int .u8 l[i].kind)
  least : ∀ i (h : i < l.length), w.cell? ⟨b, off + i * 5 + 1, none⟩ = some (.int .i64 l[i].least)
  n : ∀ i (h : i < l.length), w.cell? ⟨b, off + i * 5 + 2, none⟩ = some (.int .i64 l[i].n)
  s : ∀ i (h : i < l.length), w.cell? ⟨b, off + i * 5 + 3, none⟩ = some (.string l[i].s)
  e : ∀ i (h : i < l.length), w.cell? ⟨b, off + i * 5 + 4, none⟩ = some (.int .i64 l[i].e)

theorem IsSteps.below {w w' : World} {B : Nat} {ao : Option Addr} {b off : Nat} {l : List StepD} (h : IsSteps w B ao b off l) (hb : Below B w w') : IsSteps w' B ao b off l where
  ptr := h.ptr
  wf := h.wf
  kind i hi := (hb.cell (p := ⟨b, off + i * 5, none⟩) (h.ptr (by omega)).2).trans (h.kind i hi)
  least i hi := (hb.cell (p := ⟨b, off + i * 5 + 1, none⟩) (h.ptr (by omega)).2).trans (h.least i hi)
  n i hi := (hb.cell (p := ⟨b, off + i * 5 + 2, none⟩) (h.ptr (by omega)).2).trans (h.n i hi)
  s i hi := (hb.cell (p := ⟨b, off + i * 5 + 3, none⟩) (h.ptr (by omega)).2).trans (h.s i hi)
  e i hi := (hb.cell (p := ⟨b, off + i * 5 + 4, none⟩) (h.ptr (by omega)).2).trans (h.e i hi)

def tot (l : List StepD) : Nat := (l.map fun x => 10 + x.s.size).sum
theorem tot_succ (l : List StepD) (k : Nat) (h : k < l.length) : tot (l.take (k + 1)) = tot (l.take k) + (10 + l[k].s.size) := by
  unfold tot
  rw [List.take_succ_eq_append_getElem h]
  simp only [List.map_append, List.sum_append, List.map_cons, List.map_nil, List.sum_cons, List.sum_nil, Nat.add_zero]
theorem tot_take (l : List StepD) (k : Nat) : tot (l.take k) ≤ tot l := by
  unfold tot
  conv => rhs; rw [← List.take_append_drop k l]
  rw [List.map_append, List.sum_append]
  omega

theorem large_any (ao : Option Addr) (l : List StepD) (cap b off B : Nat) (w : World) (hl : IsSteps w B ao b off l) (hlen : (l.length : Int) ≤ 9223372036854775807) :
    Calls Try.prog 7 #[.slice ao l.length cap] w fun e w' => e = .returned (.bool (decide ((50000 : Int) ≤ tot l))) ∧ w = w' := by
  go_enter Try.func7, Try.ntmps7
  go_wp2_with fail
  go_loop [3, 4] (fun n i => ∃ k : Nat, k ≤ l.length ∧ i = .int .i64 k ∧ n = .int .i64 (tot (l.take k) : Nat) ∧ (tot (l.take k) : Int) ≤ 140737488451232) (fun _ i => l.length - (intOf i).toNat)
  case atStart => exact ⟨0, by omega, rfl, by simp [tot], by simp [tot]⟩
  case round =>
    obtain ⟨k, hk, rfl, rfl, hm⟩ := hrel
    have ht := tot_take l k
    by_cases hlt : k < l.length
    · obtain ⟨rfl, hbB⟩ := hl.ptr (by omega)
      have hc := hl.s k hlt
      have hs := (hl.wf k hlt).2.2.2.1
      have hsucc := tot_succ l k hlt
      have HS := Lib.hid hsucc
      clear hsucc
      generalize tot (l.take k) = m at *
      generalize l[k].s = s at *
      by_cases hm2 : (m : Int) < 50000
      · go_wp2_with fail
        go_round
        case rel => exact ⟨k + 1, by omega, by go_num, by rw [HS.out]; go_num, by rw [HS.out]; omega⟩
        case measure => simp [intOf]; omega
      · have hf : decide ((m : Int) < 50000) = false := by simpa using hm2
        go_wp2_with fail
        go_ret
        have h1 : decide ((50000 : Int) ≤ tot l) = true := by simp only [decide_eq_true_eq]; omega
        have h2 : decide ((50000 : Int) ≤ m) = true := by simp only [decide_eq_true_eq]; omega
        exact ⟨by rw [h1, ← h2]; rfl, rfl⟩
    · obtain rfl : k = l.length := by omega
      rw [List.take_length] at *
      go_wp2_with fail
      go_ret
      exact ⟨rfl, rfl⟩

end Go.Proofs.Ytahemhdmlfejlab
