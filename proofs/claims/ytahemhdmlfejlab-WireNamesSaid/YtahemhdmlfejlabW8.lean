/- WireWrites: the walk. -/
import Derived.Test.YtahemhdmlfejlabW7
namespace Go.Proofs.Ytahemhdmlfejlab
open Go.ChangeShapes Go.WideShapes Go.ChangeAt Go.RowKit
set_option maxRecDepth 100000

theorem IsW.drew {w : World} {g : Nat} {v : Value} {bs : List UInt8} (h : IsW w g v bs) : IsW w.drew g v bs := ⟨h.blk, h.own, h.le⟩
theorem IsX.drew {w : World} {g : Nat} {bs : List UInt8} (h : IsX w g bs) : IsX w.drew g bs := ⟨h.blk, h.le⟩

/-- Both writers, from block B on. -/
structure Both (B : Nat) (w : World) (g gx : Nat) (v : Value) (bs : List UInt8) : Prop where
  hw : IsW w g v bs
  hx : IsX w gx bs
  hg : B ≤ g
  hgx : B ≤ gx
  hv : ∀ k, v.ownBlock = some k → B ≤ k

theorem Both.ne {B : Nat} {w : World} {g gx : Nat} {v : Value} {bs : List UInt8} (h : Both B w g gx v bs) : g ≠ gx ∧ v.ownBlock ≠ some gx := ⟨h.hw.blk.ne_ h.hx.blk (by decide), h.hw.own.ne_blk h.hx.blk (by decide)⟩
theorem Both.drew {B : Nat} {w : World} {g gx : Nat} {v : Value} {bs : List UInt8} (h : Both B w g gx v bs) : Both B w.drew g gx v bs := ⟨h.hw.drew, h.hx.drew, h.hg, h.hgx, h.hv⟩

/-- The writer's step, the other one waits. -/
structure Half (B : Nat) (w : World) (g gx : Nat) (v : Value) (bs bs' : List UInt8) : Prop where
  hw : IsW w g v bs'
  hx : IsX w gx bs
  hg : B ≤ g
  hgx : B ≤ gx
  hv : ∀ k, v.ownBlock = some k → B ≤ k
  hne : v.ownBlock ≠ some gx

theorem step_w {B : Nat} {w w' : World} {g gx : Nat} {v v' : Value} {bs bs' : List UInt8} (h : Both B w g gx v bs) (hB : B ≤ w.heap.size) (h1 : IsW w' g v' bs') (h2 : WStep g w v w' v') : Half B w' g gx v' bs bs' ∧ Below B w w' := by
  obtain ⟨hn1, hn2⟩ := h.ne
  have hx : IsX w' gx bs := h.hx.touch h2.touch (by rintro (e | e); exact hn1 e.symm; exact hn2 e)
  refine ⟨⟨h1, hx, h.hg, h.hgx, fun k hk => ?_, h1.own.ne_blk hx.blk (by decide)⟩, h2.touch.below hB (fun x hx hf => ?_)⟩
  · rcases h2.at_ k hk with e | e
    · exact h.hv k e
    · omega
  · rcases hf with e | e
    · have := h.hg; omega
    · have := h.hv x e; omega
theorem step_x {B : Nat} {w w' : World} {g gx : Nat} {v : Value} {bs bs' : List UInt8} (h : Half B w g gx v bs bs') (hB : B ≤ w.heap.size) (h1 : IsX w' gx bs') (h2 : Touch (· = gx) w w') : Both B w' g gx v bs' ∧ Below B w w' := by
  have hg : ¬ g = gx := h.hw.blk.ne_ h.hx.blk (by decide)
  exact ⟨⟨h.hw.touch h2 hg (fun k hk e => h.hne (e ▸ hk)), h1, h.hg, h.hgx, h.hv⟩, h2.below hB (fun x hx e => by have := h.hgx; omega)⟩

set_option maxHeartbeats 2000000 in
theorem writes_walk (ao : Option Addr) (l : List StepD) (cap b off : Nat) (w : World) (hl : IsSteps w w.heap.size ao b off l) (hlen : (l.length : Int) ≤ 9223372036854775807) :
    Calls Try.prog 3 #[.slice ao l.length cap] w fun e w' => e = .returned (.bool true) ∧ Below w.heap.size w w' := by
  by_cases hlg : (50000 : Int) ≤ tot l
  · have hL := large_any ao l cap b off _ w hl hlen
    rw [show decide ((50000 : Int) ≤ tot l) = true by simpa using hlg] at hL
    have HL := Lib.hid hL
    clear hL
    go_enter Try.func3, Try.ntmps3
    go_wp2_with (go_at_call 7; refine HL.out.mono ?_; rintro e w' ⟨rfl, rfl⟩)
    go_ret
    exact ⟨rfl, Below.refl _ _⟩
  · have hL := large_any ao l cap b off _ w hl hlen
    rw [show decide ((50000 : Int) ≤ tot l) = false by simpa using hlg] at hL
    have HL := Lib.hid hL
    clear hL
    go_enter Try.func3, Try.ntmps3
    go_wp2_with (first | (go_at_call 7; refine HL.out.mono ?_; rintro e w' ⟨rfl, rfl⟩) | (go_at_call 8; refine (new_any _).mono ?_; rintro e w1 ⟨rfl, hw1, hb1⟩))
    go_loopw [5] (fun i wr => ∃ (k : Nat) (v : Value) (bs : List UInt8), k ≤ l.length ∧ i = .int .i64 k ∧ Both w.heap.size wr w.heap.size w1.heap.size v bs ∧ Below w.heap.size w wr) (fun i _ => l.length - (intOf i).toNat)
    case atStart =>
      have hs1 := hb1.size
      exact ⟨0, _, [], by omega, rfl, ⟨hw1.below ((Below.refl _ _).alloc (Nat.le_refl _) _), ⟨Blk.new _ _ _, by simp⟩, Nat.le_refl _, hs1, fun k hk => by simp [Value.ownBlock] at hk⟩, (hb1.alloc hs1 _)⟩
    case round =>
      obtain ⟨k, v, bs, hk, rfl, hb, hB⟩ := hrel
      by_cases hlt : k < l.length
      · have hl2 := hl.below hB
        obtain ⟨rfl, hbB⟩ := hl2.ptr (by omega)
        have hwf := hl2.wf k hlt
        have hck := hl2.kind k hlt
        have hcn := hl2.n k hlt
        have hcs := hl2.s k hlt
        obtain ⟨hkd, _, hn, hs, _⟩ := hwf
        clear hl hl2
        generalize l[k].kind = kd at *
        generalize l[k].n = n at *
        generalize l[k].s = s at *
        by_cases h0 : kd = 0
        · subst h0
          go_wp2_with fail
          by_cases hneg : n < 0
          · have hk0 : (0 : Int) ≤ (k : Int) := by omega
            have hk1 : (k : Int) < (l.length : Int) := by omega
            have HB := Lib.hid hB
            have HBoth := Lib.hid hb
            have hcx := hb.hx.blk.cell 0
            simp at hcx
            have HW3 := Lib.hid hb.hw.drew.drew
            clear hB hb
            go_region_held3 (fun w' => w'.cell? ⟨b, off + k * 5 + 2, none⟩ = some (.int .i64 n)) (exact hcn) (first | (go_at_call 9; refine (num_neg _ n _ hneg).mono ?_; rintro e w' ⟨rfl, rfl⟩) | (go_at_call 10; refine (refWNum_neg _ n _ hneg).mono ?_; rintro e w' ⟨rfl, rfl⟩))
            go_wp2_with fail
            go_region_held3 (fun w' => w'.cell? ⟨w1.heap.size, 0, none⟩ = some (.string ⟨bs.toArray⟩)) (exact hcx) ((go_at_call 13; refine (bytes_any _ _ _ _ HW3.out).mono ?_; rintro e w' ⟨rfl, rfl⟩))
            go_wp2_with fail
            go_roundw
            case rel => exact ⟨k + 1, v, bs, by omega, by go_num, HBoth.out.drew.drew, HB.out.drew.drew⟩
            case measure => simp [intOf]; omega
          · obtain ⟨m, rfl⟩ := Int.eq_ofNat_of_zero_le (by omega : 0 ≤ n)
            have hm : m ≤ 9223372036854775807 := by omega
            have hk0 : (0 : Int) ≤ (k : Int) := by omega
            have hk1 : (k : Int) < (l.length : Int) := by omega
            have HN := Lib.hid (num_any w.heap.size v bs m wr.drew hm hb.hw.drew)
            have HB := Lib.hid hB
            have HBoth := Lib.hid hb
            clear hB hb
            go_region_held3 (fun w' => w'.cell? ⟨b, off + k * 5 + 2, none⟩ = some (.int .i64 (m : Int))) (first | exact hcn | exact hcn1 | exact hcn2) (first | (go_at_call 9; refine HN.out.mono ?_; rintro e w2 ⟨rfl, v2, hw2, hs2⟩; obtain ⟨hh2, hb2⟩ := step_w HBoth.out.drew HB.out.size hw2 hs2; have hcn1 := (hb2.cell (p := ⟨b, off + k * 5 + 2, none⟩) hbB).trans hcn) | (go_at_call 10; refine (refWNum_any w1.heap.size bs m _ hm hh2.hx).mono ?_; rintro e w3 ⟨rfl, hx3, ht3⟩; obtain ⟨hh3, hb3⟩ := step_x hh2 (by have := HB.out.size; have := hb2.size; simp at this; omega) hx3 ht3; have hcn2 := (hb3.cell (p := ⟨b, off + k * 5 + 2, none⟩) hbB).trans hcn1))
            go_wp2_with fail
            have hcx := hh3.hx.blk.cell 0
            simp at hcx
            have HW3 := Lib.hid hh3.hw.drew
            go_region_held3 (fun w' => w'.cell? ⟨w1.heap.size, 0, none⟩ = some (.string ⟨(putB bs (numL m)).toArray⟩)) (exact hcx) ((go_at_call 13; refine (bytes_any _ _ _ _ HW3.out).mono ?_; rintro e w' ⟨rfl, rfl⟩))
            go_wp2_with fail
            go_roundw
            case rel => exact ⟨k + 1, _, _, by omega, by go_num, hh3.drew, ((HB.out.drew.trans hb2).trans hb3).drew⟩
            case measure => simp [intOf]; omega
        · by_cases h1 : kd = 1
          · subst h1
            go_wp2_with fail
            have hk0 : (0 : Int) ≤ (k : Int) := by omega
            have hk1 : (k : Int) < (l.length : Int) := by omega
            have HN := Lib.hid (text_any w.heap.size v bs s wr.drew hs hb.hw.drew)
            have HB := Lib.hid hB
            have HBoth := Lib.hid hb
            clear hB hb
            go_region_held3 (fun w' => w'.cell? ⟨b, off + k * 5 + 3, none⟩ = some (.string s)) (first | exact hcs | exact hcs1 | exact hcs2) (first | (go_at_call 11; refine HN.out.mono ?_; rintro e w2 ⟨rfl, v2, hw2, hs2⟩; obtain ⟨hh2, hb2⟩ := step_w HBoth.out.drew HB.out.size hw2 hs2; have hcs1 := (hb2.cell (p := ⟨b, off + k * 5 + 3, none⟩) hbB).trans hcs) | (go_at_call 12; refine (refWText_any w1.heap.size bs s _ hs hh2.hx).mono ?_; rintro e w3 ⟨rfl, hx3, ht3⟩; obtain ⟨hh3, hb3⟩ := step_x hh2 (by have := HB.out.size; have := hb2.size; simp at this; omega) hx3 ht3; have hcs2 := (hb3.cell (p := ⟨b, off + k * 5 + 3, none⟩) hbB).trans hcs1))
            go_wp2_with fail
            have hcx := hh3.hx.blk.cell 0
            simp at hcx
            have HW3 := Lib.hid hh3.hw.drew
            go_region_held3 (fun w' => w'.cell? ⟨w1.heap.size, 0, none⟩ = some (.string ⟨(putB bs (numL s.size ++ s.data.toList)).toArray⟩)) (exact hcx) ((go_at_call 13; refine (bytes_any _ _ _ _ HW3.out).mono ?_; rintro e w' ⟨rfl, rfl⟩))
            go_wp2_with fail
            go_roundw
            case rel => exact ⟨k + 1, _, _, by omega, by go_num, hh3.drew, ((HB.out.drew.trans hb2).trans hb3).drew⟩
            case measure => simp [intOf]; omega
          · have h0' : (kd == 0) = false := by simpa using h0
            have h1' : (kd == 1) = false := by simpa using h1
            have HB := Lib.hid hB
            have HBoth := Lib.hid hb
            have hcx := hb.hx.blk.cell 0
            simp at hcx
            have HW3 := Lib.hid hb.hw.drew
            clear hB hb h0 h1
            go_wp2_with fail
            go_region_held3 (fun w' => w'.cell? ⟨w1.heap.size, 0, none⟩ = some (.string ⟨bs.toArray⟩)) (exact hcx) ((go_at_call 13; refine (bytes_any _ _ _ _ HW3.out).mono ?_; rintro e w' ⟨rfl, rfl⟩))
            go_wp2_with fail
            go_roundw
            case rel => exact ⟨k + 1, v, bs, by omega, by go_num, HBoth.out.drew, HB.out.drew⟩
            case measure => simp [intOf]; omega
      · obtain rfl : k = l.length := by omega
        go_wp2_with fail
        go_ret
        exact ⟨rfl, hB⟩

end Go.Proofs.Ytahemhdmlfejlab
