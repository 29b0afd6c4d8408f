/- Package core: fits (slices.ContainsFunc, slices.IndexFunc over its closure), Of's closure mark. Conditions: as each theorem names them. -/
import Derived.Test.YthaonmmjoednnaaCB
namespace Go.Proofs.Ythaonmmjoednnaa
open Go.ChangeShapes Go.WideShapes Go.ChangeAt Go.RowKit Go.Maps Go.Deep
set_option maxRecDepth 100000

/-- All numbers are 0 or more, and below a number. -/
def fitsE (l : List Int) (below : Int) : Bool := !l.any fun n => decide (n < 0) || decide (below ≤ n)
/-- The first place at which f holds; -1: nowhere. -/
def firstC (f : Int → Bool) : List Int → Nat → Int
  | [], _ => -1
  | x :: xs, k => if f x then k else firstC f xs (k + 1)
theorem firstC_any (f : Int → Bool) : ∀ (l : List Int) (k : Nat), decide (0 ≤ firstC f l k) = l.any f
  | [], k => by simp [firstC]
  | x :: xs, k => by
    unfold firstC
    by_cases h : f x = true
    · rw [if_pos h]
      simp [h]
    · rw [if_neg h, firstC_any f xs (k + 1)]
      simp [h]

theorem fits1_any (below x : Int) (cp : Nat) (w : World) (hc : w.cell? ⟨cp, 0, none⟩ = some (.int .i64 below)) :
    Calls Try.prog 23 #[.int .i64 x, .pointer (some ⟨cp, 0, none⟩)] w fun e w' => e = .returned (.bool (decide (x < 0) || decide (below ≤ x))) ∧ w = w' := by
  by_cases h : x < 0
  · have hd : decide (x < 0) = true := by simpa using h
    rw [hd, Bool.true_or]
    clear h
    go_enter Try.func23, Try.ntmps23
    go_wp2_with fail
    go_ret
    exact ⟨rfl, rfl⟩
  · have hd : decide (x < 0) = false := by simpa using h
    rw [hd, Bool.false_or]
    obtain ⟨b, hb⟩ : ∃ b, b = decide (below ≤ x) := ⟨_, rfl⟩
    rw [← hb]
    have hb2 := hb.symm
    clear h hb
    go_enter Try.func23, Try.ntmps23
    go_wp2_with fail
    go_ret
    exact ⟨rfl, rfl⟩

theorem indexC_any (f : Int → Bool) (cp : Nat) (l : List Int) (ao : Option Addr) (cap : Nat) (w : World) (hl : l.length ≤ 4611686018427387904) (hI : Ints w ao l)
    (hf : ∀ x ∈ l, Calls Try.prog 23 #[.int .i64 x, .pointer (some ⟨cp, 0, none⟩)] w fun e w' => e = .returned (.bool (f x)) ∧ w = w') :
    Calls Try.prog 28 #[.slice ao l.length cap, .func (.func 23) #[] #[.pointer (some ⟨cp, 0, none⟩)]] w fun e w' => e = .returned (.int .i64 (firstC f l 0)) ∧ w = w' := by
  obtain ⟨T, hT⟩ : ∃ T, T = firstC f l 0 := ⟨_, rfl⟩
  have HT := Lib.hid hT
  have HF := Lib.hid hf
  have HC := Lib.hid hI
  rw [← hT]
  clear hT hf hI
  go_enter Try.func28, Try.ntmps28
  go_wp2_with fail
  go_loop [8] (fun i => ∃ k : Nat, k ≤ l.length ∧ i = .int .i64 k ∧ Hid (T = firstC f (l.drop k) k)) (fun i => l.length - (intOf i).toNat)
  case atStart => exact ⟨0, by omega, rfl, HT⟩
  case round =>
    obtain ⟨k, hk, rfl, HR⟩ := hrel
    by_cases hlt : k < l.length
    · obtain ⟨b, off, rfl, _, hcell⟩ := HC.out (by omega)
      have hck := hcell k hlt
      have hki : (k : Int) < (l.length : Int) := by omega
      have hrest := HR.out
      rw [List.drop_eq_getElem_cons hlt] at hrest
      unfold firstC at hrest
      have HK := Lib.hid (HF.out l[k] (List.getElem_mem _))
      generalize l[k] = x at *
      generalize hfx : f x = b1 at *
      cases b1 with
      | true =>
        rw [if_pos rfl] at hrest
        subst hrest
        clear hfx hcell HR
        go_wp2_with (go_at_call 23; refine HK.out.mono ?_; rintro e w' ⟨rfl, rfl⟩)
        go_ret
        exact ⟨rfl, rfl⟩
      | false =>
        have HR2 := Lib.hid hrest
        clear hfx hcell hrest HR
        go_wp2_with (go_at_call 23; refine HK.out.mono ?_; rintro e w' ⟨rfl, rfl⟩)
        go_round
        case rel => exact ⟨k + 1, by omega, by go_num, Lib.hid (by have h := HR2.out; rw [if_neg (by simp)] at h; exact h)⟩
        case measure => simp [intOf]; omega
    · obtain rfl : k = l.length := by omega
      have hT : T = -1 := by rw [HR.out, List.drop_length]; rfl
      subst hT
      clear HR
      go_wp2_with fail
      go_ret
      exact ⟨rfl, rfl⟩

theorem containsC_any (f : Int → Bool) (cp : Nat) (l : List Int) (ao : Option Addr) (cap : Nat) (w : World) (hl : l.length ≤ 4611686018427387904) (hI : Ints w ao l)
    (hf : ∀ x ∈ l, Calls Try.prog 23 #[.int .i64 x, .pointer (some ⟨cp, 0, none⟩)] w fun e w' => e = .returned (.bool (f x)) ∧ w = w') :
    Calls Try.prog 22 #[.slice ao l.length cap, .func (.func 23) #[] #[.pointer (some ⟨cp, 0, none⟩)]] w fun e w' => e = .returned (.bool (l.any f)) ∧ w = w' := by
  have HI := Lib.hid (indexC_any f cp l ao cap w hl hI hf)
  have h := firstC_any f l 0
  generalize firstC f l 0 = r at *
  rw [← h]
  clear h hf hI
  go_enter Try.func22, Try.ntmps22
  go_wp2_with (go_at_call 28; refine HI.out.mono ?_; rintro e w' ⟨rfl, rfl⟩)
  go_ret
  exact ⟨rfl, rfl⟩

theorem fits_any (l : List Int) (below : Int) (ao : Option Addr) (cap : Nat) (w : World) (hl : l.length ≤ 4611686018427387904) (hI : Ints w ao l) :
    Calls Try.prog 15 #[.slice ao l.length cap, .int .i64 below] w fun e w' => e = .returned (.bool (fitsE l below)) ∧ Below w.heap.size w w' := by
  have k := Blk.new w 3 #[.int .i64 below]
  have hb : Below w.heap.size w (w.alloc (.cells #[.int .i64 below] 3)) := (Below.refl _ w).alloc (Nat.le_refl _) _
  have HC := Lib.hid (containsC_any (fun n => decide (n < 0) || decide (below ≤ n)) w.heap.size l ao cap (w.alloc (.cells #[.int .i64 below] 3)) hl (hI.below hb) fun x _ => fits1_any below x w.heap.size _ (k.cell 0))
  have HB := Lib.hid hb
  unfold fitsE
  generalize l.any (fun n => decide (n < 0) || decide (below ≤ n)) = b at *
  clear hI k hb
  go_enter Try.func15, Try.ntmps15
  go_wp2_with (go_at_call 22; refine HC.out.mono ?_; rintro e w' ⟨rfl, rfl⟩)
  go_ret
  exact ⟨rfl, HB.out⟩

/-! ### mark -/
def boS (r : List Bool) : List Value := r.map Value.bool
/-- What mark makes of rests. -/
def markE (r : List Bool) (l : List Int) : List Bool := l.foldl (fun r n => r.set n.toNat true) r
theorem markE_len (l : List Int) : ∀ r : List Bool, (markE r l).length = r.length := by
  induction l with
  | nil => intro r; rfl
  | cons x l ih => intro r; exact (ih _).trans (by simp)

theorem mark_any (r : List Bool) (l : List Int) (ao : Option Addr) (cap : Nat) (g gr : Nat) (w : World) (hl : l.length ≤ 4611686018427387904) (hI : 0 < l.length → ∃ b off, ao = some ⟨b, off, none⟩ ∧ b < w.heap.size ∧ b ≠ gr ∧ ∀ j (h : j < l.length), w.cell? ⟨b, off + j, none⟩ = some (.int .i64 l[j])) (hg : w.cell? ⟨g, 0, none⟩ = some (.slice (some ⟨gr, 0, none⟩) r.length r.length))
    (hne : g ≠ gr) (hb : Blk w gr 4 (boS r).toArray) (hf : ∀ x ∈ l, 0 ≤ x ∧ x < r.length) :
    Calls Try.prog 16 #[.slice ao l.length cap, .pointer (some ⟨g, 0, none⟩)] w fun e w' => (∃ v, e = .returned v) ∧ Touch (fun k => k = gr) w w' ∧ Blk w' gr 4 (boS (markE r l)).toArray := by
  have HI := Lib.hid hI
  have HF := Lib.hid hf
  have HG := Lib.hid hg
  have HNe := Lib.hid hne
  have H0 := Lib.hid hb
  have hgl : g < w.heap.size := World.block_lt_of_cell? (a := ⟨g, 0, none⟩) _ hg
  clear hI hf hg hb hne
  go_enter Try.func16, Try.ntmps16
  go_wp2_with fail
  go_loopw [7] (fun i wr => ∃ k : Nat, k ≤ l.length ∧ i = .int .i64 k ∧ Hid (Touch (fun k => k = gr) w wr ∧ Blk wr gr 4 (boS (markE r (l.take k))).toArray)) (fun i _ => l.length - (intOf i).toNat)
  case atStart => exact ⟨0, by omega, rfl, Lib.hid ⟨Touch.refl _ _, by simpa [markE] using H0.out⟩⟩
  case round =>
    obtain ⟨k, hk, rfl, HR⟩ := hrel
    by_cases hlt : k < l.length
    · obtain ⟨ht, hbk⟩ := HR.out
      obtain ⟨b, off, e1, hbl, hbn, hcell⟩ := HI.out (by omega)
      subst e1
      have hck := (ht.cell (p := ⟨b, off + k, none⟩) hbl hbn).trans (hcell k hlt)
      have hki : (k : Int) < (l.length : Int) := by omega
      have hgk : wr.cell? ⟨g, 0, none⟩ = some (.slice (some ⟨gr, 0, none⟩) r.length r.length) := (ht.cell (p := ⟨g, 0, none⟩) hgl HNe.out).trans HG.out
      obtain ⟨hx0, hx1⟩ := HF.out l[k] (List.getElem_mem _)
      obtain ⟨x, hx⟩ : ∃ x : Nat, (x : Int) = l[k] := ⟨l[k].toNat, by omega⟩
      have hxl : x < r.length := by omega
      have hxi : (x : Int) < (r.length : Int) := by omega
      have hln : (markE r (l.take k)).length = r.length := markE_len _ _
      have hcx : wr.cell? ⟨gr, x, none⟩ = some (.bool ((markE r (l.take k))[x]'(by omega))) := by
        rw [hbk.cell x]
        simp [boS, hln, hxl]
      have hfx : wr.frozen? ⟨gr, x, none⟩ = false := hbk.frozen x
      have hnext : Touch (fun k => k = gr) w (wr.setCell ⟨gr, x, none⟩ (.bool true)) ∧ Blk (wr.setCell ⟨gr, x, none⟩ (.bool true)) gr 4 (boS (markE r (l.take (k + 1)))).toArray := by
        refine ⟨ht.setCell (fun _ => rfl) _, ?_⟩
        have e := hbk.set_ x (.bool true)
        have e2 : (boS (markE r (l.take (k + 1)))).toArray = (boS (markE r (l.take k))).toArray.setIfInBounds x (.bool true) := by
          have hxn : l[k].toNat = x := by omega
          rw [List.take_succ_eq_append_getElem hlt]
          unfold markE
          rw [List.foldl_append]
          simp [boS, hxn, List.map_set]
        rw [e2]
        exact e
      have HN := Lib.hid hnext
      rw [← hx] at hck
      generalize (markE r (l.take k))[x]'(by omega) = old at *
      clear hnext hx hx0 hx1 hln hcell ht hbk HR hbl hbn
      go_wp2_with fail
      go_roundw
      case rel => exact ⟨k + 1, by omega, by go_num, HN⟩
      case measure => simp [intOf]; omega
    · obtain rfl : k = l.length := by omega
      have HE := Lib.hid (show Touch (fun k => k = gr) w wr ∧ Blk wr gr 4 (boS (markE r l)).toArray by simpa using HR.out)
      clear HR
      go_wp2_with fail
      go_end0
      exact ⟨⟨_, rfl⟩, HE.out.1, HE.out.2⟩

end Go.Proofs.Ythaonmmjoednnaa
