/- Codec's reader: get, at Deps and at strings. Conditions: as each theorem names them. -/
import Derived.Test.YtdpjjnbelgaagaaGreatDoorG04
import Derived.Test.YtdpjjnbelgaagaaGreatDoorG03
namespace Go.Proofs.YtdpjjnbelgaagaaGreatDoor
open Go.ChangeShapes Go.WideShapes Go.ChangeAt Go.RowKit Go.Deep
set_option maxRecDepth 100000

theorem iStr : ∃ i, Tryz.prog.info? 9 = some i ∧ i.zero = some (.string ⟨#[]⟩) ∧ i.size = 1 ∧ i.bytes = 16 :=
  info_parts (P := Tryz.prog) (e := 9) (z := .string ⟨#[]⟩) (size := 1) (bytes := 16) (by kernel_rfl)
set_option maxHeartbeats 4000000 in
theorem getD_any {g gr : Nat} {s : ByteArray} {left : Int} {at_ : Nat} {e : Int} {w : World} (lo hi : Int) (hh : 0 ≤ hi) (hhi : hi ≤ 1024) (p : Rdr DepD)
    (one : ∀ (a : Nat) (e : Int) (W : World), RSt g gr s left a e W → Touch (RF g gr) w W → Calls Tryz.prog 167 #[.pointer (some ⟨g, 0, none⟩)] W (RPost g gr s left a e p (fun x v w' => ∃ r, v = x.val ∧ depK.holds (free W.heap.size) w' x r) W))
    (h : RSt g gr s left at_ e w) : Calls Tryz.prog 166 #[.pointer (some ⟨g, 0, none⟩), .int .i64 lo, .int .i64 hi, .func (.func 167) #[.pointer (some ⟨g, 0, none⟩)] #[]] w (RPost g gr s left at_ e (pMany lo hi p) (fun l v w' => LIn depK (free w.heap.size) w' l v) w) := by
  have HO := Lib.hid one
  have HN := Lib.hid (crnum_any lo hi hh h)
  have HH := Lib.hid h
  have c0 : w.cell? ⟨g, 0, none⟩ = some (.pointer (some ⟨gr, 0, none⟩)) := h.rb.cell 0
  obtain ⟨iD, hiD, hz0, hz1, hz2⟩ := iDep
  clear one h
  go_enter Tryz.func166, Tryz.ntmps166
  go_wp2_with (first
    | (go_at_call 83; (with_reducible refine HN.out.mono ?_); rintro r w1 ⟨n, a1, e1, rfl, hn, hs1, hr1, ht1, hl1, hz1'⟩; have hnb : n ≤ 1024 := (by omega); have HS1 := Lib.hid (show GSt depK 32 w g gr s left a1 e1 [] (.slice none 0 0) w1 from ⟨hs1, Acc.nil _ _ _ _, ht1, HH.out.rb.lt, HH.out.wr.lt⟩); have HG1 := Lib.hid (GGo.start (p := p) hr1); clear hs1 hr1 ht1 hl1 hz1' hn)
    | fail)
  go_loopw [9, 18] (fun v i wr => ∃ (k a : Nat) (e1 : Int) (l : List DepD), k ≤ n ∧ i = .int .i64 k ∧ Hid (l.length = k ∧ GSt depK 32 w g gr s left a e1 l v wr ∧ GGo p lo hi s at_ e (n - k) l a e1)) (fun _ i _ => n - (intOf i).toNat)
  case atStart => exact ⟨0, a1, e1, [], by omega, rfl, ⟨rfl, HS1.out, HG1.out⟩⟩
  case round =>
    obtain ⟨k, a, e1, l, hk, rfl, HQ⟩ := hrel
    by_cases hlt : k < n
    · have hki : (k : Int) < (n : Int) := by omega
      have HM := Lib.hid (HO.out a e1 wr HQ.out.2.1.rs HQ.out.2.1.tt)
      go_upto_region 5 with (first
        | (go_at_call 167; (with_reducible refine HM.out.mono ?_); rintro rr w2 ⟨x, vx, b2, e2, rfl, ⟨r, rfl, hx2⟩, hs2, hr2, ht2⟩; have HS2 := Lib.hid (HQ.out.2.1.call hs2 ht2); have HX2 := Lib.hid hx2; have HR2 := Lib.hid hr2; have HT2 := Lib.hid ht2.size; clear hs2 hr2 ht2 hx2)
        | fail)
      obtain ⟨b, hbe⟩ : ∃ b, b = w2.heap.size := ⟨_, rfl⟩
      obtain ⟨w3, hw3⟩ : ∃ w3, w3 = w2.alloc (.cells #[.string x.name, .int .u8 x.op, .int .i64 x.ep, .string x.ver, .string x.rel] 32) := ⟨_, rfl⟩
      have hb3 : Below w2.heap.size w2 w3 := by rw [hw3]; exact new_b _ _
      have HB3 := Lib.hid (show Blk w3 b 32 #[.string x.name, .int .u8 x.op, .int .i64 x.ep, .string x.ver, .string x.rel] from by rw [hw3, hbe]; exact Blk.new _ _ _)
      have HS3 := Lib.hid (HS2.out.below hb3)
      have HX3 := Lib.hid (take0 HX2.out hb3)
      have HG3 := Lib.hid (show GGo p lo hi s at_ e (n - (k + 1) + 1) l a e1 from by rw [show n - (k + 1) + 1 = n - k from by omega]; exact HQ.out.2.2)
      have HL := Lib.hid HQ.out.1
      have HF := Lib.hid (crfine_any HS3.out.rs)
      have HOw := Lib.hid (fun q hq => (HQ.out.2.1.ownB q hq).2)
      have HSz := Lib.hid HQ.out.2.1.tt.size
      rw [← hw3, ← hbe]
      clear hw3 hbe hb3 HM HS2 HQ
      by_cases he2 : e2 = 0
      · have HF1 := Lib.hid (show Calls Tryz.prog 84 #[.pointer (some ⟨g, 0, none⟩)] w3 (fun r w' => r = .returned (.bool true) ∧ ∃ n, w' = w3.drewN n) from HF.out.mono fun r w' ⟨h1, h2⟩ => ⟨by rw [h1, he2]; rfl, h2⟩)
        clear HF
        go_upto_region 7 with (first
          | (go_at_call 84; (with_reducible refine HF1.out.mono ?_); rintro rr w4 ⟨rfl, n4, rfl⟩)
          | fail)
        obtain ⟨w4, hw4⟩ : ∃ w4, w4 = w3.drewN n4 := ⟨_, rfl⟩
        rw [← hw4]
        have HB4 := Lib.hid (show Blk w4 b 32 #[.string x.name, .int .u8 x.op, .int .i64 x.ep, .string x.ver, .string x.rel] from hw4 ▸ HB3.out.drewN n4)
        have HS4 := Lib.hid (show GSt depK 32 w g gr s left b2 e2 l u9 w4 from hw4 ▸ HS3.out.drewN n4)
        have HX4 := Lib.hid (show depK.holds (free wr.heap.size) w4 x r from hw4 ▸ (show depK.holds (free wr.heap.size) (w3.drewN n4) x r from take0 HX3.out (bel_drewN (Below.refl _ _) n4)))
        have z0 : w4.cell? ⟨b, 0, none⟩ = some (.string x.name) := HB4.out.cell 0
        have z1 : w4.cell? ⟨b, 1, none⟩ = some (.int .u8 x.op) := HB4.out.cell 1
        have z2 : w4.cell? ⟨b, 2, none⟩ = some (.int .i64 x.ep) := HB4.out.cell 2
        have z3 : w4.cell? ⟨b, 3, none⟩ = some (.string x.ver) := HB4.out.cell 3
        have z4 : w4.cell? ⟨b, 4, none⟩ = some (.string x.rel) := HB4.out.cell 4
        have bl : b < w4.heap.size := HB4.out.lt
        obtain ⟨xs, hown, hone⟩ := HS4.out.ac.own
        obtain ⟨ao, cp, hve⟩ := own_at hown
        have hll := HL.out
        subst hve
        rw [hll] at hown
        have HO4 := Lib.hid hown
        have HN4 := Lib.hid hone
        clear hw4 HB3 HS3 HX3 HF1 HB4 hown hone
        go_wp2_with (first
          | (at_builtin; (refine wpList_append_S _ rfl (.tmp 25) (.tmp 27) _ _ rfl 32 iD _ 5 64 Tryz.underlying25 hiD hz0 hz1 hz2 rfl (by omega) (.slice ao l.length cp) l.length xs rfl (hll ▸ HO4.out.alloc _) HN4.out (.slice (some ⟨w4.heap.size, 0, none⟩) 1 1) 1 (depK.cells x r) rfl (src_dep w4 x) (by simp only [maxLen]; omega) (by omega) ?_); rintro ao' cap' w7 hn1 hn2 hO7 hg7 hat7 hlt7; have hS5 := HS4.out.below (new_b w4 (.cells #[.string x.name, .int .u8 x.op, .int .i64 x.ep, .string x.ver, .string x.rel] 32)); have HS7 := Lib.hid (hS5.push (x := x) (r := r) (hll ▸ HO4.out.alloc _) HSz.out HOw.out (take0 HX4.out (new_b _ _)) hO7 hg7 hat7); clear hn1 hn2 hO7 hg7 hat7 hlt7 hS5)
          | fail)
        go_roundw
        case rel => exact ⟨k + 1, b2, e2, l ++ [x], by omega, by go_num, ⟨by rw [List.length_append, hll]; rfl, by (have h7 := HS7.out; rw [hll] at h7; exact h7), HG3.out.step HR2.out⟩⟩
        case measure => simp [intOf]; omega
      · have HF1 := Lib.hid (show Calls Tryz.prog 84 #[.pointer (some ⟨g, 0, none⟩)] w3 (fun r w' => r = .returned (.bool false) ∧ ∃ n, w' = w3.drewN n) from HF.out.mono fun r w' ⟨h1, h2⟩ => ⟨by rw [h1, decide_eq_false he2], h2⟩)
        clear HF
        go_wp2_with (first
          | (go_at_call 84; (with_reducible refine HF1.out.mono ?_); rintro rr w4 ⟨rfl, n4, rfl⟩)
          | fail)
        go_ret
        exact ⟨[], _, b2, e2, rfl, LIn.nil _ _ _, HS3.out.rs.drewN n4, HG3.out.bad HR2.out he2, HS3.out.tt.drewN n4⟩
    · obtain rfl : k = n := by omega
      go_wp2_with fail
      go_ret
      have hG := HQ.out.2.2
      rw [Nat.sub_self] at hG
      exact ⟨l, u9, a, e1, rfl, HQ.out.2.1.ac.done (by have := HQ.out.1; omega) (by decide), HQ.out.2.1.rs, hG.done, HQ.out.2.1.tt⟩
set_option maxHeartbeats 4000000 in
theorem getS_any {g gr : Nat} {s : ByteArray} {left : Int} {at_ : Nat} {e : Int} {w : World} (lo hi : Int) (hh : 0 ≤ hi) (hhi : hi ≤ 1024) (p : Rdr ByteArray)
    (one : ∀ (a : Nat) (e : Int) (W : World), RSt g gr s left a e W → Touch (RF g gr) w W → Calls Tryz.prog 133 #[.pointer (some ⟨g, 0, none⟩)] W (RPost g gr s left a e p (fun x v w' => ∃ r, v = .string x ∧ strK.holds (free W.heap.size) w' x r) W))
    (h : RSt g gr s left at_ e w) : Calls Tryz.prog 137 #[.pointer (some ⟨g, 0, none⟩), .int .i64 lo, .int .i64 hi, .func (.func 133) #[.pointer (some ⟨g, 0, none⟩)] #[]] w (RPost g gr s left at_ e (pMany lo hi p) (fun l v w' => LIn strK (free w.heap.size) w' l v) w) := by
  have HO := Lib.hid one
  have HN := Lib.hid (crnum_any lo hi hh h)
  have HH := Lib.hid h
  have c0 : w.cell? ⟨g, 0, none⟩ = some (.pointer (some ⟨gr, 0, none⟩)) := h.rb.cell 0
  obtain ⟨iD, hiD, hz0, hz1, hz2⟩ := iStr
  clear one h
  go_enter Tryz.func137, Tryz.ntmps137
  go_wp2_with (first
    | (go_at_call 83; (with_reducible refine HN.out.mono ?_); rintro r w1 ⟨n, a1, e1, rfl, hn, hs1, hr1, ht1, hl1, hz1'⟩; have hnb : n ≤ 1024 := (by omega); have HS1 := Lib.hid (show GSt strK 9 w g gr s left a1 e1 [] (.slice none 0 0) w1 from ⟨hs1, Acc.nil _ _ _ _, ht1, HH.out.rb.lt, HH.out.wr.lt⟩); have HG1 := Lib.hid (GGo.start (p := p) hr1); clear hs1 hr1 ht1 hl1 hz1' hn)
    | fail)
  go_loopw [9, 18] (fun v i wr => ∃ (k a : Nat) (e1 : Int) (l : List ByteArray), k ≤ n ∧ i = .int .i64 k ∧ Hid (l.length = k ∧ GSt strK 9 w g gr s left a e1 l v wr ∧ GGo p lo hi s at_ e (n - k) l a e1)) (fun _ i _ => n - (intOf i).toNat)
  case atStart => exact ⟨0, a1, e1, [], by omega, rfl, ⟨rfl, HS1.out, HG1.out⟩⟩
  case round =>
    obtain ⟨k, a, e1, l, hk, rfl, HQ⟩ := hrel
    by_cases hlt : k < n
    · have hki : (k : Int) < (n : Int) := by omega
      have HM := Lib.hid (HO.out a e1 wr HQ.out.2.1.rs HQ.out.2.1.tt)
      go_upto_region 5 with (first
        | (go_at_call 133; (with_reducible refine HM.out.mono ?_); rintro rr w2 ⟨x, vx, b2, e2, rfl, ⟨r, rfl, hx2⟩, hs2, hr2, ht2⟩; have HS2 := Lib.hid (HQ.out.2.1.call hs2 ht2); have HX2 := Lib.hid hx2; have HR2 := Lib.hid hr2; have HT2 := Lib.hid ht2.size; clear hs2 hr2 ht2 hx2)
        | fail)
      obtain ⟨w3, hw3⟩ : ∃ w3, w3 = w2 := ⟨_, rfl⟩
      have hb3 : Below w2.heap.size w2 w3 := by rw [hw3]; exact Below.refl _ _
      have HS3 := Lib.hid (HS2.out.below hb3)
      have HX3 := Lib.hid (take0 HX2.out hb3)
      have HG3 := Lib.hid (show GGo p lo hi s at_ e (n - (k + 1) + 1) l a e1 from by rw [show n - (k + 1) + 1 = n - k from by omega]; exact HQ.out.2.2)
      have HL := Lib.hid HQ.out.1
      have HF := Lib.hid (crfine_any HS3.out.rs)
      have HOw := Lib.hid (fun q hq => (HQ.out.2.1.ownB q hq).2)
      have HSz := Lib.hid HQ.out.2.1.tt.size
      rw [← hw3]
      clear hw3 hb3 HM HS2 HQ
      by_cases he2 : e2 = 0
      · have HF1 := Lib.hid (show Calls Tryz.prog 84 #[.pointer (some ⟨g, 0, none⟩)] w3 (fun r w' => r = .returned (.bool true) ∧ ∃ n, w' = w3.drewN n) from HF.out.mono fun r w' ⟨h1, h2⟩ => ⟨by rw [h1, he2]; rfl, h2⟩)
        clear HF
        go_upto_region 7 with (first
          | (go_at_call 84; (with_reducible refine HF1.out.mono ?_); rintro rr w4 ⟨rfl, n4, rfl⟩)
          | fail)
        obtain ⟨w4, hw4⟩ : ∃ w4, w4 = w3.drewN n4 := ⟨_, rfl⟩
        rw [← hw4]
        have HS4 := Lib.hid (show GSt strK 9 w g gr s left b2 e2 l u9 w4 from hw4 ▸ HS3.out.drewN n4)
        have HX4 := Lib.hid (show strK.holds (free wr.heap.size) w4 x r from hw4 ▸ (show strK.holds (free wr.heap.size) (w3.drewN n4) x r from take0 HX3.out (bel_drewN (Below.refl _ _) n4)))
        obtain ⟨xs, hown, hone⟩ := HS4.out.ac.own
        obtain ⟨ao, cp, hve⟩ := own_at hown
        have hll := HL.out
        subst hve
        rw [hll] at hown
        have HO4 := Lib.hid hown
        have HN4 := Lib.hid hone
        clear hw4 HS3 HX3 HF1 hown hone
        go_wp2_with (first
          | (at_builtin; (refine wpList_append_S _ rfl (.tmp 25) (.tmp 27) _ _ rfl 9 iD _ 1 16 Tryz.underlying27 hiD hz0 hz1 hz2 rfl (by omega) (.slice ao l.length cp) l.length xs rfl (hll ▸ HO4.out.alloc _) HN4.out (.slice (some ⟨w4.heap.size, 0, none⟩) 1 1) 1 (strK.cells x r) rfl (src_new w4 Tryz.underlying27 9 _ rfl) (by simp only [maxLen]; omega) (by omega) ?_); rintro ao' cap' w7 hn1 hn2 hO7 hg7 hat7 hlt7; have hS5 := HS4.out.below (new_b w4 (.cells #[.string x] 9)); have HS7 := Lib.hid (hS5.push (x := x) (r := r) (hll ▸ HO4.out.alloc _) HSz.out HOw.out (take0 HX4.out (new_b _ _)) hO7 hg7 hat7); clear hn1 hn2 hO7 hg7 hat7 hlt7 hS5)
          | fail)
        go_roundw
        case rel => exact ⟨k + 1, b2, e2, l ++ [x], by omega, by go_num, ⟨by rw [List.length_append, hll]; rfl, by (have h7 := HS7.out; rw [hll] at h7; exact h7), HG3.out.step HR2.out⟩⟩
        case measure => simp [intOf]; omega
      · have HF1 := Lib.hid (show Calls Tryz.prog 84 #[.pointer (some ⟨g, 0, none⟩)] w3 (fun r w' => r = .returned (.bool false) ∧ ∃ n, w' = w3.drewN n) from HF.out.mono fun r w' ⟨h1, h2⟩ => ⟨by rw [h1, decide_eq_false he2], h2⟩)
        clear HF
        go_wp2_with (first
          | (go_at_call 84; (with_reducible refine HF1.out.mono ?_); rintro rr w4 ⟨rfl, n4, rfl⟩)
          | fail)
        go_ret
        exact ⟨[], _, b2, e2, rfl, LIn.nil _ _ _, HS3.out.rs.drewN n4, HG3.out.bad HR2.out he2, HS3.out.tt.drewN n4⟩
    · obtain rfl : k = n := by omega
      go_wp2_with fail
      go_ret
      have hG := HQ.out.2.2
      rw [Nat.sub_self] at hG
      exact ⟨l, u9, a, e1, rfl, HQ.out.2.1.ac.done (by have := HQ.out.1; omega) (by decide), HQ.out.2.1.rs, hG.done, HQ.out.2.1.tt⟩
end Go.Proofs.YtdpjjnbelgaagaaGreatDoor

namespace Go.Proofs.YtdpjjnbelgaagaaGreatDoor
open Go.ChangeShapes Go.WideShapes Go.ChangeAt Go.RowKit Go.Deep
set_option maxRecDepth 100000

set_option maxHeartbeats 4000000 in
theorem getR1_any {b1 b2 g gr : Nat} {s : ByteArray} {left : Int} {at_ : Nat} {e : Int} {w : World} (lo hi : Int) (hh : 0 ≤ hi) (hhi : hi ≤ 1024) (p : Rdr RichD)
    (one : ∀ (a : Nat) (e : Int) (W : World), RSt g gr s left a e W → Touch (RF g gr) w W → Calls Tryz.prog 179 #[.pointer (some ⟨b1, 0, none⟩), .pointer (some ⟨b2, 0, none⟩)] W (RPost g gr s left a e p (fun x v w' => ∃ r, v = x.val r ∧ richK.holds (free W.heap.size) w' x r) W))
    (h : RSt g gr s left at_ e w) : Calls Tryz.prog 168 #[.pointer (some ⟨g, 0, none⟩), .int .i64 lo, .int .i64 hi, .func (.func 179) #[] #[.pointer (some ⟨b1, 0, none⟩), .pointer (some ⟨b2, 0, none⟩)]] w (RPost g gr s left at_ e (pMany lo hi p) (fun l v w' => LIn richK (free w.heap.size) w' l v) w) := by
  have HO := Lib.hid one
  have HN := Lib.hid (crnum_any lo hi hh h)
  have HH := Lib.hid h
  have c0 : w.cell? ⟨g, 0, none⟩ = some (.pointer (some ⟨gr, 0, none⟩)) := h.rb.cell 0
  obtain ⟨iD, hiD, hz0, hz1, hz2⟩ := iRich
  clear one h
  go_enter Tryz.func168, Tryz.ntmps168
  go_wp2_with (first
    | (go_at_call 83; (with_reducible refine HN.out.mono ?_); rintro r w1 ⟨n, a1, e1, rfl, hn, hs1, hr1, ht1, hl1, hz1'⟩; have hnb : n ≤ 1024 := (by omega); have HS1 := Lib.hid (show GSt richK 34 w g gr s left a1 e1 [] (.slice none 0 0) w1 from ⟨hs1, Acc.nil _ _ _ _, ht1, HH.out.rb.lt, HH.out.wr.lt⟩); have HG1 := Lib.hid (GGo.start (p := p) hr1); clear hs1 hr1 ht1 hl1 hz1' hn)
    | fail)
  go_loopw [9, 18] (fun v i wr => ∃ (k a : Nat) (e1 : Int) (l : List RichD), k ≤ n ∧ i = .int .i64 k ∧ Hid (l.length = k ∧ GSt richK 34 w g gr s left a e1 l v wr ∧ GGo p lo hi s at_ e (n - k) l a e1)) (fun _ i _ => n - (intOf i).toNat)
  case atStart => exact ⟨0, a1, e1, [], by omega, rfl, ⟨rfl, HS1.out, HG1.out⟩⟩
  case round =>
    obtain ⟨k, a, e1, l, hk, rfl, HQ⟩ := hrel
    by_cases hlt : k < n
    · have hki : (k : Int) < (n : Int) := by omega
      have HM := Lib.hid (HO.out a e1 wr HQ.out.2.1.rs HQ.out.2.1.tt)
      go_upto_region 5 with (first
        | (go_at_call 179; (with_reducible refine HM.out.mono ?_); rintro rr w2 ⟨x, vx, b2, e2, rfl, ⟨r, rfl, hx2⟩, hs2, hr2, ht2⟩; obtain ⟨ra, rc, rfl⟩ := (ArgsP.is hx2).form; have HS2 := Lib.hid (HQ.out.2.1.call hs2 ht2); have HX2 := Lib.hid hx2; have HR2 := Lib.hid hr2; have HT2 := Lib.hid ht2.size; clear hs2 hr2 ht2 hx2)
        | fail)
      obtain ⟨b, hbe⟩ : ∃ b, b = w2.heap.size := ⟨_, rfl⟩
      obtain ⟨w3, hw3⟩ : ∃ w3, w3 = w2.alloc (.cells #[.int .u8 x.kind, .string x.dep.name, .int .u8 x.dep.op, .int .i64 x.dep.ep, .string x.dep.ver, .string x.dep.rel, .slice ra x.n rc] 34) := ⟨_, rfl⟩
      have hb3 : Below w2.heap.size w2 w3 := by rw [hw3]; exact new_b _ _
      have HB3 := Lib.hid (show Blk w3 b 34 #[.int .u8 x.kind, .string x.dep.name, .int .u8 x.dep.op, .int .i64 x.dep.ep, .string x.dep.ver, .string x.dep.rel, .slice ra x.n rc] from by rw [hw3, hbe]; exact Blk.new _ _ _)
      have HS3 := Lib.hid (HS2.out.below hb3)
      have HX3 := Lib.hid (take0 HX2.out hb3)
      have HG3 := Lib.hid (show GGo p lo hi s at_ e (n - (k + 1) + 1) l a e1 from by rw [show n - (k + 1) + 1 = n - k from by omega]; exact HQ.out.2.2)
      have HL := Lib.hid HQ.out.1
      have HF := Lib.hid (crfine_any HS3.out.rs)
      have HOw := Lib.hid (fun q hq => (HQ.out.2.1.ownB q hq).2)
      have HSz := Lib.hid HQ.out.2.1.tt.size
      rw [← hw3, ← hbe]
      clear hw3 hbe hb3 HM HS2 HQ
      by_cases he2 : e2 = 0
      · have HF1 := Lib.hid (show Calls Tryz.prog 84 #[.pointer (some ⟨g, 0, none⟩)] w3 (fun r w' => r = .returned (.bool true) ∧ ∃ n, w' = w3.drewN n) from HF.out.mono fun r w' ⟨h1, h2⟩ => ⟨by rw [h1, he2]; rfl, h2⟩)
        clear HF
        go_upto_region 7 with (first
          | (go_at_call 84; (with_reducible refine HF1.out.mono ?_); rintro rr w4 ⟨rfl, n4, rfl⟩)
          | fail)
        obtain ⟨w4, hw4⟩ : ∃ w4, w4 = w3.drewN n4 := ⟨_, rfl⟩
        rw [← hw4]
        have HB4 := Lib.hid (show Blk w4 b 34 #[.int .u8 x.kind, .string x.dep.name, .int .u8 x.dep.op, .int .i64 x.dep.ep, .string x.dep.ver, .string x.dep.rel, .slice ra x.n rc] from hw4 ▸ HB3.out.drewN n4)
        have HS4 := Lib.hid (show GSt richK 34 w g gr s left b2 e2 l u9 w4 from hw4 ▸ HS3.out.drewN n4)
        have HX4 := Lib.hid (show richK.holds (free wr.heap.size) w4 x (Value.slice ra x.n rc) from hw4 ▸ (show richK.holds (free wr.heap.size) (w3.drewN n4) x (Value.slice ra x.n rc) from take0 HX3.out (bel_drewN (Below.refl _ _) n4)))
        have z0 : w4.cell? ⟨b, 0, none⟩ = some (.int .u8 x.kind) := HB4.out.cell 0
        have z1 : w4.cell? ⟨b, 1, none⟩ = some (.string x.dep.name) := HB4.out.cell 1
        have z2 : w4.cell? ⟨b, 2, none⟩ = some (.int .u8 x.dep.op) := HB4.out.cell 2
        have z3 : w4.cell? ⟨b, 3, none⟩ = some (.int .i64 x.dep.ep) := HB4.out.cell 3
        have z4 : w4.cell? ⟨b, 4, none⟩ = some (.string x.dep.ver) := HB4.out.cell 4
        have z5 : w4.cell? ⟨b, 5, none⟩ = some (.string x.dep.rel) := HB4.out.cell 5
        have z6 : w4.cell? ⟨b, 6, none⟩ = some (.slice ra x.n rc) := HB4.out.cell 6
        have bl : b < w4.heap.size := HB4.out.lt
        obtain ⟨xs, hown, hone⟩ := HS4.out.ac.own
        obtain ⟨ao, cp, hve⟩ := own_at hown
        have hll := HL.out
        subst hve
        rw [hll] at hown
        have HO4 := Lib.hid hown
        have HN4 := Lib.hid hone
        clear hw4 HB3 HS3 HX3 HF1 HB4 hown hone
        go_wp2_with (first
          | (at_builtin; (refine wpList_append_S _ rfl (.tmp 25) (.tmp 27) _ _ rfl 34 iD _ 7 96 Tryz.underlying26 hiD hz0 hz1 hz2 rfl (by omega) (.slice ao l.length cp) l.length xs rfl (hll ▸ HO4.out.alloc _) HN4.out (.slice (some ⟨w4.heap.size, 0, none⟩) 1 1) 1 (richK.cells x (Value.slice ra x.n rc)) rfl (src_rich w4 x (.slice ra x.n rc) rfl) (by simp only [maxLen]; omega) (by omega) ?_); rintro ao' cap' w7 hn1 hn2 hO7 hg7 hat7 hlt7; have hS5 := HS4.out.below (new_b w4 (.cells #[.int .u8 x.kind, .string x.dep.name, .int .u8 x.dep.op, .int .i64 x.dep.ep, .string x.dep.ver, .string x.dep.rel, .slice ra x.n rc] 34)); have HS7 := Lib.hid (hS5.push (x := x) (r := (Value.slice ra x.n rc)) (hll ▸ HO4.out.alloc _) HSz.out HOw.out (take0 HX4.out (new_b _ _)) hO7 hg7 hat7); clear hn1 hn2 hO7 hg7 hat7 hlt7 hS5)
          | fail)
        go_roundw
        case rel => exact ⟨k + 1, b2, e2, l ++ [x], by omega, by go_num, ⟨by rw [List.length_append, hll]; rfl, by (have h7 := HS7.out; rw [hll] at h7; exact h7), HG3.out.step HR2.out⟩⟩
        case measure => simp [intOf]; omega
      · have HF1 := Lib.hid (show Calls Tryz.prog 84 #[.pointer (some ⟨g, 0, none⟩)] w3 (fun r w' => r = .returned (.bool false) ∧ ∃ n, w' = w3.drewN n) from HF.out.mono fun r w' ⟨h1, h2⟩ => ⟨by rw [h1, decide_eq_false he2], h2⟩)
        clear HF
        go_wp2_with (first
          | (go_at_call 84; (with_reducible refine HF1.out.mono ?_); rintro rr w4 ⟨rfl, n4, rfl⟩)
          | fail)
        go_ret
        exact ⟨[], _, b2, e2, rfl, LIn.nil _ _ _, HS3.out.rs.drewN n4, HG3.out.bad HR2.out he2, HS3.out.tt.drewN n4⟩
    · obtain rfl : k = n := by omega
      go_wp2_with fail
      go_ret
      have hG := HQ.out.2.2
      rw [Nat.sub_self] at hG
      exact ⟨l, u9, a, e1, rfl, HQ.out.2.1.ac.done (by have := HQ.out.1; omega) (by decide), HQ.out.2.1.rs, hG.done, HQ.out.2.1.tt⟩
set_option maxHeartbeats 4000000 in
theorem getR2_any {b1 g gr : Nat} {s : ByteArray} {left : Int} {at_ : Nat} {e : Int} {w : World} (lo hi : Int) (hh : 0 ≤ hi) (hhi : hi ≤ 1024) (p : Rdr RichD)
    (one : ∀ (a : Nat) (e : Int) (W : World), RSt g gr s left a e W → Touch (RF g gr) w W → Calls Tryz.prog 169 #[.pointer (some ⟨b1, 0, none⟩)] W (RPost g gr s left a e p (fun x v w' => ∃ r, v = x.val r ∧ richK.holds (free W.heap.size) w' x r) W))
    (h : RSt g gr s left at_ e w) : Calls Tryz.prog 168 #[.pointer (some ⟨g, 0, none⟩), .int .i64 lo, .int .i64 hi, .func (.func 169) #[] #[.pointer (some ⟨b1, 0, none⟩)]] w (RPost g gr s left at_ e (pMany lo hi p) (fun l v w' => LIn richK (free w.heap.size) w' l v) w) := by
  have HO := Lib.hid one
  have HN := Lib.hid (crnum_any lo hi hh h)
  have HH := Lib.hid h
  have c0 : w.cell? ⟨g, 0, none⟩ = some (.pointer (some ⟨gr, 0, none⟩)) := h.rb.cell 0
  obtain ⟨iD, hiD, hz0, hz1, hz2⟩ := iRich
  clear one h
  go_enter Tryz.func168, Tryz.ntmps168
  go_wp2_with (first
    | (go_at_call 83; (with_reducible refine HN.out.mono ?_); rintro r w1 ⟨n, a1, e1, rfl, hn, hs1, hr1, ht1, hl1, hz1'⟩; have hnb : n ≤ 1024 := (by omega); have HS1 := Lib.hid (show GSt richK 34 w g gr s left a1 e1 [] (.slice none 0 0) w1 from ⟨hs1, Acc.nil _ _ _ _, ht1, HH.out.rb.lt, HH.out.wr.lt⟩); have HG1 := Lib.hid (GGo.start (p := p) hr1); clear hs1 hr1 ht1 hl1 hz1' hn)
    | fail)
  go_loopw [9, 18] (fun v i wr => ∃ (k a : Nat) (e1 : Int) (l : List RichD), k ≤ n ∧ i = .int .i64 k ∧ Hid (l.length = k ∧ GSt richK 34 w g gr s left a e1 l v wr ∧ GGo p lo hi s at_ e (n - k) l a e1)) (fun _ i _ => n - (intOf i).toNat)
  case atStart => exact ⟨0, a1, e1, [], by omega, rfl, ⟨rfl, HS1.out, HG1.out⟩⟩
  case round =>
    obtain ⟨k, a, e1, l, hk, rfl, HQ⟩ := hrel
    by_cases hlt : k < n
    · have hki : (k : Int) < (n : Int) := by omega
      have HM := Lib.hid (HO.out a e1 wr HQ.out.2.1.rs HQ.out.2.1.tt)
      go_upto_region 5 with (first
        | (go_at_call 169; (with_reducible refine HM.out.mono ?_); rintro rr w2 ⟨x, vx, b2, e2, rfl, ⟨r, rfl, hx2⟩, hs2, hr2, ht2⟩; obtain ⟨ra, rc, rfl⟩ := (ArgsP.is hx2).form; have HS2 := Lib.hid (HQ.out.2.1.call hs2 ht2); have HX2 := Lib.hid hx2; have HR2 := Lib.hid hr2; have HT2 := Lib.hid ht2.size; clear hs2 hr2 ht2 hx2)
        | fail)
      obtain ⟨b, hbe⟩ : ∃ b, b = w2.heap.size := ⟨_, rfl⟩
      obtain ⟨w3, hw3⟩ : ∃ w3, w3 = w2.alloc (.cells #[.int .u8 x.kind, .string x.dep.name, .int .u8 x.dep.op, .int .i64 x.dep.ep, .string x.dep.ver, .string x.dep.rel, .slice ra x.n rc] 34) := ⟨_, rfl⟩
      have hb3 : Below w2.heap.size w2 w3 := by rw [hw3]; exact new_b _ _
      have HB3 := Lib.hid (show Blk w3 b 34 #[.int .u8 x.kind, .string x.dep.name, .int .u8 x.dep.op, .int .i64 x.dep.ep, .string x.dep.ver, .string x.dep.rel, .slice ra x.n rc] from by rw [hw3, hbe]; exact Blk.new _ _ _)
      have HS3 := Lib.hid (HS2.out.below hb3)
      have HX3 := Lib.hid (take0 HX2.out hb3)
      have HG3 := Lib.hid (show GGo p lo hi s at_ e (n - (k + 1) + 1) l a e1 from by rw [show n - (k + 1) + 1 = n - k from by omega]; exact HQ.out.2.2)
      have HL := Lib.hid HQ.out.1
      have HF := Lib.hid (crfine_any HS3.out.rs)
      have HOw := Lib.hid (fun q hq => (HQ.out.2.1.ownB q hq).2)
      have HSz := Lib.hid HQ.out.2.1.tt.size
      rw [← hw3, ← hbe]
      clear hw3 hbe hb3 HM HS2 HQ
      by_cases he2 : e2 = 0
      · have HF1 := Lib.hid (show Calls Tryz.prog 84 #[.pointer (some ⟨g, 0, none⟩)] w3 (fun r w' => r = .returned (.bool true) ∧ ∃ n, w' = w3.drewN n) from HF.out.mono fun r w' ⟨h1, h2⟩ => ⟨by rw [h1, he2]; rfl, h2⟩)
        clear HF
        go_upto_region 7 with (first
          | (go_at_call 84; (with_reducible refine HF1.out.mono ?_); rintro rr w4 ⟨rfl, n4, rfl⟩)
          | fail)
        obtain ⟨w4, hw4⟩ : ∃ w4, w4 = w3.drewN n4 := ⟨_, rfl⟩
        rw [← hw4]
        have HB4 := Lib.hid (show Blk w4 b 34 #[.int .u8 x.kind, .string x.dep.name, .int .u8 x.dep.op, .int .i64 x.dep.ep, .string x.dep.ver, .string x.dep.rel, .slice ra x.n rc] from hw4 ▸ HB3.out.drewN n4)
        have HS4 := Lib.hid (show GSt richK 34 w g gr s left b2 e2 l u9 w4 from hw4 ▸ HS3.out.drewN n4)
        have HX4 := Lib.hid (show richK.holds (free wr.heap.size) w4 x (Value.slice ra x.n rc) from hw4 ▸ (show richK.holds (free wr.heap.size) (w3.drewN n4) x (Value.slice ra x.n rc) from take0 HX3.out (bel_drewN (Below.refl _ _) n4)))
        have z0 : w4.cell? ⟨b, 0, none⟩ = some (.int .u8 x.kind) := HB4.out.cell 0
        have z1 : w4.cell? ⟨b, 1, none⟩ = some (.string x.dep.name) := HB4.out.cell 1
        have z2 : w4.cell? ⟨b, 2, none⟩ = some (.int .u8 x.dep.op) := HB4.out.cell 2
        have z3 : w4.cell? ⟨b, 3, none⟩ = some (.int .i64 x.dep.ep) := HB4.out.cell 3
        have z4 : w4.cell? ⟨b, 4, none⟩ = some (.string x.dep.ver) := HB4.out.cell 4
        have z5 : w4.cell? ⟨b, 5, none⟩ = some (.string x.dep.rel) := HB4.out.cell 5
        have z6 : w4.cell? ⟨b, 6, none⟩ = some (.slice ra x.n rc) := HB4.out.cell 6
        have bl : b < w4.heap.size := HB4.out.lt
        obtain ⟨xs, hown, hone⟩ := HS4.out.ac.own
        obtain ⟨ao, cp, hve⟩ := own_at hown
        have hll := HL.out
        subst hve
        rw [hll] at hown
        have HO4 := Lib.hid hown
        have HN4 := Lib.hid hone
        clear hw4 HB3 HS3 HX3 HF1 HB4 hown hone
        go_wp2_with (first
          | (at_builtin; (refine wpList_append_S _ rfl (.tmp 25) (.tmp 27) _ _ rfl 34 iD _ 7 96 Tryz.underlying26 hiD hz0 hz1 hz2 rfl (by omega) (.slice ao l.length cp) l.length xs rfl (hll ▸ HO4.out.alloc _) HN4.out (.slice (some ⟨w4.heap.size, 0, none⟩) 1 1) 1 (richK.cells x (Value.slice ra x.n rc)) rfl (src_rich w4 x (.slice ra x.n rc) rfl) (by simp only [maxLen]; omega) (by omega) ?_); rintro ao' cap' w7 hn1 hn2 hO7 hg7 hat7 hlt7; have hS5 := HS4.out.below (new_b w4 (.cells #[.int .u8 x.kind, .string x.dep.name, .int .u8 x.dep.op, .int .i64 x.dep.ep, .string x.dep.ver, .string x.dep.rel, .slice ra x.n rc] 34)); have HS7 := Lib.hid (hS5.push (x := x) (r := (Value.slice ra x.n rc)) (hll ▸ HO4.out.alloc _) HSz.out HOw.out (take0 HX4.out (new_b _ _)) hO7 hg7 hat7); clear hn1 hn2 hO7 hg7 hat7 hlt7 hS5)
          | fail)
        go_roundw
        case rel => exact ⟨k + 1, b2, e2, l ++ [x], by omega, by go_num, ⟨by rw [List.length_append, hll]; rfl, by (have h7 := HS7.out; rw [hll] at h7; exact h7), HG3.out.step HR2.out⟩⟩
        case measure => simp [intOf]; omega
      · have HF1 := Lib.hid (show Calls Tryz.prog 84 #[.pointer (some ⟨g, 0, none⟩)] w3 (fun r w' => r = .returned (.bool false) ∧ ∃ n, w' = w3.drewN n) from HF.out.mono fun r w' ⟨h1, h2⟩ => ⟨by rw [h1, decide_eq_false he2], h2⟩)
        clear HF
        go_wp2_with (first
          | (go_at_call 84; (with_reducible refine HF1.out.mono ?_); rintro rr w4 ⟨rfl, n4, rfl⟩)
          | fail)
        go_ret
        exact ⟨[], _, b2, e2, rfl, LIn.nil _ _ _, HS3.out.rs.drewN n4, HG3.out.bad HR2.out he2, HS3.out.tt.drewN n4⟩
    · obtain rfl : k = n := by omega
      go_wp2_with fail
      go_ret
      have hG := HQ.out.2.2
      rw [Nat.sub_self] at hG
      exact ⟨l, u9, a, e1, rfl, HQ.out.2.1.ac.done (by have := HQ.out.1; omega) (by decide), HQ.out.2.1.rs, hG.done, HQ.out.2.1.tt⟩
end Go.Proofs.YtdpjjnbelgaagaaGreatDoor

namespace Go.Proofs.YtdpjjnbelgaagaaGreatDoor
open Go.ChangeShapes Go.WideShapes Go.ChangeAt Go.RowKit Go.Deep
set_option maxRecDepth 100000

abbrev zeroPk : Array Value := #[.string ⟨#[]⟩, .int .i64 0, .string ⟨#[]⟩, .string ⟨#[]⟩, .int .u8 0, .string ⟨#[]⟩, .slice none 0 0, .slice none 0 0, .slice none 0 0, .slice none 0 0, .slice none 0 0, .slice none 0 0, .slice none 0 0, .slice none 0 0, .slice none 0 0]
abbrev pkA (p : PkgD) (r : PkgR) : Array Value := #[.string p.name, .int .i64 p.ep, .string p.ver, .string p.rel, .int .u8 p.arch, .string p.vendor, r.prov, r.req, r.con, r.obs, r.reco, r.sup, r.sug, r.enh, r.files]
theorem iPkg : ∃ i, Tryz.prog.info? 29 = some i ∧ i.zero = some (.agg zeroPk) ∧ i.size = 15 ∧ i.bytes = 296 :=
  info_parts (P := Tryz.prog) (e := 29) (z := .agg zeroPk) (size := 15) (bytes := 296) (by kernel_rfl)
theorem src_pkg (w : World) (p : PkgD) (r : PkgR) (h : ∀ u ∈ pkgCs p r, u.oneCell' = true) : Src Tryz.prog 15 36 (.slice (some ⟨w.heap.size, 0, none⟩) 1 1) 1 (pkgCs p r) (w.alloc (.cells (pkA p r) 29)) :=
  (Own.made w 29 15 (pkA p r) 1 rfl (by simp [maxLen])).src Tryz.underlying36 h
set_option maxHeartbeats 4000000 in
theorem getP_any {g gr : Nat} {s : ByteArray} {left : Int} {at_ : Nat} {e : Int} {w : World} (lo hi : Int) (hh : 0 ≤ hi) (hhi : hi ≤ 1024) (p : Rdr PkgD)
    (one : ∀ (a : Nat) (e : Int) (W : World), RSt g gr s left a e W → Touch (RF g gr) w W → Calls Tryz.prog 86 #[.pointer (some ⟨g, 0, none⟩)] W (RPost g gr s left a e p (fun x v w' => ∃ r, v = x.val r ∧ pkgK.holds (free W.heap.size) w' x r) W))
    (h : RSt g gr s left at_ e w) : Calls Tryz.prog 85 #[.pointer (some ⟨g, 0, none⟩), .int .i64 lo, .int .i64 hi, .func (.func 86) #[.pointer (some ⟨g, 0, none⟩)] #[]] w (RPost g gr s left at_ e (pMany lo hi p) (fun l v w' => LIn pkgK (free w.heap.size) w' l v ∧ (l.length : Int) ≤ hi) w) := by
  have HO := Lib.hid one
  have HN := Lib.hid (crnum_any lo hi hh h)
  have HH := Lib.hid h
  have c0 : w.cell? ⟨g, 0, none⟩ = some (.pointer (some ⟨gr, 0, none⟩)) := h.rb.cell 0
  obtain ⟨iD, hiD, hz0, hz1, hz2⟩ := iPkg
  clear one h
  go_enter Tryz.func85, Tryz.ntmps85
  go_wp2_with (first
    | (go_at_call 83; (with_reducible refine HN.out.mono ?_); rintro r w1 ⟨n, a1, e1, rfl, hn, hs1, hr1, ht1, hl1, hz1'⟩; have hnb : n ≤ 1024 := (by omega); have HS1 := Lib.hid (show GSt pkgK 29 w g gr s left a1 e1 [] (.slice none 0 0) w1 from ⟨hs1, Acc.nil _ _ _ _, ht1, HH.out.rb.lt, HH.out.wr.lt⟩); have HG1 := Lib.hid (GGo.start (p := p) hr1); have HHi := Lib.hid hn; clear hs1 hr1 ht1 hl1 hz1' hn)
    | fail)
  go_loopw [9, 18] (fun v i wr => ∃ (k a : Nat) (e1 : Int) (l : List PkgD), k ≤ n ∧ i = .int .i64 k ∧ Hid (l.length = k ∧ GSt pkgK 29 w g gr s left a e1 l v wr ∧ GGo p lo hi s at_ e (n - k) l a e1)) (fun _ i _ => n - (intOf i).toNat)
  case atStart => exact ⟨0, a1, e1, [], by omega, rfl, ⟨rfl, HS1.out, HG1.out⟩⟩
  case round =>
    obtain ⟨k, a, e1, l, hk, rfl, HQ⟩ := hrel
    by_cases hlt : k < n
    · have hki : (k : Int) < (n : Int) := by omega
      have HM := Lib.hid (HO.out a e1 wr HQ.out.2.1.rs HQ.out.2.1.tt)
      go_upto_region 5 with (first
        | (go_at_call 86; (with_reducible refine HM.out.mono ?_); rintro rr w2 ⟨x, vx, b2, e2, rfl, ⟨r, rfl, hx2⟩, hs2, hr2, ht2⟩; rcases r with ⟨r1, r2, r3, r4, r5, r6, r7, r8, r9⟩; have hh2 : PkgIn (free wr.heap.size) w2 x ⟨r1, r2, r3, r4, r5, r6, r7, r8, r9⟩ := hx2; obtain ⟨a1, q1, (rfl : r1 = _)⟩ := hh2.prov.form; obtain ⟨a2, q2, (rfl : r2 = _)⟩ := hh2.req.form; obtain ⟨a3, q3, (rfl : r3 = _)⟩ := hh2.con.form; obtain ⟨a4, q4, (rfl : r4 = _)⟩ := hh2.obs.form; obtain ⟨a5, q5, (rfl : r5 = _)⟩ := hh2.reco.form; obtain ⟨a6, q6, (rfl : r6 = _)⟩ := hh2.sup.form; obtain ⟨a7, q7, (rfl : r7 = _)⟩ := hh2.sug.form; obtain ⟨a8, q8, (rfl : r8 = _)⟩ := hh2.enh.form; obtain ⟨a9, q9, (rfl : r9 = _)⟩ := hh2.files.form; clear hh2; have HS2 := Lib.hid (HQ.out.2.1.call hs2 ht2); have HX2 := Lib.hid hx2; have HR2 := Lib.hid hr2; have HT2 := Lib.hid ht2.size; clear hs2 hr2 ht2 hx2)
        | fail)
      obtain ⟨b, hbe⟩ : ∃ b, b = w2.heap.size := ⟨_, rfl⟩
      obtain ⟨w3, hw3⟩ : ∃ w3, w3 = w2.alloc (.cells #[.string x.name, .int .i64 x.ep, .string x.ver, .string x.rel, .int .u8 x.arch, .string x.vendor, .slice a1 x.prov.length q1, .slice a2 (argL x.req).length q2, .slice a3 (argL x.con).length q3, .slice a4 x.obs.length q4, .slice a5 (argL x.reco).length q5, .slice a6 (argL x.sup).length q6, .slice a7 (argL x.sug).length q7, .slice a8 (argL x.enh).length q8, .slice a9 x.files.length q9] 29) := ⟨_, rfl⟩
      have hb3 : Below w2.heap.size w2 w3 := by rw [hw3]; exact new_b _ _
      have HB3 := Lib.hid (show Blk w3 b 29 #[.string x.name, .int .i64 x.ep, .string x.ver, .string x.rel, .int .u8 x.arch, .string x.vendor, .slice a1 x.prov.length q1, .slice a2 (argL x.req).length q2, .slice a3 (argL x.con).length q3, .slice a4 x.obs.length q4, .slice a5 (argL x.reco).length q5, .slice a6 (argL x.sup).length q6, .slice a7 (argL x.sug).length q7, .slice a8 (argL x.enh).length q8, .slice a9 x.files.length q9] from by rw [hw3, hbe]; exact Blk.new _ _ _)
      have HS3 := Lib.hid (HS2.out.below hb3)
      have HX3 := Lib.hid (take0 HX2.out hb3)
      have HG3 := Lib.hid (show GGo p lo hi s at_ e (n - (k + 1) + 1) l a e1 from by rw [show n - (k + 1) + 1 = n - k from by omega]; exact HQ.out.2.2)
      have HL := Lib.hid HQ.out.1
      have HF := Lib.hid (crfine_any HS3.out.rs)
      have HOw := Lib.hid (fun q hq => (HQ.out.2.1.ownB q hq).2)
      have HSz := Lib.hid HQ.out.2.1.tt.size
      rw [← hw3, ← hbe]
      clear hw3 hbe hb3 HM HS2 HQ
      by_cases he2 : e2 = 0
      · have HF1 := Lib.hid (show Calls Tryz.prog 84 #[.pointer (some ⟨g, 0, none⟩)] w3 (fun r w' => r = .returned (.bool true) ∧ ∃ n, w' = w3.drewN n) from HF.out.mono fun r w' ⟨h1, h2⟩ => ⟨by rw [h1, he2]; rfl, h2⟩)
        clear HF
        go_upto_region 7 with (first
          | (go_at_call 84; (with_reducible refine HF1.out.mono ?_); rintro rr w4 ⟨rfl, n4, rfl⟩)
          | fail)
        obtain ⟨w4, hw4⟩ : ∃ w4, w4 = w3.drewN n4 := ⟨_, rfl⟩
        rw [← hw4]
        have HB4 := Lib.hid (show Blk w4 b 29 #[.string x.name, .int .i64 x.ep, .string x.ver, .string x.rel, .int .u8 x.arch, .string x.vendor, .slice a1 x.prov.length q1, .slice a2 (argL x.req).length q2, .slice a3 (argL x.con).length q3, .slice a4 x.obs.length q4, .slice a5 (argL x.reco).length q5, .slice a6 (argL x.sup).length q6, .slice a7 (argL x.sug).length q7, .slice a8 (argL x.enh).length q8, .slice a9 x.files.length q9] from hw4 ▸ HB3.out.drewN n4)
        have HS4 := Lib.hid (show GSt pkgK 29 w g gr s left b2 e2 l u9 w4 from hw4 ▸ HS3.out.drewN n4)
        have HX4 := Lib.hid (show pkgK.holds (free wr.heap.size) w4 x (PkgR.mk (.slice a1 x.prov.length q1) (.slice a2 (argL x.req).length q2) (.slice a3 (argL x.con).length q3) (.slice a4 x.obs.length q4) (.slice a5 (argL x.reco).length q5) (.slice a6 (argL x.sup).length q6) (.slice a7 (argL x.sug).length q7) (.slice a8 (argL x.enh).length q8) (.slice a9 x.files.length q9)) from hw4 ▸ (show pkgK.holds (free wr.heap.size) (w3.drewN n4) x (PkgR.mk (.slice a1 x.prov.length q1) (.slice a2 (argL x.req).length q2) (.slice a3 (argL x.con).length q3) (.slice a4 x.obs.length q4) (.slice a5 (argL x.reco).length q5) (.slice a6 (argL x.sup).length q6) (.slice a7 (argL x.sug).length q7) (.slice a8 (argL x.enh).length q8) (.slice a9 x.files.length q9)) from take0 HX3.out (bel_drewN (Below.refl _ _) n4)))
        have z0 : w4.cell? ⟨b, 0, none⟩ = some (.string x.name) := HB4.out.cell 0
        have z1 : w4.cell? ⟨b, 1, none⟩ = some (.int .i64 x.ep) := HB4.out.cell 1
        have z2 : w4.cell? ⟨b, 2, none⟩ = some (.string x.ver) := HB4.out.cell 2
        have z3 : w4.cell? ⟨b, 3, none⟩ = some (.string x.rel) := HB4.out.cell 3
        have z4 : w4.cell? ⟨b, 4, none⟩ = some (.int .u8 x.arch) := HB4.out.cell 4
        have z5 : w4.cell? ⟨b, 5, none⟩ = some (.string x.vendor) := HB4.out.cell 5
        have z6 : w4.cell? ⟨b, 6, none⟩ = some (.slice a1 x.prov.length q1) := HB4.out.cell 6
        have z7 : w4.cell? ⟨b, 7, none⟩ = some (.slice a2 (argL x.req).length q2) := HB4.out.cell 7
        have z8 : w4.cell? ⟨b, 8, none⟩ = some (.slice a3 (argL x.con).length q3) := HB4.out.cell 8
        have z9 : w4.cell? ⟨b, 9, none⟩ = some (.slice a4 x.obs.length q4) := HB4.out.cell 9
        have z10 : w4.cell? ⟨b, 10, none⟩ = some (.slice a5 (argL x.reco).length q5) := HB4.out.cell 10
        have z11 : w4.cell? ⟨b, 11, none⟩ = some (.slice a6 (argL x.sup).length q6) := HB4.out.cell 11
        have z12 : w4.cell? ⟨b, 12, none⟩ = some (.slice a7 (argL x.sug).length q7) := HB4.out.cell 12
        have z13 : w4.cell? ⟨b, 13, none⟩ = some (.slice a8 (argL x.enh).length q8) := HB4.out.cell 13
        have z14 : w4.cell? ⟨b, 14, none⟩ = some (.slice a9 x.files.length q9) := HB4.out.cell 14
        have bl : b < w4.heap.size := HB4.out.lt
        obtain ⟨xs, hown, hone⟩ := HS4.out.ac.own
        obtain ⟨ao, cp, hve⟩ := own_at hown
        have hll := HL.out
        subst hve
        rw [hll] at hown
        have HO4 := Lib.hid hown
        have HN4 := Lib.hid hone
        clear hw4 HB3 HS3 HX3 HF1 HB4 hown hone
        go_wp2_with (first
          | (at_builtin; (refine wpList_append_S _ rfl (.tmp 25) (.tmp 27) _ _ rfl 29 iD _ 15 296 Tryz.underlying36 hiD hz0 hz1 hz2 rfl (by omega) (.slice ao l.length cp) l.length xs rfl (hll ▸ HO4.out.alloc _) HN4.out (.slice (some ⟨w4.heap.size, 0, none⟩) 1 1) 1 (pkgK.cells x (PkgR.mk (.slice a1 x.prov.length q1) (.slice a2 (argL x.req).length q2) (.slice a3 (argL x.con).length q3) (.slice a4 x.obs.length q4) (.slice a5 (argL x.reco).length q5) (.slice a6 (argL x.sup).length q6) (.slice a7 (argL x.sug).length q7) (.slice a8 (argL x.enh).length q8) (.slice a9 x.files.length q9))) rfl (src_pkg w4 x ⟨.slice a1 x.prov.length q1, .slice a2 (argL x.req).length q2, .slice a3 (argL x.con).length q3, .slice a4 x.obs.length q4, .slice a5 (argL x.reco).length q5, .slice a6 (argL x.sup).length q6, .slice a7 (argL x.sug).length q7, .slice a8 (argL x.enh).length q8, .slice a9 x.files.length q9⟩ (fun u hu => pkgK.one HX4.out u hu)) (by simp only [maxLen]; omega) (by omega) ?_); rintro ao' cap' w7 hn1 hn2 hO7 hg7 hat7 hlt7; have hS5 := HS4.out.below (new_b w4 (.cells #[.string x.name, .int .i64 x.ep, .string x.ver, .string x.rel, .int .u8 x.arch, .string x.vendor, .slice a1 x.prov.length q1, .slice a2 (argL x.req).length q2, .slice a3 (argL x.con).length q3, .slice a4 x.obs.length q4, .slice a5 (argL x.reco).length q5, .slice a6 (argL x.sup).length q6, .slice a7 (argL x.sug).length q7, .slice a8 (argL x.enh).length q8, .slice a9 x.files.length q9] 29)); have HS7 := Lib.hid (hS5.push (x := x) (r := (PkgR.mk (.slice a1 x.prov.length q1) (.slice a2 (argL x.req).length q2) (.slice a3 (argL x.con).length q3) (.slice a4 x.obs.length q4) (.slice a5 (argL x.reco).length q5) (.slice a6 (argL x.sup).length q6) (.slice a7 (argL x.sug).length q7) (.slice a8 (argL x.enh).length q8) (.slice a9 x.files.length q9))) (hll ▸ HO4.out.alloc _) HSz.out HOw.out (take0 HX4.out (new_b _ _)) hO7 hg7 hat7); clear hn1 hn2 hO7 hg7 hat7 hlt7 hS5)
          | fail)
        go_roundw
        case rel => exact ⟨k + 1, b2, e2, l ++ [x], by omega, by go_num, ⟨by rw [List.length_append, hll]; rfl, by (have h7 := HS7.out; rw [hll] at h7; exact h7), HG3.out.step HR2.out⟩⟩
        case measure => simp [intOf]; omega
      · have HF1 := Lib.hid (show Calls Tryz.prog 84 #[.pointer (some ⟨g, 0, none⟩)] w3 (fun r w' => r = .returned (.bool false) ∧ ∃ n, w' = w3.drewN n) from HF.out.mono fun r w' ⟨h1, h2⟩ => ⟨by rw [h1, decide_eq_false he2], h2⟩)
        clear HF
        go_wp2_with (first
          | (go_at_call 84; (with_reducible refine HF1.out.mono ?_); rintro rr w4 ⟨rfl, n4, rfl⟩)
          | fail)
        go_ret
        exact ⟨[], _, b2, e2, rfl, ⟨LIn.nil _ _ _, hh⟩, HS3.out.rs.drewN n4, HG3.out.bad HR2.out he2, HS3.out.tt.drewN n4⟩
    · obtain rfl : k = n := by omega
      go_wp2_with fail
      go_ret
      have hG := HQ.out.2.2
      rw [Nat.sub_self] at hG
      exact ⟨l, u9, a, e1, rfl, ⟨HQ.out.2.1.ac.done (by have := HQ.out.1; omega) (by decide), by have := HHi.out; have := HQ.out.1; omega⟩, HQ.out.2.1.rs, hG.done, HQ.out.2.1.tt⟩
end Go.Proofs.YtdpjjnbelgaagaaGreatDoor

namespace Go.Proofs.YtdpjjnbelgaagaaGreatDoor
open Go.ChangeShapes Go.WideShapes Go.ChangeAt Go.RowKit Go.Deep
set_option maxRecDepth 100000

theorem argL_ofL (k : Int) (l : List RichD) : argL (ofL k l) = l := by
  unfold argL
  apply List.ext_getElem
  · simp [ofL, RichD.n]
  · intro i h1 h2
    simp [ofL, RichD.args, h2]
theorem DepD.small.fit {d : DepD} (h : d.small) : d.fit ∧ 0 ≤ d.op ∧ d.op < 256 := ⟨⟨by have := h.1; omega, by have := h.2.2.2.1; omega, by have := h.2.2.2.2; omega⟩, h.2.1⟩
abbrev VR (n0 : Nat) : RichD → Value → World → Prop := fun x v w' => ∃ r, v = x.val r ∧ richK.holds (free n0) w' x r
theorem free_more {α : Type} {K : Kd α} {n m : Nat} (hm : n ≤ m) {w : World} {x : α} {r : K.R} (h : K.holds (free m) w x r) : K.holds (free n) w x r := K.keep h (Nat.le_refl _) fun _ ⟨k1, k2⟩ _ => ⟨rfl, by omega, k2⟩
/-- crdeps. -/
theorem crdeps_any {g gr : Nat} {s : ByteArray} {left : Int} {at_ : Nat} {e : Int} {w : World} (h : RSt g gr s left at_ e w) : Calls Tryz.prog 135 #[.pointer (some ⟨g, 0, none⟩)] w (RPost g gr s left at_ e pDeps (fun l v w' => LIn depK (free w.heap.size) w' l v) w) := by
  have HG := Lib.hid (getD_any 0 32 (by decide) (by decide) pDep (fun a e W hW _ => (crdep_any hW).mono fun r w' ⟨x, v, a2, e2, h1, ⟨h2, h2'⟩, h3, h4, h5⟩ => ⟨x, v, a2, e2, h1, ⟨(), h2, h2'.fit⟩, h3, h4, h5⟩) h)
  clear h
  go_enter Tryz.func135, Tryz.ntmps135
  go_wp2_with (first
    | (go_at_call 166; (with_reducible refine HG.out.mono ?_); rintro r w1 ⟨x, v, a2, e2, rfl, hx, h3, h4, h5⟩)
    | fail)
  go_ret
  exact ⟨x, v, a2, e2, rfl, hx, h3, h4, h5⟩
/-- rich's boxes, and its result's cell. -/
structure BSt (w : World) (b1 b2 b3 : Nat) (deep : Int) (g gr : Nat) (s : ByteArray) (left : Int) (a : Nat) (e : Int) (W : World) : Prop where
  rs : RSt g gr s left a e W
  x1 : Blk W b1 83 #[.pointer (some ⟨g, 0, none⟩)]
  x2 : Blk W b2 3 #[.int .i64 deep]
  rz : Blk W b3 34 zeroR
  tt : Touch (RF g gr) w W
  lo : w.heap.size ≤ b1 ∧ w.heap.size ≤ b2 ∧ w.heap.size ≤ b3
section
variable {w : World} {b1 b2 b3 bx : Nat} {deep : Int} {g gr : Nat} {s : ByteArray} {left : Int} {a a' : Nat} {e e' : Int} {W W' : World} {c : Array Value}
theorem BSt.call (h : BSt w b1 b2 b3 deep g gr s left a e W) (hr : RSt g gr s left a' e' W') (ht : Touch (RF g gr) W W') : BSt w b1 b2 b3 deep g gr s left a' e' W' :=
  ⟨hr, h.rs.far ht h.x1 (by decide) (by decide), h.rs.far ht h.x2 (by decide) (by decide), h.rs.far ht h.rz (by decide) (by decide), h.tt.trans ht fun _ _ h => h, h.lo⟩
theorem BSt.below (h : BSt w b1 b2 b3 deep g gr s left a e W) (hb : Below W.heap.size W W') : BSt w b1 b2 b3 deep g gr s left a e W' := h.call (h.rs.below hb) (Touch.of_below hb _)
theorem BSt.start (h : RSt g gr s left a e w) (deep : Int) : BSt w w.heap.size (w.heap.size + 1) (w.heap.size + 2) deep g gr s left a e (((w.alloc (.cells #[.pointer (some ⟨g, 0, none⟩)] 83)).alloc (.cells #[.int .i64 deep] 3)).alloc (.cells zeroR 34)) := by
  have h1 := new_b w (.cells #[.pointer (some ⟨g, 0, none⟩)] 83)
  have h2 := new_b (w.alloc (.cells #[.pointer (some ⟨g, 0, none⟩)] 83)) (.cells #[.int .i64 deep] 3)
  have h3 := new_b ((w.alloc (.cells #[.pointer (some ⟨g, 0, none⟩)] 83)).alloc (.cells #[.int .i64 deep] 3)) (.cells zeroR 34)
  have k1 := Blk.new w 83 #[.pointer (some ⟨g, 0, none⟩)]
  have k2 := Blk.new (w.alloc (.cells #[.pointer (some ⟨g, 0, none⟩)] 83)) 3 #[.int .i64 deep]
  have k3 := Blk.new ((w.alloc (.cells #[.pointer (some ⟨g, 0, none⟩)] 83)).alloc (.cells #[.int .i64 deep] 3)) 34 zeroR
  have hB := below_t' h1 (below_t' h2 h3)
  have l1 := k1.lt
  have l2 := k2.lt
  rw [World.size_alloc] at k2 l2
  rw [World.size_alloc, World.size_alloc] at k3
  refine ⟨h.below hB, (k1.below h2 l1).below h3 (by have := h2.size; omega), k2.below h3 l2, k3, Touch.of_below hB _, by omega, by omega, by omega⟩
/-- And the rich dependency under way. -/
structure XSt (w : World) (b1 b2 b3 bx : Nat) (c : Array Value) (deep : Int) (g gr : Nat) (s : ByteArray) (left : Int) (a : Nat) (e : Int) (W : World) : Prop where
  bs : BSt w b1 b2 b3 deep g gr s left a e W
  rx : Blk W bx 34 c
  lx : w.heap.size ≤ bx
  nx : b3 ≠ bx
theorem XSt.call (h : XSt w b1 b2 b3 bx c deep g gr s left a e W) (hr : RSt g gr s left a' e' W') (ht : Touch (RF g gr) W W') : XSt w b1 b2 b3 bx c deep g gr s left a' e' W' :=
  ⟨h.bs.call hr ht, h.bs.rs.far ht h.rx (by decide) (by decide), h.lx, h.nx⟩
theorem XSt.drewN (h : XSt w b1 b2 b3 bx c deep g gr s left a e W) (n : Nat) : XSt w b1 b2 b3 bx c deep g gr s left a e (W.drewN n) := h.call (h.bs.rs.drewN n) ((Touch.refl _ _).drewN n)
theorem XSt.set (h : XSt w b1 b2 b3 bx c deep g gr s left a e W) (i : Nat) (v : Value) : XSt w b1 b2 b3 bx (c.setIfInBounds i v) deep g gr s left a e (W.setCell ⟨bx, i, none⟩ v) :=
  ⟨⟨h.bs.rs.set (h.rx.ne_ h.bs.rs.rb (by decide)) (h.rx.ne_ h.bs.rs.wr (by decide)) v, h.bs.x1.far (h.bs.x1.ne_ h.rx (by decide)) v, h.bs.x2.far (h.bs.x2.ne_ h.rx (by decide)) v, h.bs.rz.far h.nx v, touch_set h.bs.tt h.lx v, h.bs.lo⟩, h.rx.set_ i v, h.lx, h.nx⟩
theorem RSt.fin {r : RichD} {v : Value} {b : Nat} (h : RSt g gr s left a e W) (h1 : b ≠ g) (h2 : b ≠ gr) : RSt g gr s left a e (fin7 W b r v) := by
  unfold fin7
  have k : ∀ (i : Nat) (u : Value) (W : World), RSt g gr s left a e W → RSt g gr s left a e (W.setCell ⟨b, i, none⟩ u) := fun i u W h => h.set (p := ⟨b, i, none⟩) h1 h2 u
  exact k _ _ _ (k _ _ _ (k _ _ _ (k _ _ _ (k _ _ _ (k _ _ _ (k _ _ _ h))))))
theorem touch_fin {F : Nat → Prop} {r : RichD} {v : Value} {b : Nat} (h : Touch F w W) (hb : w.heap.size ≤ b) : Touch F w (fin7 W b r v) :=
  by
  unfold fin7
  have k : ∀ (i : Nat) (u : Value) (W : World), Touch F w W → Touch F w (W.setCell ⟨b, i, none⟩ u) := fun i u W h => touch_set (p := ⟨b, i, none⟩) h hb u
  exact k _ _ _ (k _ _ _ (k _ _ _ (k _ _ _ (k _ _ _ (k _ _ _ (k _ _ _ h))))))
theorem args_fin {n0 b : Nat} {x y : RichD} {r v : Value} (h : ArgsP (free n0) W x r) (hb : b < n0) : ArgsP (free n0) (fin7 W b y v) x r := by
  obtain ⟨U, hU⟩ : ∃ U, U = fin7 W b y v := ⟨_, rfl⟩
  have hs : U.heap.size = W.heap.size := by rw [hU]; exact fin7_size _ _ _ _
  have hf : ∀ k, k ≠ b → U.heap[k]? = W.heap[k]? := by rw [hU]; exact fin7_far _ _ _ _
  rw [← hU]
  exact h.keep (by omega) fun k ⟨k1, k2⟩ _ => ⟨hf k (by omega), k1, fun i => (World.frozen?_of_block (w := W) (hf k (by omega))).trans (k2 i)⟩
theorem holds_fin {n0 b : Nat} {x y : RichD} {r v : Value} (h : richK.holds (free n0) W x r) (hb : b < n0) : richK.holds (free n0) (fin7 W b y v) x r := args_fin h hb
/-- The result is laid. -/
theorem XSt.done {x : RichD} {r : Value} {n0 : Nat} (h : XSt w b1 b2 b3 bx (richA x r) deep g gr s left a e W) (hn : w.heap.size ≤ n0) (hb : b3 < n0) (hx : richK.holds (free n0) W x r) :
    Blk (fin7 W b3 x r) b3 34 (richA x r) ∧ richK.holds (free w.heap.size) (fin7 W b3 x r) x r ∧ RSt g gr s left a e (fin7 W b3 x r) ∧ Touch (RF g gr) w (fin7 W b3 x r) :=
  ⟨fin7_blk h.bs.rz x r, free_more hn (holds_fin hx hb), h.bs.rs.fin (h.bs.rz.ne_ h.bs.rs.rb (by decide)) (h.bs.rz.ne_ h.bs.rs.wr (by decide)), touch_fin h.bs.tt h.bs.lo.2.2⟩
end
/-- What reading a rich dependency comes to. -/
def RichC (m : Nat) : Prop := ∀ (g gr : Nat) (s : ByteArray) (left : Int) (at_ : Nat) (e : Int) (w : World), RSt g gr s left at_ e w → Calls Tryz.prog 170 #[.pointer (some ⟨g, 0, none⟩), .int .i64 (8 - m : Int)] w (RPost g gr s left at_ e (pRich m) (VR w.heap.size) w)
set_option maxHeartbeats 4000000 in
theorem crrich1_any {m : Nat} (hm : m < 8) (ih : RichC m) {g gr b1 b2 : Nat} {s : ByteArray} {left : Int} {at_ : Nat} {e : Int} {w : World} (h : RSt g gr s left at_ e w) (h1 : Blk w b1 83 #[.pointer (some ⟨g, 0, none⟩)]) (h2 : Blk w b2 3 #[.int .i64 (8 - (m + 1 : Nat) : Int)]) :
    Calls Tryz.prog 179 #[.pointer (some ⟨b1, 0, none⟩), .pointer (some ⟨b2, 0, none⟩)] w (RPost g gr s left at_ e (pRich m) (VR w.heap.size) w) := by
  obtain ⟨b, hbe⟩ : ∃ b, b = w.heap.size := ⟨_, rfl⟩
  obtain ⟨w1, hw1⟩ : ∃ w1, w1 = w.alloc (.cells zeroR 34) := ⟨_, rfl⟩
  have hb1 : Below w.heap.size w w1 := by rw [hw1]; exact new_b _ _
  have hx1 : Blk w1 b 34 zeroR := by rw [hw1, hbe]; exact Blk.new _ _ _
  have hsz : w1.heap.size = b + 1 := by rw [hw1, hbe]; simp
  have c1 : w1.cell? ⟨b1, 0, none⟩ = some (.pointer (some ⟨g, 0, none⟩)) := (h1.below hb1 h1.lt).cell 0
  have c2 : w1.cell? ⟨b2, 0, none⟩ = some (.int .i64 (8 - (m + 1 : Nat) : Int)) := (h2.below hb1 h2.lt).cell 0
  obtain ⟨d, hd⟩ : ∃ d : Int, d = 8 - (m + 1 : Nat) := ⟨_, rfl⟩
  rw [← hd] at c2
  have hd1 : 0 ≤ d ∧ d < 8 := by omega
  have HN := Lib.hid (show Calls Tryz.prog 170 #[.pointer (some ⟨g, 0, none⟩), .int .i64 (d + 1)] w1 (RPost g gr s left at_ e (pRich m) (VR w1.heap.size) w1) from by
    have := ih g gr s left at_ e w1 (h.below hb1)
    rw [show (8 - m : Int) = d + 1 from by omega] at this
    exact this)
  have HS := Lib.hid (show RSt g gr s left at_ e w1 ∧ Blk w1 b 34 zeroR ∧ Touch (RF g gr) w w1 ∧ w1.heap.size = b + 1 ∧ w.heap.size = b from ⟨h.below hb1, hx1, Touch.of_below hb1 _, hsz, hbe.symm⟩)
  clear h h1 h2 hb1 hx1 hsz hd
  go_enter Tryz.func179, Tryz.ntmps179
  go_upto_region 1 with fail
  rw [← hw1, ← hbe]
  have HG := Lib.hid hbe
  clear hw1 hbe
  go_wp2_with (first
    | (go_at_call 170; (with_reducible refine HN.out.mono ?_); rintro rr w2 ⟨x, vx, a2, e2, rfl, ⟨r, rfl, hx2⟩, hs2, hr2, ht2⟩; obtain ⟨ra, rc, rfl⟩ := (ArgsP.is hx2).form; have HX2 := Lib.hid hx2; have HS2 := Lib.hid (show RSt g gr s left a2 e2 w2 ∧ Blk w2 b 34 zeroR ∧ Touch (RF g gr) w w2 from ⟨hs2, HS.out.1.far ht2 HS.out.2.1 (by decide) (by decide), HS.out.2.2.1.trans ht2 fun _ _ h => h⟩); have HR2 := Lib.hid hr2; have z0 := HS2.out.2.1.cell 0; have z1 := HS2.out.2.1.cell 1; have z2 := HS2.out.2.1.cell 2; have z3 := HS2.out.2.1.cell 3; have z4 := HS2.out.2.1.cell 4; have z5 := HS2.out.2.1.cell 5; have z6 := HS2.out.2.1.cell 6; have f0 := HS2.out.2.1.frozen 0; have f1 := HS2.out.2.1.frozen 1; have f2 := HS2.out.2.1.frozen 2; have f3 := HS2.out.2.1.frozen 3; have f4 := HS2.out.2.1.frozen 4; have f5 := HS2.out.2.1.frozen 5; have f6 := HS2.out.2.1.frozen 6; have zl := HS2.out.2.1.lt; clear hx2 hs2 hr2 ht2)
    | fail)
  have hbg : b ≠ g ∧ b ≠ gr := ⟨HS2.out.2.1.ne_ HS2.out.1.rb (by decide), HS2.out.2.1.ne_ HS2.out.1.wr (by decide)⟩
  exact bodyPost_ret (results_cell_row rfl _ _ b 34 _ (0, 0) _ rfl (fin7_blk HS2.out.2.1 x (.slice ra x.n rc)) Tryz.underlying34 rfl (by kernel_rfl)) rfl ⟨x, _, a2, e2, rfl, ⟨_, rfl, by rw [HS.out.2.2.2.2]; exact free_more (by rw [HS.out.2.2.2.1]; omega) (holds_fin HX2.out (by rw [HS.out.2.2.2.1]; omega))⟩, HS2.out.1.fin hbg.1 hbg.2, HR2.out, touch_fin HS2.out.2.2 (by rw [HS.out.2.2.2.2]; exact Nat.le_refl _)⟩
end Go.Proofs.YtdpjjnbelgaagaaGreatDoor

namespace Go.Proofs.YtdpjjnbelgaagaaGreatDoor
open Go.ChangeShapes Go.WideShapes Go.ChangeAt Go.RowKit Go.Deep
set_option maxRecDepth 100000

section
variable {s : ByteArray} {at_ a1 a2 n : Nat} {e e1 e2 : Int}
theorem pRich_bad (m : Nat) (x : RichD) (h : Res (pNum 1 7) s at_ e n a1 e1) (he : e1 ≠ 0) : Res (pRich m) s at_ e x a1 e1 := by
  cases m with
  | zero => exact res_at h (.inl ⟨he, rfl, rfl⟩)
  | succ m => exact res_at h (.inl ⟨he, rfl, rfl⟩)
theorem pRich_atom (m : Nat) {d : DepD} (h : Res (pNum 1 7) s at_ e 1 a1 e1) (k : Res pDep s a1 e1 d a2 e2) : Res (pRich m) s at_ e (atomD d) a2 e2 := by
  cases m with
  | zero => exact res_at h (by rw [if_pos rfl]; exact res_bind k (res_pure _))
  | succ m => exact res_at h (by rw [if_pos rfl]; exact res_bind k (res_pure _))
theorem pRich_deep (x : RichD) (hn : n ≠ 1) (h : Res (pNum 1 7) s at_ e n a1 0) : Res (pRich 0) s at_ e x at_ 21 :=
  res_at h (by rw [if_neg hn]; exact .inr ⟨rfl, .inr ⟨rfl, by decide⟩⟩)
theorem pRich_args (m : Nat) {l : List RichD} (hn : n ≠ 1) (h : Res (pNum 1 7) s at_ e n a1 e1) (k : Res (pMany 2 24 (pRich m)) s a1 e1 l a2 e2) : Res (pRich (m + 1)) s at_ e (ofL n l) a2 e2 :=
  res_at h (by rw [if_neg hn]; exact res_bind k (res_pure _))
theorem num_on {lo hi : Int} (h : Res (pNum lo hi) s at_ e n a1 0) (hs : at_ ≤ s.size) : e = 0 ∧ at_ ≤ a1 := by
  rcases h with ⟨h1, _, h2⟩ | ⟨h1, ⟨h2, _⟩ | ⟨_, h2⟩⟩
  · exact absurd h2.symm h1
  · exact ⟨h1, ((good_num 0 lo hi).mono s at_ n a1 (Nat.zero_le _) hs h2).1⟩
  · exact absurd rfl h2
end
theorem noDep_fit : noDep.fit := ⟨by decide, by decide, by decide⟩
theorem nil_holds (n0 : Nat) (W : World) (x : RichD) (hx : argL x = []) (hf : fitR x.kind x.dep) : richK.holds (free n0) W x (.slice none 0 0) := by
  have h : LIn richK (free n0) W (argL x) (.slice none 0 0) := by rw [hx]; exact LIn.nil _ _ _
  exact h.args hf
theorem args_holds {n0 b i : Nat} {W : World} {l : List RichD} {v u : Value} {k : Int} (h : LIn richK (free n0) W l v) (hb : b < n0) (hk : 0 ≤ k ∧ k < 256) : richK.holds (free n0) (W.setCell ⟨b, i, none⟩ u) (ofL k l) v := by
  have hf : fitR (ofL k l).kind (ofL k l).dep := ⟨noDep_fit, hk⟩
  have h2 : LIn richK (free n0) (W.setCell ⟨b, i, none⟩ u) (argL (ofL k l)) v := by
    rw [argL_ofL]
    refine h.keep (by simp) fun q ⟨k1, k2⟩ _ => ?_
    have e : (W.setCell ⟨b, i, none⟩ u).heap[q]? = W.heap[q]? := Below.heap_setCell _ _ _ _ (by show q ≠ b; omega)
    exact ⟨e, k1, fun j => (World.frozen?_of_block (w := W) e).trans (k2 j)⟩
  exact h2.args hf
theorem XSt.new {w : World} {b1 b2 b3 : Nat} {c : Array Value} {deep : Int} {g gr : Nat} {s : ByteArray} {left : Int} {a : Nat} {e : Int} {W : World} (h : BSt w b1 b2 b3 deep g gr s left a e W) : XSt w b1 b2 b3 W.heap.size c deep g gr s left a e (W.alloc (.cells c 34)) :=
  ⟨h.below (new_b _ _), Blk.new _ _ _, h.tt.size, fun e => by have := h.rz.lt; omega⟩
set_option maxHeartbeats 8000000 in
theorem crrich_step (m : Nat) (hm : m ≤ 8) (ih : ∀ k, m = k + 1 → RichC k) : RichC m := by
  intro g gr s left at_ e w h
  obtain ⟨d, hd⟩ : ∃ d : Int, d = 8 - (m : Int) := ⟨_, rfl⟩
  rw [← hd]
  obtain ⟨b1, hb1⟩ : ∃ b, b = w.heap.size := ⟨_, rfl⟩
  obtain ⟨b2, hb2⟩ : ∃ b, b = w.heap.size + 1 := ⟨_, rfl⟩
  obtain ⟨b3, hb3⟩ : ∃ b, b = w.heap.size + 2 := ⟨_, rfl⟩
  obtain ⟨w1, hw1⟩ : ∃ w1, w1 = (((w.alloc (.cells #[.pointer (some ⟨g, 0, none⟩)] 83)).alloc (.cells #[.int .i64 d] 3)).alloc (.cells zeroR 34)) := ⟨_, rfl⟩
  have HB1 := Lib.hid (show BSt w b1 b2 b3 d g gr s left at_ e w1 from by rw [hb1, hb2, hb3, hw1]; exact BSt.start h d)
  have HD := Lib.hid (show d = 8 - (m : Int) ∧ m ≤ 8 from ⟨hd, hm⟩)
  have HI := Lib.hid ih
  have HZ := Lib.hid (show b1 = w.heap.size ∧ b3 = b1 + 2 ∧ w1.heap.size = b1 + 3 ∧ at_ ≤ s.size from ⟨hb1, by omega, by rw [hw1, hb1]; simp, h.hat⟩)
  have HA := Lib.hid (at_any gr s at_ e w1 HB1.out.rs.wr)
  have HN := Lib.hid (crnum_any 1 7 (by decide) HB1.out.rs)
  have c0 : w1.cell? ⟨g, 0, none⟩ = some (.pointer (some ⟨gr, 0, none⟩)) := HB1.out.rs.rb.cell 0
  have c1 : w1.cell? ⟨b1, 0, none⟩ = some (.pointer (some ⟨g, 0, none⟩)) := HB1.out.x1.cell 0
  clear h ih hd hm
  go_enter Tryz.func170, Tryz.ntmps170
  go_upto_region 1 with fail
  rw [← hw1, ← hb1]
  rw [show b1 + 1 + 1 = b3 by omega, show b1 + 1 = b2 by omega]
  clear hw1 hb1 hb2 hb3
  go_upto_region 4 with (first
    | (go_at_call 132; (with_reducible refine HA.out.mono ?_); rintro r w2 ⟨rfl, rfl⟩)
    | (go_at_call 83; (with_reducible refine HN.out.mono ?_); rintro r w3 ⟨n, a1, e1, rfl, hn7, hs3, hr3, ht3, hl3, hz3⟩; have HB3 := Lib.hid (HB1.out.call hs3 ht3); have HR3 := Lib.hid hr3; have HL3 := Lib.hid (show (e1 = 0 → (1 : Int) ≤ (n : Int)) ∧ (e1 ≠ 0 → n = 0) ∧ (n : Int) ≤ 7 from ⟨hl3, hz3, hn7⟩); have hwr8 : IntKind.u8.wrap (n : Int) = (n : Int) := (by (rw [IntKind.wrap_u8']; omega)); clear hs3 hr3 ht3 hl3 hz3)
    | fail)
  obtain ⟨bx, hbx⟩ : ∃ bx, bx = w3.heap.size := ⟨_, rfl⟩
  obtain ⟨w4, hw4⟩ : ∃ w4, w4 = w3.alloc (.cells #[.int .u8 (n : Int), .string ⟨#[]⟩, .int .u8 0, .int .i64 0, .string ⟨#[]⟩, .string ⟨#[]⟩, .slice none 0 0] 34) := ⟨_, rfl⟩
  have HX4 := Lib.hid (show XSt w b1 b2 b3 bx #[.int .u8 (n : Int), .string ⟨#[]⟩, .int .u8 0, .int .i64 0, .string ⟨#[]⟩, .string ⟨#[]⟩, .slice none 0 0] d g gr s left a1 e1 w4 from by rw [hbx, hw4]; exact XSt.new HB3.out)
  have HF := Lib.hid (crfine_any HX4.out.bs.rs)
  have k1 : w4.cell? ⟨b1, 0, none⟩ = some (.pointer (some ⟨g, 0, none⟩)) := HX4.out.bs.x1.cell 0
  rw [← hw4, ← hbx]
  clear hw4 hbx c0 c1 hn7 HB1 HA HN HB3
  by_cases he1 : e1 = 0
  · have HF1 := Lib.hid (show Calls Tryz.prog 84 #[.pointer (some ⟨g, 0, none⟩)] w4 (fun r w' => r = .returned (.bool true) ∧ ∃ n, w' = w4.drewN n) from HF.out.mono fun r w' ⟨h1, h2⟩ => ⟨by rw [h1, he1]; rfl, h2⟩)
    clear HF
    go_upto_region 5 with (first
      | (go_at_call 84; (with_reducible refine HF1.out.mono ?_); rintro rr w5 ⟨rfl, n4, rfl⟩)
      | fail)
    obtain ⟨w5, hw5⟩ : ∃ w5, w5 = w4.drewN n4 := ⟨_, rfl⟩
    rw [← hw5]
    have HX5 := Lib.hid (show XSt w b1 b2 b3 bx #[.int .u8 (n : Int), .string ⟨#[]⟩, .int .u8 0, .int .i64 0, .string ⟨#[]⟩, .string ⟨#[]⟩, .slice none 0 0] d g gr s left a1 e1 w5 from hw5 ▸ HX4.out.drewN n4)
    clear hw5 HX4 HF1 k1
    have y0 : w5.cell? ⟨bx, 0, none⟩ = some (.int .u8 (n : Int)) := HX5.out.rx.cell 0
    have y1 : w5.cell? ⟨bx, 1, none⟩ = some (.string ⟨#[]⟩) := HX5.out.rx.cell 1
    have y2 : w5.cell? ⟨bx, 2, none⟩ = some (.int .u8 0) := HX5.out.rx.cell 2
    have y3 : w5.cell? ⟨bx, 3, none⟩ = some (.int .i64 0) := HX5.out.rx.cell 3
    have y4 : w5.cell? ⟨bx, 4, none⟩ = some (.string ⟨#[]⟩) := HX5.out.rx.cell 4
    have y5 : w5.cell? ⟨bx, 5, none⟩ = some (.string ⟨#[]⟩) := HX5.out.rx.cell 5
    have y6 : w5.cell? ⟨bx, 6, none⟩ = some (.slice none 0 0) := HX5.out.rx.cell 6
    have yf0 := HX5.out.rx.frozen 0
    have yf1 := HX5.out.rx.frozen 1
    have yf2 := HX5.out.rx.frozen 2
    have yf3 := HX5.out.rx.frozen 3
    have yf4 := HX5.out.rx.frozen 4
    have yf5 := HX5.out.rx.frozen 5
    have yf6 := HX5.out.rx.frozen 6
    have yl : bx < w5.heap.size := HX5.out.rx.lt
    have k1 : w5.cell? ⟨b1, 0, none⟩ = some (.pointer (some ⟨g, 0, none⟩)) := HX5.out.bs.x1.cell 0
    have k2 : w5.cell? ⟨b2, 0, none⟩ = some (.int .i64 d) := HX5.out.bs.x2.cell 0
    have k3 : w5.cell? ⟨g, 0, none⟩ = some (.pointer (some ⟨gr, 0, none⟩)) := HX5.out.bs.rs.rb.cell 0
    by_cases hn1 : n = 1
    · subst hn1
      have HE5 := Lib.hid (crdep_any HX5.out.bs.rs)
      go_upto_region 9 with (first
        | (go_at_call 167; (with_reducible refine HE5.out.mono ?_); rintro rr w6 ⟨dd, vd, a2, e2, rfl, ⟨rfl, hsm⟩, hs6, hr6, ht6⟩; have HX6 := Lib.hid (HX5.out.call hs6 ht6); have HR6 := Lib.hid hr6; have HSM := Lib.hid hsm; clear hs6 hr6 ht6 hsm; clear y0 y1 y2 y3 y4 y5 y6 yf0 yf1 yf2 yf3 yf4 yf5 yf6 yl k1 k2 k3; have y0 : w6.cell? ⟨bx, 0, none⟩ = some (.int .u8 (1 : Nat)) := HX6.out.rx.cell 0; have y1 : w6.cell? ⟨bx, 1, none⟩ = some (.string ⟨#[]⟩) := HX6.out.rx.cell 1; have y2 : w6.cell? ⟨bx, 2, none⟩ = some (.int .u8 0) := HX6.out.rx.cell 2; have y3 : w6.cell? ⟨bx, 3, none⟩ = some (.int .i64 0) := HX6.out.rx.cell 3; have y4 : w6.cell? ⟨bx, 4, none⟩ = some (.string ⟨#[]⟩) := HX6.out.rx.cell 4; have y5 : w6.cell? ⟨bx, 5, none⟩ = some (.string ⟨#[]⟩) := HX6.out.rx.cell 5; have y6 : w6.cell? ⟨bx, 6, none⟩ = some (.slice none 0 0) := HX6.out.rx.cell 6; have yf0 := HX6.out.rx.frozen 0; have yf1 := HX6.out.rx.frozen 1; have yf2 := HX6.out.rx.frozen 2; have yf3 := HX6.out.rx.frozen 3; have yf4 := HX6.out.rx.frozen 4; have yf5 := HX6.out.rx.frozen 5; have yf6 := HX6.out.rx.frozen 6; have yl : bx < w6.heap.size := HX6.out.rx.lt; have k1 : w6.cell? ⟨b1, 0, none⟩ = some (.pointer (some ⟨g, 0, none⟩)) := HX6.out.bs.x1.cell 0; have k2 : w6.cell? ⟨b2, 0, none⟩ = some (.int .i64 d) := HX6.out.bs.x2.cell 0; have k3 : w6.cell? ⟨g, 0, none⟩ = some (.pointer (some ⟨gr, 0, none⟩)) := HX6.out.bs.rs.rb.cell 0)
        | fail)
      obtain ⟨w7, hw7⟩ : ∃ w7, w7 = ((((w6.setCell ⟨bx, 1, none⟩ (.string dd.name)).setCell ⟨bx, 2, none⟩ (.int .u8 dd.op)).setCell ⟨bx, 3, none⟩ (.int .i64 dd.ep)).setCell ⟨bx, 4, none⟩ (.string dd.ver)).setCell ⟨bx, 5, none⟩ (.string dd.rel) := ⟨_, rfl⟩
      have HX7 := Lib.hid (show XSt w b1 b2 b3 bx (richA (atomD dd) (.slice none 0 0)) d g gr s left a2 e2 w7 from hw7 ▸ (((((HX6.out.set 1 (.string dd.name)).set 2 (.int .u8 dd.op)).set 3 (.int .i64 dd.ep)).set 4 (.string dd.ver)).set 5 (.string dd.rel)))
      rw [← hw7]
      clear hw7 HX6 HX5 HE5
      clear y0 y1 y2 y3 y4 y5 y6 yf0 yf1 yf2 yf3 yf4 yf5 yf6 yl k1 k2 k3
      have z0 : w7.cell? ⟨b3, 0, none⟩ = some (.int .u8 0) := HX7.out.bs.rz.cell 0
      have zf0 := HX7.out.bs.rz.frozen 0
      have y0 : w7.cell? ⟨bx, 0, none⟩ = some (.int .u8 1) := HX7.out.rx.cell 0
      have yf0 := HX7.out.rx.frozen 0
      have z1 : w7.cell? ⟨b3, 1, none⟩ = some (.string ⟨#[]⟩) := HX7.out.bs.rz.cell 1
      have zf1 := HX7.out.bs.rz.frozen 1
      have y1 : w7.cell? ⟨bx, 1, none⟩ = some (.string dd.name) := HX7.out.rx.cell 1
      have yf1 := HX7.out.rx.frozen 1
      have z2 : w7.cell? ⟨b3, 2, none⟩ = some (.int .u8 0) := HX7.out.bs.rz.cell 2
      have zf2 := HX7.out.bs.rz.frozen 2
      have y2 : w7.cell? ⟨bx, 2, none⟩ = some (.int .u8 dd.op) := HX7.out.rx.cell 2
      have yf2 := HX7.out.rx.frozen 2
      have z3 : w7.cell? ⟨b3, 3, none⟩ = some (.int .i64 0) := HX7.out.bs.rz.cell 3
      have zf3 := HX7.out.bs.rz.frozen 3
      have y3 : w7.cell? ⟨bx, 3, none⟩ = some (.int .i64 dd.ep) := HX7.out.rx.cell 3
      have yf3 := HX7.out.rx.frozen 3
      have z4 : w7.cell? ⟨b3, 4, none⟩ = some (.string ⟨#[]⟩) := HX7.out.bs.rz.cell 4
      have zf4 := HX7.out.bs.rz.frozen 4
      have y4 : w7.cell? ⟨bx, 4, none⟩ = some (.string dd.ver) := HX7.out.rx.cell 4
      have yf4 := HX7.out.rx.frozen 4
      have z5 : w7.cell? ⟨b3, 5, none⟩ = some (.string ⟨#[]⟩) := HX7.out.bs.rz.cell 5
      have zf5 := HX7.out.bs.rz.frozen 5
      have y5 : w7.cell? ⟨bx, 5, none⟩ = some (.string dd.rel) := HX7.out.rx.cell 5
      have yf5 := HX7.out.rx.frozen 5
      have z6 : w7.cell? ⟨b3, 6, none⟩ = some (.slice none 0 0) := HX7.out.bs.rz.cell 6
      have zf6 := HX7.out.bs.rz.frozen 6
      have y6 : w7.cell? ⟨bx, 6, none⟩ = some (.slice none 0 0) := HX7.out.rx.cell 6
      have yf6 := HX7.out.rx.frozen 6
      have zl : b3 < w7.heap.size := HX7.out.bs.rz.lt
      have yl : bx < w7.heap.size := HX7.out.rx.lt
      go_wp2_with fail
      obtain ⟨q1, q2, q3, q4⟩ := XSt.done (x := (atomD dd)) (r := (.slice none 0 0)) (n0 := (b3 + 1)) HX7.out (by have := HX7.out.bs.lo.2.2; omega) (by omega) (nil_holds _ _ _ (by rfl) ⟨HSM.out.fit.1, by show (0 : Int) ≤ 1; decide, by show (1 : Int) < 256; decide⟩)
      exact bodyPost_ret (results_cell_row rfl _ _ b3 34 _ (0, 0) _ rfl q1 Tryz.underlying34 rfl (by kernel_rfl)) rfl ⟨(atomD dd), _, a2, e2, rfl, ⟨_, rfl, q2⟩, q3, pRich_atom m HR3.out HR6.out, q4⟩
    · have hd1 : ((n : Int) == 1) = false := by simp; omega
      cases m with
      | zero =>
        obtain rfl : d = 8 := by have := HD.out.1; omega
        have HQ5 := Lib.hid (num_on (he1 ▸ HR3.out) HZ.out.2.2.2)
        have HW5 := Lib.hid (fail_any gr s a1 e1 at_ 21 w5 HX5.out.bs.rs.wr HX5.out.bs.rs.hat (by have := HX5.out.bs.rs.hs; omega))
        have HE := Lib.hid (show eFail a1 e1 at_ 21 = (21, at_, 21) from by rw [he1]; unfold eFail; rw [if_neg (by simp), if_neg (by have := HQ5.out.2; simp; omega), Int.toNat_natCast])
        rw [HE.out] at HW5
        go_upto_region 9 with (first
          | (go_at_call 138; (with_reducible refine HW5.out.mono ?_); rintro rr w6 ⟨rfl, hb6, ht6⟩; have hs6 := HX5.out.bs.rs.wire hb6 ht6 HZ.out.2.2.2; have HX6 := Lib.hid (HX5.out.call hs6.1 hs6.2); clear hs6 hb6 ht6; clear y0 y1 y2 y3 y4 y5 y6 yf0 yf1 yf2 yf3 yf4 yf5 yf6 yl k1 k2 k3)
          | fail)
        have z0 : w6.cell? ⟨b3, 0, none⟩ = some (.int .u8 0) := HX6.out.bs.rz.cell 0
        have zf0 := HX6.out.bs.rz.frozen 0
        have y0 : w6.cell? ⟨bx, 0, none⟩ = some (.int .u8 (n : Int)) := HX6.out.rx.cell 0
        have yf0 := HX6.out.rx.frozen 0
        have z1 : w6.cell? ⟨b3, 1, none⟩ = some (.string ⟨#[]⟩) := HX6.out.bs.rz.cell 1
        have zf1 := HX6.out.bs.rz.frozen 1
        have y1 : w6.cell? ⟨bx, 1, none⟩ = some (.string ⟨#[]⟩) := HX6.out.rx.cell 1
        have yf1 := HX6.out.rx.frozen 1
        have z2 : w6.cell? ⟨b3, 2, none⟩ = some (.int .u8 0) := HX6.out.bs.rz.cell 2
        have zf2 := HX6.out.bs.rz.frozen 2
        have y2 : w6.cell? ⟨bx, 2, none⟩ = some (.int .u8 0) := HX6.out.rx.cell 2
        have yf2 := HX6.out.rx.frozen 2
        have z3 : w6.cell? ⟨b3, 3, none⟩ = some (.int .i64 0) := HX6.out.bs.rz.cell 3
        have zf3 := HX6.out.bs.rz.frozen 3
        have y3 : w6.cell? ⟨bx, 3, none⟩ = some (.int .i64 0) := HX6.out.rx.cell 3
        have yf3 := HX6.out.rx.frozen 3
        have z4 : w6.cell? ⟨b3, 4, none⟩ = some (.string ⟨#[]⟩) := HX6.out.bs.rz.cell 4
        have zf4 := HX6.out.bs.rz.frozen 4
        have y4 : w6.cell? ⟨bx, 4, none⟩ = some (.string ⟨#[]⟩) := HX6.out.rx.cell 4
        have yf4 := HX6.out.rx.frozen 4
        have z5 : w6.cell? ⟨b3, 5, none⟩ = some (.string ⟨#[]⟩) := HX6.out.bs.rz.cell 5
        have zf5 := HX6.out.bs.rz.frozen 5
        have y5 : w6.cell? ⟨bx, 5, none⟩ = some (.string ⟨#[]⟩) := HX6.out.rx.cell 5
        have yf5 := HX6.out.rx.frozen 5
        have z6 : w6.cell? ⟨b3, 6, none⟩ = some (.slice none 0 0) := HX6.out.bs.rz.cell 6
        have zf6 := HX6.out.bs.rz.frozen 6
        have y6 : w6.cell? ⟨bx, 6, none⟩ = some (.slice none 0 0) := HX6.out.rx.cell 6
        have yf6 := HX6.out.rx.frozen 6
        have zl : b3 < w6.heap.size := HX6.out.bs.rz.lt
        have yl : bx < w6.heap.size := HX6.out.rx.lt
        go_wp2_with fail
        obtain ⟨q1, q2, q3, q4⟩ := XSt.done (x := (ofL n [])) (r := (.slice none 0 0)) (n0 := (b3 + 1)) (show Hid (XSt w b1 b2 b3 bx (richA (ofL n []) (.slice none 0 0)) 8 g gr s left at_ 21 w6) from HX6).out (by have := HX6.out.bs.lo.2.2; omega) (by omega) (nil_holds _ _ _ (by rfl) ⟨noDep_fit, by show (0 : Int) ≤ (n : Int); omega, by show (n : Int) < 256; have := HL3.out.2.2; omega⟩)
        exact bodyPost_ret (results_cell_row rfl _ _ b3 34 _ (0, 0) _ rfl q1 Tryz.underlying34 rfl (by kernel_rfl)) rfl ⟨(ofL n []), _, at_, 21, rfl, ⟨_, rfl, q2⟩, q3, pRich_deep _ hn1 (he1 ▸ HR3.out), q4⟩
      | succ k =>
        have HG5 := Lib.hid (getR1_any (b1 := b1) (b2 := b2) 2 24 (by decide) (by decide) (pRich k) (fun a e W hW hT => crrich1_any (m := k) (by have := HD.out.2; omega) (HI.out k rfl) hW (HX5.out.bs.rs.far hT HX5.out.bs.x1 (by decide) (by decide)) (by have hx2 := HX5.out.bs.rs.far hT HX5.out.bs.x2 (by decide) (by decide); have hdd := HD.out.1; rw [hdd] at hx2; exact hx2)) HX5.out.bs.rs)
        have hd8 : d < 8 := by have := HD.out.1; omega
        have HY5 := Lib.hid (show bx < w5.heap.size ∧ b3 < w5.heap.size ∧ w.heap.size ≤ w5.heap.size from ⟨HX5.out.rx.lt, HX5.out.bs.rz.lt, HX5.out.bs.tt.size⟩)
        go_upto_region 9 with (first
          | (go_at_call 168; (with_reducible refine HG5.out.mono ?_); rintro rr w6 ⟨l, vl, a2, e2, rfl, hl6, hs6, hr6, ht6⟩; obtain ⟨al, cl, rfl⟩ := hl6.form; have HX6 := Lib.hid (HX5.out.call hs6 ht6); have HR6 := Lib.hid hr6; have HL6 := Lib.hid hl6; clear hs6 hr6 ht6 hl6; clear y0 y1 y2 y3 y4 y5 y6 yf0 yf1 yf2 yf3 yf4 yf5 yf6 yl k1 k2 k3; have y0 : w6.cell? ⟨bx, 0, none⟩ = some (.int .u8 (n : Int)) := HX6.out.rx.cell 0; have y1 : w6.cell? ⟨bx, 1, none⟩ = some (.string ⟨#[]⟩) := HX6.out.rx.cell 1; have y2 : w6.cell? ⟨bx, 2, none⟩ = some (.int .u8 0) := HX6.out.rx.cell 2; have y3 : w6.cell? ⟨bx, 3, none⟩ = some (.int .i64 0) := HX6.out.rx.cell 3; have y4 : w6.cell? ⟨bx, 4, none⟩ = some (.string ⟨#[]⟩) := HX6.out.rx.cell 4; have y5 : w6.cell? ⟨bx, 5, none⟩ = some (.string ⟨#[]⟩) := HX6.out.rx.cell 5; have y6 : w6.cell? ⟨bx, 6, none⟩ = some (.slice none 0 0) := HX6.out.rx.cell 6; have yf0 := HX6.out.rx.frozen 0; have yf1 := HX6.out.rx.frozen 1; have yf2 := HX6.out.rx.frozen 2; have yf3 := HX6.out.rx.frozen 3; have yf4 := HX6.out.rx.frozen 4; have yf5 := HX6.out.rx.frozen 5; have yf6 := HX6.out.rx.frozen 6; have yl : bx < w6.heap.size := HX6.out.rx.lt; have k1 : w6.cell? ⟨b1, 0, none⟩ = some (.pointer (some ⟨g, 0, none⟩)) := HX6.out.bs.x1.cell 0; have k2 : w6.cell? ⟨b2, 0, none⟩ = some (.int .i64 d) := HX6.out.bs.x2.cell 0; have k3 : w6.cell? ⟨g, 0, none⟩ = some (.pointer (some ⟨gr, 0, none⟩)) := HX6.out.bs.rs.rb.cell 0)
          | fail)
        obtain ⟨w7, hw7⟩ : ∃ w7, w7 = w6.setCell ⟨bx, 6, none⟩ (.slice al l.length cl) := ⟨_, rfl⟩
        have HX7 := Lib.hid (show XSt w b1 b2 b3 bx (richA (ofL n l) (.slice al l.length cl)) d g gr s left a2 e2 w7 from hw7 ▸ HX6.out.set 6 (.slice al l.length cl))
        have HH7 := Lib.hid (show richK.holds (free w5.heap.size) w7 (ofL n l) (.slice al l.length cl) from hw7 ▸ args_holds HL6.out HY5.out.1 (by have := HL3.out.2.2; omega))
        rw [← hw7]
        clear hw7 HX6 HX5 HG5
        clear y0 y1 y2 y3 y4 y5 y6 yf0 yf1 yf2 yf3 yf4 yf5 yf6 yl k1 k2 k3
        have z0 : w7.cell? ⟨b3, 0, none⟩ = some (.int .u8 0) := HX7.out.bs.rz.cell 0
        have zf0 := HX7.out.bs.rz.frozen 0
        have y0 : w7.cell? ⟨bx, 0, none⟩ = some (.int .u8 (n : Int)) := HX7.out.rx.cell 0
        have yf0 := HX7.out.rx.frozen 0
        have z1 : w7.cell? ⟨b3, 1, none⟩ = some (.string ⟨#[]⟩) := HX7.out.bs.rz.cell 1
        have zf1 := HX7.out.bs.rz.frozen 1
        have y1 : w7.cell? ⟨bx, 1, none⟩ = some (.string ⟨#[]⟩) := HX7.out.rx.cell 1
        have yf1 := HX7.out.rx.frozen 1
        have z2 : w7.cell? ⟨b3, 2, none⟩ = some (.int .u8 0) := HX7.out.bs.rz.cell 2
        have zf2 := HX7.out.bs.rz.frozen 2
        have y2 : w7.cell? ⟨bx, 2, none⟩ = some (.int .u8 0) := HX7.out.rx.cell 2
        have yf2 := HX7.out.rx.frozen 2
        have z3 : w7.cell? ⟨b3, 3, none⟩ = some (.int .i64 0) := HX7.out.bs.rz.cell 3
        have zf3 := HX7.out.bs.rz.frozen 3
        have y3 : w7.cell? ⟨bx, 3, none⟩ = some (.int .i64 0) := HX7.out.rx.cell 3
        have yf3 := HX7.out.rx.frozen 3
        have z4 : w7.cell? ⟨b3, 4, none⟩ = some (.string ⟨#[]⟩) := HX7.out.bs.rz.cell 4
        have zf4 := HX7.out.bs.rz.frozen 4
        have y4 : w7.cell? ⟨bx, 4, none⟩ = some (.string ⟨#[]⟩) := HX7.out.rx.cell 4
        have yf4 := HX7.out.rx.frozen 4
        have z5 : w7.cell? ⟨b3, 5, none⟩ = some (.string ⟨#[]⟩) := HX7.out.bs.rz.cell 5
        have zf5 := HX7.out.bs.rz.frozen 5
        have y5 : w7.cell? ⟨bx, 5, none⟩ = some (.string ⟨#[]⟩) := HX7.out.rx.cell 5
        have yf5 := HX7.out.rx.frozen 5
        have z6 : w7.cell? ⟨b3, 6, none⟩ = some (.slice none 0 0) := HX7.out.bs.rz.cell 6
        have zf6 := HX7.out.bs.rz.frozen 6
        have y6 : w7.cell? ⟨bx, 6, none⟩ = some (.slice al l.length cl) := HX7.out.rx.cell 6
        have yf6 := HX7.out.rx.frozen 6
        have zl : b3 < w7.heap.size := HX7.out.bs.rz.lt
        have yl : bx < w7.heap.size := HX7.out.rx.lt
        go_wp2_with fail
        obtain ⟨q1, q2, q3, q4⟩ := XSt.done (x := (ofL n l)) (r := (.slice al l.length cl)) (n0 := w5.heap.size) HX7.out HY5.out.2.2 HY5.out.2.1 HH7.out
        exact bodyPost_ret (results_cell_row rfl _ _ b3 34 _ (0, 0) _ rfl q1 Tryz.underlying34 rfl (by kernel_rfl)) rfl ⟨(ofL n l), _, a2, e2, rfl, ⟨_, rfl, q2⟩, q3, pRich_args k hn1 HR3.out HR6.out, q4⟩
  · obtain rfl : n = 0 := HL3.out.2.1 he1
    have HF1 := Lib.hid (show Calls Tryz.prog 84 #[.pointer (some ⟨g, 0, none⟩)] w4 (fun r w' => r = .returned (.bool false) ∧ ∃ n, w' = w4.drewN n) from HF.out.mono fun r w' ⟨h1, h2⟩ => ⟨by rw [h1, decide_eq_false he1], h2⟩)
    clear HF
    go_upto_region 9 with (first
      | (go_at_call 84; (with_reducible refine HF1.out.mono ?_); rintro rr w5 ⟨rfl, n4, rfl⟩)
      | fail)
    obtain ⟨w5, hw5⟩ : ∃ w5, w5 = w4.drewN n4 := ⟨_, rfl⟩
    rw [← hw5]
    have HX5 := Lib.hid (show XSt w b1 b2 b3 bx (richA (ofL 0 []) (.slice none 0 0)) d g gr s left a1 e1 w5 from hw5 ▸ HX4.out.drewN n4)
    clear hw5 HX4 HF1 k1
    have z0 : w5.cell? ⟨b3, 0, none⟩ = some (.int .u8 0) := HX5.out.bs.rz.cell 0
    have zf0 := HX5.out.bs.rz.frozen 0
    have y0 : w5.cell? ⟨bx, 0, none⟩ = some (.int .u8 0) := HX5.out.rx.cell 0
    have yf0 := HX5.out.rx.frozen 0
    have z1 : w5.cell? ⟨b3, 1, none⟩ = some (.string ⟨#[]⟩) := HX5.out.bs.rz.cell 1
    have zf1 := HX5.out.bs.rz.frozen 1
    have y1 : w5.cell? ⟨bx, 1, none⟩ = some (.string ⟨#[]⟩) := HX5.out.rx.cell 1
    have yf1 := HX5.out.rx.frozen 1
    have z2 : w5.cell? ⟨b3, 2, none⟩ = some (.int .u8 0) := HX5.out.bs.rz.cell 2
    have zf2 := HX5.out.bs.rz.frozen 2
    have y2 : w5.cell? ⟨bx, 2, none⟩ = some (.int .u8 0) := HX5.out.rx.cell 2
    have yf2 := HX5.out.rx.frozen 2
    have z3 : w5.cell? ⟨b3, 3, none⟩ = some (.int .i64 0) := HX5.out.bs.rz.cell 3
    have zf3 := HX5.out.bs.rz.frozen 3
    have y3 : w5.cell? ⟨bx, 3, none⟩ = some (.int .i64 0) := HX5.out.rx.cell 3
    have yf3 := HX5.out.rx.frozen 3
    have z4 : w5.cell? ⟨b3, 4, none⟩ = some (.string ⟨#[]⟩) := HX5.out.bs.rz.cell 4
    have zf4 := HX5.out.bs.rz.frozen 4
    have y4 : w5.cell? ⟨bx, 4, none⟩ = some (.string ⟨#[]⟩) := HX5.out.rx.cell 4
    have yf4 := HX5.out.rx.frozen 4
    have z5 : w5.cell? ⟨b3, 5, none⟩ = some (.string ⟨#[]⟩) := HX5.out.bs.rz.cell 5
    have zf5 := HX5.out.bs.rz.frozen 5
    have y5 : w5.cell? ⟨bx, 5, none⟩ = some (.string ⟨#[]⟩) := HX5.out.rx.cell 5
    have yf5 := HX5.out.rx.frozen 5
    have z6 : w5.cell? ⟨b3, 6, none⟩ = some (.slice none 0 0) := HX5.out.bs.rz.cell 6
    have zf6 := HX5.out.bs.rz.frozen 6
    have y6 : w5.cell? ⟨bx, 6, none⟩ = some (.slice none 0 0) := HX5.out.rx.cell 6
    have yf6 := HX5.out.rx.frozen 6
    have zl : b3 < w5.heap.size := HX5.out.bs.rz.lt
    have yl : bx < w5.heap.size := HX5.out.rx.lt
    go_wp2_with fail
    obtain ⟨q1, q2, q3, q4⟩ := XSt.done (x := (ofL 0 [])) (r := (.slice none 0 0)) (n0 := (b3 + 1)) HX5.out (by have := HX5.out.bs.lo.2.2; omega) (by omega) (nil_holds _ _ _ (by rfl) ⟨noDep_fit, by show (0 : Int) ≤ 0; decide, by show (0 : Int) < 256; decide⟩)
    exact bodyPost_ret (results_cell_row rfl _ _ b3 34 _ (0, 0) _ rfl q1 Tryz.underlying34 rfl (by kernel_rfl)) rfl ⟨(ofL 0 []), _, a1, e1, rfl, ⟨_, rfl, q2⟩, q3, pRich_bad m _ HR3.out he1, q4⟩
theorem crrich_all : ∀ m : Nat, m ≤ 8 → RichC m
  | 0, _ => crrich_step 0 (by omega) fun k hk => by omega
  | m + 1, h => crrich_step (m + 1) h fun k hk => by
    obtain rfl : m = k := by omega
    exact crrich_all m (by omega)
end Go.Proofs.YtdpjjnbelgaagaaGreatDoor

namespace Go.Proofs.YtdpjjnbelgaagaaGreatDoor
open Go.ChangeShapes Go.WideShapes Go.ChangeAt Go.RowKit Go.Deep
set_option maxRecDepth 100000

theorem LIn.more {α : Type} {K : Kd α} {n m : Nat} (hm : n ≤ m) {w : World} {l : List α} {v : Value} (h : LIn K (free m) w l v) : LIn K (free n) w l v := h.keep (Nat.le_refl _) fun _ ⟨k1, k2⟩ _ => ⟨rfl, by omega, k2⟩
set_option maxHeartbeats 4000000 in
theorem crriches1_any {g gr b1 : Nat} {s : ByteArray} {left : Int} {at_ : Nat} {e : Int} {w : World} (h : RSt g gr s left at_ e w) (h1 : Blk w b1 83 #[.pointer (some ⟨g, 0, none⟩)]) :
    Calls Tryz.prog 169 #[.pointer (some ⟨b1, 0, none⟩)] w (RPost g gr s left at_ e (pRich 8) (VR w.heap.size) w) := by
  obtain ⟨b, hbe⟩ : ∃ b, b = w.heap.size := ⟨_, rfl⟩
  obtain ⟨w1, hw1⟩ : ∃ w1, w1 = w.alloc (.cells zeroR 34) := ⟨_, rfl⟩
  have hb1 : Below w.heap.size w w1 := by rw [hw1]; exact new_b _ _
  have hx1 : Blk w1 b 34 zeroR := by rw [hw1, hbe]; exact Blk.new _ _ _
  have hsz : w1.heap.size = b + 1 := by rw [hw1, hbe]; simp
  have c1 : w1.cell? ⟨b1, 0, none⟩ = some (.pointer (some ⟨g, 0, none⟩)) := (h1.below hb1 h1.lt).cell 0
  have HN := Lib.hid (show Calls Tryz.prog 170 #[.pointer (some ⟨g, 0, none⟩), .int .i64 0] w1 (RPost g gr s left at_ e (pRich 8) (VR w1.heap.size) w1) from crrich_all 8 (Nat.le_refl _) g gr s left at_ e w1 (h.below hb1))
  have HS := Lib.hid (show RSt g gr s left at_ e w1 ∧ Blk w1 b 34 zeroR ∧ Touch (RF g gr) w w1 ∧ w1.heap.size = b + 1 ∧ w.heap.size = b from ⟨h.below hb1, hx1, Touch.of_below hb1 _, hsz, hbe.symm⟩)
  clear h h1 hb1 hx1 hsz
  go_enter Tryz.func169, Tryz.ntmps169
  go_upto_region 1 with fail
  rw [← hw1, ← hbe]
  have HG := Lib.hid hbe
  clear hw1 hbe
  go_wp2_with (first
    | (go_at_call 170; (with_reducible refine HN.out.mono ?_); rintro rr w2 ⟨x, vx, a2, e2, rfl, ⟨r, rfl, hx2⟩, hs2, hr2, ht2⟩; obtain ⟨ra, rc, rfl⟩ := (ArgsP.is hx2).form; have HX2 := Lib.hid hx2; have HS2 := Lib.hid (show RSt g gr s left a2 e2 w2 ∧ Blk w2 b 34 zeroR ∧ Touch (RF g gr) w w2 from ⟨hs2, HS.out.1.far ht2 HS.out.2.1 (by decide) (by decide), HS.out.2.2.1.trans ht2 fun _ _ h => h⟩); have HR2 := Lib.hid hr2; have z0 := HS2.out.2.1.cell 0; have z1 := HS2.out.2.1.cell 1; have z2 := HS2.out.2.1.cell 2; have z3 := HS2.out.2.1.cell 3; have z4 := HS2.out.2.1.cell 4; have z5 := HS2.out.2.1.cell 5; have z6 := HS2.out.2.1.cell 6; have f0 := HS2.out.2.1.frozen 0; have f1 := HS2.out.2.1.frozen 1; have f2 := HS2.out.2.1.frozen 2; have f3 := HS2.out.2.1.frozen 3; have f4 := HS2.out.2.1.frozen 4; have f5 := HS2.out.2.1.frozen 5; have f6 := HS2.out.2.1.frozen 6; have zl := HS2.out.2.1.lt; clear hx2 hs2 hr2 ht2)
    | fail)
  have hbg : b ≠ g ∧ b ≠ gr := ⟨HS2.out.2.1.ne_ HS2.out.1.rb (by decide), HS2.out.2.1.ne_ HS2.out.1.wr (by decide)⟩
  exact bodyPost_ret (results_cell_row rfl _ _ b 34 _ (0, 0) _ rfl (fin7_blk HS2.out.2.1 x (.slice ra x.n rc)) Tryz.underlying34 rfl (by kernel_rfl)) rfl ⟨x, _, a2, e2, rfl, ⟨_, rfl, by rw [HS.out.2.2.2.2]; exact free_more (by rw [HS.out.2.2.2.1]; omega) (holds_fin HX2.out (by rw [HS.out.2.2.2.1]; omega))⟩, HS2.out.1.fin hbg.1 hbg.2, HR2.out, touch_fin HS2.out.2.2 (by rw [HS.out.2.2.2.2]; exact Nat.le_refl _)⟩
abbrev VRs (n0 : Nat) : RichD → Value → World → Prop := fun x v w' => LIn richK (free n0) w' (argL x) v ∧ fitR x.kind x.dep
set_option maxHeartbeats 4000000 in
theorem crriches_any {g gr : Nat} {s : ByteArray} {left : Int} {at_ : Nat} {e : Int} {w : World} (h : RSt g gr s left at_ e w) : Calls Tryz.prog 136 #[.pointer (some ⟨g, 0, none⟩)] w (RPost g gr s left at_ e pRiches (VRs w.heap.size) w) := by
  obtain ⟨b1, hbe⟩ : ∃ b, b = w.heap.size := ⟨_, rfl⟩
  obtain ⟨w1, hw1⟩ : ∃ w1, w1 = w.alloc (.cells #[.pointer (some ⟨g, 0, none⟩)] 83) := ⟨_, rfl⟩
  have hb1 : Below w.heap.size w w1 := by rw [hw1]; exact new_b _ _
  have hx1 : Blk w1 b1 83 #[.pointer (some ⟨g, 0, none⟩)] := by rw [hw1, hbe]; exact Blk.new _ _ _
  have hs1 := h.below hb1
  have HN := Lib.hid (getR2_any (b1 := b1) 0 32 (by decide) (by decide) (pRich 8) (fun a e W hW hT => crriches1_any hW (hs1.far hT hx1 (by decide) (by decide))) hs1)
  have HS := Lib.hid (show Touch (RF g gr) w w1 ∧ w.heap.size ≤ w1.heap.size from ⟨Touch.of_below hb1 _, hb1.size⟩)
  have c1 : w1.cell? ⟨b1, 0, none⟩ = some (.pointer (some ⟨g, 0, none⟩)) := hx1.cell 0
  clear h hs1 hb1 hx1
  go_enter Tryz.func136, Tryz.ntmps136
  go_upto_region 1 with fail
  rw [← hw1, ← hbe]
  have HG := Lib.hid hbe
  clear hw1 hbe
  go_wp2_with (first
    | (go_at_call 168; (with_reducible refine HN.out.mono ?_); rintro r w2 ⟨l, v, a2, e2, rfl, hl, h3, h4, h5⟩)
    | fail)
  go_ret
  exact ⟨ofL 0 l, v, a2, e2, rfl, ⟨by rw [argL_ofL]; exact hl.more (by have := HG.out; have := HS.out.2; omega), noDep_fit, by show (0 : Int) ≤ 0; decide, by show (0 : Int) < 256; decide⟩, h3, res_bind h4 (res_pure _), HS.out.1.trans h5 fun _ _ h => h⟩
end Go.Proofs.YtdpjjnbelgaagaaGreatDoor

namespace Go.Proofs.YtdpjjnbelgaagaaGreatDoor
open Go.ChangeShapes Go.WideShapes Go.ChangeAt Go.RowKit
set_option maxRecDepth 100000

set_option maxHeartbeats 4000000 in
theorem putR_any (W0 : World) (g gw : Nat) (l : List RichD) (vl : Value) (hl : LIn richK anyB W0 l vl)
    (one : ∀ x ∈ l, ∀ (r : richK.R) (v : Value) (st : WT) (w : World), richK.holds anyB W0 x r → WrSt W0 g gw v st w → Calls Tryz.prog 67 #[.pointer (some ⟨g, 0, none⟩), x.val r] w (WPost W0 g gw v st (encR x) w))
    (v : Value) (st : WT) (w : World) (h : WrSt W0 g gw v st w) :
    Calls Tryz.prog 66 #[.pointer (some ⟨g, 0, none⟩), vl, .func (.func 67) #[.pointer (some ⟨g, 0, none⟩)] #[]] w (WPost W0 g gw v st (encL encR l) w) := by
  obtain ⟨a, c, rfl⟩ := hl.form
  have hn := hl.bound
  have HL := Lib.hid hl
  have HO := Lib.hid one
  have HN := Lib.hid (cwnum_any W0 g gw v st l.length w (by omega) h)
  clear hl one h
  go_enter Tryz.func66, Tryz.ntmps66
  go_wp2_with fail
  refine HN.out.mono ?_
  rintro e w1 ⟨rfl, v1, st1, hs1, hr1, hc1⟩
  have HS1 := Lib.hid (show WrSt W0 g gw v1 st1 w1 ∧ WrRel st (numL l.length ++ (l.take 0).flatMap encR) st1 ∧ CStep g gw w v w1 v1 from ⟨hs1, by rw [List.take_zero, List.flatMap_nil, List.append_nil]; exact hr1, hc1⟩)
  clear hs1 hr1 hc1
  go_wp2_with fail
  go_loopw [14] (fun i wr => ∃ (k : Nat) (v1 : Value) (st1 : WT), k ≤ l.length ∧ i = .int .i64 k ∧ Hid (WrSt W0 g gw v1 st1 wr ∧ WrRel st (numL l.length ++ (l.take k).flatMap encR) st1 ∧ CStep g gw w v wr v1)) (fun i wr => l.length - (intOf i).toNat)
  case atStart => exact ⟨0, v1, st1, by omega, rfl, HS1⟩
  case round =>
    obtain ⟨k, v1, st1, hk, rfl, HQ⟩ := hrel
    by_cases hlt : k < l.length
    · have hki : (k : Int) < (l.length : Int) := by omega
      obtain ⟨b, o, r, ha, _, hcs0, hh⟩ := HL.out.at_ k hlt
      obtain ⟨x, hx⟩ : ∃ x, x = l[k] := ⟨_, rfl⟩
      have HX := Lib.hid (show l.take (k + 1) = l.take k ++ [x] from by rw [hx]; exact List.take_succ_eq_append_getElem hlt)
      have hmem : x ∈ l := by rw [hx]; exact List.getElem_mem _
      rw [← hx] at hcs0 hh
      subst ha
      dsimp only [richK] at hcs0 r
      obtain ⟨ra, rc, rfl⟩ := (ArgsP.is hh).form
      have hcs := hcs0.same (HQ.out.1.bl.block b hcs0.1) HQ.out.1.bl.size
      have e0 : wr.cell? ⟨b, o + k * 7, none⟩ = some (.int .u8 x.kind) := hcs.2 0 (show 0 < 7 by omega)
      have e1 : wr.cell? ⟨b, o + k * 7 + 1, none⟩ = some (.string x.dep.name) := hcs.2 1 (show 1 < 7 by omega)
      have e2 : wr.cell? ⟨b, o + k * 7 + 2, none⟩ = some (.int .u8 x.dep.op) := hcs.2 2 (show 2 < 7 by omega)
      have e3 : wr.cell? ⟨b, o + k * 7 + 3, none⟩ = some (.int .i64 x.dep.ep) := hcs.2 3 (show 3 < 7 by omega)
      have e4 : wr.cell? ⟨b, o + k * 7 + 4, none⟩ = some (.string x.dep.ver) := hcs.2 4 (show 4 < 7 by omega)
      have e5 : wr.cell? ⟨b, o + k * 7 + 5, none⟩ = some (.string x.dep.rel) := hcs.2 5 (show 5 < 7 by omega)
      have e6 : wr.cell? ⟨b, o + k * 7 + 6, none⟩ = some (.slice ra x.n rc) := hcs.2 6 (show 6 < 7 by omega)
      have eb : b < wr.heap.size := hcs.1
      have HM := Lib.hid (fun w' (hw : Below wr.heap.size wr w') => HO.out x hmem _ v1 st1 w' hh (HQ.out.1.below hw))
      clear hcs hcs0 hh hx hmem
      go_wp2_with (first
        | (go_at_call 67; (with_reducible refine (HM.out _ (new_b _ _)).mono ?_); rintro e w2 ⟨rfl, v2, st2, hs2, hr2, hc2⟩; have HS2 := Lib.hid (show WrSt W0 g gw v2 st2 w2 ∧ WrRel st (numL l.length ++ (l.take (k + 1)).flatMap encR) st2 ∧ CStep g gw w v w2 v2 from ⟨hs2, by (rw [HX.out, List.flatMap_append, List.flatMap_cons, List.flatMap_nil, List.append_nil, ← List.append_assoc]; exact HQ.out.2.1.trans hr2), HQ.out.2.2.trans ((CStep.of_below (new_b _ _)).trans hc2)⟩); clear hs2 hr2 hc2)
        | fail)
      go_roundw
      case rel => exact ⟨k + 1, v2, st2, by omega, by go_num, HS2⟩
      case measure => simp [intOf]; omega
    · obtain rfl : k = l.length := by omega
      go_wp2_with fail
      go_end0
      refine ⟨rfl, v1, st1, HQ.out.1, ?_, HQ.out.2.2⟩
      have := HQ.out.2.1
      rw [List.take_length] at this
      exact this
set_option maxHeartbeats 4000000 in
theorem putD_any (W0 : World) (g gw : Nat) (l : List DepD) (vl : Value) (hl : LIn depK anyB W0 l vl)
    (one : ∀ x ∈ l, ∀ (r : depK.R) (v : Value) (st : WT) (w : World), depK.holds anyB W0 x r → WrSt W0 g gw v st w → Calls Tryz.prog 65 #[.pointer (some ⟨g, 0, none⟩), x.val] w (WPost W0 g gw v st (encD x) w))
    (v : Value) (st : WT) (w : World) (h : WrSt W0 g gw v st w) :
    Calls Tryz.prog 64 #[.pointer (some ⟨g, 0, none⟩), vl, .func (.func 65) #[.pointer (some ⟨g, 0, none⟩)] #[]] w (WPost W0 g gw v st (encL encD l) w) := by
  obtain ⟨a, c, rfl⟩ := hl.form
  have hn := hl.bound
  have HL := Lib.hid hl
  have HO := Lib.hid one
  have HN := Lib.hid (cwnum_any W0 g gw v st l.length w (by omega) h)
  clear hl one h
  go_enter Tryz.func64, Tryz.ntmps64
  go_wp2_with fail
  refine HN.out.mono ?_
  rintro e w1 ⟨rfl, v1, st1, hs1, hr1, hc1⟩
  have HS1 := Lib.hid (show WrSt W0 g gw v1 st1 w1 ∧ WrRel st (numL l.length ++ (l.take 0).flatMap encD) st1 ∧ CStep g gw w v w1 v1 from ⟨hs1, by rw [List.take_zero, List.flatMap_nil, List.append_nil]; exact hr1, hc1⟩)
  clear hs1 hr1 hc1
  go_wp2_with fail
  go_loopw [14] (fun i wr => ∃ (k : Nat) (v1 : Value) (st1 : WT), k ≤ l.length ∧ i = .int .i64 k ∧ Hid (WrSt W0 g gw v1 st1 wr ∧ WrRel st (numL l.length ++ (l.take k).flatMap encD) st1 ∧ CStep g gw w v wr v1)) (fun i wr => l.length - (intOf i).toNat)
  case atStart => exact ⟨0, v1, st1, by omega, rfl, HS1⟩
  case round =>
    obtain ⟨k, v1, st1, hk, rfl, HQ⟩ := hrel
    by_cases hlt : k < l.length
    · have hki : (k : Int) < (l.length : Int) := by omega
      obtain ⟨b, o, r, ha, _, hcs0, hh⟩ := HL.out.at_ k hlt
      obtain ⟨x, hx⟩ : ∃ x, x = l[k] := ⟨_, rfl⟩
      have HX := Lib.hid (show l.take (k + 1) = l.take k ++ [x] from by rw [hx]; exact List.take_succ_eq_append_getElem hlt)
      have hmem : x ∈ l := by rw [hx]; exact List.getElem_mem _
      rw [← hx] at hcs0 hh
      subst ha
      dsimp only [depK] at hcs0 r
      have hcs := hcs0.same (HQ.out.1.bl.block b hcs0.1) HQ.out.1.bl.size
      have e0 : wr.cell? ⟨b, o + k * 5, none⟩ = some (.string x.name) := hcs.2 0 (show 0 < 5 by omega)
      have e1 : wr.cell? ⟨b, o + k * 5 + 1, none⟩ = some (.int .u8 x.op) := hcs.2 1 (show 1 < 5 by omega)
      have e2 : wr.cell? ⟨b, o + k * 5 + 2, none⟩ = some (.int .i64 x.ep) := hcs.2 2 (show 2 < 5 by omega)
      have e3 : wr.cell? ⟨b, o + k * 5 + 3, none⟩ = some (.string x.ver) := hcs.2 3 (show 3 < 5 by omega)
      have e4 : wr.cell? ⟨b, o + k * 5 + 4, none⟩ = some (.string x.rel) := hcs.2 4 (show 4 < 5 by omega)
      have eb : b < wr.heap.size := hcs.1
      have HM := Lib.hid (fun w' (hw : Below wr.heap.size wr w') => HO.out x hmem _ v1 st1 w' hh (HQ.out.1.below hw))
      clear hcs hcs0 hh hx hmem
      go_wp2_with (first
        | (go_at_call 65; (with_reducible refine (HM.out _ (new_b _ _)).mono ?_); rintro e w2 ⟨rfl, v2, st2, hs2, hr2, hc2⟩; have HS2 := Lib.hid (show WrSt W0 g gw v2 st2 w2 ∧ WrRel st (numL l.length ++ (l.take (k + 1)).flatMap encD) st2 ∧ CStep g gw w v w2 v2 from ⟨hs2, by (rw [HX.out, List.flatMap_append, List.flatMap_cons, List.flatMap_nil, List.append_nil, ← List.append_assoc]; exact HQ.out.2.1.trans hr2), HQ.out.2.2.trans ((CStep.of_below (new_b _ _)).trans hc2)⟩); clear hs2 hr2 hc2)
        | fail)
      go_roundw
      case rel => exact ⟨k + 1, v2, st2, by omega, by go_num, HS2⟩
      case measure => simp [intOf]; omega
    · obtain rfl : k = l.length := by omega
      go_wp2_with fail
      go_end0
      refine ⟨rfl, v1, st1, HQ.out.1, ?_, HQ.out.2.2⟩
      have := HQ.out.2.1
      rw [List.take_length] at this
      exact this
set_option maxHeartbeats 4000000 in
theorem putS_any (W0 : World) (g gw : Nat) (l : List ByteArray) (vl : Value) (hl : LIn strK anyB W0 l vl)
    (one : ∀ x ∈ l, ∀ (r : strK.R) (v : Value) (st : WT) (w : World), strK.holds anyB W0 x r → WrSt W0 g gw v st w → Calls Tryz.prog 62 #[.pointer (some ⟨g, 0, none⟩), .string x] w (WPost W0 g gw v st (encT x) w))
    (v : Value) (st : WT) (w : World) (h : WrSt W0 g gw v st w) :
    Calls Tryz.prog 68 #[.pointer (some ⟨g, 0, none⟩), vl, .func (.func 62) #[.pointer (some ⟨g, 0, none⟩)] #[]] w (WPost W0 g gw v st (encL encT l) w) := by
  obtain ⟨a, c, rfl⟩ := hl.form
  have hn := hl.bound
  have HL := Lib.hid hl
  have HO := Lib.hid one
  have HN := Lib.hid (cwnum_any W0 g gw v st l.length w (by omega) h)
  clear hl one h
  go_enter Tryz.func68, Tryz.ntmps68
  go_wp2_with fail
  refine HN.out.mono ?_
  rintro e w1 ⟨rfl, v1, st1, hs1, hr1, hc1⟩
  have HS1 := Lib.hid (show WrSt W0 g gw v1 st1 w1 ∧ WrRel st (numL l.length ++ (l.take 0).flatMap encT) st1 ∧ CStep g gw w v w1 v1 from ⟨hs1, by rw [List.take_zero, List.flatMap_nil, List.append_nil]; exact hr1, hc1⟩)
  clear hs1 hr1 hc1
  go_wp2_with fail
  go_loopw [14] (fun i wr => ∃ (k : Nat) (v1 : Value) (st1 : WT), k ≤ l.length ∧ i = .int .i64 k ∧ Hid (WrSt W0 g gw v1 st1 wr ∧ WrRel st (numL l.length ++ (l.take k).flatMap encT) st1 ∧ CStep g gw w v wr v1)) (fun i wr => l.length - (intOf i).toNat)
  case atStart => exact ⟨0, v1, st1, by omega, rfl, HS1⟩
  case round =>
    obtain ⟨k, v1, st1, hk, rfl, HQ⟩ := hrel
    by_cases hlt : k < l.length
    · have hki : (k : Int) < (l.length : Int) := by omega
      obtain ⟨b, o, r, ha, _, hcs0, hh⟩ := HL.out.at_ k hlt
      obtain ⟨x, hx⟩ : ∃ x, x = l[k] := ⟨_, rfl⟩
      have HX := Lib.hid (show l.take (k + 1) = l.take k ++ [x] from by rw [hx]; exact List.take_succ_eq_append_getElem hlt)
      have hmem : x ∈ l := by rw [hx]; exact List.getElem_mem _
      rw [← hx] at hcs0 hh
      subst ha
      dsimp only [strK] at hcs0 r
      rw [Nat.mul_one] at hcs0
      have hcs := hcs0.same (HQ.out.1.bl.block b hcs0.1) HQ.out.1.bl.size
      have e0 : wr.cell? ⟨b, o + k, none⟩ = some (.string x) := hcs.2 0 (show 0 < 1 by omega)
      have eb : b < wr.heap.size := hcs.1
      have HM := Lib.hid (fun w' (hw : Below wr.heap.size wr w') => HO.out x hmem _ v1 st1 w' hh (HQ.out.1.below hw))
      clear hcs hcs0 hh hx hmem
      go_wp2_with (first
        | (go_at_call 62; (with_reducible refine (HM.out _ (Below.refl _ _)).mono ?_); rintro e w2 ⟨rfl, v2, st2, hs2, hr2, hc2⟩; have HS2 := Lib.hid (show WrSt W0 g gw v2 st2 w2 ∧ WrRel st (numL l.length ++ (l.take (k + 1)).flatMap encT) st2 ∧ CStep g gw w v w2 v2 from ⟨hs2, by (rw [HX.out, List.flatMap_append, List.flatMap_cons, List.flatMap_nil, List.append_nil, ← List.append_assoc]; exact HQ.out.2.1.trans hr2), HQ.out.2.2.trans ((CStep.of_below (Below.refl _ _)).trans hc2)⟩); clear hs2 hr2 hc2)
        | fail)
      go_roundw
      case rel => exact ⟨k + 1, v2, st2, by omega, by go_num, HS2⟩
      case measure => simp [intOf]; omega
    · obtain rfl : k = l.length := by omega
      go_wp2_with fail
      go_end0
      refine ⟨rfl, v1, st1, HQ.out.1, ?_, HQ.out.2.2⟩
      have := HQ.out.2.1
      rw [List.take_length] at this
      exact this
end Go.Proofs.YtdpjjnbelgaagaaGreatDoor

namespace Go.Proofs.YtdpjjnbelgaagaaGreatDoor
open Go.ChangeShapes Go.WideShapes Go.ChangeAt Go.RowKit
set_option maxRecDepth 100000

set_option maxHeartbeats 4000000 in
theorem putP_any (W0 : World) (g gw : Nat) (l : List PkgD) (vl : Value) (hl : LIn pkgK anyB W0 l vl)
    (one : ∀ x ∈ l, ∀ (r : pkgK.R) (v : Value) (st : WT) (w : World), pkgK.holds anyB W0 x r → WrSt W0 g gw v st w → Calls Tryz.prog 31 #[.pointer (some ⟨g, 0, none⟩), x.val r] w (WPost W0 g gw v st (encPk x) w))
    (v : Value) (st : WT) (w : World) (h : WrSt W0 g gw v st w) :
    Calls Tryz.prog 30 #[.pointer (some ⟨g, 0, none⟩), vl, .func (.func 31) #[.pointer (some ⟨g, 0, none⟩)] #[]] w (WPost W0 g gw v st (encL encPk l) w) := by
  obtain ⟨a, c, rfl⟩ := hl.form
  have hn := hl.bound
  have HL := Lib.hid hl
  have HO := Lib.hid one
  have HN := Lib.hid (cwnum_any W0 g gw v st l.length w (by omega) h)
  clear hl one h
  go_enter Tryz.func30, Tryz.ntmps30
  go_wp2_with fail
  refine HN.out.mono ?_
  rintro e w1 ⟨rfl, v1, st1, hs1, hr1, hc1⟩
  have HS1 := Lib.hid (show WrSt W0 g gw v1 st1 w1 ∧ WrRel st (numL l.length ++ (l.take 0).flatMap encPk) st1 ∧ CStep g gw w v w1 v1 from ⟨hs1, by rw [List.take_zero, List.flatMap_nil, List.append_nil]; exact hr1, hc1⟩)
  clear hs1 hr1 hc1
  go_wp2_with fail
  go_loopw [14] (fun i wr => ∃ (k : Nat) (v1 : Value) (st1 : WT), k ≤ l.length ∧ i = .int .i64 k ∧ Hid (WrSt W0 g gw v1 st1 wr ∧ WrRel st (numL l.length ++ (l.take k).flatMap encPk) st1 ∧ CStep g gw w v wr v1)) (fun i wr => l.length - (intOf i).toNat)
  case atStart => exact ⟨0, v1, st1, by omega, rfl, HS1⟩
  case round =>
    obtain ⟨k, v1, st1, hk, rfl, HQ⟩ := hrel
    by_cases hlt : k < l.length
    · have hki : (k : Int) < (l.length : Int) := by omega
      obtain ⟨b, o, r, ha, _, hcs0, hh⟩ := HL.out.at_ k hlt
      obtain ⟨x, hx⟩ : ∃ x, x = l[k] := ⟨_, rfl⟩
      have HX := Lib.hid (show l.take (k + 1) = l.take k ++ [x] from by rw [hx]; exact List.take_succ_eq_append_getElem hlt)
      have hmem : x ∈ l := by rw [hx]; exact List.getElem_mem _
      rw [← hx] at hcs0 hh
      subst ha
      dsimp only [pkgK] at hcs0 r
      rcases r with ⟨r1, r2, r3, r4, r5, r6, r7, r8, r9⟩
      have hh' : PkgIn anyB W0 x ⟨r1, r2, r3, r4, r5, r6, r7, r8, r9⟩ := hh
      obtain ⟨a1, q1, (rfl : r1 = _)⟩ := hh'.prov.form
      obtain ⟨a2, q2, (rfl : r2 = _)⟩ := hh'.req.form
      obtain ⟨a3, q3, (rfl : r3 = _)⟩ := hh'.con.form
      obtain ⟨a4, q4, (rfl : r4 = _)⟩ := hh'.obs.form
      obtain ⟨a5, q5, (rfl : r5 = _)⟩ := hh'.reco.form
      obtain ⟨a6, q6, (rfl : r6 = _)⟩ := hh'.sup.form
      obtain ⟨a7, q7, (rfl : r7 = _)⟩ := hh'.sug.form
      obtain ⟨a8, q8, (rfl : r8 = _)⟩ := hh'.enh.form
      obtain ⟨a9, q9, (rfl : r9 = _)⟩ := hh'.files.form
      clear hh'
      have hcs := hcs0.same (HQ.out.1.bl.block b hcs0.1) HQ.out.1.bl.size
      have e0 : wr.cell? ⟨b, o + k * 15, none⟩ = some (.string x.name) := hcs.2 0 (show 0 < 15 by omega)
      have e1 : wr.cell? ⟨b, o + k * 15 + 1, none⟩ = some (.int .i64 x.ep) := hcs.2 1 (show 1 < 15 by omega)
      have e2 : wr.cell? ⟨b, o + k * 15 + 2, none⟩ = some (.string x.ver) := hcs.2 2 (show 2 < 15 by omega)
      have e3 : wr.cell? ⟨b, o + k * 15 + 3, none⟩ = some (.string x.rel) := hcs.2 3 (show 3 < 15 by omega)
      have e4 : wr.cell? ⟨b, o + k * 15 + 4, none⟩ = some (.int .u8 x.arch) := hcs.2 4 (show 4 < 15 by omega)
      have e5 : wr.cell? ⟨b, o + k * 15 + 5, none⟩ = some (.string x.vendor) := hcs.2 5 (show 5 < 15 by omega)
      have e6 : wr.cell? ⟨b, o + k * 15 + 6, none⟩ = some (.slice a1 x.prov.length q1) := hcs.2 6 (show 6 < 15 by omega)
      have e7 : wr.cell? ⟨b, o + k * 15 + 7, none⟩ = some (.slice a2 (argL x.req).length q2) := hcs.2 7 (show 7 < 15 by omega)
      have e8 : wr.cell? ⟨b, o + k * 15 + 8, none⟩ = some (.slice a3 (argL x.con).length q3) := hcs.2 8 (show 8 < 15 by omega)
      have e9 : wr.cell? ⟨b, o + k * 15 + 9, none⟩ = some (.slice a4 x.obs.length q4) := hcs.2 9 (show 9 < 15 by omega)
      have e10 : wr.cell? ⟨b, o + k * 15 + 10, none⟩ = some (.slice a5 (argL x.reco).length q5) := hcs.2 10 (show 10 < 15 by omega)
      have e11 : wr.cell? ⟨b, o + k * 15 + 11, none⟩ = some (.slice a6 (argL x.sup).length q6) := hcs.2 11 (show 11 < 15 by omega)
      have e12 : wr.cell? ⟨b, o + k * 15 + 12, none⟩ = some (.slice a7 (argL x.sug).length q7) := hcs.2 12 (show 12 < 15 by omega)
      have e13 : wr.cell? ⟨b, o + k * 15 + 13, none⟩ = some (.slice a8 (argL x.enh).length q8) := hcs.2 13 (show 13 < 15 by omega)
      have e14 : wr.cell? ⟨b, o + k * 15 + 14, none⟩ = some (.slice a9 x.files.length q9) := hcs.2 14 (show 14 < 15 by omega)
      have eb : b < wr.heap.size := hcs.1
      have HM := Lib.hid (fun w' (hw : Below wr.heap.size wr w') => HO.out x hmem _ v1 st1 w' hh (HQ.out.1.below hw))
      clear hcs hcs0 hh hx hmem
      go_wp2_with (first
        | (go_at_call 31; (with_reducible refine (HM.out _ (new_b _ _)).mono ?_); rintro e w2 ⟨rfl, v2, st2, hs2, hr2, hc2⟩; have HS2 := Lib.hid (show WrSt W0 g gw v2 st2 w2 ∧ WrRel st (numL l.length ++ (l.take (k + 1)).flatMap encPk) st2 ∧ CStep g gw w v w2 v2 from ⟨hs2, by (rw [HX.out, List.flatMap_append, List.flatMap_cons, List.flatMap_nil, List.append_nil, ← List.append_assoc]; exact HQ.out.2.1.trans hr2), HQ.out.2.2.trans ((CStep.of_below (new_b _ _)).trans hc2)⟩); clear hs2 hr2 hc2)
        | fail)
      go_roundw
      case rel => exact ⟨k + 1, v2, st2, by omega, by go_num, HS2⟩
      case measure => simp [intOf]; omega
    · obtain rfl : k = l.length := by omega
      go_wp2_with fail
      go_end0
      refine ⟨rfl, v1, st1, HQ.out.1, ?_, HQ.out.2.2⟩
      have := HQ.out.2.1
      rw [List.take_length] at this
      exact this
set_option maxHeartbeats 4000000 in
theorem putO_any (W0 : World) (g gw : Nat) (l : List RepoD) (vl : Value) (hl : LIn repoK anyB W0 l vl)
    (one : ∀ x ∈ l, ∀ (r : repoK.R) (v : Value) (st : WT) (w : World), repoK.holds anyB W0 x r → WrSt W0 g gw v st w → Calls Tryz.prog 29 #[.pointer (some ⟨g, 0, none⟩), .agg #[.int .i64 x.prio, r]] w (WPost W0 g gw v st (encO x) w))
    (v : Value) (st : WT) (w : World) (h : WrSt W0 g gw v st w) :
    Calls Tryz.prog 28 #[.pointer (some ⟨g, 0, none⟩), vl, .func (.func 29) #[.pointer (some ⟨g, 0, none⟩)] #[]] w (WPost W0 g gw v st (encL encO l) w) := by
  obtain ⟨a, c, rfl⟩ := hl.form
  have hn := hl.bound
  have HL := Lib.hid hl
  have HO := Lib.hid one
  have HN := Lib.hid (cwnum_any W0 g gw v st l.length w (by omega) h)
  clear hl one h
  go_enter Tryz.func28, Tryz.ntmps28
  go_wp2_with fail
  refine HN.out.mono ?_
  rintro e w1 ⟨rfl, v1, st1, hs1, hr1, hc1⟩
  have HS1 := Lib.hid (show WrSt W0 g gw v1 st1 w1 ∧ WrRel st (numL l.length ++ (l.take 0).flatMap encO) st1 ∧ CStep g gw w v w1 v1 from ⟨hs1, by rw [List.take_zero, List.flatMap_nil, List.append_nil]; exact hr1, hc1⟩)
  clear hs1 hr1 hc1
  go_wp2_with fail
  go_loopw [14] (fun i wr => ∃ (k : Nat) (v1 : Value) (st1 : WT), k ≤ l.length ∧ i = .int .i64 k ∧ Hid (WrSt W0 g gw v1 st1 wr ∧ WrRel st (numL l.length ++ (l.take k).flatMap encO) st1 ∧ CStep g gw w v wr v1)) (fun i wr => l.length - (intOf i).toNat)
  case atStart => exact ⟨0, v1, st1, by omega, rfl, HS1⟩
  case round =>
    obtain ⟨k, v1, st1, hk, rfl, HQ⟩ := hrel
    by_cases hlt : k < l.length
    · have hki : (k : Int) < (l.length : Int) := by omega
      obtain ⟨b, o, r, ha, _, hcs0, hh⟩ := HL.out.at_ k hlt
      obtain ⟨x, hx⟩ : ∃ x, x = l[k] := ⟨_, rfl⟩
      have HX := Lib.hid (show l.take (k + 1) = l.take k ++ [x] from by rw [hx]; exact List.take_succ_eq_append_getElem hlt)
      have hmem : x ∈ l := by rw [hx]; exact List.getElem_mem _
      rw [← hx] at hcs0 hh
      subst ha
      dsimp only [repoK] at hcs0 r
      obtain ⟨ra, rc, rfl⟩ := hh.2.form
      have hcs := hcs0.same (HQ.out.1.bl.block b hcs0.1) HQ.out.1.bl.size
      have e0 : wr.cell? ⟨b, o + k * 2, none⟩ = some (.int .i64 x.prio) := hcs.2 0 (show 0 < 2 by omega)
      have e1 : wr.cell? ⟨b, o + k * 2 + 1, none⟩ = some (.slice ra x.pkgs.length rc) := hcs.2 1 (show 1 < 2 by omega)
      have eb : b < wr.heap.size := hcs.1
      have HM := Lib.hid (fun w' (hw : Below wr.heap.size wr w') => HO.out x hmem _ v1 st1 w' hh (HQ.out.1.below hw))
      clear hcs hcs0 hh hx hmem
      go_wp2_with (first
        | (go_at_call 29; (with_reducible refine (HM.out _ (new_b _ _)).mono ?_); rintro e w2 ⟨rfl, v2, st2, hs2, hr2, hc2⟩; have HS2 := Lib.hid (show WrSt W0 g gw v2 st2 w2 ∧ WrRel st (numL l.length ++ (l.take (k + 1)).flatMap encO) st2 ∧ CStep g gw w v w2 v2 from ⟨hs2, by (rw [HX.out, List.flatMap_append, List.flatMap_cons, List.flatMap_nil, List.append_nil, ← List.append_assoc]; exact HQ.out.2.1.trans hr2), HQ.out.2.2.trans ((CStep.of_below (new_b _ _)).trans hc2)⟩); clear hs2 hr2 hc2)
        | fail)
      go_roundw
      case rel => exact ⟨k + 1, v2, st2, by omega, by go_num, HS2⟩
      case measure => simp [intOf]; omega
    · obtain rfl : k = l.length := by omega
      go_wp2_with fail
      go_end0
      refine ⟨rfl, v1, st1, HQ.out.1, ?_, HQ.out.2.2⟩
      have := HQ.out.2.1
      rw [List.take_length] at this
      exact this
end Go.Proofs.YtdpjjnbelgaagaaGreatDoor

namespace Go.Proofs.YtdpjjnbelgaagaaGreatDoor
open Go.ChangeShapes Go.WideShapes Go.ChangeAt Go.RowKit
set_option maxRecDepth 100000

/-- What a rich dependency must be to be written. -/
def smallR : RichD → Prop
  | .nil => True
  | .node k d n f => if k = 1 then d.small else n ≤ 32 ∧ ∀ j, j < n → smallR (f j)
theorem fits_small {wh : Int} : (r : RichD) → (al : Bool) → fitsE wh r al = true → r.count ≤ 24 → smallR r
  | .nil, al, h, _ => by cases h
  | .node k d n f, al, h, hc => by
    have ih := fun j (hj : j < n) => fits_small (wh := wh) (f j)
    replace h : (if k = 1 then decide (n = 0) && depE d else (okE wh k n al && d.none) && allN (fun j => fitsE wh (f j) (aloneE k al)) n) = true := h
    have hn : n < (RichD.node k d n f).count := n_lt (.node k d n f)
    show if k = 1 then d.small else n ≤ 32 ∧ ∀ j, j < n → smallR (f j)
    by_cases hk : k = 1
    · rw [if_pos hk, Bool.and_eq_true] at h
      rw [if_pos hk]
      exact dep_small h.2
    · rw [if_neg hk, Bool.and_eq_true] at h
      rw [if_neg hk]
      exact ⟨by omega, fun j hj => ih j hj _ ((allN_iff n).1 h.2 j hj) (by
        have := arg_count (r := .node k d n f) (j := j) hj
        simp only [RichD.args] at this
        omega)⟩
theorem may_small {r : RichD} {wh : Int} (h : mayE r wh = 0) : smallR r := by
  obtain ⟨h1, _, h3⟩ := may_fits h
  exact fits_small r false h1 h3
theorem small_eq (r : RichD) : smallR r → (if r.kind = 1 then r.dep.small else r.n ≤ 32 ∧ ∀ j, j < r.n → smallR (r.args j)) := by
  cases r with
  | nil =>
    intro _
    show if (0 : Int) = 1 then _ else (0 : Nat) ≤ 32 ∧ ∀ j, j < 0 → _
    rw [if_neg (by decide)]
    exact ⟨by omega, fun j hj => absurd hj (Nat.not_lt_zero j)⟩
  | node k d n f => exact id
theorem encL_argL (r : RichD) : encL encR (argL r) = encRs r := by
  unfold encL encRs
  rw [argL_len]
  exact congrArg _ (cat_flat _ _ _)
set_option maxHeartbeats 4000000 in
theorem cwrich_any (W0 : World) (g gw : Nat) (r : RichD) : ∀ (s v : Value) (st : WT) (w : World), ArgsP anyB W0 r s → smallR r → WrSt W0 g gw v st w →
    Calls Tryz.prog 67 #[.pointer (some ⟨g, 0, none⟩), r.val s] w (WPost W0 g gw v st (encR r) w) := by
  have step : ∀ (r : RichD) (s v : Value) (st : WT) (w : World), ArgsP anyB W0 r s → smallR r → WrSt W0 g gw v st w →
      (∀ j, j < r.n → ∀ (s v : Value) (st : WT) (w : World), ArgsP anyB W0 (r.args j) s → smallR (r.args j) → WrSt W0 g gw v st w → Calls Tryz.prog 67 #[.pointer (some ⟨g, 0, none⟩), (r.args j).val s] w (WPost W0 g gw v st (encR (r.args j)) w)) →
      Calls Tryz.prog 67 #[.pointer (some ⟨g, 0, none⟩), r.val s] w (WPost W0 g gw v st (encR r) w) := by
    intro r s v st w hs hsm h ih
    have hsm2 := small_eq r hsm
    obtain ⟨hf, hk0, hk1⟩ := hs.fit
    obtain ⟨a, c, rfl⟩ := hs.is.form
    obtain ⟨kn, hkn⟩ : ∃ n : Nat, r.kind = n := ⟨r.kind.toNat, (to_nat hk0).symm⟩
    obtain ⟨Bs, hBs⟩ : ∃ Bs, Bs = encR r := ⟨_, rfl⟩
    rw [← hBs]
    have HBs := Lib.hid (hBs.trans (encR_eq r))
    have hb1 := new_b w (richObj r (.slice a r.n c))
    obtain ⟨b, hbe⟩ : ∃ b, b = w.heap.size := ⟨_, rfl⟩
    obtain ⟨w1, hw1⟩ : ∃ w1, w1 = w.alloc (richObj r (.slice a r.n c)) := ⟨_, rfl⟩
    have hx1 : RichB w1 b r (.slice a r.n c) := by rw [hw1, hbe]; exact RichB.new _ _ _
    rw [← hw1] at hb1
    have HS1 := Lib.hid (show WrSt W0 g gw v st w1 ∧ RichB w1 b r (.slice a r.n c) from ⟨h.below hb1, hx1⟩)
    have HC1 := Lib.hid (CStep.of_below (g := g) (gw := gw) (v := v) hb1)
    have c0 : w1.cell? ⟨b, 0, none⟩ = some (.int .u8 r.kind) := hx1.cell 0
    have HN := Lib.hid (cwnum_any W0 g gw v st kn w1 (by omega) HS1.out.1)
    have HF := Lib.hid (show ∀ v' w', CStep g gw w1 v w' v' → RichB w' b r (.slice a r.n c) from fun v' w' hc => HS1.out.1.far hc HS1.out.2 (by decide) (by decide) (by decide))
    rw [hkn] at hk0 hk1 c0
    have hwr : IntKind.i64.wrap ((kn : Int)) = (kn : Int) := by rw [IntKind.wrap_i64]; omega
    have HKN := Lib.hid hkn
    clear hBs hx1 hb1 h hsm
    by_cases hk : kn = 1
    · subst hk
      rw [if_pos (show r.kind = 1 from hkn)] at hsm2
      have HSM := Lib.hid hsm2
      clear ih hs hsm2
      have HN1 := Lib.hid (show Calls Tryz.prog 61 #[.pointer (some ⟨g, 0, none⟩), .int .i64 1] w1 (WPost W0 g gw v st (numL 1) w1) from HN.out)
      have c0' : w1.cell? ⟨b, 0, none⟩ = some (.int .u8 1) := c0
      clear HN c0 hkn hwr
      unfold RichD.val richV
      go_enter Tryz.func67, Tryz.ntmps67
      go_upto_region 1 with fail
      rw [← hw1, ← hbe]
      clear hw1 hbe
      go_wp2_with fail
      refine HN1.out.mono ?_
      rintro e w2 ⟨rfl, v2, st2, hs2, hr2, hc2⟩
      have hx2 := HF.out v2 w2 hc2
      have d0 : w2.cell? ⟨b, 0, none⟩ = some (.int .u8 1) := by have := hx2.cell 0; rw [HKN.out] at this; exact this
      have d1 : w2.cell? ⟨b, 1, none⟩ = some (.string r.dep.name) := hx2.cell 1
      have d2 : w2.cell? ⟨b, 2, none⟩ = some (.int .u8 r.dep.op) := hx2.cell 2
      have d3 : w2.cell? ⟨b, 3, none⟩ = some (.int .i64 r.dep.ep) := hx2.cell 3
      have d4 : w2.cell? ⟨b, 4, none⟩ = some (.string r.dep.ver) := hx2.cell 4
      have d5 : w2.cell? ⟨b, 5, none⟩ = some (.string r.dep.rel) := hx2.cell 5
      have HC2 := Lib.hid (show CStep g gw w v w2 v2 ∧ WrRel st (numL 1) st2 from ⟨HC1.out.trans hc2, hr2⟩)
      have HN2 := Lib.hid (cwdep_any W0 g gw v2 st2 r.dep w2 HSM.out hs2)
      clear hs2 hr2 hc2 hx2 HN1 HC1 HS1 c0'
      go_wp2_with fail
      refine HN2.out.mono ?_
      rintro e w3 ⟨rfl, v3, st3, hs3, hr3, hc3⟩
      have HC3 := Lib.hid (show WrSt W0 g gw v3 st3 w3 ∧ CStep g gw w v w3 v3 ∧ WrRel st (numL 1 ++ encD r.dep) st3 from ⟨hs3, HC2.out.1.trans hc3, HC2.out.2.trans hr3⟩)
      clear hs3 hr3 hc3
      go_wp2_with fail
      go_end0
      refine ⟨rfl, v3, st3, HC3.out.1, ?_, HC3.out.2.1⟩
      have := HC3.out.2.2
      rw [HBs.out, if_pos (show r.kind = 1 from HKN.out), HKN.out]
      exact this
    · have hki : ((kn : Int) == 1) = false := by simp; omega
      rw [if_neg (by omega)] at hsm2
      have hl := hs.list (by have := hsm2.1; omega)
      have HP := Lib.hid (show ∀ v2 st2 w2, WrSt W0 g gw v2 st2 w2 → Calls Tryz.prog 66 #[.pointer (some ⟨g, 0, none⟩), .slice a r.n c, .func (.func 67) #[.pointer (some ⟨g, 0, none⟩)] #[]] w2 (WPost W0 g gw v2 st2 (encRs r) w2) from fun v2 st2 w2 h2 => by
        have := putR_any W0 g gw (argL r) _ hl (fun x hx s v st w hh h => by
          obtain ⟨j, hj, rfl⟩ := List.mem_map.1 hx
          have hj' : j < r.n := by simpa using hj
          exact ih j hj' s v st w hh (hsm2.2 j hj') h) v2 st2 w2 h2
        rw [encL_argL] at this
        exact this)
      clear ih hs hsm2 hl hkn
      unfold RichD.val richV
      go_enter Tryz.func67, Tryz.ntmps67
      go_upto_region 1 with fail
      rw [← hw1, ← hbe]
      clear hw1 hbe
      go_wp2_with fail
      refine HN.out.mono ?_
      rintro e w2 ⟨rfl, v2, st2, hs2, hr2, hc2⟩
      have hx2 := HF.out v2 w2 hc2
      have d0 : w2.cell? ⟨b, 0, none⟩ = some (.int .u8 (kn : Int)) := by have := hx2.cell 0; rw [HKN.out] at this; exact this
      have d6 : w2.cell? ⟨b, 6, none⟩ = some (.slice a r.n c) := hx2.cell 6
      have HC2 := Lib.hid (show CStep g gw w v w2 v2 ∧ WrRel st (numL kn) st2 from ⟨HC1.out.trans hc2, hr2⟩)
      have HN2 := Lib.hid (HP.out v2 st2 w2 hs2)
      clear hs2 hr2 hc2 hx2 HN HC1 HS1 c0
      go_wp2_with fail
      refine HN2.out.mono ?_
      rintro e w3 ⟨rfl, v3, st3, hs3, hr3, hc3⟩
      have HC3 := Lib.hid (show WrSt W0 g gw v3 st3 w3 ∧ CStep g gw w v w3 v3 ∧ WrRel st (numL kn ++ encRs r) st3 from ⟨hs3, HC2.out.1.trans hc3, HC2.out.2.trans hr3⟩)
      clear hs3 hr3 hc3
      go_wp2_with fail
      go_end0
      refine ⟨rfl, v3, st3, HC3.out.1, ?_, HC3.out.2.1⟩
      have := HC3.out.2.2
      rw [HBs.out, HKN.out, if_neg (by omega), Int.toNat_natCast]
      exact this
  induction r with
  | nil => exact fun s v st w h1 h2 h3 => step .nil s v st w h1 h2 h3 (fun j hj => absurd hj (Nat.not_lt_zero j))
  | node k d n f ih => exact fun s v st w h1 h2 h3 => step (.node k d n f) s v st w h1 h2 h3 (fun j _ => ih j)
end Go.Proofs.YtdpjjnbelgaagaaGreatDoor

namespace Go.Proofs.YtdpjjnbelgaagaaGreatDoor
open Go.ChangeShapes Go.WideShapes Go.ChangeAt Go.RowKit
set_option maxRecDepth 100000

theorem putDs (W0 : World) (g gw : Nat) (l : List DepD) (vl : Value) (hl : LIn depK anyB W0 l vl) (hs : ∀ d ∈ l, d.small) (v : Value) (st : WT) (w : World) (h : WrSt W0 g gw v st w) :
    Calls Tryz.prog 64 #[.pointer (some ⟨g, 0, none⟩), vl, .func (.func 65) #[.pointer (some ⟨g, 0, none⟩)] #[]] w (WPost W0 g gw v st (encL encD l) w) :=
  putD_any W0 g gw l vl hl (fun x hx _ v st w _ h => cwdep_any W0 g gw v st x w (hs x hx) h) v st w h
theorem putRs (W0 : World) (g gw : Nat) (r : RichD) (vl : Value) (hl : LIn richK anyB W0 (argL r) vl) (hs : ∀ j, j < r.n → smallR (r.args j)) (v : Value) (st : WT) (w : World) (h : WrSt W0 g gw v st w) :
    Calls Tryz.prog 66 #[.pointer (some ⟨g, 0, none⟩), vl, .func (.func 67) #[.pointer (some ⟨g, 0, none⟩)] #[]] w (WPost W0 g gw v st (encRs r) w) := by
  have := putR_any W0 g gw (argL r) vl hl (fun x hx s v st w hh h => by
    obtain ⟨j, hj, rfl⟩ := List.mem_map.1 hx
    exact cwrich_any W0 g gw (r.args j) s v st w hh (hs j (by simpa using hj)) h) v st w h
  rw [encL_argL] at this
  exact this
theorem putSs (W0 : World) (g gw : Nat) (l : List ByteArray) (vl : Value) (hl : LIn strK anyB W0 l vl) (hs : ∀ d ∈ l, d.size ≤ 64) (v : Value) (st : WT) (w : World) (h : WrSt W0 g gw v st w) :
    Calls Tryz.prog 68 #[.pointer (some ⟨g, 0, none⟩), vl, .func (.func 62) #[.pointer (some ⟨g, 0, none⟩)] #[]] w (WPost W0 g gw v st (encL encT l) w) :=
  putS_any W0 g gw l vl hl (fun x hx _ v st w _ h => cwtext_any W0 g gw v st x w (by have := hs x hx; omega) h) v st w h
theorem riches_small {wh : Int} {r : RichD} (h : richesE wh r = true) : ∀ j, j < r.n → smallR (r.args j) := fun j hj => may_small ((riches_n h).2 j hj)
/-- Four lists, told one by one. -/
def four {α : Type} (z x0 x1 x2 x3 : α) : Nat → α | 0 => x0 | 1 => x1 | 2 => x2 | 3 => x3 | _ => z
theorem four_cell {w : World} {b : Nat} {t : TypeId} {x0 x1 x2 x3 : Value} (h : Blk w b t #[x0, x1, x2, x3]) (k : Nat) (hk : k < 4) : w.cell? ⟨b, k, none⟩ = some (four undef x0 x1 x2 x3 k) := by
  have : k = 0 ∨ k = 1 ∨ k = 2 ∨ k = 3 := by omega
  rcases this with rfl | rfl | rfl | rfl
  · exact h.cell 0
  · exact h.cell 1
  · exact h.cell 2
  · exact h.cell 3
set_option maxHeartbeats 8000000 in
theorem cwpkg_any (W0 : World) (g gw : Nat) (v : Value) (st : WT) (p : PkgD) (r : PkgR) (w : World) (hp : PkgIn anyB W0 p r) (hm : MayP p) (h : WrSt W0 g gw v st w) :
    Calls Tryz.prog 31 #[.pointer (some ⟨g, 0, none⟩), p.val r] w (WPost W0 g gw v st (encPk p) w) := by
  rcases r with ⟨r1, r2, r3, r4, r5, r6, r7, r8, r9⟩
  obtain ⟨a1, q1, (rfl : r1 = _)⟩ := hp.prov.form
  obtain ⟨a2, q2, (rfl : r2 = _)⟩ := hp.req.form
  obtain ⟨a3, q3, (rfl : r3 = _)⟩ := hp.con.form
  obtain ⟨a4, q4, (rfl : r4 = _)⟩ := hp.obs.form
  obtain ⟨a5, q5, (rfl : r5 = _)⟩ := hp.reco.form
  obtain ⟨a6, q6, (rfl : r6 = _)⟩ := hp.sup.form
  obtain ⟨a7, q7, (rfl : r7 = _)⟩ := hp.sug.form
  obtain ⟨a8, q8, (rfl : r8 = _)⟩ := hp.enh.form
  obtain ⟨a9, q9, (rfl : r9 = _)⟩ := hp.files.form
  obtain ⟨m1, m2, ⟨m3, m4⟩, m5, ⟨m6, m7⟩, ⟨m8, m9⟩, ⟨m10, m11⟩, m12, m13, m14, m15, m16, m17⟩ := hm
  obtain ⟨e1, e2, e3, e4⟩ := evr_size m2
  have n1 := name_size m1
  obtain ⟨an, han⟩ : ∃ n : Nat, p.arch = n := ⟨p.arch.toNat, (to_nat (by omega)).symm⟩
  have hwr : IntKind.i64.wrap ((an : Int)) = (an : Int) := by rw [IntKind.wrap_i64]; omega
  obtain ⟨Bs, hBs⟩ : ∃ Bs, Bs = encPk p := ⟨_, rfl⟩
  rw [← hBs]
  have HBs := Lib.hid hBs
  have HP1 := Lib.hid (putDs W0 g gw p.prov _ hp.prov fun d hd => dep_small (m7 d hd))
  have HP2 := Lib.hid (putRs W0 g gw p.req _ hp.req (riches_small m12))
  have HP3 := Lib.hid (putRs W0 g gw p.con _ hp.con (riches_small m13))
  have HP4 := Lib.hid (putDs W0 g gw p.obs _ hp.obs fun d hd => dep_small (m9 d hd))
  have HP5 := Lib.hid (putRs W0 g gw p.reco _ hp.reco (riches_small m14))
  have HP6 := Lib.hid (putRs W0 g gw p.sup _ hp.sup (riches_small m15))
  have HP7 := Lib.hid (putRs W0 g gw p.sug _ hp.sug (riches_small m16))
  have HP8 := Lib.hid (putRs W0 g gw p.enh _ hp.enh (riches_small m17))
  have HP9 := Lib.hid (putSs W0 g gw p.files _ hp.files fun d hd => name_size (file_name (m11 d hd)))
  have hb1 := new_b w (.cells #[.string p.name, .int .i64 p.ep, .string p.ver, .string p.rel, .int .u8 p.arch, .string p.vendor, .slice a1 p.prov.length q1, .slice a2 (argL p.req).length q2, .slice a3 (argL p.con).length q3, .slice a4 p.obs.length q4, .slice a5 (argL p.reco).length q5, .slice a6 (argL p.sup).length q6, .slice a7 (argL p.sug).length q7, .slice a8 (argL p.enh).length q8, .slice a9 p.files.length q9] 29)
  obtain ⟨b, hbe⟩ : ∃ b, b = w.heap.size := ⟨_, rfl⟩
  obtain ⟨w1, hw1⟩ : ∃ w1, w1 = w.alloc (.cells #[.string p.name, .int .i64 p.ep, .string p.ver, .string p.rel, .int .u8 p.arch, .string p.vendor, .slice a1 p.prov.length q1, .slice a2 (argL p.req).length q2, .slice a3 (argL p.con).length q3, .slice a4 p.obs.length q4, .slice a5 (argL p.reco).length q5, .slice a6 (argL p.sup).length q6, .slice a7 (argL p.sug).length q7, .slice a8 (argL p.enh).length q8, .slice a9 p.files.length q9] 29) := ⟨_, rfl⟩
  have hx : Blk w1 b 29 #[.string p.name, .int .i64 p.ep, .string p.ver, .string p.rel, .int .u8 p.arch, .string p.vendor, .slice a1 p.prov.length q1, .slice a2 (argL p.req).length q2, .slice a3 (argL p.con).length q3, .slice a4 p.obs.length q4, .slice a5 (argL p.reco).length q5, .slice a6 (argL p.sup).length q6, .slice a7 (argL p.sug).length q7, .slice a8 (argL p.enh).length q8, .slice a9 p.files.length q9] := by rw [hw1, hbe]; exact Blk.new _ _ _
  rw [← hw1] at hb1
  have hs1 := h.below hb1
  have HF := Lib.hid (show ∀ v v' st w w', WrSt W0 g gw v st w ∧ Blk w b 29 #[.string p.name, .int .i64 p.ep, .string p.ver, .string p.rel, .int .u8 p.arch, .string p.vendor, .slice a1 p.prov.length q1, .slice a2 (argL p.req).length q2, .slice a3 (argL p.con).length q3, .slice a4 p.obs.length q4, .slice a5 (argL p.reco).length q5, .slice a6 (argL p.sup).length q6, .slice a7 (argL p.sug).length q7, .slice a8 (argL p.enh).length q8, .slice a9 p.files.length q9] → CStep g gw w v w' v' → Blk w' b 29 #[.string p.name, .int .i64 p.ep, .string p.ver, .string p.rel, .int .u8 p.arch, .string p.vendor, .slice a1 p.prov.length q1, .slice a2 (argL p.req).length q2, .slice a3 (argL p.con).length q3, .slice a4 p.obs.length q4, .slice a5 (argL p.reco).length q5, .slice a6 (argL p.sup).length q6, .slice a7 (argL p.sug).length q7, .slice a8 (argL p.enh).length q8, .slice a9 p.files.length q9] from fun v v' st w w' h hc => h.1.far hc h.2 (by decide) (by decide) (by decide))
  have HQ1 := Lib.hid (show (WrSt W0 g gw v st w1 ∧ Blk w1 b 29 #[.string p.name, .int .i64 p.ep, .string p.ver, .string p.rel, .int .u8 p.arch, .string p.vendor, .slice a1 p.prov.length q1, .slice a2 (argL p.req).length q2, .slice a3 (argL p.con).length q3, .slice a4 p.obs.length q4, .slice a5 (argL p.reco).length q5, .slice a6 (argL p.sup).length q6, .slice a7 (argL p.sug).length q7, .slice a8 (argL p.enh).length q8, .slice a9 p.files.length q9]) ∧ CStep g gw w v w1 v from ⟨⟨hs1, hx⟩, CStep.of_below hb1⟩)
  have c0 : w1.cell? ⟨b, 0, none⟩ = some (.string p.name) := hx.cell 0
  have HN1 := Lib.hid (cwtext_any W0 g gw v st p.name w1 (by omega) hs1)
  have HE := Lib.hid (fun v st w => cwevr_any W0 g gw v st p.ep p.ver p.rel w e1 (by omega) (by omega) (by omega))
  have HA := Lib.hid (fun v st w => cwnum_any W0 g gw v st an w (by omega))
  have HV := Lib.hid (fun v st w => cwtext_any W0 g gw v st p.vendor w (by omega))
  have HAN := Lib.hid han
  clear hx hb1 h hs1 hp hBs m1 m2 m5 m6 m7 m8 m9 m10 m11 m12 m13 m14 m15 m16 m17 e1 e2 e3 e4 n1 han
  unfold PkgD.val
  go_enter Tryz.func31, Tryz.ntmps31
  go_upto_region 1 with fail
  rw [← hw1, ← hbe]
  clear hw1 hbe
  go_wp2_with fail
  refine HN1.out.mono ?_
  rintro e w2 ⟨rfl, v2, st2, hs2, hr2, hc2⟩
  have hx := HF.out _ v2 _ _ w2 HQ1.out.1 hc2
  have HQ2 := Lib.hid (show (WrSt W0 g gw v2 st2 w2 ∧ Blk w2 b 29 #[.string p.name, .int .i64 p.ep, .string p.ver, .string p.rel, .int .u8 p.arch, .string p.vendor, .slice a1 p.prov.length q1, .slice a2 (argL p.req).length q2, .slice a3 (argL p.con).length q3, .slice a4 p.obs.length q4, .slice a5 (argL p.reco).length q5, .slice a6 (argL p.sup).length q6, .slice a7 (argL p.sug).length q7, .slice a8 (argL p.enh).length q8, .slice a9 p.files.length q9]) ∧ CStep g gw w v w2 v2 ∧ WrRel st (encT p.name) st2 from ⟨⟨hs2, hx⟩, HQ1.out.2.trans hc2, hr2⟩)
  have c1 : w2.cell? ⟨b, 1, none⟩ = some (.int .i64 p.ep) := hx.cell 1
  have c2 : w2.cell? ⟨b, 2, none⟩ = some (.string p.ver) := hx.cell 2
  have c3 : w2.cell? ⟨b, 3, none⟩ = some (.string p.rel) := hx.cell 3
  have HN2 := Lib.hid (HE.out v2 st2 w2 hs2)
  clear hs2 hr2 hc2 hx HN1 HQ1 c0
  go_wp2_with fail
  refine HN2.out.mono ?_
  rintro e w3 ⟨rfl, v3, st3, hs3, hr3, hc3⟩
  have hx := HF.out _ v3 _ _ w3 HQ2.out.1 hc3
  have HQ3 := Lib.hid (show (WrSt W0 g gw v3 st3 w3 ∧ Blk w3 b 29 #[.string p.name, .int .i64 p.ep, .string p.ver, .string p.rel, .int .u8 p.arch, .string p.vendor, .slice a1 p.prov.length q1, .slice a2 (argL p.req).length q2, .slice a3 (argL p.con).length q3, .slice a4 p.obs.length q4, .slice a5 (argL p.reco).length q5, .slice a6 (argL p.sup).length q6, .slice a7 (argL p.sug).length q7, .slice a8 (argL p.enh).length q8, .slice a9 p.files.length q9]) ∧ CStep g gw w v w3 v3 ∧ WrRel st (encT p.name ++ encV p.ep p.ver p.rel) st3 from ⟨⟨hs3, hx⟩, HQ2.out.2.1.trans hc3, HQ2.out.2.2.trans hr3⟩)
  have c4 : w3.cell? ⟨b, 4, none⟩ = some (.int .u8 (an : Int)) := by have := hx.cell 4; rw [HAN.out] at this; exact this
  have HN3 := Lib.hid (HA.out v3 st3 w3 hs3)
  clear hs3 hr3 hc3 hx HN2 HQ2 c1 c2 c3
  go_wp2_with fail
  refine HN3.out.mono ?_
  rintro e w4 ⟨rfl, v4, st4, hs4, hr4, hc4⟩
  have hx := HF.out _ v4 _ _ w4 HQ3.out.1 hc4
  have HQ4 := Lib.hid (show (WrSt W0 g gw v4 st4 w4 ∧ Blk w4 b 29 #[.string p.name, .int .i64 p.ep, .string p.ver, .string p.rel, .int .u8 p.arch, .string p.vendor, .slice a1 p.prov.length q1, .slice a2 (argL p.req).length q2, .slice a3 (argL p.con).length q3, .slice a4 p.obs.length q4, .slice a5 (argL p.reco).length q5, .slice a6 (argL p.sup).length q6, .slice a7 (argL p.sug).length q7, .slice a8 (argL p.enh).length q8, .slice a9 p.files.length q9]) ∧ CStep g gw w v w4 v4 ∧ WrRel st (encT p.name ++ encV p.ep p.ver p.rel ++ numL an) st4 from ⟨⟨hs4, hx⟩, HQ3.out.2.1.trans hc4, HQ3.out.2.2.trans hr4⟩)
  have c5 : w4.cell? ⟨b, 5, none⟩ = some (.string p.vendor) := hx.cell 5
  have HN4 := Lib.hid (HV.out v4 st4 w4 hs4)
  clear hs4 hr4 hc4 hx HN3 HQ3 c4
  go_wp2_with fail
  refine HN4.out.mono ?_
  rintro e w5 ⟨rfl, v5, st5, hs5, hr5, hc5⟩
  have hx := HF.out _ v5 _ _ w5 HQ4.out.1 hc5
  have HQ5 := Lib.hid (show (WrSt W0 g gw v5 st5 w5 ∧ Blk w5 b 29 #[.string p.name, .int .i64 p.ep, .string p.ver, .string p.rel, .int .u8 p.arch, .string p.vendor, .slice a1 p.prov.length q1, .slice a2 (argL p.req).length q2, .slice a3 (argL p.con).length q3, .slice a4 p.obs.length q4, .slice a5 (argL p.reco).length q5, .slice a6 (argL p.sup).length q6, .slice a7 (argL p.sug).length q7, .slice a8 (argL p.enh).length q8, .slice a9 p.files.length q9]) ∧ CStep g gw w v w5 v5 ∧ WrRel st (encT p.name ++ encV p.ep p.ver p.rel ++ numL an ++ encT p.vendor) st5 from ⟨⟨hs5, hx⟩, HQ4.out.2.1.trans hc5, HQ4.out.2.2.trans hr5⟩)
  have c6 : w5.cell? ⟨b, 6, none⟩ = some (.slice a1 p.prov.length q1) := hx.cell 6
  have HN5 := Lib.hid (HP1.out v5 st5 w5 hs5)
  clear hs5 hr5 hc5 hx HN4 HQ4 c5
  go_wp2_with fail
  refine HN5.out.mono ?_
  rintro e w6 ⟨rfl, v6, st6, hs6, hr6, hc6⟩
  have hx := HF.out _ v6 _ _ w6 HQ5.out.1 hc6
  have HQ6 := Lib.hid (show (WrSt W0 g gw v6 st6 w6 ∧ Blk w6 b 29 #[.string p.name, .int .i64 p.ep, .string p.ver, .string p.rel, .int .u8 p.arch, .string p.vendor, .slice a1 p.prov.length q1, .slice a2 (argL p.req).length q2, .slice a3 (argL p.con).length q3, .slice a4 p.obs.length q4, .slice a5 (argL p.reco).length q5, .slice a6 (argL p.sup).length q6, .slice a7 (argL p.sug).length q7, .slice a8 (argL p.enh).length q8, .slice a9 p.files.length q9]) ∧ CStep g gw w v w6 v6 ∧ WrRel st (encT p.name ++ encV p.ep p.ver p.rel ++ numL an ++ encT p.vendor ++ encL encD p.prov) st6 from ⟨⟨hs6, hx⟩, HQ5.out.2.1.trans hc6, HQ5.out.2.2.trans hr6⟩)
  have c7 : w6.cell? ⟨b, 7, none⟩ = some (.slice a2 (argL p.req).length q2) := hx.cell 7
  have HN6 := Lib.hid (HP2.out v6 st6 w6 hs6)
  clear hs6 hr6 hc6 hx HN5 HQ5 c6
  go_wp2_with fail
  refine HN6.out.mono ?_
  rintro e w7 ⟨rfl, v7, st7, hs7, hr7, hc7⟩
  have hx := HF.out _ v7 _ _ w7 HQ6.out.1 hc7
  have HQ7 := Lib.hid (show (WrSt W0 g gw v7 st7 w7 ∧ Blk w7 b 29 #[.string p.name, .int .i64 p.ep, .string p.ver, .string p.rel, .int .u8 p.arch, .string p.vendor, .slice a1 p.prov.length q1, .slice a2 (argL p.req).length q2, .slice a3 (argL p.con).length q3, .slice a4 p.obs.length q4, .slice a5 (argL p.reco).length q5, .slice a6 (argL p.sup).length q6, .slice a7 (argL p.sug).length q7, .slice a8 (argL p.enh).length q8, .slice a9 p.files.length q9]) ∧ CStep g gw w v w7 v7 ∧ WrRel st (encT p.name ++ encV p.ep p.ver p.rel ++ numL an ++ encT p.vendor ++ encL encD p.prov ++ encRs p.req) st7 from ⟨⟨hs7, hx⟩, HQ6.out.2.1.trans hc7, HQ6.out.2.2.trans hr7⟩)
  have c8 : w7.cell? ⟨b, 8, none⟩ = some (.slice a3 (argL p.con).length q3) := hx.cell 8
  have HN7 := Lib.hid (HP3.out v7 st7 w7 hs7)
  clear hs7 hr7 hc7 hx HN6 HQ6 c7
  go_wp2_with fail
  refine HN7.out.mono ?_
  rintro e w8 ⟨rfl, v8, st8, hs8, hr8, hc8⟩
  have hx := HF.out _ v8 _ _ w8 HQ7.out.1 hc8
  have HQ8 := Lib.hid (show (WrSt W0 g gw v8 st8 w8 ∧ Blk w8 b 29 #[.string p.name, .int .i64 p.ep, .string p.ver, .string p.rel, .int .u8 p.arch, .string p.vendor, .slice a1 p.prov.length q1, .slice a2 (argL p.req).length q2, .slice a3 (argL p.con).length q3, .slice a4 p.obs.length q4, .slice a5 (argL p.reco).length q5, .slice a6 (argL p.sup).length q6, .slice a7 (argL p.sug).length q7, .slice a8 (argL p.enh).length q8, .slice a9 p.files.length q9]) ∧ CStep g gw w v w8 v8 ∧ WrRel st (encT p.name ++ encV p.ep p.ver p.rel ++ numL an ++ encT p.vendor ++ encL encD p.prov ++ encRs p.req ++ encRs p.con) st8 from ⟨⟨hs8, hx⟩, HQ7.out.2.1.trans hc8, HQ7.out.2.2.trans hr8⟩)
  have c9 : w8.cell? ⟨b, 9, none⟩ = some (.slice a4 p.obs.length q4) := hx.cell 9
  have HN8 := Lib.hid (HP4.out v8 st8 w8 hs8)
  clear hs8 hr8 hc8 hx HN7 HQ7 c8
  go_wp2_with fail
  refine HN8.out.mono ?_
  rintro e w9 ⟨rfl, v9, st9, hs9, hr9, hc9⟩
  have hx := HF.out _ v9 _ _ w9 HQ8.out.1 hc9
  have HQ9 := Lib.hid (show (WrSt W0 g gw v9 st9 w9 ∧ Blk w9 b 29 #[.string p.name, .int .i64 p.ep, .string p.ver, .string p.rel, .int .u8 p.arch, .string p.vendor, .slice a1 p.prov.length q1, .slice a2 (argL p.req).length q2, .slice a3 (argL p.con).length q3, .slice a4 p.obs.length q4, .slice a5 (argL p.reco).length q5, .slice a6 (argL p.sup).length q6, .slice a7 (argL p.sug).length q7, .slice a8 (argL p.enh).length q8, .slice a9 p.files.length q9]) ∧ CStep g gw w v w9 v9 ∧ WrRel st (encT p.name ++ encV p.ep p.ver p.rel ++ numL an ++ encT p.vendor ++ encL encD p.prov ++ encRs p.req ++ encRs p.con ++ encL encD p.obs) st9 from ⟨⟨hs9, hx⟩, HQ8.out.2.1.trans hc9, HQ8.out.2.2.trans hr9⟩)
  have c10 : w9.cell? ⟨b, 10, none⟩ = some (.slice a5 (argL p.reco).length q5) := hx.cell 10
  have c11 : w9.cell? ⟨b, 11, none⟩ = some (.slice a6 (argL p.sup).length q6) := hx.cell 11
  have c12 : w9.cell? ⟨b, 12, none⟩ = some (.slice a7 (argL p.sug).length q7) := hx.cell 12
  have c13 : w9.cell? ⟨b, 13, none⟩ = some (.slice a8 (argL p.enh).length q8) := hx.cell 13
  clear hs9 hr9 hc9 hx HN8 HQ8 c9
  obtain ⟨bL, hbL⟩ : ∃ bL, bL = w9.heap.size := ⟨_, rfl⟩
  obtain ⟨wL, hwL⟩ : ∃ wL, wL = w9.alloc (.cells #[.slice a5 (argL p.reco).length q5, .slice a6 (argL p.sup).length q6, .slice a7 (argL p.sug).length q7, .slice a8 (argL p.enh).length q8] 26) := ⟨_, rfl⟩
  have hbn := new_b w9 (.cells #[.slice a5 (argL p.reco).length q5, .slice a6 (argL p.sup).length q6, .slice a7 (argL p.sug).length q7, .slice a8 (argL p.enh).length q8] 26)
  have hxL : Blk wL bL 26 #[.slice a5 (argL p.reco).length q5, .slice a6 (argL p.sup).length q6, .slice a7 (argL p.sug).length q7, .slice a8 (argL p.enh).length q8] := by rw [hwL, hbL]; exact Blk.new _ _ _
  rw [← hwL] at hbn
  have HQL := Lib.hid (show ((WrSt W0 g gw v9 st9 wL ∧ Blk wL b 29 #[.string p.name, .int .i64 p.ep, .string p.ver, .string p.rel, .int .u8 p.arch, .string p.vendor, .slice a1 p.prov.length q1, .slice a2 (argL p.req).length q2, .slice a3 (argL p.con).length q3, .slice a4 p.obs.length q4, .slice a5 (argL p.reco).length q5, .slice a6 (argL p.sup).length q6, .slice a7 (argL p.sug).length q7, .slice a8 (argL p.enh).length q8, .slice a9 p.files.length q9]) ∧ Blk wL bL 26 #[.slice a5 (argL p.reco).length q5, .slice a6 (argL p.sup).length q6, .slice a7 (argL p.sug).length q7, .slice a8 (argL p.enh).length q8]) ∧ CStep g gw w v wL v9 ∧ WrRel st (encT p.name ++ encV p.ep p.ver p.rel ++ numL an ++ encT p.vendor ++ encL encD p.prov ++ encRs p.req ++ encRs p.con ++ encL encD p.obs ++ catN (four [] (encRs p.reco) (encRs p.sup) (encRs p.sug) (encRs p.enh)) 0) st9 from
    ⟨⟨⟨HQ9.out.1.1.below hbn, HQ9.out.1.2.below hbn HQ9.out.1.2.lt⟩, hxL⟩, HQ9.out.2.1.trans (CStep.of_below hbn), by rw [show catN (four [] (encRs p.reco) (encRs p.sup) (encRs p.sug) (encRs p.enh)) 0 = [] from rfl, List.append_nil]; exact HQ9.out.2.2⟩)
  have HFL := Lib.hid (show ∀ v v' st w w', WrSt W0 g gw v st w → Blk w bL 26 #[.slice a5 (argL p.reco).length q5, .slice a6 (argL p.sup).length q6, .slice a7 (argL p.sug).length q7, .slice a8 (argL p.enh).length q8] → CStep g gw w v w' v' → Blk w' bL 26 #[.slice a5 (argL p.reco).length q5, .slice a6 (argL p.sup).length q6, .slice a7 (argL p.sug).length q7, .slice a8 (argL p.enh).length q8] from fun v v' st w w' h hb hc => h.far hc hb (by decide) (by decide) (by decide))
  have HPV := Lib.hid (show ∀ k, k < 4 → ∀ v st w, WrSt W0 g gw v st w → Calls Tryz.prog 66 #[.pointer (some ⟨g, 0, none⟩), (four undef (.slice a5 (argL p.reco).length q5) (.slice a6 (argL p.sup).length q6) (.slice a7 (argL p.sug).length q7) (.slice a8 (argL p.enh).length q8)) k, .func (.func 67) #[.pointer (some ⟨g, 0, none⟩)] #[]] w (WPost W0 g gw v st ((four [] (encRs p.reco) (encRs p.sup) (encRs p.sug) (encRs p.enh)) k) w) from fun k hk => by
    have : k = 0 ∨ k = 1 ∨ k = 2 ∨ k = 3 := by omega
    rcases this with rfl | rfl | rfl | rfl
    · exact HP5.out
    · exact HP6.out
    · exact HP7.out
    · exact HP8.out)
  clear hxL hbn HQ9
  go_upto_region 10 with fail
  rw [← hwL, ← hbL]
  clear hwL hbL c10 c11 c12 c13
  go_loopw [5, 57] (fun y i wr => ∃ (k : Nat) (vk : Value) (stk : WT), k ≤ 4 ∧ i = .int .i64 k ∧ Hid (((WrSt W0 g gw vk stk wr ∧ Blk wr b 29 #[.string p.name, .int .i64 p.ep, .string p.ver, .string p.rel, .int .u8 p.arch, .string p.vendor, .slice a1 p.prov.length q1, .slice a2 (argL p.req).length q2, .slice a3 (argL p.con).length q3, .slice a4 p.obs.length q4, .slice a5 (argL p.reco).length q5, .slice a6 (argL p.sup).length q6, .slice a7 (argL p.sug).length q7, .slice a8 (argL p.enh).length q8, .slice a9 p.files.length q9]) ∧ Blk wr bL 26 #[.slice a5 (argL p.reco).length q5, .slice a6 (argL p.sup).length q6, .slice a7 (argL p.sug).length q7, .slice a8 (argL p.enh).length q8]) ∧ CStep g gw w v wr vk ∧ WrRel st (encT p.name ++ encV p.ep p.ver p.rel ++ numL an ++ encT p.vendor ++ encL encD p.prov ++ encRs p.req ++ encRs p.con ++ encL encD p.obs ++ catN (four [] (encRs p.reco) (encRs p.sup) (encRs p.sug) (encRs p.enh)) k) stk)) (fun y i wr => 4 - (intOf i).toNat)
  case atStart => exact ⟨0, v9, st9, by omega, rfl, HQL⟩
  case round =>
    obtain ⟨k, vk, stk, hk, rfl, HK⟩ := hrel
    by_cases hlt : k < 4
    · have hki : (k : Int) < 4 := by omega
      have ck := four_cell HK.out.1.2 k hlt
      have lk := HK.out.1.2.lt
      have HM := Lib.hid (HPV.out k hlt vk stk wr HK.out.1.1.1)
      obtain ⟨V, hV⟩ : ∃ V, V = (four undef (.slice a5 (argL p.reco).length q5) (.slice a6 (argL p.sup).length q6) (.slice a7 (argL p.sug).length q7) (.slice a8 (argL p.enh).length q8)) k := ⟨_, rfl⟩
      rw [← hV] at ck HM
      clear hV
      go_wp2_with (first
        | (go_at_call 66; (with_reducible refine HM.out.mono ?_); rintro e w2 ⟨rfl, v2, st2, hs2, hr2, hc2⟩; have HK2 := Lib.hid (show ((WrSt W0 g gw v2 st2 w2 ∧ Blk w2 b 29 #[.string p.name, .int .i64 p.ep, .string p.ver, .string p.rel, .int .u8 p.arch, .string p.vendor, .slice a1 p.prov.length q1, .slice a2 (argL p.req).length q2, .slice a3 (argL p.con).length q3, .slice a4 p.obs.length q4, .slice a5 (argL p.reco).length q5, .slice a6 (argL p.sup).length q6, .slice a7 (argL p.sug).length q7, .slice a8 (argL p.enh).length q8, .slice a9 p.files.length q9]) ∧ Blk w2 bL 26 #[.slice a5 (argL p.reco).length q5, .slice a6 (argL p.sup).length q6, .slice a7 (argL p.sug).length q7, .slice a8 (argL p.enh).length q8]) ∧ CStep g gw w v w2 v2 ∧ WrRel st (encT p.name ++ encV p.ep p.ver p.rel ++ numL an ++ encT p.vendor ++ encL encD p.prov ++ encRs p.req ++ encRs p.con ++ encL encD p.obs ++ catN (four [] (encRs p.reco) (encRs p.sup) (encRs p.sug) (encRs p.enh)) (k + 1)) st2 from ⟨⟨⟨hs2, HF.out _ v2 _ _ w2 HK.out.1.1 hc2⟩, HFL.out _ v2 _ _ w2 HK.out.1.1.1 HK.out.1.2 hc2⟩, HK.out.2.1.trans hc2, by (have := HK.out.2.2.trans hr2; rw [List.append_assoc] at this; exact this)⟩); clear hs2 hr2 hc2)
        | fail)
      go_roundw
      case rel => exact ⟨k + 1, v2, st2, by omega, by go_num, HK2⟩
      case measure => simp [intOf]; omega
    · obtain rfl : k = 4 := by omega
      have c14 : wr.cell? ⟨b, 14, none⟩ = some (.slice a9 p.files.length q9) := HK.out.1.1.2.cell 14
      have HN9 := Lib.hid (HP9.out vk stk wr HK.out.1.1.1)
      go_wp2_with (first
        | (go_at_call 68; (with_reducible refine HN9.out.mono ?_); rintro e w2 ⟨rfl, v2, st2, hs2, hr2, hc2⟩; have HK2 := Lib.hid (show WrSt W0 g gw v2 st2 w2 ∧ CStep g gw w v w2 v2 ∧ WrRel st (encT p.name ++ encV p.ep p.ver p.rel ++ numL an ++ encT p.vendor ++ encL encD p.prov ++ encRs p.req ++ encRs p.con ++ encL encD p.obs ++ catN (four [] (encRs p.reco) (encRs p.sup) (encRs p.sug) (encRs p.enh)) 4 ++ encL encT p.files) st2 from ⟨hs2, HK.out.2.1.trans hc2, HK.out.2.2.trans hr2⟩); clear hs2 hr2 hc2)
        | fail)
      go_end0
      refine ⟨rfl, v2, st2, HK2.out.1, ?_, HK2.out.2.1⟩
      have := HK2.out.2.2
      rw [HBs.out]
      unfold encPk
      rw [HAN.out, Int.toNat_natCast]
      simp only [catN, four, List.nil_append, List.append_assoc] at this ⊢
      exact this
end Go.Proofs.YtdpjjnbelgaagaaGreatDoor

namespace Go.Proofs.YtdpjjnbelgaagaaGreatDoor
open Go.ChangeShapes Go.WideShapes Go.ChangeAt Go.RowKit
set_option maxRecDepth 100000

theorem putPs (W0 : World) (g gw : Nat) (l : List PkgD) (vl : Value) (hl : LIn pkgK anyB W0 l vl) (hs : l.all mayP = true) (v : Value) (st : WT) (w : World) (h : WrSt W0 g gw v st w) :
    Calls Tryz.prog 30 #[.pointer (some ⟨g, 0, none⟩), vl, .func (.func 31) #[.pointer (some ⟨g, 0, none⟩)] #[]] w (WPost W0 g gw v st (encL encPk l) w) :=
  putP_any W0 g gw l vl hl (fun x hx r v st w hh h => cwpkg_any W0 g gw v st x r w hh (mayP_is (List.all_eq_true.1 hs x hx)) h) v st w h
set_option maxHeartbeats 4000000 in
theorem cwrepo_any (W0 : World) (g gw : Nat) (v : Value) (st : WT) (x : RepoD) (r : Value) (w : World) (hp : LIn pkgK anyB W0 x.pkgs r) (h0 : 0 ≤ x.prio) (h1 : x.prio ≤ 1024) (hm : x.pkgs.all mayP = true) (h : WrSt W0 g gw v st w) :
    Calls Tryz.prog 29 #[.pointer (some ⟨g, 0, none⟩), .agg #[.int .i64 x.prio, r]] w (WPost W0 g gw v st (encO x) w) := by
  obtain ⟨a1, q1, (rfl : r = _)⟩ := hp.form
  obtain ⟨n, hn⟩ : ∃ n : Nat, x.prio = n := ⟨x.prio.toNat, (to_nat h0).symm⟩
  obtain ⟨Bs, hBs⟩ : ∃ Bs, Bs = encO x := ⟨_, rfl⟩
  rw [← hBs]
  have HBs := Lib.hid (show Bs = numL n ++ encL encPk x.pkgs by rw [hBs]; unfold encO; rw [hn, Int.toNat_natCast])
  have HP := Lib.hid (putPs W0 g gw x.pkgs _ hp hm)
  rw [hn] at h1 ⊢
  have hb1 := new_b w (.cells #[.int .i64 (n : Int), .slice a1 x.pkgs.length q1] 38)
  obtain ⟨b, hbe⟩ : ∃ b, b = w.heap.size := ⟨_, rfl⟩
  obtain ⟨w1, hw1⟩ : ∃ w1, w1 = w.alloc (.cells #[.int .i64 (n : Int), .slice a1 x.pkgs.length q1] 38) := ⟨_, rfl⟩
  have hx : Blk w1 b 38 #[.int .i64 (n : Int), .slice a1 x.pkgs.length q1] := by rw [hw1, hbe]; exact Blk.new _ _ _
  rw [← hw1] at hb1
  have HQ1 := Lib.hid (show (WrSt W0 g gw v st w1 ∧ Blk w1 b 38 #[.int .i64 (n : Int), .slice a1 x.pkgs.length q1]) ∧ CStep g gw w v w1 v from ⟨⟨h.below hb1, hx⟩, CStep.of_below hb1⟩)
  have c0 : w1.cell? ⟨b, 0, none⟩ = some (.int .i64 (n : Int)) := hx.cell 0
  have HN := Lib.hid (cwnum_any W0 g gw v st n w1 (by omega) HQ1.out.1.1)
  clear hx hb1 h hp hm h0 hn hBs
  go_enter Tryz.func29, Tryz.ntmps29
  go_upto_region 1 with fail
  rw [← hw1, ← hbe]
  clear hw1 hbe
  go_wp2_with fail
  refine HN.out.mono ?_
  rintro e w2 ⟨rfl, v2, st2, hs2, hr2, hc2⟩
  have hx2 := HQ1.out.1.1.far hc2 HQ1.out.1.2 (by decide) (by decide) (by decide)
  have c1 : w2.cell? ⟨b, 1, none⟩ = some (.slice a1 x.pkgs.length q1) := hx2.cell 1
  have HQ2 := Lib.hid (show CStep g gw w v w2 v2 ∧ WrRel st (numL n) st2 from ⟨HQ1.out.2.trans hc2, hr2⟩)
  have HN2 := Lib.hid (HP.out v2 st2 w2 hs2)
  clear hs2 hr2 hc2 hx2 HN HQ1 c0
  go_wp2_with fail
  refine HN2.out.mono ?_
  rintro e w3 ⟨rfl, v3, st3, hs3, hr3, hc3⟩
  have HQ3 := Lib.hid (show WrSt W0 g gw v3 st3 w3 ∧ CStep g gw w v w3 v3 ∧ WrRel st (numL n ++ encL encPk x.pkgs) st3 from ⟨hs3, HQ2.out.1.trans hc3, HQ2.out.2.trans hr3⟩)
  clear hs3 hr3 hc3
  go_wp2_with fail
  go_end0
  refine ⟨rfl, v3, st3, HQ3.out.1, ?_, HQ3.out.2.1⟩
  rw [HBs.out]
  exact HQ3.out.2.2
theorem putOs (W0 : World) (g gw : Nat) (l : List RepoD) (vl : Value) (hl : LIn repoK anyB W0 l vl) (h1 : l.all (fun r => decide (0 ≤ r.prio) && decide (r.prio ≤ 1024)) = true) (h2 : l.all (fun r => r.pkgs.all mayP) = true) (v : Value) (st : WT) (w : World) (h : WrSt W0 g gw v st w) :
    Calls Tryz.prog 28 #[.pointer (some ⟨g, 0, none⟩), vl, .func (.func 29) #[.pointer (some ⟨g, 0, none⟩)] #[]] w (WPost W0 g gw v st (encL encO l) w) :=
  putO_any W0 g gw l vl hl (fun x hx r v st w hh h => by
    have h3 := List.all_eq_true.1 h1 x hx
    simp only [Bool.and_eq_true, decide_eq_true_eq] at h3
    exact cwrepo_any W0 g gw v st x r w hh.2 h3.1 h3.2 (List.all_eq_true.1 h2 x hx) h) v st w h
end Go.Proofs.YtdpjjnbelgaagaaGreatDoor
