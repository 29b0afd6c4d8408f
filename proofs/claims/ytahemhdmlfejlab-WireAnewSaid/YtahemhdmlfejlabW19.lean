/- WireAnew: the walk. -/
import Derived.Test.YtahemhdmlfejlabW18
namespace Go.Proofs.Ytahemhdmlfejlab
open Go.ChangeShapes Go.WideShapes Go.ChangeAt Go.RowKit
set_option maxRecDepth 100000

set_option maxHeartbeats 2000000 in
theorem anew_walk (s : ByteArray) (ao : Option Addr) (l : List StepD) (cap b off : Nat) (w : World) (hl : IsSteps w w.heap.size ao b off l) (hlen : (l.length : Int) ≤ 9223372036854775807) :
    Calls Try.prog 5 #[.string s, .slice ao l.length cap] w fun e w' => e = .returned (.bool true) ∧ Below w.heap.size w w' := by
  have hL := fun w1 (hb : Below w.heap.size w w1) => large_any ao l cap b off _ w1 (hl.below hb) hlen
  by_cases hlg : (50000 : Int) ≤ tot l
  · rw [show decide ((50000 : Int) ≤ tot l) = true by simpa using hlg] at hL
    have HL := Lib.hid hL
    clear hL
    go_enter Try.func5, Try.ntmps5
    go_wp2_with (first
      | (go_at_call 14; with_reducible refine (works_any w).mono ?_; rintro r w1 ⟨rfl, hB1⟩)
      | (go_at_call 14; refine (works_any _).mono ?_; rintro r w2 ⟨rfl, hB2⟩)
      | (go_at_call 7; with_reducible refine (HL.out _ hB1).mono ?_; rintro r w' ⟨rfl, rfl⟩))
    go_ret
    exact ⟨rfl, bel_trans hB1 hB2⟩
  · rw [show decide ((50000 : Int) ≤ tot l) = false by simpa using hlg] at hL
    have HL := Lib.hid hL
    clear hL
    by_cases hsl : 50000 < s.size
    · have hsl' : decide ((50000 : Int) < (s.size : Int)) = true := by simp; omega
      go_enter Try.func5, Try.ntmps5
      go_wp2_with (first
        | (go_at_call 14; with_reducible refine (works_any w).mono ?_; rintro r w1 ⟨rfl, hB1⟩)
        | (go_at_call 14; refine (works_any _).mono ?_; rintro r w2 ⟨rfl, hB2⟩)
        | (go_at_call 7; with_reducible refine (HL.out _ hB1).mono ?_; rintro r w' ⟨rfl, rfl⟩))
      go_ret
      exact ⟨rfl, bel_trans hB1 hB2⟩
    · have hsl' : decide ((50000 : Int) < (s.size : Int)) = false := by simp; omega
      have hs : s.size ≤ 140737488351232 := by omega
      go_enter Try.func5, Try.ntmps5
      go_wp2_with (first
        | (go_at_call 14; refine (works_any w).mono ?_; rintro r w1 ⟨rfl, hB1⟩)
        | (go_at_call 7; with_reducible refine (HL.out _ hB1).mono ?_; rintro r w' ⟨rfl, rfl⟩)
        | (go_at_call 15; refine (newreader_any s _ (by omega)).mono ?_; rintro r w2 ⟨rfl, hb2, hB2⟩)
        | (go_at_call 8; refine (new_any _).mono ?_; rintro e w3 ⟨rfl, hw3, hB3⟩))
      have hBa := bel_trans (bel_trans hB1 hB2) hB3
      have hs1 := hB1.size
      have hs2 := hB2.size
      have hgl := hb2.lt
      have hb3 := hb2.below hB3 hgl
      have hWr : Wr w.heap.size w3 w2.heap.size (.slice none 0 0) (s.extract 0 0).data.toList := ⟨by rw [extract_list]; exact hw3, by omega, fun k hk => by simp [Value.ownBlock] at hk⟩
      have hgr : w.heap.size ≤ w1.heap.size := hs1
      have hgg : w2.heap.size ≠ w1.heap.size := by omega
      generalize w2.heap.size = g at *
      generalize w1.heap.size = gr at *
      clear hB1 hB2 hB3 hw3 hb2 hgl hs2 hs1 hlg
      go_loopw [8] (fun i wr => ∃ (k : Nat) (v : Value) (bs : List UInt8) (at_ : Nat) (e : Int), k ≤ l.length ∧ i = .int .i64 k ∧ Wr w.heap.size wr g v bs ∧ v.ownBlock ≠ some gr ∧ Blk wr gr 56 (RB s at_ e) ∧ at_ ≤ s.size ∧ (e = 0 → bs = (s.extract 0 at_).data.toList) ∧ Below w.heap.size w wr) (fun i _ => l.length - (intOf i).toNat)
      case atStart => exact ⟨0, _, _, 0, 0, by omega, rfl, hWr, by simp [Value.ownBlock], hb3, by omega, fun _ => rfl, hBa⟩
      case round =>
        obtain ⟨k, v, bs, at_, e, hk, rfl, hW, hvg, hR, hat, hbs, hB⟩ := hrel
        by_cases hlt : k < l.length
        · have hl2 := hl.below hB
          obtain ⟨rfl, hbB⟩ := hl2.ptr (by omega)
          have hwf := hl2.wf k hlt
          have hck := hl2.kind k hlt
          have hcl := hl2.least k hlt
          have hcn := hl2.n k hlt
          obtain ⟨hkd, hlst, hn, _, _⟩ := hwf
          generalize l[k].kind = kd at *
          generalize l[k].n = n at *
          generalize l[k].least = lst at *
          have HW := Lib.hid hW
          have HK := Lib.hid hR
          have HB := Lib.hid hB
          have HL2 := Lib.hid hl
          have step : ∀ w1 w', Wr w.heap.size w1 g v bs → Below w.heap.size w w1 → Touch (· = gr) w1 w' → Wr w.heap.size w' g v bs ∧ Below w.heap.size w w' ∧ Below w.heap.size w1 w' := fun w1 w' hw hb ht =>
            ⟨⟨hw.hw.touch ht (by omega) (fun k hk e => hvg (e ▸ hk)), hw.hg, hw.hv⟩, hb.trans (ht.below hb.size (fun x hx e => by omega)), ht.below hb.size (fun x hx e => by omega)⟩
          have Hstep := Lib.hid step
          have Hbs := Lib.hid hbs
          clear hl hl2 hW hB hR step hbs
          have hk0 : (0 : Int) ≤ (k : Int) := by omega
          have hk1 : (k : Int) < (l.length : Int) := by omega
          by_cases h0 : kd = 0
          · subst h0
            by_cases he : e = 0
            · subst he
              have hR := fun w1 h1 => rnum_any gr s at_ 0 lst n w1 h1 hat hs
              rcases rNum_ends s at_ lst n with ⟨x, hx, hr⟩ | ⟨m, q, hr, hm1, hm2, hq, hm3, hm4, hm5⟩
              · rw [hr] at hR
                clear hr
                have hxn : x ≠ 0 := by simpa using hx
                have HR := Lib.hid hR
                clear hR
                go_wp2_with (first
                  | (go_at_call 19; with_reducible refine (at_any gr s at_ 0 _ HK.out).mono ?_; rintro e' w' ⟨rfl, rfl⟩)
                  | (go_at_call 20; with_reducible refine (wrong_ok gr s at_ _ HK.out).mono ?_; rintro r w5 ⟨rfl, nn, rfl⟩))
                have HN := Lib.hid (HR.out (wr.drewN nn).drew (HK.out.drewN nn).drew)
                have Hst := Lib.hid (fun w' => Hstep.out (wr.drewN nn).drew w' (HW.out.drewN nn).drew (bel_drewN HB.out nn).drew)
                go_region_held3 (fun w' => w'.cell? ⟨b, off + k * 5 + 1, none⟩ = some (.int .i64 lst) ∧ w'.cell? ⟨b, off + k * 5 + 2, none⟩ = some (.int .i64 n)) (first | exact ⟨hcl, hcn⟩ | exact ⟨hcl1, hcn1⟩) ((go_at_call 16; refine HN.out.mono ?_; rintro e' w2 ⟨rfl, hk2, ht2⟩; obtain ⟨hw2, hb2, hbr⟩ := Hst.out w2 ht2; have hcl1 := (hbr.cell (p := ⟨b, off + k * 5 + 1, none⟩) hbB).trans hcl; have hcn1 := (hbr.cell (p := ⟨b, off + k * 5 + 2, none⟩) hbB).trans hcn; have hck1 := (hbr.cell (p := ⟨b, off + k * 5, none⟩) hbB).trans hck))
                go_wp2_with (first
                  | (go_at_call 20; with_reducible refine (wrong_bad gr s at_ x _ hk2 hxn).mono ?_; rintro r w6 ⟨rfl, nn2, rfl⟩)
                  | (go_at_call 19; refine (at_any gr s at_ x _ (hk2.drewN nn2)).mono ?_; rintro e' w' ⟨rfl, rfl⟩))
                go_roundw
                case rel => exact ⟨k + 1, v, bs, at_, x, by omega, by go_num, hw2.drewN _, hvg, hk2.drewN _, by omega, fun h => absurd h hxn, bel_drewN hb2 _⟩
                case measure => simp [intOf]; omega
              · rw [hr] at hR
                clear hr
                have hbs := Hbs.out rfl
                subst hbs
                have HR := Lib.hid hR
                clear hR
                have hd1 : decide ((m : Int) < lst) = false := by simp; omega
                have hd2 : decide (n < (m : Int)) = false := by simp; omega
                have hlen : (s.extract 0 at_).data.toList.length + (numL m).length ≤ 4194304 := by rw [extract_list, List.length_take, List.length_drop]; have : s.data.toList.length = s.size := (by simp); omega
                generalize at_ + q = at2 at *
                have hsl2 : ∀ W, (Instr.slice 9 (.string s) none (some (.int .i64 (at2 : Int))) none).run Try.prog W = .ok (.string (s.extract 0 at2)) W := fun W => by
                  have h := run_slice_string_h W 9 s Try.underlying9 .i64 (at2 : Int) (by omega) (by omega)
                  rwa [Int.toNat_natCast] at h
                go_wp2_with (first
                  | (go_at_call 19; with_reducible refine (at_any gr s at_ 0 _ HK.out).mono ?_; rintro e' w' ⟨rfl, rfl⟩)
                  | (go_at_call 20; with_reducible refine (wrong_ok gr s at_ _ HK.out).mono ?_; rintro r w5 ⟨rfl, nn, rfl⟩))
                have HN := Lib.hid (HR.out (wr.drewN nn).drew (HK.out.drewN nn).drew)
                have Hst := Lib.hid (fun w' => Hstep.out (wr.drewN nn).drew w' (HW.out.drewN nn).drew (bel_drewN HB.out nn).drew)
                go_region_held3 (fun w' => w'.cell? ⟨b, off + k * 5 + 1, none⟩ = some (.int .i64 lst) ∧ w'.cell? ⟨b, off + k * 5 + 2, none⟩ = some (.int .i64 n)) (first | exact ⟨hcl, hcn⟩ | exact ⟨hcl1, hcn1⟩) ((go_at_call 16; refine HN.out.mono ?_; rintro e' w2 ⟨rfl, hk2, ht2⟩; obtain ⟨hw2, hb2, hbr⟩ := Hst.out w2 ht2; have hcl1 := (hbr.cell (p := ⟨b, off + k * 5 + 1, none⟩) hbB).trans hcl; have hcn1 := (hbr.cell (p := ⟨b, off + k * 5 + 2, none⟩) hbB).trans hcn; have hck1 := (hbr.cell (p := ⟨b, off + k * 5, none⟩) hbB).trans hck))
                go_wp2_with (first
                  | (go_at_call 20; with_reducible refine (wrong_ok gr s at2 _ hk2).mono ?_; rintro r w6 ⟨rfl, nn2, rfl⟩)
                  | (go_at_call 9; refine (wr_num2 m (hw2.drewN nn2) (bel_drewN hb2 nn2) (Nat.le_refl _) hm3 hlen hm4 (hk2.drewN nn2) hgg hvg).mono ?_; rintro e' w7 ⟨rfl, v7, hw7, hb7, hk7, hv7⟩)
                  | (go_at_call 13; with_reducible refine (wr_bytes_of hw7).mono ?_; rintro e1 w' ⟨rfl, rfl⟩)
                  | (go_at_call 19; with_reducible refine (at_any gr s at2 0 _ hk7).mono ?_; rintro e' w' ⟨rfl, rfl⟩))
                go_roundw
                case rel => exact ⟨k + 1, v7, _, at2, 0, by omega, by go_num, hw7, hv7, hk7, hq, fun _ => rfl, hb7⟩
                case measure => simp [intOf]; omega
            · have hR := fun w1 h1 => rnum_any gr s at_ e lst n w1 h1 hat hs
              rw [show rNum s at_ e lst n = (0, at_, e) by simp [rNum, he]] at hR
              have HR := Lib.hid hR
              clear hR
              have hx : (e == 0) = false := by simpa using he
              go_wp2_with (first
                | (go_at_call 19; with_reducible refine (at_any gr s at_ e _ HK.out).mono ?_; rintro e' w' ⟨rfl, rfl⟩)
                | (go_at_call 20; with_reducible refine (wrong_bad gr s at_ e _ HK.out he).mono ?_; rintro r w5 ⟨rfl, nn, rfl⟩))
              have HN := Lib.hid (HR.out (wr.drewN nn).drew (HK.out.drewN nn).drew)
              have Hst := Lib.hid (fun w' => Hstep.out (wr.drewN nn).drew w' (HW.out.drewN nn).drew (bel_drewN HB.out nn).drew)
              go_region_held3 (fun w' => w'.cell? ⟨b, off + k * 5 + 1, none⟩ = some (.int .i64 lst) ∧ w'.cell? ⟨b, off + k * 5 + 2, none⟩ = some (.int .i64 n)) (first | exact ⟨hcl, hcn⟩ | exact ⟨hcl1, hcn1⟩) ((go_at_call 16; refine HN.out.mono ?_; rintro e' w2 ⟨rfl, hk2, ht2⟩; obtain ⟨hw2, hb2, hbr⟩ := Hst.out w2 ht2; have hcl1 := (hbr.cell (p := ⟨b, off + k * 5 + 1, none⟩) hbB).trans hcl; have hcn1 := (hbr.cell (p := ⟨b, off + k * 5 + 2, none⟩) hbB).trans hcn; have hck1 := (hbr.cell (p := ⟨b, off + k * 5, none⟩) hbB).trans hck))
              go_wp2_with (first
                | (go_at_call 20; with_reducible refine (wrong_bad gr s at_ e _ hk2 he).mono ?_; rintro r w6 ⟨rfl, nn2, rfl⟩)
                | (go_at_call 19; refine (at_any gr s at_ e _ (hk2.drewN nn2)).mono ?_; rintro e' w' ⟨rfl, rfl⟩))
              go_roundw
              case rel => exact ⟨k + 1, v, bs, at_, e, by omega, by go_num, hw2.drewN _, hvg, hk2.drewN _, by omega, fun h => absurd h he, bel_drewN hb2 _⟩
              case measure => simp [intOf]; omega
          · have h0' : (kd == 0) = false := by simpa using h0
            clear h0
            by_cases he : e = 0
            · subst he
              have hR := fun w1 h1 => rtext_any gr s at_ 0 n w1 h1 hat hs
              rcases rText_ends s at_ n with ⟨x, at2, hx, ha1, ha2, hr⟩ | ⟨t, at2, hr, hm1, hq, ha1, hm3, hm4⟩
              · rw [hr] at hR
                clear hr
                have hxn : x ≠ 0 := by simpa using hx
                have HR := Lib.hid hR
                clear hR
                have hlt2 : decide ((at2 : Int) < (at_ : Int)) = false := by simp; omega
                go_wp2_with (first
                  | (go_at_call 19; with_reducible refine (at_any gr s at_ 0 _ HK.out).mono ?_; rintro e' w' ⟨rfl, rfl⟩)
                  | (go_at_call 20; with_reducible refine (wrong_ok gr s at_ _ HK.out).mono ?_; rintro r w5 ⟨rfl, nn, rfl⟩)
                  | (go_at_call 17; refine (HR.out _ (HK.out.drewN nn)).mono ?_; rintro e' w2 ⟨rfl, hk2, ht2⟩; obtain ⟨hw2, hb2, hbr⟩ := Hstep.out (wr.drewN nn) w2 (HW.out.drewN nn) (bel_drewN HB.out nn) ht2; have hcl1 := (hbr.cell (p := ⟨b, off + k * 5 + 1, none⟩) hbB).trans hcl; have hcn1 := (hbr.cell (p := ⟨b, off + k * 5 + 2, none⟩) hbB).trans hcn; have hck1 := (hbr.cell (p := ⟨b, off + k * 5, none⟩) hbB).trans hck))
                go_wp2_with (first
                  | (go_at_call 20; with_reducible refine (wrong_bad gr s at2 x _ hk2 hxn).mono ?_; rintro r w6 ⟨rfl, nn2, rfl⟩)
                  | (go_at_call 19; refine (at_any gr s at2 x _ (hk2.drewN nn2)).mono ?_; rintro e' w' ⟨rfl, rfl⟩))
                go_roundw
                case rel => exact ⟨k + 1, v, bs, at2, x, by omega, by go_num, hw2.drewN _, hvg, hk2.drewN _, by omega, fun h => absurd h hxn, bel_drewN hb2 _⟩
                case measure => simp [intOf]; omega
              · rw [hr] at hR
                clear hr
                have hbs := Hbs.out rfl
                subst hbs
                have HR := Lib.hid hR
                clear hR
                have hd1 : decide (n < (t.size : Int)) = false := by simp; omega
                have hlen : (s.extract 0 at_).data.toList.length + (numL t.size ++ t.data.toList).length ≤ 4194304 := by have h9 := numL_9 t.size (by omega); have ht := (show t.data.toList.length = t.size by simp); rw [List.length_append, ht, extract_list, List.length_take, List.length_drop]; have : s.data.toList.length = s.size := (by simp); omega
                have hsl2 : ∀ W, (Instr.slice 9 (.string s) none (some (.int .i64 (at2 : Int))) none).run Try.prog W = .ok (.string (s.extract 0 at2)) W := fun W => by
                  have h := run_slice_string_h W 9 s Try.underlying9 .i64 (at2 : Int) (by omega) (by omega)
                  rwa [Int.toNat_natCast] at h
                go_wp2_with (first
                  | (go_at_call 19; with_reducible refine (at_any gr s at_ 0 _ HK.out).mono ?_; rintro e' w' ⟨rfl, rfl⟩)
                  | (go_at_call 20; with_reducible refine (wrong_ok gr s at_ _ HK.out).mono ?_; rintro r w5 ⟨rfl, nn, rfl⟩)
                  | (go_at_call 17; refine (HR.out _ (HK.out.drewN nn)).mono ?_; rintro e' w2 ⟨rfl, hk2, ht2⟩; obtain ⟨hw2, hb2, hbr⟩ := Hstep.out (wr.drewN nn) w2 (HW.out.drewN nn) (bel_drewN HB.out nn) ht2; have hcl1 := (hbr.cell (p := ⟨b, off + k * 5 + 1, none⟩) hbB).trans hcl; have hcn1 := (hbr.cell (p := ⟨b, off + k * 5 + 2, none⟩) hbB).trans hcn; have hck1 := (hbr.cell (p := ⟨b, off + k * 5, none⟩) hbB).trans hck))
                go_wp2_with (first
                  | (go_at_call 20; with_reducible refine (wrong_ok gr s at2 _ hk2).mono ?_; rintro r w6 ⟨rfl, nn2, rfl⟩)
                  | (go_at_call 11; refine (wr_text2 t (hw2.drewN nn2) (bel_drewN hb2 nn2) (Nat.le_refl _) (by omega) hlen hm4 (hk2.drewN nn2) hgg hvg).mono ?_; rintro e' w7 ⟨rfl, v7, hw7, hb7, hk7, hv7⟩)
                  | (go_at_call 13; with_reducible refine (wr_bytes_of hw7).mono ?_; rintro e1 w' ⟨rfl, rfl⟩)
                  | (go_at_call 19; with_reducible refine (at_any gr s at2 0 _ hk7).mono ?_; rintro e' w' ⟨rfl, rfl⟩))
                go_roundw
                case rel => exact ⟨k + 1, v7, _, at2, 0, by omega, by go_num, hw7, hv7, hk7, hq, fun _ => rfl, hb7⟩
                case measure => simp [intOf]; omega
            · have hR := fun w1 h1 => rtext_any gr s at_ e n w1 h1 hat hs
              rw [show rText s at_ e n = (⟨#[]⟩, at_, e) by simp [rText, he]] at hR
              have HR := Lib.hid hR
              clear hR
              have hx : (e == 0) = false := by simpa using he
              go_wp2_with (first
                | (go_at_call 19; with_reducible refine (at_any gr s at_ e _ HK.out).mono ?_; rintro e' w' ⟨rfl, rfl⟩)
                | (go_at_call 20; with_reducible refine (wrong_bad gr s at_ e _ HK.out he).mono ?_; rintro r w5 ⟨rfl, nn, rfl⟩)
                | (go_at_call 17; refine (HR.out _ (HK.out.drewN nn)).mono ?_; rintro e' w2 ⟨rfl, hk2, ht2⟩; obtain ⟨hw2, hb2, hbr⟩ := Hstep.out (wr.drewN nn) w2 (HW.out.drewN nn) (bel_drewN HB.out nn) ht2; have hcl1 := (hbr.cell (p := ⟨b, off + k * 5 + 1, none⟩) hbB).trans hcl; have hcn1 := (hbr.cell (p := ⟨b, off + k * 5 + 2, none⟩) hbB).trans hcn; have hck1 := (hbr.cell (p := ⟨b, off + k * 5, none⟩) hbB).trans hck))
              go_wp2_with (first
                | (go_at_call 20; with_reducible refine (wrong_bad gr s at_ e _ hk2 he).mono ?_; rintro r w6 ⟨rfl, nn2, rfl⟩)
                | (go_at_call 19; refine (at_any gr s at_ e _ (hk2.drewN nn2)).mono ?_; rintro e' w' ⟨rfl, rfl⟩))
              go_roundw
              case rel => exact ⟨k + 1, v, bs, at_, e, by omega, by go_num, hw2.drewN _, hvg, hk2.drewN _, by omega, fun h => absurd h he, bel_drewN hb2 _⟩
              case measure => simp [intOf]; omega
        · obtain rfl : k = l.length := by omega
          go_wp2_with fail
          go_ret
          exact ⟨rfl, hB⟩

end Go.Proofs.Ytahemhdmlfejlab
