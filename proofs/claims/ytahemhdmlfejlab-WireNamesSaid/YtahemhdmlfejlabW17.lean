/- WireBack: the walk. -/
import Derived.Test.YtahemhdmlfejlabW16
namespace Go.Proofs.Ytahemhdmlfejlab
open Go.ChangeShapes Go.WideShapes Go.ChangeAt Go.RowKit
set_option maxRecDepth 100000

/-- A writer, from block B on. -/
structure Wr (B : Nat) (w : World) (g : Nat) (v : Value) (bs : List UInt8) : Prop where
  hw : IsW w g v bs
  hg : B ≤ g
  hv : ∀ k, v.ownBlock = some k → B ≤ k

theorem Wr.drewN {B : Nat} {w : World} {g : Nat} {v : Value} {bs : List UInt8} (h : Wr B w g v bs) (n : Nat) : Wr B (w.drewN n) g v bs := ⟨⟨h.hw.blk.drewN _, h.hw.own, h.hw.le⟩, h.hg, h.hv⟩
theorem Wr.drew {B : Nat} {w : World} {g : Nat} {v : Value} {bs : List UInt8} (h : Wr B w g v bs) : Wr B w.drew g v bs := ⟨h.hw.drew, h.hg, h.hv⟩
theorem Wr.step {B : Nat} {w0 w w' : World} {g : Nat} {v v' : Value} {bs bs' : List UInt8} (h : Wr B w g v bs) (hb : Below B w0 w) (hB : B ≤ w.heap.size) (h1 : IsW w' g v' bs') (h2 : WStep g w v w' v') : Wr B w' g v' bs' ∧ Below B w0 w' :=
  ⟨⟨h1, h.hg, (wstep_bel hb h2 hB h.hg h.hv).2⟩, (wstep_bel hb h2 hB h.hg h.hv).1⟩

theorem wr_num {B : Nat} {w0 w : World} {g : Nat} {v : Value} {bs : List UInt8} (m : Nat) (h : Wr B w g v bs) (hb : Below B w0 w) (hB : B ≤ w0.heap.size) (hn : m ≤ 9223372036854775807) (hl : bs.length + (numL m).length ≤ 4194304) :
    Calls Try.prog 9 #[.pointer (some ⟨g, 0, none⟩), .int .i64 m] w fun e w' => e = .returned (.int .i64 0) ∧ ∃ v', Wr B w' g v' (bs ++ numL m) ∧ Below B w0 w' := by
  have hN := num_any g v bs m w hn h.hw
  refine hN.mono ?_
  rintro e w' ⟨rfl, v', h1, h2⟩
  have hs := hb.size
  simp only [putE, putB, if_pos hl] at h1 ⊢
  exact ⟨trivial, v', (h.step hb (by omega) h1 h2)⟩

theorem wr_text {B : Nat} {w0 w : World} {g : Nat} {v : Value} {bs : List UInt8} (s : ByteArray) (h : Wr B w g v bs) (hb : Below B w0 w) (hB : B ≤ w0.heap.size) (hs : s.size ≤ 140737488351232) (hl : bs.length + (numL s.size ++ s.data.toList).length ≤ 4194304) :
    Calls Try.prog 11 #[.pointer (some ⟨g, 0, none⟩), .string s] w fun e w' => e = .returned (.int .i64 0) ∧ ∃ v', Wr B w' g v' (bs ++ (numL s.size ++ s.data.toList)) ∧ Below B w0 w' := by
  have hN := text_any g v bs s w hs h.hw
  refine hN.mono ?_
  rintro e w' ⟨rfl, v', h1, h2⟩
  have hs := hb.size
  simp only [putE, putB, if_pos hl] at h1 ⊢
  exact ⟨trivial, v', (h.step hb (by omega) h1 h2)⟩

theorem wr_bytes {B : Nat} {w : World} {g : Nat} {v : Value} {bs : List UInt8} (h : Wr B w g v bs) :
    Calls Try.prog 13 #[.pointer (some ⟨g, 0, none⟩)] w fun e w' => ∃ T : ByteArray, T.data.toList = bs ∧ T.size = bs.length ∧ e = .returned (.string T) ∧ w = w' := by
  refine (bytes_any g v bs w h.hw).mono ?_
  rintro e w' ⟨rfl, rfl⟩
  exact ⟨_, by simp, by show bs.toArray.size = _; simp, rfl, rfl⟩

set_option maxHeartbeats 2000000 in
theorem back_walk (ao : Option Addr) (l : List StepD) (cap b off : Nat) (w : World) (hl : IsSteps w w.heap.size ao b off l) (hlen : (l.length : Int) ≤ 9223372036854775807) :
    Calls Try.prog 4 #[.slice ao l.length cap] w fun e w' => e = .returned (.bool true) ∧ Below w.heap.size w w' := by
  by_cases hlg : (50000 : Int) ≤ tot l
  · have hL := fun w1 (hb : Below w.heap.size w w1) => large_any ao l cap b off _ w1 (hl.below hb) hlen
    rw [show decide ((50000 : Int) ≤ tot l) = true by simpa using hlg] at hL
    have HL := Lib.hid hL
    clear hL
    go_enter Try.func4, Try.ntmps4
    go_wp2_with (first
      | (go_at_call 14; with_reducible refine (works_any w).mono ?_; rintro r w1 ⟨rfl, hB1⟩)
      | (go_at_call 14; refine (works_any _).mono ?_; rintro r w2 ⟨rfl, hB2⟩)
      | (go_at_call 7; with_reducible refine (HL.out _ hB1).mono ?_; rintro r w' ⟨rfl, rfl⟩))
    go_ret
    exact ⟨rfl, bel_trans hB1 hB2⟩
  · have hL := fun w1 (hb : Below w.heap.size w w1) => large_any ao l cap b off _ w1 (hl.below hb) hlen
    rw [show decide ((50000 : Int) ≤ tot l) = false by simpa using hlg] at hL
    have HL := Lib.hid hL
    clear hL
    go_enter Try.func4, Try.ntmps4
    go_wp2_with (first
      | (go_at_call 14; refine (works_any w).mono ?_; rintro r w1 ⟨rfl, hB1⟩)
      | (go_at_call 7; with_reducible refine (HL.out _ hB1).mono ?_; rintro r w' ⟨rfl, rfl⟩)
      | (go_at_call 8; refine (new_any _).mono ?_; rintro e w2 ⟨rfl, hw2, hB2⟩))
    have hBa := bel_trans hB1 hB2
    have hs1 := hB1.size
    have hWr : Wr w.heap.size w2 w1.heap.size (.slice none 0 0) [] := ⟨hw2, hs1, fun k hk => by simp [Value.ownBlock] at hk⟩
    generalize w1.heap.size = g at *
    clear hB1 hB2 hw2
    go_loopw [4, 5] (fun i _ wr => ∃ (k : Nat) (v : Value), k ≤ l.length ∧ i = .int .i64 k ∧ Wr w.heap.size wr g v (catS l k) ∧ Below w.heap.size w wr) (fun i _ _ => l.length - (intOf i).toNat)
    case atStart => exact ⟨0, _, by omega, rfl, hWr, hBa⟩
    case round =>
      obtain ⟨k, v, hk, rfl, hb, hB⟩ := hrel
      by_cases hlt : k < l.length
      · have hl2 := hl.below hB
        obtain ⟨rfl, hbB⟩ := hl2.ptr (by omega)
        have hwf := hl2.wf k hlt
        have hck := hl2.kind k hlt
        have hcn := hl2.n k hlt
        have hcs := hl2.s k hlt
        have hcat := catS_succ l k hlt
        have hcl := catS_len l hl2.wf (k + 1) (by omega)
        have htk := tot_take l (k + 1)
        rw [hcat, List.length_append] at hcl
        obtain ⟨hkd, _, hn, hs, _⟩ := hwf
        unfold encS at hcat hcl
        generalize l[k].kind = kd at *
        generalize l[k].n = n at *
        generalize l[k].s = s at *
        generalize catS l k = bs at *
        have HB := Lib.hid hB
        have HW := Lib.hid hb
        have HL2 := Lib.hid hl
        clear hl hl2
        by_cases h0 : kd = 0
        · subst h0
          by_cases hneg : n < 0
          · rw [if_neg (by omega), if_neg (by omega), List.append_nil] at hcat
            have hneg' : decide (0 ≤ n) = false := by simpa using hneg
            go_wp2_with (first | (go_at_call 13; refine (wr_bytes HW.out).mono ?_; rintro e w' ⟨T, hT, hTs, rfl, rfl⟩))
            go_roundw
            case rel => exact ⟨k + 1, v, by omega, by go_num, hcat ▸ HW.out, HB.out⟩
            case measure => simp [intOf]; omega
          · obtain ⟨m, rfl⟩ := Int.eq_ofNat_of_zero_le (by omega : 0 ≤ n)
            rw [if_pos ⟨rfl, by omega⟩] at hcat hcl
            simp only [Int.toNat_natCast] at hcat hcl
            have h9 := numL_9 m (by omega)
            have h1 : 0 < (numL m).length := by rw [numL]; split <;> simp
            have HN := Lib.hid (wr_num m hb hB (Nat.le_refl _) (by omega) (by omega))
            clear hb hB
            generalize hq : numL m = q at *
            clear hq
            generalize htt : tot (l.take (k + 1)) = tk at *
            generalize htl : tot l = tl at *
            clear htt htl
            have hm0 : (0 : Int) ≤ (m : Int) := by omega
            go_wp2_with (first
              | (go_at_call 13; with_reducible refine (wr_bytes HW.out).mono ?_; rintro e w' ⟨T, hT, hTs, rfl, rfl⟩; have hTH := Lib.hid hTs; clear hTs hT)
              | (go_at_call 9; with_reducible refine HN.out.mono ?_; rintro e w3 ⟨rfl, v3, hw3, hb3⟩)
              | (go_at_call 13; with_reducible refine (wr_bytes hw3).mono ?_; rintro e w' ⟨T2, hT2, hT2s, rfl, rfl⟩; rw [List.length_append] at hT2s; have hTs := hTH.out; have hd1 : decide ((T2.size : Int) < (T.size : Int) + 1) = false := (by simp; omega); have hd2 : decide ((T.size : Int) + 9 < (T2.size : Int)) = false := (by simp; omega); have hwr1 : IntKind.i64.wrap ((T.size : Int) + 1) = (T.size : Int) + 1 := (by rw [IntKind.wrap_i64]; omega); have hwr2 : IntKind.i64.wrap ((T.size : Int) + 9) = (T.size : Int) + 9 := (by rw [IntKind.wrap_i64]; omega); clear hT2s hTs))
            go_roundw
            case rel => exact ⟨k + 1, v3, by omega, by go_num, hcat ▸ hw3, hb3⟩
            case measure => simp [intOf]; omega
        · by_cases h1 : kd = 1
          · subst h1
            rw [if_neg (by omega), if_pos rfl] at hcat hcl
            have HN := Lib.hid (wr_text s hb hB (Nat.le_refl _) hs (by omega))
            clear hb hB
            generalize hq : numL s.size ++ s.data.toList = q at *
            clear hq
            go_wp2_with (first
              | (go_at_call 13; with_reducible refine (wr_bytes HW.out).mono ?_; rintro e w' ⟨T, hT, hTs, rfl, rfl⟩; clear hTs hT)
              | (go_at_call 11; with_reducible refine HN.out.mono ?_; rintro e w3 ⟨rfl, v3, hw3, hb3⟩))
            go_roundw
            case rel => exact ⟨k + 1, v3, by omega, by go_num, hcat ▸ hw3, hb3⟩
            case measure => simp [intOf]; omega
          · rw [if_neg (by omega), if_neg (by omega), List.append_nil] at hcat
            have h0' : (kd == 0) = false := by simpa using h0
            have h1' : (kd == 1) = false := by simpa using h1
            clear h0 h1
            go_wp2_with (first | (go_at_call 13; refine (wr_bytes HW.out).mono ?_; rintro e w' ⟨T, hT, hTs, rfl, rfl⟩; clear hTs hT))
            go_roundw
            case rel => exact ⟨k + 1, v, by omega, by go_num, hcat ▸ HW.out, HB.out⟩
            case measure => simp [intOf]; omega
      · obtain rfl : k = l.length := by omega
        have hcl := catS_len l hl.wf l.length (Nat.le_refl _)
        rw [List.take_length] at hcl
        clear hWr hBa
        go_wp2_with (first
          | (go_at_call 13; with_reducible refine (wr_bytes hb).mono ?_; rintro e w' ⟨T, hT, hTs, rfl, rfl⟩; have hTH := Lib.hid hTs; have hTL := Lib.hid hT; clear hTs hT)
          | (go_at_call 15; with_reducible refine (newreader_any T _ (by rw [hTH.out]; omega)).mono ?_; rintro r w4 ⟨rfl, hb4, hB4⟩))
        have hs2 := hB.size
        have hW4 : Wr w.heap.size w4 g v (catS l l.length) := ⟨hb.hw.below hB4, hb.hg, hb.hv⟩
        have hB5 := bel_trans hB hB4
        generalize hgr : wr.heap.size = gr at *
        have hgg : g < gr := by have := hb.hw.blk.lt; omega
        have hvg : ∀ k, v.ownBlock = some k → k < gr := fun k hk => by have := hb.hw.own.lt k hk; omega
        clear hb hB hB4
        go_loopw [8] (fun i wr => ∃ (k : Nat), k ≤ l.length ∧ i = .int .i64 k ∧ Wr w.heap.size wr g v (catS l l.length) ∧ Blk wr gr 56 (RB T (catS l k).length 0) ∧ Below w.heap.size w wr) (fun i _ => l.length - (intOf i).toNat)
        case atStart => exact ⟨0, by omega, rfl, hW4, hb4, hB5⟩
        case round =>
          obtain ⟨k, hk, rfl, hW, hbk, hB⟩ := hrel
          by_cases hlt : k < l.length
          · have hl2 := hl.below hB
            obtain ⟨rfl, hbB⟩ := hl2.ptr (by omega)
            have hwf := hl2.wf k hlt
            have hck := hl2.kind k hlt
            have hcn := hl2.n k hlt
            have hcs := hl2.s k hlt
            have hcat := catS_succ l k hlt
            have hcd := catS_drop l k hlt
            have hTs := hTH.out
            have hTsz : (catS l k).length + (encS l[k]).length ≤ T.size := by
              have h1 := congrArg List.length hcd
              rw [List.length_drop, List.length_append] at h1
              have h2 : (catS l k).length ≤ (catS l l.length).length := by
                have : catS l l.length = catS l k ++ (l.drop k).flatMap encS := by
                  unfold catS
                  rw [List.take_length, ← List.flatMap_append, List.take_append_drop]
                rw [this, List.length_append]; omega
              omega
            clear hTs
            rw [← hTL.out] at hcd
            have hcat' : (catS l (k + 1)).length = (catS l k).length + (encS l[k]).length := by rw [hcat, List.length_append]
            clear hcat
            have hTmax : T.size ≤ 140737488351232 := by rw [hTH.out]; omega
            obtain ⟨hkd, _, hn, hs, _⟩ := hwf
            generalize (l.drop (k + 1)).flatMap encS = rest at *
            unfold encS at hcat' hcd hTsz
            generalize l[k].kind = kd at *
            generalize l[k].n = n at *
            generalize l[k].s = s at *
            generalize (catS l k).length = at_ at *
            have HB := Lib.hid hB
            have HW := Lib.hid hW
            have HK := Lib.hid hbk
            have hvw := hW.hv
            have step : ∀ w', Touch (· = gr) wr.drew w' → Wr w.heap.size w' g v (catS l l.length) ∧ Below w.heap.size w w' ∧ Below w.heap.size wr w' := fun w' ht =>
              ⟨⟨HW.out.hw.drew.touch ht (by omega) (fun k hk => by have := hvg k hk; omega), HW.out.hg, HW.out.hv⟩, HB.out.drew.trans (ht.below HB.out.size (fun x hx e => by omega)), (Below.refl _ wr).drew.trans (ht.below HB.out.size (fun x hx e => by omega))⟩
            have Hstep := Lib.hid step
            clear hl hl2 hB hW hbk step
            have hk0 : (0 : Int) ≤ (k : Int) := by omega
            have hk1 : (k : Int) < (l.length : Int) := by omega
            by_cases h0 : kd = 0
            · subst h0
              by_cases hneg : n < 0
              · rw [if_neg (by omega), if_neg (by omega), List.length_nil, Nat.add_zero] at hcat'
                have hneg' : decide (0 ≤ n) = false := by simpa using hneg
                go_wp2_with fail
                go_roundw
                case rel => exact ⟨k + 1, by omega, by go_num, HW.out, hcat' ▸ HK.out, HB.out⟩
                case measure => simp [intOf]; omega
              · obtain ⟨m, rfl⟩ := Int.eq_ofNat_of_zero_le (by omega : 0 ≤ n)
                rw [if_pos ⟨rfl, by omega⟩] at hcat' hcd hTsz
                simp only [Int.toNat_natCast] at hcat' hcd hTsz
                have hR := fun w1 h1 => rnum_any gr T at_ 0 m m w1 h1 (by omega) hTmax
                rw [rNum_back T at_ m rest hcd (by omega)] at hR
                have HR := Lib.hid hR
                clear hR hcd hTsz
                generalize (numL m).length = q at *
                go_wp2_with fail
                have HN := Lib.hid (HR.out wr.drew HK.out.drew)
                go_region_held3 (fun w' => w'.cell? ⟨b, off + k * 5 + 2, none⟩ = some (.int .i64 (m : Int))) (first | exact hcn | exact hcn1) ((go_at_call 16; refine HN.out.mono ?_; rintro e w2 ⟨rfl, hk2, ht2⟩; obtain ⟨hw2, hb2, hbr⟩ := Hstep.out w2 ht2; have hcn1 := (hbr.cell (p := ⟨b, off + k * 5 + 2, none⟩) hbB).trans hcn))
                go_wp2_with fail
                go_roundw
                case rel => exact ⟨k + 1, by omega, by go_num, hw2, hcat' ▸ hk2, hb2⟩
                case measure => simp [intOf]; omega
            · by_cases h1 : kd = 1
              · subst h1
                rw [if_neg (by omega), if_pos rfl] at hcat' hcd hTsz
                have hts : s.data.toList.length = s.size := by simp
                rw [List.length_append, hts] at hcat' hTsz
                have hR := fun w1 h1 => rtext_any gr T at_ 0 s.size w1 h1 (by omega) hTmax
                rw [List.append_assoc] at hcd
                rw [rText_back T at_ s rest hcd hs] at hR
                have HN := Lib.hid (hR wr.drew HK.out.drew)
                rw [← Nat.add_assoc] at hcat'
                clear hR hcd hTsz hts
                generalize (numL s.size).length = q at *
                go_wp2_with fail
                go_region_held3 (fun w' => w'.cell? ⟨b, off + k * 5 + 3, none⟩ = some (.string s)) (first | exact hcs | exact hcs1) ((go_at_call 17; refine HN.out.mono ?_; rintro e w2 ⟨rfl, hk2, ht2⟩; obtain ⟨hw2, hb2, hbr⟩ := Hstep.out w2 ht2; have hcs1 := (hbr.cell (p := ⟨b, off + k * 5 + 3, none⟩) hbB).trans hcs))
                go_wp2_with fail
                go_roundw
                case rel => exact ⟨k + 1, by omega, by go_num, hw2, hcat' ▸ hk2, hb2⟩
                case measure => simp [intOf]; omega
              · rw [if_neg (by omega), if_neg (by omega), List.length_nil, Nat.add_zero] at hcat'
                have h0' : (kd == 0) = false := by simpa using h0
                have h1' : (kd == 1) = false := by simpa using h1
                clear h0 h1
                go_wp2_with fail
                go_roundw
                case rel => exact ⟨k + 1, by omega, by go_num, HW.out, hcat' ▸ HK.out, HB.out⟩
                case measure => simp [intOf]; omega
          · obtain rfl : k = l.length := by omega
            have hTs := hTH.out
            rw [← hTs] at hbk
            have hE := end_any gr T T.size 0 wr hbk (Nat.le_refl _) (by omega)
            rw [show eEnd T T.size 0 = 0 by simp [eEnd]] at hE
            have HE := Lib.hid hE
            have HW := Lib.hid hW
            clear hTs hE
            go_wp2_with (first
              | (go_at_call 18; refine HE.out.mono ?_; rintro e w5 ⟨rfl, hk5, ht5⟩)
              | (go_at_call 19; with_reducible refine (at_any gr T T.size 0 _ hk5).mono ?_; rintro e w' ⟨rfl, rfl⟩)
              | (go_at_call 13; with_reducible refine (wr_bytes (⟨HW.out.hw.touch ht5 (by omega) (fun k hk => by have := hvg k hk; omega), HW.out.hg, HW.out.hv⟩ : Wr w.heap.size _ g v _)).mono ?_; rintro e w' ⟨T2, hT2, hT2s, rfl, rfl⟩; rw [← hTH.out] at hT2s))
            go_ret
            exact ⟨rfl, hB.trans (ht5.below hB.size (fun x hx e => by omega))⟩

end Go.Proofs.Ytahemhdmlfejlab
