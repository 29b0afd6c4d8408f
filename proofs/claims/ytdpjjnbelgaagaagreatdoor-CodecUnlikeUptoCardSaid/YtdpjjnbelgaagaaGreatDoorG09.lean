/- How much data have: packages. Conditions: as each theorem names them. -/
import Derived.Test.YtdpjjnbelgaagaaGreatDoorG08
import Derived.Test.YtdpjjnbelgaagaaGreatDoorG07
namespace Go.Proofs.YtdpjjnbelgaagaaGreatDoor
open Go.ChangeShapes Go.WideShapes Go.ChangeAt Go.RowKit Go.Deep
set_option maxRecDepth 100000

theorem riches_size (r : RichD) (v : Value) (n : Int) (w0 w : World) (h : LIn richK anyB w0 (argL r) v) (hB : Below w0.heap.size w0 w) : Calls Tryz.prog 82 #[v, .int .i64 n] w (SomeInt w) := by
  have h2 : LIn richK anyB w0 (argL (ofL 0 (argL r))) v := by rw [argL_ofL]; exact h
  exact size_any _ v n w0 w (ArgsP.is (h2.args ⟨noDep_fit, by show (0 : Int) ≤ 0; decide, by show (0 : Int) < 256; decide⟩)) hB
set_option maxHeartbeats 16000000 in
theorem sizes_any (l : List PkgD) (vl : Value) (n : Int) (w0 w : World) (hl : LIn pkgK anyB w0 l vl) (hB : Below w0.heap.size w0 w) : Calls Tryz.prog 39 #[vl, .int .i64 n] w (SomeInt w) := by
  obtain ⟨al, cl, rfl⟩ := hl.form
  have hn := hl.bound
  have HL := Lib.hid hl
  have HBW := Lib.hid hB
  clear hl hB
  go_enter Tryz.func39, Tryz.ntmps39
  go_wp2_with fail
  go_loopw [5, 6] (fun x i wr => ∃ (k : Nat) (m : Int), k ≤ l.length ∧ i = .int .i64 k ∧ x = .int .i64 m ∧ Hid (Below w.heap.size w wr)) (fun _ i _ => l.length - (intOf i).toNat)
  case atStart => exact ⟨0, 0, by omega, rfl, rfl, Below.refl _ _⟩
  case round =>
    obtain ⟨k, m, hk, rfl, rfl, HQ⟩ := hrel
    by_cases hlt : k < l.length
    · have hki : (k : Int) < (l.length : Int) := by omega
      have HLt := Lib.hid hlt
      by_cases hm : m < n
      · have HB2 := Lib.hid (HBW.out.trans (HQ.out.mono HBW.out.size))
        obtain ⟨b, o, r, ha, _, hcs0, hh⟩ := HL.out.at_ k hlt
        obtain ⟨p, hp⟩ : ∃ p, p = l[k]'hlt := ⟨_, rfl⟩
        rw [← hp] at hcs0 hh
        subst ha
        dsimp only [pkgK] at hcs0 r
        rcases r with ⟨r0, r1, r2, r3, r4, r5, r6, r7, r8⟩
        have hh' : PkgIn anyB w0 p ⟨r0, r1, r2, r3, r4, r5, r6, r7, r8⟩ := hh
        obtain ⟨a0, c0, (rfl : r0 = _)⟩ := hh'.prov.form
        obtain ⟨a1, c1, (rfl : r1 = _)⟩ := hh'.req.form
        obtain ⟨a2, c2, (rfl : r2 = _)⟩ := hh'.con.form
        obtain ⟨a3, c3, (rfl : r3 = _)⟩ := hh'.obs.form
        obtain ⟨a4, c4, (rfl : r4 = _)⟩ := hh'.reco.form
        obtain ⟨a5, c5, (rfl : r5 = _)⟩ := hh'.sup.form
        obtain ⟨a6, c6, (rfl : r6 = _)⟩ := hh'.sug.form
        obtain ⟨a7, c7, (rfl : r7 = _)⟩ := hh'.enh.form
        obtain ⟨a8, c8, (rfl : r8 = _)⟩ := hh'.files.form
        have HP := Lib.hid hh'
        have hfn := hh'.files.bound
        clear hh' hh hp
        have hcs := hcs0.below HB2.out
        have e0 : wr.cell? ⟨b, o + k * 15, none⟩ = some (.string p.name) := hcs.2 0 (show 0 < 15 by omega)
        have e1 : wr.cell? ⟨b, o + k * 15 + 1, none⟩ = some (.int .i64 p.ep) := hcs.2 1 (show 1 < 15 by omega)
        have e2 : wr.cell? ⟨b, o + k * 15 + 2, none⟩ = some (.string p.ver) := hcs.2 2 (show 2 < 15 by omega)
        have e3 : wr.cell? ⟨b, o + k * 15 + 3, none⟩ = some (.string p.rel) := hcs.2 3 (show 3 < 15 by omega)
        have e4 : wr.cell? ⟨b, o + k * 15 + 4, none⟩ = some (.int .u8 p.arch) := hcs.2 4 (show 4 < 15 by omega)
        have e5 : wr.cell? ⟨b, o + k * 15 + 5, none⟩ = some (.string p.vendor) := hcs.2 5 (show 5 < 15 by omega)
        have e6 : wr.cell? ⟨b, o + k * 15 + 6, none⟩ = some (.slice a0 p.prov.length c0) := hcs.2 6 (show 6 < 15 by omega)
        have e7 : wr.cell? ⟨b, o + k * 15 + 7, none⟩ = some (.slice a1 (argL p.req).length c1) := hcs.2 7 (show 7 < 15 by omega)
        have e8 : wr.cell? ⟨b, o + k * 15 + 8, none⟩ = some (.slice a2 (argL p.con).length c2) := hcs.2 8 (show 8 < 15 by omega)
        have e9 : wr.cell? ⟨b, o + k * 15 + 9, none⟩ = some (.slice a3 p.obs.length c3) := hcs.2 9 (show 9 < 15 by omega)
        have e10 : wr.cell? ⟨b, o + k * 15 + 10, none⟩ = some (.slice a4 (argL p.reco).length c4) := hcs.2 10 (show 10 < 15 by omega)
        have e11 : wr.cell? ⟨b, o + k * 15 + 11, none⟩ = some (.slice a5 (argL p.sup).length c5) := hcs.2 11 (show 11 < 15 by omega)
        have e12 : wr.cell? ⟨b, o + k * 15 + 12, none⟩ = some (.slice a6 (argL p.sug).length c6) := hcs.2 12 (show 12 < 15 by omega)
        have e13 : wr.cell? ⟨b, o + k * 15 + 13, none⟩ = some (.slice a7 (argL p.enh).length c7) := hcs.2 13 (show 13 < 15 by omega)
        have e14 : wr.cell? ⟨b, o + k * 15 + 14, none⟩ = some (.slice a8 p.files.length c8) := hcs.2 14 (show 14 < 15 by omega)
        have eb : b < wr.heap.size := hcs.1
        clear hcs hcs0
        go_upto_region 6 with fail
        obtain ⟨bp, hbp⟩ : ∃ bp, bp = wr.heap.size := ⟨_, rfl⟩
        obtain ⟨w1, hw1⟩ : ∃ w1, w1 = wr.alloc (.cells #[.string p.name, .int .i64 p.ep, .string p.ver, .string p.rel, .int .u8 p.arch, .string p.vendor, .slice a0 p.prov.length c0, .slice a1 (argL p.req).length c1, .slice a2 (argL p.con).length c2, .slice a3 p.obs.length c3, .slice a4 (argL p.reco).length c4, .slice a5 (argL p.sup).length c5, .slice a6 (argL p.sug).length c6, .slice a7 (argL p.enh).length c7, .slice a8 p.files.length c8] 29) := ⟨_, rfl⟩
        have HX1 := Lib.hid (show Blk w1 bp 29 #[.string p.name, .int .i64 p.ep, .string p.ver, .string p.rel, .int .u8 p.arch, .string p.vendor, .slice a0 p.prov.length c0, .slice a1 (argL p.req).length c1, .slice a2 (argL p.con).length c2, .slice a3 p.obs.length c3, .slice a4 (argL p.reco).length c4, .slice a5 (argL p.sup).length c5, .slice a6 (argL p.sug).length c6, .slice a7 (argL p.enh).length c7, .slice a8 p.files.length c8] ∧ Below w.heap.size w w1 from ⟨by rw [hbp, hw1]; exact Blk.new _ _ _, by rw [hw1]; exact below_t' HQ.out (new_b _ _)⟩)
        have x0 : w1.cell? ⟨bp, 0, none⟩ = some (.string p.name) := HX1.out.1.cell 0
        have x1 : w1.cell? ⟨bp, 1, none⟩ = some (.int .i64 p.ep) := HX1.out.1.cell 1
        have x2 : w1.cell? ⟨bp, 2, none⟩ = some (.string p.ver) := HX1.out.1.cell 2
        have x3 : w1.cell? ⟨bp, 3, none⟩ = some (.string p.rel) := HX1.out.1.cell 3
        have x4 : w1.cell? ⟨bp, 4, none⟩ = some (.int .u8 p.arch) := HX1.out.1.cell 4
        have x5 : w1.cell? ⟨bp, 5, none⟩ = some (.string p.vendor) := HX1.out.1.cell 5
        have x6 : w1.cell? ⟨bp, 6, none⟩ = some (.slice a0 p.prov.length c0) := HX1.out.1.cell 6
        have x7 : w1.cell? ⟨bp, 7, none⟩ = some (.slice a1 (argL p.req).length c1) := HX1.out.1.cell 7
        have x8 : w1.cell? ⟨bp, 8, none⟩ = some (.slice a2 (argL p.con).length c2) := HX1.out.1.cell 8
        have x9 : w1.cell? ⟨bp, 9, none⟩ = some (.slice a3 p.obs.length c3) := HX1.out.1.cell 9
        have x10 : w1.cell? ⟨bp, 10, none⟩ = some (.slice a4 (argL p.reco).length c4) := HX1.out.1.cell 10
        have x11 : w1.cell? ⟨bp, 11, none⟩ = some (.slice a5 (argL p.sup).length c5) := HX1.out.1.cell 11
        have x12 : w1.cell? ⟨bp, 12, none⟩ = some (.slice a6 (argL p.sug).length c6) := HX1.out.1.cell 12
        have x13 : w1.cell? ⟨bp, 13, none⟩ = some (.slice a7 (argL p.enh).length c7) := HX1.out.1.cell 13
        have x14 : w1.cell? ⟨bp, 14, none⟩ = some (.slice a8 p.files.length c8) := HX1.out.1.cell 14
        have xl : bp < w1.heap.size := HX1.out.1.lt
        rw [← hw1, ← hbp]
        clear hw1 hbp eb e0 e1 e2 e3 e4 e5 e6 e7 e8 e9 e10 e11 e12 e13 e14
        go_upto_region 7 with fail
        obtain ⟨W2, hW2⟩ : ∃ W2, W2 = w1.alloc (.cells #[.slice a0 p.prov.length c0, .slice a3 p.obs.length c3] 25) := ⟨_, rfl⟩
        have HX2 := Lib.hid (show Blk W2 w1.heap.size 25 #[.slice a0 p.prov.length c0, .slice a3 p.obs.length c3] ∧ Blk W2 bp 29 #[.string p.name, .int .i64 p.ep, .string p.ver, .string p.rel, .int .u8 p.arch, .string p.vendor, .slice a0 p.prov.length c0, .slice a1 (argL p.req).length c1, .slice a2 (argL p.con).length c2, .slice a3 p.obs.length c3, .slice a4 (argL p.reco).length c4, .slice a5 (argL p.sup).length c5, .slice a6 (argL p.sug).length c6, .slice a7 (argL p.enh).length c7, .slice a8 p.files.length c8] ∧ Below w.heap.size w W2 from by rw [hW2]; exact ⟨Blk.new _ _ _, HX1.out.1.below (new_b _ _) HX1.out.1.lt, below_t' HX1.out.2 (new_b _ _)⟩)
        have HS2 := Lib.hid (show Below W2.heap.size W2 (w1.alloc (.cells #[.slice a0 p.prov.length c0, .slice a3 p.obs.length c3] 25)) from hW2 ▸ Below.refl _ _)
        clear hW2
        go_wp2_with fail
        go_loopw [5, 68] (fun x i wr => ∃ (j : Nat) (m : Int), j ≤ 2 ∧ i = .int .i64 j ∧ x = .int .i64 m ∧ Hid (Below W2.heap.size W2 wr)) (fun _ i _ => 2 - (intOf i).toNat)
        case atStart => exact ⟨0, _, by omega, rfl, rfl, HS2⟩
        case round =>
          obtain ⟨j, m2, hj, rfl, rfl, HQ2⟩ := hrel
          by_cases hlj : j < 2
          · have hji : (j : Int) < 2 := by omega
            obtain ⟨D, da, dc, hcell, hD⟩ : ∃ (D : List DepD) (da : Option Addr) (dc : Nat), wr.cell? ⟨w1.heap.size, j, none⟩ = some (.slice da D.length dc) ∧ LIn depK anyB w0 D (.slice da D.length dc) := by
              have hb := HX2.out.1.below HQ2.out HX2.out.1.lt
              have : j = 0 ∨ j = 1 := by omega
              rcases this with rfl | rfl
              · exact ⟨_, _, _, hb.cell 0, HP.out.prov⟩
              · exact ⟨_, _, _, hb.cell 1, HP.out.obs⟩
            have hcl : w1.heap.size < wr.heap.size := (HX2.out.1.below HQ2.out HX2.out.1.lt).lt
            have HD := Lib.hid hD
            have hDn := hD.bound
            clear hD
            go_wp2_with fail
            go_loopw [5, 10] (fun x i wq => ∃ (q : Nat) (m : Int), q ≤ D.length ∧ i = .int .i64 q ∧ x = .int .i64 m ∧ Hid (Below W2.heap.size W2 wq)) (fun _ i _ => D.length - (intOf i).toNat)
            case atStart => exact ⟨0, m2, by omega, rfl, rfl, HQ2⟩
            case round =>
              obtain ⟨q, m3, hq, rfl, rfl, HQ3⟩ := hrel
              by_cases hlq : q < D.length
              · have hqi : (q : Int) < (D.length : Int) := by omega
                by_cases hm3 : m3 < n
                · obtain ⟨bd, od, rd, had, _, hcd, _⟩ := HD.out.at_ q hlq
                  obtain ⟨d, hd⟩ : ∃ d, d = D[q] := ⟨_, rfl⟩
                  rw [← hd] at hcd
                  subst had
                  dsimp only [depK] at hcd
                  have hcd2 := hcd.below (HBW.out.trans ((below_t' HX2.out.2.2 HQ3.out).mono HBW.out.size))
                  have d0 : wr.cell? ⟨bd, od + q * 5, none⟩ = some (.string d.name) := hcd2.2 0 (show 0 < 5 by omega)
                  have d3 : wr.cell? ⟨bd, od + q * 5 + 3, none⟩ = some (.string d.ver) := hcd2.2 3 (show 3 < 5 by omega)
                  have d4 : wr.cell? ⟨bd, od + q * 5 + 4, none⟩ = some (.string d.rel) := hcd2.2 4 (show 4 < 5 by omega)
                  have dl : bd < wr.heap.size := hcd2.1
                  clear hcd hcd2 hd
                  go_upto_region 13 with fail
                  go_region
                  go_wp2_with fail
                  go_roundw
                  case rel => exact ⟨q + 1, _, by omega, by go_num, rfl, (by first | exact HQ3 | exact HQ3.out.drew | exact bel_drewN HQ3.out _)⟩
                  case measure => simp [intOf]; omega
                · go_wp2_with fail
                  go_roundw
                  case rel => exact ⟨j + 1, _, by omega, by go_num, rfl, HQ3⟩
                  case measure => simp [intOf]; omega
              · obtain rfl : q = D.length := by omega
                go_wp2_with fail
                go_roundw
                case rel => exact ⟨j + 1, _, by omega, by go_num, rfl, HQ3⟩
                case measure => simp [intOf]; omega
          · obtain rfl : j = 2 := by omega
            have hb := HX2.out.2.1.below HQ2.out HX2.out.2.1.lt
            have f14 : wr.cell? ⟨bp, 14, none⟩ = some (.slice a8 p.files.length c8) := hb.cell 14
            have fl := hb.lt
            clear hb
            go_wp2_with fail
            go_loopw [5, 11] (fun x i wq => ∃ (q : Nat) (m : Int), q ≤ p.files.length ∧ i = .int .i64 q ∧ x = .int .i64 m ∧ Hid (Below W2.heap.size W2 wq)) (fun _ i _ => p.files.length - (intOf i).toNat)
            case atStart => exact ⟨0, m2, by omega, rfl, rfl, HQ2⟩
            case round =>
              obtain ⟨q, m3, hq, rfl, rfl, HQ3⟩ := hrel
              have hb := HX2.out.2.1.below HQ3.out HX2.out.2.1.lt
              have f7 : wr.cell? ⟨bp, 7, none⟩ = some (.slice a1 (argL p.req).length c1) := hb.cell 7
              have f8 : wr.cell? ⟨bp, 8, none⟩ = some (.slice a2 (argL p.con).length c2) := hb.cell 8
              have f10 : wr.cell? ⟨bp, 10, none⟩ = some (.slice a4 (argL p.reco).length c4) := hb.cell 10
              have f11 : wr.cell? ⟨bp, 11, none⟩ = some (.slice a5 (argL p.sup).length c5) := hb.cell 11
              have f12 : wr.cell? ⟨bp, 12, none⟩ = some (.slice a6 (argL p.sug).length c6) := hb.cell 12
              have f13 : wr.cell? ⟨bp, 13, none⟩ = some (.slice a7 (argL p.enh).length c7) := hb.cell 13
              have f14 : wr.cell? ⟨bp, 14, none⟩ = some (.slice a8 p.files.length c8) := hb.cell 14
              have fl := hb.lt
              clear hb
              by_cases hlq : q < p.files.length
              · have hqi : (q : Int) < (p.files.length : Int) := by omega
                by_cases hm3 : m3 < n
                · obtain ⟨bd, od, rd, had, _, hcd, _⟩ := HP.out.files.at_ q hlq
                  obtain ⟨d, hd⟩ : ∃ d, d = p.files[q] := ⟨_, rfl⟩
                  rw [← hd] at hcd
                  subst had
                  dsimp only [strK] at hcd
                  rw [Nat.mul_one] at hcd
                  have hcd2 := hcd.below (HBW.out.trans ((below_t' HX2.out.2.2 HQ3.out).mono HBW.out.size))
                  have d0 : wr.cell? ⟨bd, od + q, none⟩ = some (.string d) := hcd2.2 0 (show 0 < 1 by omega)
                  have dl : bd < wr.heap.size := hcd2.1
                  clear hcd hcd2 hd
                  go_wp2_with fail
                  go_roundw
                  case rel => exact ⟨q + 1, _, by omega, by go_num, rfl, HQ3⟩
                  case measure => simp [intOf]; omega
                · obtain ⟨ba, hba⟩ : ∃ ba, ba = wr.heap.size := ⟨_, rfl⟩
                  obtain ⟨W3, hW3⟩ : ∃ W3, W3 = wr.alloc (.cells #[.slice a1 (argL p.req).length c1, .slice a2 (argL p.con).length c2, .slice a4 (argL p.reco).length c4, .slice a5 (argL p.sup).length c5, .slice a6 (argL p.sug).length c6, .slice a7 (argL p.enh).length c7] 26) := ⟨_, rfl⟩
                  have HX3 := Lib.hid (show Blk W3 ba 26 #[.slice a1 (argL p.req).length c1, .slice a2 (argL p.con).length c2, .slice a4 (argL p.reco).length c4, .slice a5 (argL p.sup).length c5, .slice a6 (argL p.sug).length c6, .slice a7 (argL p.enh).length c7] ∧ Below w.heap.size w W3 from by rw [hW3, hba]; exact ⟨Blk.new _ _ _, below_t' (below_t' HX2.out.2.2 HQ3.out) (new_b _ _)⟩)
                  have HS3 := Lib.hid (show Below W3.heap.size W3 (wr.alloc (.cells #[.slice a1 (argL p.req).length c1, .slice a2 (argL p.con).length c2, .slice a4 (argL p.reco).length c4, .slice a5 (argL p.sup).length c5, .slice a6 (argL p.sug).length c6, .slice a7 (argL p.enh).length c7] 26)) from hW3 ▸ Below.refl _ _)
                  clear hW3
                  go_wp2_with fail
                  rw [← hba]
                  have HBa := Lib.hid hba
                  clear hba
                  go_loopw [5, 144] (fun x i wz => ∃ (j : Nat) (m : Int), j ≤ 6 ∧ i = .int .i64 j ∧ x = .int .i64 m ∧ Hid (Below W3.heap.size W3 wz)) (fun _ i _ => 6 - (intOf i).toNat)
                  case atStart => exact ⟨0, m3, by omega, rfl, rfl, HS3.out⟩
                  case round =>
                    obtain ⟨j, m4, hj, rfl, rfl, HQ4⟩ := hrel
                    by_cases hlj : j < 6
                    · have hji : (j : Int) < 6 := by omega
                      obtain ⟨D, da, dc, hcell, hD⟩ : ∃ (D : RichD) (da : Option Addr) (dc : Nat), wr.cell? ⟨ba, j, none⟩ = some (.slice da (argL D).length dc) ∧ LIn richK anyB w0 (argL D) (.slice da (argL D).length dc) := by
                        have hb := HX3.out.1.below HQ4.out HX3.out.1.lt
                        have : j = 0 ∨ j = 1 ∨ j = 2 ∨ j = 3 ∨ j = 4 ∨ j = 5 := by omega
                        rcases this with rfl | rfl | rfl | rfl | rfl | rfl
                        · exact ⟨_, _, _, hb.cell 0, HP.out.req⟩
                        · exact ⟨_, _, _, hb.cell 1, HP.out.con⟩
                        · exact ⟨_, _, _, hb.cell 2, HP.out.reco⟩
                        · exact ⟨_, _, _, hb.cell 3, HP.out.sup⟩
                        · exact ⟨_, _, _, hb.cell 4, HP.out.sug⟩
                        · exact ⟨_, _, _, hb.cell 5, HP.out.enh⟩
                      have hcl : ba < wr.heap.size := (HX3.out.1.below HQ4.out HX3.out.1.lt).lt
                      have HM4 := Lib.hid (riches_size D _ n w0 wr hD (HBW.out.trans ((below_t' HX3.out.2 HQ4.out).mono HBW.out.size)))
                      clear hD
                      go_wp2_with (first
                        | (go_at_call 82; (with_reducible refine HM4.out.mono ?_); rintro e w5 ⟨⟨q5, rfl⟩, hb5⟩; have HB5 := Lib.hid (below_t' HQ4.out hb5); clear hb5)
                        | fail)
                      go_roundw
                      case rel => first | exact ⟨j + 1, _, by omega, by go_num, rfl, HB5.out⟩ | ((repeat apply Exists.intro); exact ⟨⟨j + 1, _, by omega, by go_num, rfl, HB5.out⟩, rfl⟩)
                      case measure => simp [intOf]; omega
                    · obtain rfl : j = 6 := by omega
                      have HBz := Lib.hid (below_t' HX3.out.2 HQ4.out)
                      go_wp2_with fail
                      go_roundw
                      case rel => first | exact ⟨k + 1, _, by have := HLt.out; omega, by go_num, rfl, HBz.out⟩ | ((repeat apply Exists.intro); exact ⟨⟨k + 1, _, by have := HLt.out; omega, by go_num, rfl, HBz.out⟩, rfl⟩)
                      case measure => have := HLt.out; simp [intOf]; omega
              · obtain rfl : q = p.files.length := by omega
                obtain ⟨ba, hba⟩ : ∃ ba, ba = wr.heap.size := ⟨_, rfl⟩
                obtain ⟨W3, hW3⟩ : ∃ W3, W3 = wr.alloc (.cells #[.slice a1 (argL p.req).length c1, .slice a2 (argL p.con).length c2, .slice a4 (argL p.reco).length c4, .slice a5 (argL p.sup).length c5, .slice a6 (argL p.sug).length c6, .slice a7 (argL p.enh).length c7] 26) := ⟨_, rfl⟩
                have HX3 := Lib.hid (show Blk W3 ba 26 #[.slice a1 (argL p.req).length c1, .slice a2 (argL p.con).length c2, .slice a4 (argL p.reco).length c4, .slice a5 (argL p.sup).length c5, .slice a6 (argL p.sug).length c6, .slice a7 (argL p.enh).length c7] ∧ Below w.heap.size w W3 from by rw [hW3, hba]; exact ⟨Blk.new _ _ _, below_t' (below_t' HX2.out.2.2 HQ3.out) (new_b _ _)⟩)
                have HS3 := Lib.hid (show Below W3.heap.size W3 (wr.alloc (.cells #[.slice a1 (argL p.req).length c1, .slice a2 (argL p.con).length c2, .slice a4 (argL p.reco).length c4, .slice a5 (argL p.sup).length c5, .slice a6 (argL p.sug).length c6, .slice a7 (argL p.enh).length c7] 26)) from hW3 ▸ Below.refl _ _)
                clear hW3
                go_wp2_with fail
                rw [← hba]
                have HBa := Lib.hid hba
                clear hba
                go_loopw [5, 144] (fun x i wz => ∃ (j : Nat) (m : Int), j ≤ 6 ∧ i = .int .i64 j ∧ x = .int .i64 m ∧ Hid (Below W3.heap.size W3 wz)) (fun _ i _ => 6 - (intOf i).toNat)
                case atStart => exact ⟨0, m3, by omega, rfl, rfl, HS3.out⟩
                case round =>
                  obtain ⟨j, m4, hj, rfl, rfl, HQ4⟩ := hrel
                  by_cases hlj : j < 6
                  · have hji : (j : Int) < 6 := by omega
                    obtain ⟨D, da, dc, hcell, hD⟩ : ∃ (D : RichD) (da : Option Addr) (dc : Nat), wr.cell? ⟨ba, j, none⟩ = some (.slice da (argL D).length dc) ∧ LIn richK anyB w0 (argL D) (.slice da (argL D).length dc) := by
                      have hb := HX3.out.1.below HQ4.out HX3.out.1.lt
                      have : j = 0 ∨ j = 1 ∨ j = 2 ∨ j = 3 ∨ j = 4 ∨ j = 5 := by omega
                      rcases this with rfl | rfl | rfl | rfl | rfl | rfl
                      · exact ⟨_, _, _, hb.cell 0, HP.out.req⟩
                      · exact ⟨_, _, _, hb.cell 1, HP.out.con⟩
                      · exact ⟨_, _, _, hb.cell 2, HP.out.reco⟩
                      · exact ⟨_, _, _, hb.cell 3, HP.out.sup⟩
                      · exact ⟨_, _, _, hb.cell 4, HP.out.sug⟩
                      · exact ⟨_, _, _, hb.cell 5, HP.out.enh⟩
                    have hcl : ba < wr.heap.size := (HX3.out.1.below HQ4.out HX3.out.1.lt).lt
                    have HM4 := Lib.hid (riches_size D _ n w0 wr hD (HBW.out.trans ((below_t' HX3.out.2 HQ4.out).mono HBW.out.size)))
                    clear hD
                    go_wp2_with (first
                      | (go_at_call 82; (with_reducible refine HM4.out.mono ?_); rintro e w5 ⟨⟨q5, rfl⟩, hb5⟩; have HB5 := Lib.hid (below_t' HQ4.out hb5); clear hb5)
                      | fail)
                    go_roundw
                    case rel => first | exact ⟨j + 1, _, by omega, by go_num, rfl, HB5.out⟩ | ((repeat apply Exists.intro); exact ⟨⟨j + 1, _, by omega, by go_num, rfl, HB5.out⟩, rfl⟩)
                    case measure => simp [intOf]; omega
                  · obtain rfl : j = 6 := by omega
                    have HBz := Lib.hid (below_t' HX3.out.2 HQ4.out)
                    go_wp2_with fail
                    go_roundw
                    case rel => first | exact ⟨k + 1, _, by have := HLt.out; omega, by go_num, rfl, HBz.out⟩ | ((repeat apply Exists.intro); exact ⟨⟨k + 1, _, by have := HLt.out; omega, by go_num, rfl, HBz.out⟩, rfl⟩)
                    case measure => have := HLt.out; simp [intOf]; omega
      · go_wp2_with fail
        go_ret
        exact ⟨⟨_, rfl⟩, HQ.out⟩
    · obtain rfl : k = l.length := by omega
      go_wp2_with fail
      go_ret
      exact ⟨⟨_, rfl⟩, HQ.out⟩
end Go.Proofs.YtdpjjnbelgaagaaGreatDoor

namespace Go.Proofs.YtdpjjnbelgaagaaGreatDoor
open Go.ChangeShapes Go.WideShapes Go.ChangeAt Go.RowKit Go.Deep
set_option maxRecDepth 100000

def samePk (p q : PkgD) : Bool := decide (p.name.toList = q.name.toList) && (decide (p.ep = q.ep) && (decide (p.ver.toList = q.ver.toList) && (decide (p.rel.toList = q.rel.toList) && (decide (p.arch = q.arch) && (decide (p.vendor.toList = q.vendor.toList) && (eqL depSame p.prov q.prov && (eqL sameE (argL p.req) (argL q.req) && (eqL sameE (argL p.con) (argL q.con) && (eqL depSame p.obs q.obs && (eqL sameE (argL p.reco) (argL q.reco) && (eqL sameE (argL p.sup) (argL q.sup) && (eqL sameE (argL p.sug) (argL q.sug) && (eqL sameE (argL p.enh) (argL q.enh) && (eqL eqT p.files q.files))))))))))))))
theorem two_box (w : World) (c1 c2 : Array Value) (t : TypeId) : ∃ W, Hid (Blk W w.heap.size t c1 ∧ Blk W (w.heap.size + 1) t c2 ∧ Below w.heap.size w W) ∧ Hid (Below W.heap.size W ((w.alloc (.cells c1 t)).alloc (.cells c2 t))) := by
  have hx2 := Blk.new (w.alloc (.cells c1 t)) t c2
  rw [World.size_alloc] at hx2
  exact ⟨_, Lib.hid ⟨(Blk.new w t c1).below (new_b _ _) (Blk.new w t c1).lt, hx2, below_t' (new_b _ _) (new_b _ _)⟩, Lib.hid (Below.refl _ _)⟩
theorem LIn.bl' {α : Type} {K : Kd α} {w w' : World} {l : List α} {v : Value} (h : LIn K anyB w l v) (hb : Below w.heap.size w w') : LIn K anyB w' l v := h.below hb fun _ _ _ => trivial
theorem call_b {F : Nat} {args : Array Value} {w : World} {c b : Bool} (h : Calls Tryz.prog F args w fun e w' => e = .returned (.bool c) ∧ Below w.heap.size w w') (e : c = b) : Calls Tryz.prog F args w fun e w' => e = .returned (.bool b) ∧ Below w.heap.size w w' := e ▸ h
end Go.Proofs.YtdpjjnbelgaagaaGreatDoor
